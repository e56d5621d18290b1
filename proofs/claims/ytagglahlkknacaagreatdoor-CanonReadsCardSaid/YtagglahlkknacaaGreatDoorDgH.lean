/- What the laws below rest on: a framework for Go programs, and contracts of the functions that they reach. -/
import Derived.Test.YtagglahlkknacaaGreatDoorDgG
set_option maxRecDepth 20000
set_option linter.unusedVariables false
set_option linter.unusedSimpArgs false
namespace Go.TVF
open Go.IntKind(i64 u8)
open Go Go.Proofs
abbrev rfS (r f:Nat):Nat->Prop:=fun b=>b=r∨b=f
theorem TM.step {r f:Nat} {st st':St} {S T:Option B8} {l:List TV} (h:TM r f st S l) (e:StX (·=r) st st') (h':TR r st' T):TM r f st' T l:=
 ⟨h',Nat.lt_of_lt_of_le h.2.1 e.nb,(e.box f h.2.1 fun g=>h.2.2.2 g.symm).trans h.2.2.1,h.2.2.2⟩
theorem TM.put {r f i:Nat} {st:St} {S:Option B8} {l:List TV} {v:TV} (h:TM r f st S l) (hi:i<l.length) {K:St->Prop} (hk:∀st',StX (rfS r f) st st'->TM r f st' S (l.set i v)->K st'):stB st (.box f i) [v] K:=by
 obtain⟨h1,h2,h3,h4⟩:=h
 refine⟨_,h3,by simp;omega,hk _ (StX.put (S:=rfS r f) (.inr rfl) _) ⟨?_,h2,by simp[St.put,setAll],h4⟩⟩
 have hne:((st.put f (.cells (setAll l i [v]))).box r)=st.box r:=by simp only[St.put];rw[if_neg h4]
 cases S with
 | none=>obtain⟨a1,s,a2,a3⟩:=h1;exact⟨a1,s,hne.trans a2,a3⟩
 | some s=>obtain⟨a1,a2,a3⟩:=h1;exact⟨a1,hne.trans a2,a3⟩
theorem Jt {r f:Nat} {a b:St} (e:StX (·=r) a b):StX (rfS r f) a b:=e.mono fun _ h=> .inl h
def fcT (y mo d h mi sc nn sg oh om:Nat):List TV:=[.int .i64 (y:Nat),.int .i64 (mo:Nat),.int .i64 (d:Nat),.int .i64 (h:Nat),.int .i64 (mi:Nat),.int .i64 (sc:Nat),.int .i64 (nn:Nat),.int .u8 (sg:Nat),.int .i64 (oh:Nat),.int .i64 (om:Nat)]
theorem KP.pos {w n:Nat} {s:B8} {T:Option B8} (h:KP w (some s) n T) (f:KL w s):T=some (s.drop w)/\n=BJ (s.take w):=by
 change (if KL w s then _ else _)at h
 rwa [if_pos f]at h
theorem KP.neg {w n:Nat} {s:B8} {T:Option B8} (h:KP w (some s) n T) (f:¬KL w s):T=none:=by
 change (if KL w s then _ else _)at h
 rwa [if_neg f]at h
theorem Od.pos {of:B8} {n:Nat} {s:B8} {T:Option B8} (h:Od of (some s) n T) (f:s.getD 0 0∈of):T=some (s.drop 1)/\n=(s.getD 0 0).toNat:=by
 change (if s.getD 0 0∈of then _ else _)at h
 rwa [if_pos f]at h
theorem Od.neg {of:B8} {n:Nat} {s:B8} {T:Option B8} (h:Od of (some s) n T) (f:s.getD 0 0∉of):T=none:=by
 change (if s.getD 0 0∈of then _ else _)at h
 rwa [if_neg f]at h
theorem Ec (s:B8) (k i:Nat):b0 (s.drop k) i=b0 s (k+i):=by simp[b0,List.getD]
theorem VJ (s:B8) (k i:Nat):dd (s.drop k) i↔dd s (k+i):=by
 unfold dd
 rw[Ec,Ec,Nat.add_assoc]
theorem VQ (s:B8) (k i:Nat):d2 (s.drop k) i=d2 s (k+i):=by
 unfold d2 dv
 rw[Ec,Ec,Nat.add_assoc]
theorem PG {s:B8} {k:Nat} (h:AL (b0 s k)):k<s.length:=by
 by_cases hk:k<s.length
 ·exact hk
 ·rw[show b0 s k=0 by simp[b0,List.getD,Nat.le_of_not_lt hk]]at h
  exact absurd h (by decide)
theorem numF2 (s:B8):KL 2 s↔dd s 0:=by
 constructor
 ·intro h;exact⟨h.2 0 (by omega),h.2 1 (by omega)⟩
 ·intro h
  have:=PG h.2
  exact⟨by omega,fun i hi=>by
   rcases (by omega:i=0∨i=1)with rfl | rfl
   ·exact h.1
   ·exact h.2⟩
theorem S5 (s:B8):KL 4 s↔dd s 0/\dd s 2:=by
 constructor
 ·intro h;exact⟨⟨h.2 0 (by omega),h.2 1 (by omega)⟩,⟨h.2 2 (by omega),h.2 3 (by omega)⟩⟩
 ·intro h
  have:=PG h.2.2
  exact⟨by omega,fun i hi=>by
   rcases (by omega:i=0∨i=1∨i=2∨i=3)with rfl | rfl | rfl | rfl
   ·exact h.1.1
   ·exact h.1.2
   ·exact h.2.1
   ·exact h.2.2⟩
theorem val2 {s:B8} (h:KL 2 s):BJ (s.take 2)=d2 s 0:=by
 rcases s with _ | ⟨a,_ | ⟨b,r⟩⟩
 ·exact absurd h.1 (by simp)
 ·exact absurd h.1 (by simp)
 ·show 10*(10*0+(a.toNat-48))+(b.toNat-48)=(a.toNat-48)*10+(b.toNat-48)
  omega
theorem val4 {s:B8} (h:KL 4 s):BJ (s.take 4)=d2 s 0*100+d2 s 2:=by
 rcases s with _ | ⟨a,_ | ⟨b,_ | ⟨c,_ | ⟨d,r⟩⟩⟩⟩
 ·exact absurd h.1 (by simp)
 ·exact absurd h.1 (by simp)
 ·exact absurd h.1 (by simp)
 ·exact absurd h.1 (by simp)
 ·show 10*(10*(10*(10*0+(a.toNat-48))+(b.toNat-48))+(c.toNat-48))+(d.toNat-48)=((a.toNat-48)*10+(b.toNat-48))*100+((c.toNat-48)*10+(d.toNat-48))
  omega
theorem one1 {s:B8} {c:UInt8}:s.getD 0 0∈ [c]↔b0 s 0=c:=by rw[List.mem_singleton];rfl
theorem G6 {s:B8} {k m n:Nat} {T:Option B8} (hm:k+2=m) (h:KP 2 (some (s.drop k)) n T):(dd s k->T=some (s.drop m)/\n=d2 s k)/\(¬dd s k->T=none):=by
 have e:KL 2 (s.drop k)↔dd s k:=by rw[numF2,VJ];rfl
 constructor
 ·intro f
  have f':=e.2 f
  obtain⟨h1,h2⟩:=h.pos f'
  exact⟨by rw[h1,List.drop_drop,hm],by rw[h2,val2 f',VQ];rfl⟩
 ·intro f;exact h.neg fun g=>f (e.1 g)
theorem KQ {s:B8} {k m n:Nat} {c:UInt8} {T:Option B8} (hm:k+1=m) (h:Od [c] (some (s.drop k)) n T):(b0 s k=c->T=some (s.drop m))/\(b0 s k≠c->T=none):=by
 have e:(s.drop k).getD 0 0∈ [c]↔b0 s k=c:=by rw[one1,Ec];rfl
 exact⟨fun f=>by rw[(h.pos (e.2 f)).1,List.drop_drop,hm],fun f=>h.neg fun g=>f (e.1 g)⟩
theorem step4 {s:B8} {n:Nat} {T:Option B8} (h:KP 4 (some s) n T):(dd s 0/\dd s 2->T=some (s.drop 4)/\n=d2 s 0*100+d2 s 2)/\(¬(dd s 0/\dd s 2)->T=none):=
 ⟨fun f=>⟨(h.pos ((S5 s).2 f)).1,by rw[(h.pos ((S5 s).2 f)).2,val4 ((S5 s).2 f)]⟩,fun f=>h.neg fun g=>f ((S5 s).1 g)⟩
theorem WE {s:B8} {y c m c' d:Nat} {T1 T2 T3 T4 T5:Option B8} (s1:KP 4 (some s) y T1) (s2:Od [45] T1 c T2) (s3:KP 2 T2 m T3) (s4:Od [45] T3 c' T4) (s5:KP 2 T4 d T5):
  (Et s->T5=some (s.drop 10)/\y=d2 s 0*100+d2 s 2/\m=d2 s 5/\d=d2 s 8)/\(¬Et s->T5=none):=by
 by_cases f1:dd s 0/\dd s 2
 ·obtain⟨rfl,v1⟩:=(step4 s1).1 f1
  by_cases f2:b0 s 4=45
  ·obtain rfl:=(KQ (m:=5) rfl s2).1 f2
   by_cases f3:dd s 5
   ·obtain⟨rfl,v3⟩:=(G6 (m:=7) rfl s3).1 f3
    by_cases f4:b0 s 7=45
    ·obtain rfl:=(KQ (m:=8) rfl s4).1 f4
     by_cases f5:dd s 8
     ·obtain⟨rfl,v5⟩:=(G6 (m:=10) rfl s5).1 f5
      exact⟨fun _=>⟨rfl,v1,v3,v5⟩,fun h=>absurd ⟨f1.1,f1.2,f2,f3,f4,f5⟩ h⟩
     ·exact⟨fun h=>absurd h.2.2.2.2.2 f5,fun _=>(G6 (m:=10) rfl s5).2 f5⟩
    ·obtain rfl:=(KQ (m:=8) rfl s4).2 f4
     exact⟨fun h=>absurd h.2.2.2.2.1 f4,fun _=>s5⟩
   ·obtain rfl:=(G6 (m:=7) rfl s3).2 f3
    obtain rfl:T4=none:=s4
    exact⟨fun h=>absurd h.2.2.2.1 f3,fun _=>s5⟩
  ·obtain rfl:=(KQ (m:=5) rfl s2).2 f2
   obtain rfl:T3=none:=s3
   obtain rfl:T4=none:=s4
   exact⟨fun h=>absurd h.2.2.1 f2,fun _=>s5⟩
 ·obtain rfl:=(step4 s1).2 f1
  obtain rfl:T2=none:=s2
  obtain rfl:T3=none:=s3
  obtain rfl:T4=none:=s4
  exact⟨fun h=>absurd ⟨h.1,h.2.1⟩ f1,fun _=>s5⟩
def DateS (S:Option B8) (y m d:Nat) (T:Option B8):Prop:=match S with
 | none=>T=none
 | some s=>(Et s->T=some (s.drop 10)/\y=d2 s 0*100+d2 s 2/\m=d2 s 5/\d=d2 s 8)/\(¬Et s->T=none)
theorem Sz {r f:Nat} {st:St} {S:Option B8} {h mi sc nn sg oh om:Nat} (hm:TM r f st S (fcT 0 0 0 h mi sc nn sg oh om)) {K:St->Prop}
  (hk:∀y mo d st' T,y<10000->mo<100->d<100->StX (rfS r f) st st'->TM r f st' T (fcT y mo d h mi sc nn sg oh om)->DateS S y mo d T->K st'):CallT PR Cn [.box r 0,.box f 0] [] st K:=by
 refine Jc r f st K (G1 (w:=4) (by decide) hm.1 fun y st1 T1 b1 e1 h1 s1=>(hm.step e1 h1).put (by simp[fcT]) fun st2 e2 m2=>?_)
 refine G0 (of:=[45]) (by decide) (by decide) m2.1 fun c st3 T3 b3 e3 h3 s3=>G1 (w:=2) (by decide) h3 fun mo st4 T4 b4 e4 h4 s4=>((m2.step e3 h3).step e4 h4).put (by simp[fcT]) fun st5 e5 m5=>?_
 refine G0 (of:=[45]) (by decide) (by decide) m5.1 fun c' st6 T6 b6 e6 h6 s6=>G1 (w:=2) (by decide) h6 fun d st7 T7 b7 e7 h7 s7=>((m5.step e6 h6).step e7 h7).put (by simp[fcT]) fun st8 e8 m8=>?_
 refine hk y mo d st8 T7 b1 b4 b7 ((((((((Jt e1).trans e2).trans (Jt e3)).trans (Jt e4)).trans e5).trans (Jt e6)).trans (Jt e7)).trans e8) m8 ?_
 cases S with
 | some s=>exact WE s1 s3 s4 s6 s7
 | none=>
  have:=(show T1=none from s1)
  subst this
  have:=(show T3=none from s3)
  subst this
  have:=(show T4=none from s4)
  subst this
  have:=(show T6=none from s6)
  subst this
  exact s7
theorem UV {s:B8} {h c m c' d:Nat} {T1 T2 T3 T4 T5:Option B8} (s1:KP 2 (some s) h T1) (s2:Od [58] T1 c T2) (s3:KP 2 T2 m T3) (s4:Od [58] T3 c' T4) (s5:KP 2 T4 d T5):
  (KY s->T5=some (s.drop 8)/\h=d2 s 0/\m=d2 s 3/\d=d2 s 6)/\(¬KY s->T5=none):=by
 have s1':KP 2 (some (s.drop 0)) h T1:=by rw[List.drop_zero];exact s1
 by_cases f1:dd s 0
 ·obtain⟨rfl,v1⟩:=(G6 (m:=2) rfl s1').1 f1
  by_cases f2:b0 s 2=58
  ·obtain rfl:=(KQ (m:=3) rfl s2).1 f2
   by_cases f3:dd s 3
   ·obtain⟨rfl,v3⟩:=(G6 (m:=5) rfl s3).1 f3
    by_cases f4:b0 s 5=58
    ·obtain rfl:=(KQ (m:=6) rfl s4).1 f4
     by_cases f5:dd s 6
     ·obtain⟨rfl,v5⟩:=(G6 (m:=8) rfl s5).1 f5
      exact⟨fun _=>⟨rfl,v1,v3,v5⟩,fun h=>absurd ⟨f1,f2,f3,f4,f5⟩ h⟩
     ·exact⟨fun h=>absurd h.2.2.2.2 f5,fun _=>(G6 (m:=8) rfl s5).2 f5⟩
    ·obtain rfl:=(KQ (m:=6) rfl s4).2 f4
     exact⟨fun h=>absurd h.2.2.2.1 f4,fun _=>s5⟩
   ·obtain rfl:=(G6 (m:=5) rfl s3).2 f3
    obtain rfl:T4=none:=s4
    exact⟨fun h=>absurd h.2.2.1 f3,fun _=>s5⟩
  ·obtain rfl:=(KQ (m:=3) rfl s2).2 f2
   obtain rfl:T3=none:=s3
   obtain rfl:T4=none:=s4
   exact⟨fun h=>absurd h.2.1 f2,fun _=>s5⟩
 ·obtain rfl:=(G6 (m:=2) rfl s1').2 f1
  obtain rfl:T2=none:=s2
  obtain rfl:T3=none:=s3
  obtain rfl:T4=none:=s4
  exact⟨fun h=>absurd h.1 f1,fun _=>s5⟩
def TL (S:Option B8) (h mi sc nn:Nat) (T:Option B8):Prop:=match S with
 | none=>T=none
 | some s=>match GS s with
  | none=>T=none
  | some (h',mi',sc',f',r')=>T=some r'/\h=h'/\mi=mi'/\sc=sc'/\nn=f'
theorem TR.src {r:Nat} {st:St} {S:Option B8} (h:TR r st S):∃s,Af st [] (.t (.box r 0)) 0=some (.str s)/\s.length<=1000000/\∀x,S=some x->s=x:=by
 obtain⟨_,s,hb,hl,hx⟩:=h.get
 exact⟨s,by simp[Af,hb],hl,hx⟩
theorem M7 {r f:Nat} {st:St} {S:Option B8} {y mo d sg oh om:Nat} (hm:TM r f st S (fcT y mo d 0 0 0 0 sg oh om)) {K:St->Prop}
  (hk:∀h mi sc nn st' T,h<100->mi<100->sc<100->nn<1000000000->StX (rfS r f) st st'->TM r f st' T (fcT y mo d h mi sc nn sg oh om)->TL S h mi sc nn T->K st'):CallT PR By [.box r 0,.box f 0] [] st K:=by
 refine H7 r f st K (G1 (w:=2) (by decide) hm.1 fun y st1 T1 b1 e1 h1 s1=>(hm.step e1 h1).put (by simp[fcT]) fun st2 e2 m2=>?_)
 refine G0 (of:=[58]) (by decide) (by decide) m2.1 fun c st3 T3 b3 e3 h3 s3=>G1 (w:=2) (by decide) h3 fun mo st4 T4 b4 e4 h4 s4=>((m2.step e3 h3).step e4 h4).put (by simp[fcT]) fun st5 e5 m5=>?_
 refine G0 (of:=[58]) (by decide) (by decide) m5.1 fun c' st6 T6 b6 e6 h6 s6=>G1 (w:=2) (by decide) h6 fun d st7 T7 b7 e7 h7 s7=>((m5.step e6 h6).step e7 h7).put (by simp[fcT]) fun st8 e8 m8=>?_
 have E:=(((((((Jt e1).trans e2).trans (Jt e3)).trans (Jt e4)).trans e5).trans (Jt e6)).trans (Jt e7)).trans e8
 have comb:∀s,S=some s->(KY s->T7=some (s.drop 8)/\y=d2 s 0/\mo=d2 s 3/\d=d2 s 6)/\(¬KY s->T7=none):=fun s hs=>by
  subst hs;exact UV s1 s3 s4 s6 s7
 have nn:S=none->T7=none:=fun hs=>by
  subst hs
  obtain rfl:T1=none:=s1
  obtain rfl:T3=none:=s3
  obtain rfl:T4=none:=s4
  obtain rfl:T6=none:=s6
  exact s7
 clear s1 s3 s4 s6 s7 m2 m5
 obtain⟨t,ht,hl,hx⟩:=m8.1.src
 have plain:(∀x,T7=some x->b0 x 0≠46)->K st8:=fun hp=>hk y mo d 0 st8 T7 b1 b4 b7 (by decide) E m8 (by
  cases S with
  | none=>exact nn rfl
  | some s=>
   unfold TL;dsimp only
   obtain⟨c1,c2⟩:=comb s rfl
   unfold GS
   by_cases fc:KY s
   ·obtain⟨rfl,v1,v2,v3⟩:=c1 fc
    rw[if_pos fc,if_neg (by have:=hp _ rfl;rw[Ec]at this;exact this)]
    exact⟨rfl,v1,v2,v3,rfl⟩
   ·rw[if_neg fc];exact c2 fc)
 refine Ac ht (Aw (Aa (fun g=>Ac ht (Aw ⟨⟨by omega,by have:=List.length_pos_iff.2 g;omega⟩,Aa (fun g1=>?_) fun g1=>?_⟩)) fun g=>?_))
 ·have hpos:=List.length_pos_iff.2 g
  refine Ac ht (Aw ⟨⟨by omega,by omega⟩,M0 (s:=t) m8.1 (by rw[List.length_drop];omega) fun st9 e9 h9=>?_⟩)
  refine Xf h9 fun n st10 T10 b10 e10 h10 s10=>((m8.step e9 h9).step e10 h10).put (by simp[fcT]) fun st11 e11 m11=>?_
  refine hk y mo d n st11 T10 b1 b4 b7 b10 (((E.trans (Jt e9)).trans (Jt e10)).trans e11) m11 ?_
  have g46:b0 t 0=46:=(u8i (k:=46)).1 g1
  cases S with
  | none=>
   obtain rfl:=nn rfl
   exact s10
  | some s=>
   unfold TL;dsimp only
   obtain⟨c1,c2⟩:=comb s rfl
   unfold GS
   by_cases fc:KY s
   ·obtain⟨rfl,v1,v2,v3⟩:=c1 fc
    obtain rfl:=hx _ rfl
    rw[Ec]at g46
    rw[if_pos fc,if_pos g46]
    have hd9:(s.drop 8).drop (Int.toNat 1)=s.drop 9:=by rw[List.drop_drop];rfl
    have s11:FracS (some (s.drop 9)) n T10:=by rw[<-hd9];exact s10
    change (if _ then _ else _)at s11
    by_cases hf:AA (s.drop 9)=[]∨9<(AA (s.drop 9)).length
    ·rw[if_pos hf]at s11
     rw[if_pos hf];exact s11
    ·rw[if_neg hf]at s11
     rw[if_neg hf]
     refine⟨?_,v1,v2,v3,s11.2⟩
     rw[s11.1,List.drop_drop]
   ·obtain rfl:=c2 fc
    rw[if_neg fc];exact s10
 ·exact plain fun x hx'=>by
   obtain rfl:=hx x hx'
   exact fun h=>g1 ((u8i (k:=46)).2 h)
 ·have g0:t=[]:=Decidable.not_not.1 g
  exact plain fun x hx'=>by
   obtain rfl:=hx x hx'
   rw[g0];decide
def Vc (S:Option B8) (sg oh om:Nat) (T:Option B8):Prop:=match S with
 | none=>T=none
 | some s=>(T=some []->∃ls,Mf s=some (ls,oh,om)/\(ls=true↔sg=45))/\(T≠some []->Mf s=none)
theorem Uq {s:B8} {sg oh om:Nat} {c:Nat} {T1 T2 T3 T:Option B8} (hsg:sg=(b0 s 0).toNat) (h0:b0 s 0=43∨b0 s 0=45) (hT:T1=some (s.drop 1)) (s1:KP 2 T1 oh T2) (s2:Od [58] T2 c T3) (s3:KP 2 T3 om T):Vc (some s) sg oh om T:=by
 subst hT
 have nz:¬(s=[90]∨s=[122]):=by
  rintro(h | h)<;>rw[h]at h0<;>revert h0<;>decide
 have no:T=none->(dd s 1->b0 s 3=58->dd s 4->False)->Vc (some s) sg oh om T:=fun ht hf=>by
  subst ht
  refine⟨fun h=>(by cases h),fun _=>?_⟩
  unfold Mf
  rw[if_neg nz,if_neg fun h=>hf h.2.2.1 h.2.2.2.1 h.2.2.2.2]
 by_cases f1:dd s 1
 ·obtain⟨rfl,rfl⟩:=(G6 (m:=3) rfl s1).1 f1
  by_cases f2:b0 s 3=58
  ·obtain rfl:=(KQ (m:=4) rfl s2).1 f2
   by_cases f3:dd s 4
   ·obtain⟨rfl,rfl⟩:=(G6 (m:=6) rfl s3).1 f3
    have hl:=PG f3.2
    refine⟨fun h=>⟨decide (b0 s 0=45),?_,?_⟩,fun h=>?_⟩
    ·have h6:s.drop 6=[]:=Option.some.inj h
     have:=congrArg List.length h6
     rw[List.length_drop]at this
     simp at this
     unfold Mf
     rw[if_neg nz,if_pos ⟨by omega,h0,f1,f2,f3⟩]
    ·rw[decide_eq_true_eq,hsg]
     exact⟨fun h=>by rw[h];rfl,fun h=>UInt8.toNat_inj.1 h⟩
    ·unfold Mf
     rw[if_neg nz,if_neg]
     intro h'
     exact h (by rw[List.drop_of_length_le (by omega)])
   ·exact no ((G6 (m:=6) rfl s3).2 f3) fun _ _ h=>f3 h
  ·obtain rfl:=(KQ (m:=4) rfl s2).2 f2
   exact no s3 fun _ h _=>f2 h
 ·obtain rfl:=(G6 (m:=3) rfl s1).2 f1
  obtain rfl:T3=none:=s2
  exact no s3 fun h _ _=>f1 h
theorem Vc.none {S T1 T:Option B8} {sg oh om:Nat} (h:Od [90,122,43,45] S sg T1) (h1:T1=none) (ht:T=none):Vc S sg oh om T:=by
 subst h1 ht
 cases S with
 | none=>rfl
 | some s=>
  refine⟨fun h=>(by cases h),fun _=>?_⟩
  have hn:s.getD 0 0∉ [90,122,43,45]:=fun hm=>by have:=(h.pos hm).1;cases this
  unfold Mf
  rw[if_neg,if_neg]
  ·rintro⟨_,h | h,_⟩
   ·exact hn (by rw[show s.getD 0 0=43 from h];decide)
   ·exact hn (by rw[show s.getD 0 0=45 from h];decide)
  ·rintro(h | h)<;>rw[h]at hn<;>revert hn<;>decide
theorem OP {r f:Nat} {st:St} {S:Option B8} {y mo d h mi sc nn:Nat} (hm:TM r f st S (fcT y mo d h mi sc nn 0 0 0)) {K:St->Prop}
  (hk:∀sg oh om st' T,sg<256->oh<100->om<100->StX (rfS r f) st st'->TM r f st' T (fcT y mo d h mi sc nn sg oh om)->Vc S sg oh om T->K st'):CallT PR BX [.box r 0,.box f 0] [] st K:=by
 refine HE r f st K (G0 (of:=[90,122,43,45]) (by decide) (by decide) hm.1 fun sg st1 T1 b1 e1 h1 s1=>(hm.step e1 h1).put (by simp[fcT]) fun st2 e2 m2=>?_)
 have hld:Af st2 [] (.t (.box f 7)) 0=some (.int .u8 (sg:Nat)):=by simp[Af,m2.2.2.1,fcT]
 have E2:=(Jt e1).trans e2
 refine Ac hld (Ap (Aa (fun g=>?_) fun g=>Ac hld (Ap (Aa (fun g2=>?_) fun g2=>?_))))
 iterate 2
  ·refine G1 (w:=2) (by decide) m2.1 fun oh st3 T3 b3 e3 h3 s3=>(m2.step e3 h3).put (by simp[fcT]) fun st4 e4 m4=>?_
   refine G0 (of:=[58]) (by decide) (by decide) m4.1 fun c st5 T5 b5 e5 h5 s5=>G1 (w:=2) (by decide) h5 fun om st6 T6 b6 e6 h6 s6=>((m4.step e5 h5).step e6 h6).put (by simp[fcT]) fun st7 e7 m7=>?_
   refine hk sg oh om st7 T6 b1 b3 b6 (((((E2.trans (Jt e3)).trans e4).trans (Jt e5)).trans (Jt e6)).trans e7) m7 ?_
   cases T1 with
   | none=>
    obtain rfl:T3=none:=s3
    obtain rfl:T5=none:=s5
    exact Vc.none s1 rfl s6
   | some x=>
    cases S with
    | none=>cases (show some x=none from s1)
    | some s=>
     by_cases hmem:s.getD 0 0∈ [90,122,43,45]
     ·obtain⟨hT,hs⟩:=s1.pos hmem
      refine Uq hs ?_ hT s3 s5 s6
      have hc:((b0 s 0).toNat:Int)=sg:=by rw[hs];rfl
      first
       | exact .inl (UInt8.toNat_inj.1 (by rw[show((43:UInt8).toNat)=43 from rfl];omega))
       | exact .inr (UInt8.toNat_inj.1 (by rw[show((45:UInt8).toNat)=45 from rfl];omega))
     ·cases s1.neg hmem
 ·refine hk sg 0 0 st2 T1 b1 (by decide) (by decide) E2 m2 ?_
  cases T1 with
  | none=>exact Vc.none s1 rfl rfl
  | some x=>
   cases S with
   | none=>cases (show some x=none from s1)
   | some s=>
    by_cases hmem:s.getD 0 0∈ [90,122,43,45]
    ·obtain⟨hT,hs⟩:=s1.pos hmem
     rw[hT]
     have h43:b0 s 0≠43:=fun h=>g (by rw[hs,show s.getD 0 0=43 from h];rfl)
     have h45:b0 s 0≠45:=fun h=>g2 (by rw[hs,show s.getD 0 0=45 from h];rfl)
     refine⟨fun h=>⟨false,?_,⟨fun h=>(by cases h),fun h=>absurd (by omega) g2⟩⟩,fun h=>?_⟩
     ·have h1:s.drop 1=[]:=Option.some.inj h
      unfold Mf
      rw[if_pos]
      rcases s with _ | ⟨a,_ | ⟨b,s⟩⟩
      ·exact absurd hmem (by decide)
      ·have ha:a∈ [90,122,43,45]:=hmem
       simp only[List.mem_cons,List.not_mem_nil,or_false]at ha
       rcases ha with rfl | rfl | rfl | rfl
       ·exact .inl rfl
       ·exact .inr rfl
       ·exact absurd rfl h43
       ·exact absurd rfl h45
      ·cases h1
     ·unfold Mf
      rw[if_neg,if_neg]
      ·rintro⟨_,h | h,_⟩
       ·exact h43 h
       ·exact h45 h
      ·rintro(h' | h')<;>exact h (by rw[h'];rfl)
    ·cases s1.neg hmem
theorem cday_ok {y m d:Nat} (hy:y<=100000) (hm:m<=1000) (hd:d<=1000) {st:St} {K:Int->Int->St->Prop} (hk:K (if okD y m d then(Ju y m d:Nat)else 0) (if okD y m d then 0 else 2) st):
  CallT PR F1 [.int .i64 (y:Nat),.int .i64 (m:Nat),.int .i64 (d:Nat)] [.one (.int .i64),.one (.int .i64)] st K:=by
 refine N9 _ _ _ st K (Aa (fun g=>?_) fun g=>Hg (by omega) (Aa (fun g2=>?_) fun g2=>?_))
 ·have hn:¬okD y m d:=fun h=>by have:=h.2.2.2.2.1;omega
  rw[if_neg hn,if_neg hn]at hk;exact hk
 ·have hn:¬okD y m d:=fun h=>by
   obtain⟨a1,a2,a3,a4,a5,a6⟩:=h
   rw[ER a1 a2 a3 a4]at g2
   omega
  rw[if_neg hn,if_neg hn]at hk;exact hk
 ·have hr:1<=y/\y<=9999/\1<=m/\m<=12:=by
   by_cases h:1<=y/\y<=9999/\1<=m/\m<=12
   ·exact h
   ·rw[show Uu y m=0 from if_neg h]at g2
    omega
  obtain⟨a1,a2,a3,a4⟩:=hr
  rw[ER a1 a2 a3 a4]at g2
  have ok:okD y m d:=⟨a1,a2,a3,a4,by omega,by omega⟩
  rw[if_pos ok,if_pos ok]at hk
  have hyr:yrS y<=4000000:=by unfold yrS;omega
  refine Hf a1 (by omega) ⟨fun n i y' m' st'=>((y:Nat):Int)=y'/\((m:Nat):Int)=m'/\st=st'/\∃j:Nat,i=j/\1<=j/\j<=m/\n=((yrS y+D8 y j+(d-1):Nat):Int),fun _ i _ _ _=>(m-i).toNat,⟨rfl,rfl,rfl,1,rfl,by omega,by omega,?_⟩,?_⟩
  ·rw[Ad (((yrS y:Nat):Int)+((d:Nat):Int)) (by omega) (by omega),Ad _ (by omega) (by omega),show D8 y 1=0 from rfl];omega
  ·rintro _ _ _ _ _ ⟨rfl,rfl,rfl,j,rfl,hj1,hj2,rfl⟩
   have hms:=Ko y j
   refine Aa (fun g3=>Hg (by omega) ?_) fun g3=>?_
   ·have hmd:=ES y j
    rw[ER a1 a2 hj1 (by omega),Ad _ (by omega) (by omega),Ad _ (by omega) (by omega)]
    exact⟨⟨rfl,rfl,rfl,j+1,by omega,by omega,by omega,by rw[CR y hj1];omega⟩,by dsimp only;omega⟩
   ·have:j=m:=by omega
    subst this
    exact hk
def Pn (n1 y mo d h mi sc nn sg oh om:Nat):TmR:=
 if (n1≠2->okD y mo d)/\okC h mi sc/\oh<=23/\om<=59 then((n1:Nat),(if n1=2 then 0 else(Ju y mo d:Nat)),(Fc h mi sc nn:Nat),(if sg=45 then-((oh*60+om:Nat):Int)else((oh*60+om:Nat):Int)),0)else I6
def FinS (s:B8) (n1:Nat) (T:Option B8) (y mo d h mi sc nn sg oh om:Nat):Prop:=(T=some []->tmP s=Pn n1 y mo d h mi sc nn sg oh om)/\(T≠some []->tmP s=I7)
theorem Cl {s:B8} {n1 y mo d h mi sc nn sg oh om:Nat} (e:tmP s=I7):FinS s n1 none y mo d h mi sc nn sg oh om:=⟨fun h=>(by cases h),fun _=>e⟩
theorem Pm {s:B8} (n1:Nat) {y mo d h mi sc nn sg oh om:Nat} {r:B8} (hn:n1<=4) (e:tmP s=Pn n1 y mo d h mi sc nn sg oh om) (hr:r=[]):FinS s n1 (some r) y mo d h mi sc nn sg oh om:=⟨fun _=>e,fun h=>absurd (by rw[hr]) h⟩
theorem okC0:okC 0 0 0:=by decide
theorem fin1 (y mo d:Nat):(if okD y mo d then((1:Int),((Ju y mo d:Nat):Int),(0:Int),(0:Int),(0:Int))else I6)=Pn 1 y mo d 0 0 0 0 0 0 0:=by
 unfold Pn
 by_cases h:okD y mo d
 ·rw[if_pos h,if_pos ⟨fun _=>h,okC0,by decide,by decide⟩];rfl
 ·rw[if_neg h,if_neg fun g=>h (g.1 (by decide))]
theorem fin2 (h mi sc nn:Nat):(if okC h mi sc then((2:Int),(0:Int),((Fc h mi sc nn:Nat):Int),(0:Int),(0:Int))else I6)=Pn 2 0 0 0 h mi sc nn 0 0 0:=by
 unfold Pn
 by_cases g:okC h mi sc
 ·rw[if_pos g,if_pos ⟨fun h=>absurd rfl h,g,by decide,by decide⟩];rfl
 ·rw[if_neg g,if_neg fun k=>g k.2.1]
theorem fin3 (y mo d h mi sc nn:Nat):(if okD y mo d/\okC h mi sc then((3:Int),((Ju y mo d:Nat):Int),((Fc h mi sc nn:Nat):Int),(0:Int),(0:Int))else I6)=Pn 3 y mo d h mi sc nn 0 0 0:=by
 unfold Pn
 by_cases g:okD y mo d/\okC h mi sc
 ·rw[if_pos g,if_pos ⟨fun _=>g.1,g.2,by decide,by decide⟩];rfl
 ·rw[if_neg g,if_neg fun k=>g ⟨k.1 (by decide),k.2.1⟩]
theorem fin4 (y mo d h mi sc nn sg oh om:Nat) (ls:Bool) (hl:ls=true↔sg=45):(if okD y mo d/\okC h mi sc/\oh<=23/\om<=59 then((4:Int),((Ju y mo d:Nat):Int),((Fc h mi sc nn:Nat):Int),(if ls=true then-((oh*60+om:Nat):Int)else((oh*60+om:Nat):Int)),(0:Int))else I6)=Pn 4 y mo d h mi sc nn sg oh om:=by
 unfold Pn
 by_cases g:okD y mo d/\okC h mi sc/\oh<=23/\om<=59
 ·have hp:(4≠2->okD y mo d)/\okC h mi sc/\oh<=23/\om<=59:=⟨fun _=>g.1,g.2⟩
  rw[if_pos g,if_pos hp]
  by_cases k:sg=45
  ·rw[if_pos k,if_pos (hl.2 k)];rfl
  ·rw[if_neg k,if_neg fun h=>k (hl.1 h)];rfl
 ·rw[if_neg g,if_neg fun k=>g ⟨k.1 (by decide),k.2⟩]
theorem M6 {s:B8} (hc:b0 s 2≠58) (h:¬Et s):tmP s=I7:=by
 unfold tmP
 rw[if_neg h]
 have:GS s=none:=by unfold GS;rw[if_neg fun g=>hc g.2.1]
 rw[this]
theorem Yd {s:B8}:s.getD 0 0∈ [84,116,32]↔(b0 s 0=84∨b0 s 0=116∨b0 s 0=32):=by
 simp only[List.mem_cons,List.not_mem_nil,or_false];rfl
theorem Rb {s:B8} (fd:Et s) (hne:s.drop 10≠ []) (fo:(s.drop 10).getD 0 0∈ [84,116,32]):tmP s=match GS (s.drop (10+1))with
  | none=>I7
  | some (h,m,sc,f,r')=>tmO (d2 s 0*100+d2 s 2) (d2 s 5) (d2 s 8) h m sc f r':=by
 unfold tmP tmD
 rw[if_pos fd,if_neg hne,if_pos (Yd.1 fo),List.drop_drop]
 rfl
theorem Ra {s:B8} (fd:Et s) (hne:s.drop 10≠ []) (fo:(s.drop 10).getD 0 0∉ [84,116,32]):tmP s=I7:=by
 unfold tmP tmD
 rw[if_pos fd,if_neg hne,if_neg fun h=>fo (Yd.2 h)]
theorem Ou {s:B8} {k:Nat} {c:UInt8} (hc:c≠0) (h:b0 s k=c):k<s.length:=by
 by_cases hk:k<s.length
 ·exact hk
 ·rw[show b0 s k=0 by simp[b0,List.getD,Nat.le_of_not_lt hk]]at h
  exact absurd h.symm hc
theorem Xg {r f:Nat} {st:St} {s:B8} (hm:TM r f st (some s) (fcT 0 0 0 0 0 0 0 0 0 0)) {K:Int->St->Prop}
  (hk:∀(n1 y mo d h mi sc nn sg oh om:Nat) st' T,n1<=4->y<10000->mo<100->d<100->h<100->mi<100->sc<100->nn<1000000000->sg<256->oh<100->om<100->StX (rfS r f) st st'->TM r f st' T (fcT y mo d h mi sc nn sg oh om)->FinS s n1 T y mo d h mi sc nn sg oh om->K (n1:Nat) st'):
  CallT PR Dt [.box r 0,.box f 0] [.one (.int .i64)] st K:=by
 obtain⟨x,hx,hl,hsx⟩:=hm.1.src
 have hxs:x=s:=hsx s rfl
 rw[hxs]at hx hl
 clear hsx hxs
 refine Jb r f st K (Ac hx (Aw (Aa (fun g=>Ac hx (Aw ⟨⟨by omega,g⟩,Aa (fun g1=>?_) fun g1=>?_⟩)) fun g=>?_)))
 ·have h58:b0 s 2=58:=(u8i (k:=58)).1 g1
  have nfd:¬Et s:=fun h=>absurd h.2.1.1 (by rw[h58];decide)
  refine M7 hm fun h mi sc nn st1 T c1 c2 c3 c4 e1 m1 s1=>hk 2 0 0 0 h mi sc nn 0 0 0 st1 T (by omega) (by decide) (by decide) (by decide) c1 c2 c3 c4 (by decide) (by decide) (by decide) e1 m1 ?_
  unfold TL at s1
  dsimp only at s1
  have e:tmP s=match GS s with
   | none=>I7
   | some (h,m,sc,f,r)=>if r=[]then(if okC h m sc then(2,0,(Fc h m sc f:Nat),0,0)else I6)else I7:=by unfold tmP;rw[if_neg nfd];rfl
  cases hc:GS s with
  | none=>rw[hc]at s1 e;exact s1▸Cl e
  | some p=>
   obtain⟨h',mi',sc',f',r'⟩:=p
   rw[hc]at s1 e
   dsimp only at s1 e
   obtain⟨rfl,rfl,rfl,rfl,rfl⟩:=s1
   by_cases hr:r'=[]
   ·rw[if_pos hr]at e
    exact Pm _ (by decide) (by rw[e];exact fin2 _ _ _ _) hr
   ·rw[if_neg hr]at e
    exact⟨fun h=>absurd (Option.some.inj h) hr,fun _=>e⟩
 ·have hnc:b0 s 2≠58:=fun h=>g1 ((u8i (k:=58)).2 h)
  refine Sz hm fun y mo d st2 T2 b1 b2 b3 e2 m2 s2=>?_
  obtain⟨x3,hx3,_,hs3⟩:=m2.1.src
  refine Ac hx3 (Aw (Aa (fun g=>?_) fun g=>G0 (of:=[84,116,32]) (by decide) (by decide) m2.1 fun c st3 T3 bc e3 h3 s3=>M7 (m2.step e3 h3) fun h mi sc nn st4 T4 c1 c2 c3 c4 e4 m4 s4=>?_))
  ·refine hk 1 y mo d 0 0 0 0 0 0 0 st2 T2 (by omega) b1 b2 b3 (by decide) (by decide) (by decide) (by decide) (by decide) (by decide) (by decide) e2 m2 ?_
   by_cases fd:Et s
   ·obtain⟨rfl,rfl,rfl,rfl⟩:=s2.1 fd
    have h10:s.drop 10=[]:=by rw[<-hs3 _ rfl];exact g
    have e:tmP s=if okD (d2 s 0*100+d2 s 2) (d2 s 5) (d2 s 8)then((1:Int),((Ju (d2 s 0*100+d2 s 2) (d2 s 5) (d2 s 8):Nat):Int),(0:Int),(0:Int),(0:Int))else I6:=by unfold tmP tmD;rw[if_pos fd,if_pos h10]
    exact Pm _ (by decide) (by rw[e];exact fin1 _ _ _) h10
   ·obtain rfl:=s2.2 fd
    exact Cl (by rw[M6 hnc fd])
  ·obtain⟨x4,hx4,_,hs4⟩:=m4.1.src
   have nofd:¬Et s->T4=none:=fun fd=>by
    obtain rfl:=s2.2 fd
    obtain rfl:T3=none:=s3
    exact s4
   have E4:=(e2.trans (Jt e3)).trans e4
   refine Ac hx4 (Aw (Aa (fun g4=>?_) fun g4=>OP m4 fun sg oh om st5 T5 d1 d2 d3 e5 m5 s5=>?_))
   ·refine hk 3 y mo d h mi sc nn 0 0 0 st4 T4 (by omega) b1 b2 b3 c1 c2 c3 c4 (by decide) (by decide) (by decide) E4 m4 ?_
    by_cases fd:Et s
    ·obtain⟨rfl,rfl,rfl,rfl⟩:=s2.1 fd
     have hne:s.drop 10≠ []:=fun e=>g (by rw[hs3 _ rfl];exact e)
     by_cases fo:(s.drop 10).getD 0 0∈ [84,116,32]
     ·obtain⟨rfl,_⟩:=s3.pos fo
      have e:=Rb fd hne fo
      unfold TL at s4
      dsimp only at s4
      rw[List.drop_drop]at s4
      cases hc:GS (s.drop (10+1))with
      | none=>rw[hc]at s4 e;exact s4▸Cl e
      | some p=>
       obtain⟨h',mi',sc',f',r'⟩:=p
       rw[hc]at s4 e
       dsimp only at s4 e
       obtain⟨rfl,rfl,rfl,rfl,rfl⟩:=s4
       have hr:r'=[]:=by rw[<-hs4 _ rfl];exact g4
       unfold tmO at e
       rw[if_pos hr]at e
       exact Pm _ (by decide) (by rw[e];exact fin3 _ _ _ _ _ _ _) hr
     ·obtain rfl:=s3.neg fo
      obtain rfl:T4=none:=s4
      exact Cl (Ra fd hne fo)
    ·obtain rfl:=nofd fd
     exact Cl (by rw[M6 hnc fd])
   ·refine hk 4 y mo d h mi sc nn sg oh om st5 T5 (by omega) b1 b2 b3 c1 c2 c3 c4 d1 d2 d3 (E4.trans e5) m5 ?_
    by_cases fd:Et s
    ·obtain⟨rfl,rfl,rfl,rfl⟩:=s2.1 fd
     have hne:s.drop 10≠ []:=fun e=>g (by rw[hs3 _ rfl];exact e)
     by_cases fo:(s.drop 10).getD 0 0∈ [84,116,32]
     ·obtain⟨rfl,_⟩:=s3.pos fo
      have e:=Rb fd hne fo
      unfold TL at s4
      dsimp only at s4
      rw[List.drop_drop]at s4
      cases hc:GS (s.drop (10+1))with
      | none=>
       rw[hc]at s4 e
       dsimp only at s4
       subst s4
       obtain rfl:T5=none:=s5
       exact Cl e
      | some p=>
       obtain⟨h',mi',sc',f',r'⟩:=p
       rw[hc]at s4 e
       dsimp only at s4 e
       obtain⟨rfl,rfl,rfl,rfl,rfl⟩:=s4
       have hr:r'≠ []:=fun e=>g4 (by rw[hs4 _ rfl];exact e)
       unfold tmO at e
       rw[if_neg hr]at e
       by_cases h5:T5=some []
       ·obtain⟨ls,ho,hl⟩:=s5.1 h5
        rw[ho]at e
        exact⟨fun _=>by rw[e];exact fin4 _ _ _ _ _ _ _ _ _ _ _ hl,fun h=>absurd h5 h⟩
       ·have ho:=s5.2 h5
        rw[ho]at e
        exact⟨fun h=>absurd h h5,fun _=>e⟩
     ·obtain rfl:=s3.neg fo
      obtain rfl:T4=none:=s4
      obtain rfl:T5=none:=s5
      exact Cl (Ra fd hne fo)
    ·obtain rfl:=nofd fd
     obtain rfl:T5=none:=s5
     exact Cl (by rw[M6 hnc fd])
 ·have hnc:b0 s 2≠58:=fun h=>by have:=Ou (by decide) h;omega
  refine Sz hm fun y mo d st2 T2 b1 b2 b3 e2 m2 s2=>?_
  obtain⟨x3,hx3,_,hs3⟩:=m2.1.src
  refine Ac hx3 (Aw (Aa (fun g=>?_) fun g=>G0 (of:=[84,116,32]) (by decide) (by decide) m2.1 fun c st3 T3 bc e3 h3 s3=>M7 (m2.step e3 h3) fun h mi sc nn st4 T4 c1 c2 c3 c4 e4 m4 s4=>?_))
  ·refine hk 1 y mo d 0 0 0 0 0 0 0 st2 T2 (by omega) b1 b2 b3 (by decide) (by decide) (by decide) (by decide) (by decide) (by decide) (by decide) e2 m2 ?_
   by_cases fd:Et s
   ·obtain⟨rfl,rfl,rfl,rfl⟩:=s2.1 fd
    have h10:s.drop 10=[]:=by rw[<-hs3 _ rfl];exact g
    have e:tmP s=if okD (d2 s 0*100+d2 s 2) (d2 s 5) (d2 s 8)then((1:Int),((Ju (d2 s 0*100+d2 s 2) (d2 s 5) (d2 s 8):Nat):Int),(0:Int),(0:Int),(0:Int))else I6:=by unfold tmP tmD;rw[if_pos fd,if_pos h10]
    exact Pm _ (by decide) (by rw[e];exact fin1 _ _ _) h10
   ·obtain rfl:=s2.2 fd
    exact Cl (by rw[M6 hnc fd])
  ·obtain⟨x4,hx4,_,hs4⟩:=m4.1.src
   have nofd:¬Et s->T4=none:=fun fd=>by
    obtain rfl:=s2.2 fd
    obtain rfl:T3=none:=s3
    exact s4
   have E4:=(e2.trans (Jt e3)).trans e4
   refine Ac hx4 (Aw (Aa (fun g4=>?_) fun g4=>OP m4 fun sg oh om st5 T5 d1 d2 d3 e5 m5 s5=>?_))
   ·refine hk 3 y mo d h mi sc nn 0 0 0 st4 T4 (by omega) b1 b2 b3 c1 c2 c3 c4 (by decide) (by decide) (by decide) E4 m4 ?_
    by_cases fd:Et s
    ·obtain⟨rfl,rfl,rfl,rfl⟩:=s2.1 fd
     have hne:s.drop 10≠ []:=fun e=>g (by rw[hs3 _ rfl];exact e)
     by_cases fo:(s.drop 10).getD 0 0∈ [84,116,32]
     ·obtain⟨rfl,_⟩:=s3.pos fo
      have e:=Rb fd hne fo
      unfold TL at s4
      dsimp only at s4
      rw[List.drop_drop]at s4
      cases hc:GS (s.drop (10+1))with
      | none=>rw[hc]at s4 e;exact s4▸Cl e
      | some p=>
       obtain⟨h',mi',sc',f',r'⟩:=p
       rw[hc]at s4 e
       dsimp only at s4 e
       obtain⟨rfl,rfl,rfl,rfl,rfl⟩:=s4
       have hr:r'=[]:=by rw[<-hs4 _ rfl];exact g4
       unfold tmO at e
       rw[if_pos hr]at e
       exact Pm _ (by decide) (by rw[e];exact fin3 _ _ _ _ _ _ _) hr
     ·obtain rfl:=s3.neg fo
      obtain rfl:T4=none:=s4
      exact Cl (Ra fd hne fo)
    ·obtain rfl:=nofd fd
     exact Cl (by rw[M6 hnc fd])
   ·refine hk 4 y mo d h mi sc nn sg oh om st5 T5 (by omega) b1 b2 b3 c1 c2 c3 c4 d1 d2 d3 (E4.trans e5) m5 ?_
    by_cases fd:Et s
    ·obtain⟨rfl,rfl,rfl,rfl⟩:=s2.1 fd
     have hne:s.drop 10≠ []:=fun e=>g (by rw[hs3 _ rfl];exact e)
     by_cases fo:(s.drop 10).getD 0 0∈ [84,116,32]
     ·obtain⟨rfl,_⟩:=s3.pos fo
      have e:=Rb fd hne fo
      unfold TL at s4
      dsimp only at s4
      rw[List.drop_drop]at s4
      cases hc:GS (s.drop (10+1))with
      | none=>
       rw[hc]at s4 e
       dsimp only at s4
       subst s4
       obtain rfl:T5=none:=s5
       exact Cl e
      | some p=>
       obtain⟨h',mi',sc',f',r'⟩:=p
       rw[hc]at s4 e
       dsimp only at s4 e
       obtain⟨rfl,rfl,rfl,rfl,rfl⟩:=s4
       have hr:r'≠ []:=fun e=>g4 (by rw[hs4 _ rfl];exact e)
       unfold tmO at e
       rw[if_neg hr]at e
       by_cases h5:T5=some []
       ·obtain⟨ls,ho,hl⟩:=s5.1 h5
        rw[ho]at e
        exact⟨fun _=>by rw[e];exact fin4 _ _ _ _ _ _ _ _ _ _ _ hl,fun h=>absurd h5 h⟩
       ·have ho:=s5.2 h5
        rw[ho]at e
        exact⟨fun h=>absurd h h5,fun _=>e⟩
     ·obtain rfl:=s3.neg fo
      obtain rfl:T4=none:=s4
      obtain rfl:T5=none:=s5
      exact Cl (Ra fd hne fo)
    ·obtain rfl:=nofd fd
     obtain rfl:T5=none:=s5
     exact Cl (by rw[M6 hnc fd])
abbrev KT (K:Int->Int->Int->Int->Int->St->Prop) (r:TmR) (st:St):Prop:=K r.1 r.2.1 r.2.2.1 r.2.2.2.1 r.2.2.2.2 st
theorem Ut {h mi sc nn:Nat} (h1:h<100) (h2:mi<100) (h3:sc<100) (h4:nn<1000000000):
  i64.wrap ((i64.wrap ((i64.wrap ((i64.wrap ((i64.wrap ((i64.wrap (((h:Nat):Int)*60))+((mi:Nat):Int)))*60))+((sc:Nat):Int)))*1000000000))+((nn:Nat):Int))=((Fc h mi sc nn:Nat):Int):=by
 rw[Ad (((h:Nat):Int)*60) (by omega) (by omega),Ad (((h:Nat):Int)*60+((mi:Nat):Int)) (by omega) (by omega),Ad ((((h:Nat):Int)*60+((mi:Nat):Int))*60) (by omega) (by omega),Ad ((((h:Nat):Int)*60+((mi:Nat):Int))*60+((sc:Nat):Int)) (by omega) (by omega),Ad (((((h:Nat):Int)*60+((mi:Nat):Int))*60+((sc:Nat):Int))*1000000000) (by omega) (by omega),Ad _ (by omega) (by omega)]
 unfold Fc;omega
theorem XI {oh om:Nat} (h1:oh<100) (h2:om<100):i64.wrap ((i64.wrap (((oh:Nat):Int)*60))+((om:Nat):Int))=((oh*60+om:Nat):Int):=by
 rw[Ad (((oh:Nat):Int)*60) (by omega) (by omega),Ad _ (by omega) (by omega)];omega
theorem tP_ok {s:B8} (hl:s.length<=1000000) {st:St} {K:Int->Int->Int->Int->Int->St->Prop} (hk:∀st',Ah st st'->KT K (tmP s) st'):CallT PR FW [.str s] [.agg [.int .i64,.int .i64,.int .i64,.int .i64],.one (.int .i64)] st K:=by
 refine N3 s st K (Xg (r:=st.nb) (f:=st.nb+1) (s:=s) ?_ fun n1 y mo d h mi sc nn sg oh om st1 T a1 a2 a3 a4 a5 a6 a7 a8 a9 a10 a11 e1 m1 hF=>?_)
 ·refine⟨⟨?_,?_,hl⟩,?_,?_,?_⟩
  ·simp[St.push];omega
  ·simp[St.push]
  ·simp[St.push]
  ·simp[St.push,fcT]
  ·omega
 ·have E:Ah st st1:=StX.ext (((Ah.refl st).push _ _).push _ _) e1 (by
   rintro i (rfl | rfl)
   ·exact Nat.le_refl _
   ·exact Nat.le_succ _)
  obtain⟨hF1,hF2⟩:=hF
  have cell:∀i v,(fcT y mo d h mi sc nn sg oh om)[i]? =some v->Af st1 [] (.t (.box (st.nb+1) i)) 0=some v:=fun i v hv=>by
   simp only[Af,m1.2.2.1,Nat.add_zero];exact hv
  have c0:=cell 0 _ rfl
  have c1:=cell 1 _ rfl
  have c2:=cell 2 _ rfl
  have c3:=cell 3 _ rfl
  have c4:=cell 4 _ rfl
  have c5:=cell 5 _ rfl
  have c6:=cell 6 _ rfl
  have c7:=cell 7 _ rfl
  have c8:=cell 8 _ rfl
  have c9:=cell 9 _ rfl
  clear cell
  obtain⟨hr,t,hb,_,ht⟩:=m1.1.get
  have k0:Af st1 [] (.t (.box st.nb 0)) 0=some (.str t):=by simp[Af,hb]
  have k1:Af st1 [] (.t (.box st.nb 1)) 0=some (.bool T.isNone):=by simp[Af,hb]
  have bad:T≠some []->K 0 0 0 0 3 st1:=fun hT=>by
   have:=hk st1 E
   rw[hF2 hT]at this;exact this
  refine Ac k1 (Cy (Aq (fun g=>bad fun e=>by rw[e]at g;cases g) fun g=>Ac k0 (Aw (Aa (fun g1=>bad fun e=>g1 (ht [] e)) fun g1=>?_))))
  have hT:T=some []:=by
   cases T with
   | none=>cases g
   | some x=>rw[<-ht x rfl,Decidable.not_not.1 g1]
  have hV:=hF1 hT
  have hk1:=hk st1 E
  rw[hV]at hk1
  clear hF1 hF2 hV hk bad
  unfold KT Pn at hk1
  have tail:(n1≠2->okD y mo d)->∀D:Int,D=(if n1=2 then 0 else((Ju y mo d:Nat):Int))->okC h mi sc/\oh<=23/\om<=59->K (n1:Nat) D (Fc h mi sc nn:Nat) (if sg=45 then-((oh*60+om:Nat):Int)else((oh*60+om:Nat):Int)) 0 st1:=fun h0 D hD h1=>by
   subst hD
   rw[if_pos ⟨h0,h1⟩]at hk1;exact hk1
  have out:(¬(okC h mi sc/\oh<=23/\om<=59)∨¬(n1≠2->okD y mo d))->K 0 0 0 0 2 st1:=fun hn=>by
   rw[if_neg (fun g=>by
    rcases hn with hn | hn
    ·exact hn g.2
    ·exact hn g.1)]at hk1
   exact hk1
  have end_:(n1≠2->okD y mo d)->∀D:Int,D=(if n1=2 then 0 else((Ju y mo d:Nat):Int))->okC h mi sc/\oh<=23/\om<=59->BIf (decide (((sg:Nat):Int)=45)) (K (n1:Nat) D (Fc h mi sc nn:Nat) (i64.wrap (0-((oh*60+om:Nat):Int))) 0 st1) (K (n1:Nat) D (Fc h mi sc nn:Nat) ((oh*60+om:Nat):Int) 0 st1):=fun h0 D hD h1=>by
   have:=tail h0 D hD h1
   refine Aa (fun g=>?_) fun g=>?_
   ·rw[if_pos (by omega)]at this
    rw[Ad _ (by omega) (by omega),show(0:Int)-((oh*60+om:Nat):Int)= -((oh*60+om:Nat):Int) by omega];exact this
   ·rw[if_neg (by omega)]at this;exact this
  have okc:∀{a b c:Nat},¬(23:Int)<(a:Nat)->¬(59:Int)<(b:Nat)->¬(59:Int)<(c:Nat)->okC a b c:=fun x y z=>⟨by omega,by omega,by omega⟩
  refine Aa (fun g2=>?_) fun g2=>?_
  ·refine Ac c0 (Ap (Ac c1 (Ap (Ac c2 (Ap (cday_ok (by omega) (by omega) (by omega) ?_))))))
   by_cases hD:okD y mo d
   ·rw[if_pos hD,if_pos hD]
    refine Aa (fun g=>absurd rfl g) fun _=>Ac c3 (Ap (Aa (fun g=>out (.inl fun k=>by have:=k.1.1;omega)) fun k1=>Ac c4 (Ap (Aa (fun g=>out (.inl fun k=>by have:=k.1.2.1;omega)) fun k2=>Ac c5 (Ap (Aa (fun g=>out (.inl fun k=>by have:=k.1.2.2;omega)) fun k3=>Ac c8 (Ap (Aa (fun g=>out (.inl fun k=>by have:=k.2.1;omega)) fun k4=>Ac c9 (Ap (Aa (fun g=>out (.inl fun k=>by have:=k.2.2;omega)) fun k5=>?_))))))))))
    refine Ac c3 (Ap (Ac c4 (Ap (Ac c5 (Ap (Ac c6 (Ap (Ac c8 (Ap (Ac c9 (Ap (Ac c7 (Ap ?_)))))))))))))
    rw[Ut a5 a6 a7 a8,XI a10 a11]
    exact end_ (fun _=>hD) _ (by rw[if_neg (by omega)]) ⟨okc k1 k2 k3,by omega,by omega⟩
   ·rw[if_neg hD,if_neg hD]
    exact Aa (fun _=>out (.inr fun k=>hD (k (by omega)))) fun g=>absurd (by decide) g
  ·refine Ac c3 (Ap (Aa (fun g=>out (.inl fun k=>by have:=k.1.1;omega)) fun k1=>Ac c4 (Ap (Aa (fun g=>out (.inl fun k=>by have:=k.1.2.1;omega)) fun k2=>Ac c5 (Ap (Aa (fun g=>out (.inl fun k=>by have:=k.1.2.2;omega)) fun k3=>Ac c8 (Ap (Aa (fun g=>out (.inl fun k=>by have:=k.2.1;omega)) fun k4=>Ac c9 (Ap (Aa (fun g=>out (.inl fun k=>by have:=k.2.2;omega)) fun k5=>?_))))))))))
   refine Ac c3 (Ap (Ac c4 (Ap (Ac c5 (Ap (Ac c6 (Ap (Ac c8 (Ap (Ac c9 (Ap (Ac c7 (Ap ?_)))))))))))))
   rw[Ut a5 a6 a7 a8,XI a10 a11]
   exact end_ (fun h=>absurd (by omega) h) _ (by rw[if_pos (by omega)]) ⟨okc k1 k2 k3,by omega,by omega⟩
def HV (form s:B8):Prop:=form.length<=s.length/\∀i,i<form.length->if form.getD i 0=100 then AL (s.getD i 0)else s.getD i 0=form.getD i 0
instance (form s:B8):Decidable (HV form s):=inferInstanceAs (Decidable (_/\_))
theorem L5 {s form:B8} (hl:s.length<=100000000) {st:St} {K:Bool->St->Prop} (hk:K (decide (HV form s)) st):CallT PR Bq [.str s,.str form] [.one .bool] st K:=by
 have no:¬HV form s->K false st:=fun h=>by rw[decide_eq_false h]at hk;exact hk
 refine JJ s form st K (Aa (fun g=>no fun h=>by have:=h.1;omega) fun g=>?_)
 refine⟨fun i s' f' st'=>s=s'/\form=f'/\st=st'/\∃k:Nat,i=k/\k<=form.length/\∀j,j<k->if form.getD j 0=100 then AL (s.getD j 0)else s.getD j 0=form.getD j 0,fun i _ _ _=>(form.length-i).toNat,⟨rfl,rfl,rfl,0,rfl,Nat.zero_le _,fun j h=>absurd h (Nat.not_lt_zero _)⟩,?_⟩
 rintro _ _ _ _ ⟨rfl,rfl,rfl,k,rfl,hk1,hd⟩
 rw[Int.toNat_natCast,Ad _ (by omega) (by omega)]
 have next:(if form.getD k 0=100 then AL (s.getD k 0)else s.getD k 0=form.getD k 0)->∀j,j<k+1->if form.getD j 0=100 then AL (s.getD j 0)else s.getD j 0=form.getD j 0:=fun h j hj=>by
  by_cases hjk:j=k
  ·subst hjk;exact h
  ·exact hd j (by omega)
 have nxt:= @next
 refine Aa (fun g1=>⟨⟨by omega,g1⟩,Aa (fun g2=>⟨⟨by omega,by omega⟩,Aa (fun g3=>no fun h=>?_) fun g3=>⟨⟨by omega,by omega⟩,Aa (fun g4=>no fun h=>?_) fun g4=>⟨⟨by omega,g1⟩,Aa (fun g5=>absurd g2 g5) fun _=>⟨⟨rfl,rfl,rfl,k+1,by omega,by omega,nxt ?_⟩,by dsimp only;omega⟩⟩⟩⟩) fun g2=>⟨⟨by omega,g1⟩,Aa (fun g5=>⟨⟨by omega,by omega⟩,⟨by omega,g1⟩,Aa (fun g6=>no fun h=>?_) fun g6=>⟨⟨rfl,rfl,rfl,k+1,by omega,by omega,nxt ?_⟩,by dsimp only;omega⟩⟩) fun g5=>absurd g2 g5⟩⟩) fun g1=>?_
 ·have:=h.2 k (by omega)
  rw[if_pos ((u8i (k:=100)).1 g2)]at this
  have:=this.1;omega
 ·have:=h.2 k (by omega)
  rw[if_pos ((u8i (k:=100)).1 g2)]at this
  have:=this.2;omega
 ·rw[if_pos ((u8i (k:=100)).1 g2)]
  exact⟨by omega,by omega⟩
 ·have:=h.2 k (by omega)
  rw[if_neg fun e=>g2 ((u8i (k:=100)).2 e)]at this
  exact g6 (by rw[this])
 ·rw[if_neg fun e=>g2 ((u8i (k:=100)).2 e)]
  exact UInt8.toNat_inj.1 (Int.ofNat.inj (Decidable.not_not.1 g6))
 ·have:HV form s:=⟨by omega,fun i hi=>hd i (by omega)⟩
  rw[decide_eq_true this]at hk;exact hk
theorem like_C (s:B8):HV [100,100,58,100,100,58,100,100] s↔KY s:=by
 constructor
 ·intro h
  exact⟨⟨h.2 0 (by decide),h.2 1 (by decide)⟩,h.2 2 (by decide),⟨h.2 3 (by decide),h.2 4 (by decide)⟩,h.2 5 (by decide),⟨h.2 6 (by decide),h.2 7 (by decide)⟩⟩
 ·rintro⟨⟨h0,h1⟩,h2,⟨h3,h4⟩,h5,⟨h6,h7⟩⟩
  have hl:=PG h7
  refine⟨hl,fun i hi=>?_⟩
  rcases (by simp at hi;omega:i=0∨i=1∨i=2∨i=3∨i=4∨i=5∨i=6∨i=7)with rfl | rfl | rfl | rfl | rfl | rfl | rfl | rfl
  ·exact h0
  ·exact h1
  ·exact h2
  ·exact h3
  ·exact h4
  ·exact h5
  ·exact h6
  ·exact h7
theorem like_D (s:B8):HV [100,100,100,100,45,100,100,45,100,100] s↔Et s:=by
 constructor
 ·intro h
  exact⟨⟨h.2 0 (by decide),h.2 1 (by decide)⟩,⟨h.2 2 (by decide),h.2 3 (by decide)⟩,h.2 4 (by decide),⟨h.2 5 (by decide),h.2 6 (by decide)⟩,h.2 7 (by decide),⟨h.2 8 (by decide),h.2 9 (by decide)⟩⟩
 ·rintro⟨⟨h0,h1⟩,⟨h2,h3⟩,h4,⟨h5,h6⟩,h7,⟨h8,h9⟩⟩
  have hl:=PG h9
  refine⟨hl,fun i hi=>?_⟩
  rcases (by simp at hi;omega:i=0∨i=1∨i=2∨i=3∨i=4∨i=5∨i=6∨i=7∨i=8∨i=9)with rfl | rfl | rfl | rfl | rfl | rfl | rfl | rfl | rfl | rfl
  ·exact h0
  ·exact h1
  ·exact h2
  ·exact h3
  ·exact h4
  ·exact h5
  ·exact h6
  ·exact h7
  ·exact h8
  ·exact h9
theorem XV (s:B8) (c:UInt8) (hc:c≠100) (hl:s.length=6):HV [c,100,100,58,100,100] s↔(b0 s 0=c/\dd s 1/\b0 s 3=58/\dd s 4):=by
 constructor
 ·intro h
  have h0:=h.2 0 (by simp)
  rw[show([c,100,100,58,100,100]:B8).getD 0 0=c from rfl,if_neg hc]at h0
  exact⟨h0,⟨h.2 1 (by simp),h.2 2 (by simp)⟩,h.2 3 (by simp),⟨h.2 4 (by simp),h.2 5 (by simp)⟩⟩
 ·rintro⟨h0,⟨h1,h2⟩,h3,⟨h4,h5⟩⟩
  refine⟨by rw[hl];simp,fun i hi=>?_⟩
  rcases (by simp at hi;omega:i=0∨i=1∨i=2∨i=3∨i=4∨i=5)with rfl | rfl | rfl | rfl | rfl | rfl
  ·rw[show([c,100,100,58,100,100]:B8).getD 0 0=c from rfl,if_neg hc];exact h0
  ·exact h1
  ·exact h2
  ·exact h3
  ·exact h4
  ·exact h5
theorem EQ {l:B8} (hl:l.length<=18) (hd:∀c,c∈l->AL c) {N:Nat} (hN:N=BJ l) {st:St} {K:Int->St->Prop} (hk:K (N:Nat) st):CallT PR Ao [.str l] [.one (.int .i64)] st K:=by
 subst hN
 refine Ih l st K ⟨fun n i l' st'=>l=l'/\st=st'/\∃k:Nat,i=k/\k<=l.length/\n=(BJ (l.take k):Nat),fun _ i _ _=>(l.length-i).toNat,⟨rfl,rfl,0,rfl,Nat.zero_le _,rfl⟩,?_⟩
 rintro _ _ _ _ ⟨rfl,rfl,k,rfl,hkl,rfl⟩
 rw[Int.toNat_natCast]
 refine Aa (fun g=>⟨⟨by omega,g⟩,?_⟩) fun g=>?_
 ·have hk':k<l.length:=by omega
  have hv:=It hd hl k hk'
  have hs:=HK hk'
  obtain⟨c1,c2⟩:=hd _ (FG hk')
  rw[EN _ (by omega) (by omega),Ad (_*10) (by omega) (by omega),Ad (((l.getD k 0).toNat:Int)-48) (by omega) (by omega),Ad (_+_) (by omega) (by omega),Ad _ (by omega) (by omega)]
  exact⟨⟨rfl,rfl,k+1,by omega,by omega,by rw[hs];omega⟩,by dsimp only;omega⟩
 ·have:k=l.length:=by omega
  subst this
  rw[List.take_length];exact hk
theorem La {s:B8} {k m:Nat} (hm:k+2=m) (h:dd s k):((s.take m).drop k).length<=18/\(∀c,c∈(s.take m).drop k->AL c)/\d2 s k=BJ ((s.take m).drop k):=by
 have e:(s.take m).drop k=(s.drop k).take 2:=by rw[List.drop_take];congr 1;omega
 have f:KL 2 (s.drop k):=(numF2 _).2 ((VJ s k 0).2 h)
 rw[e]
 refine⟨by rw[List.length_take];omega,fun c hc=>?_,by rw[val2 f,VQ];rfl⟩
 obtain⟨i,hi⟩:=List.getElem?_of_mem hc
 have hl:=(List.getElem?_eq_some_iff.1 hi).1
 rw[List.length_take]at hl
 rw[List.getElem?_take,if_pos (by omega)]at hi
 have:=f.2 i (by omega)
 rwa [List.getD,hi]at this
theorem MG {s:B8} {k:Nat} (h:dd s k):d2 s k<100:=by
 obtain⟨⟨h1,h2⟩,h3,h4⟩:=h
 unfold d2 dv
 omega
def KCl (K:Int->B8->Bool->Bool->St->Prop) (r:Option (Nat×Nat×Nat×Nat×B8)) (st:St):Prop:=match r with
 | none=>K 0 [] false false st
 | some (h,m,sc,f,r)=>K (Fc h m sc f:Nat) r true (decide (okC h m sc)) st
theorem Yc {f:B8} (hd:∀c,c∈f->AL c) (hl:f.length<=9):Mx f<1000000000:=by
 unfold Mx
 have:=Kj (f++List.replicate (9-f.length) 48) fun c hc=>by
  rcases List.mem_append.1 hc with hc | hc
  ·exact hd c hc
  ·rw[List.eq_of_mem_replicate hc];decide
 rw[List.length_append,List.length_replicate,show f.length+(9-f.length)=9 by omega]at this
 exact this
theorem Xq {s:B8} (hl:s.length<=1000000) {st:St} {K:Int->B8->Bool->Bool->St->Prop} (hk:KCl K (GS s) st):CallT PR AQ [.str s] [.one (.int .i64),.one .str,.one .bool,.one .bool] st K:=by
 refine GY s st K (L5 (by omega) ?_)
 show BIf (!decide (HV [100,100,58,100,100,58,100,100] s)) _ _
 rw[decide_eq_decide.2 (like_C s)]
 unfold GS at hk
 by_cases fc:KY s
 ·rw[if_pos fc]at hk
  rw[decide_eq_true fc]
  refine Aq (fun h=>by cases h) fun _=>?_
  have hlen:=PG fc.2.2.2.2.2
  obtain⟨n1,n2,n3⟩:=La (k:=0) (m:=2) rfl fc.1
  obtain⟨m1,m2,m3⟩:=La (k:=3) (m:=5) rfl fc.2.2.1
  obtain⟨p1,p2,p3⟩:=La (k:=6) (m:=8) rfl fc.2.2.2.2
  rw[List.drop_zero]at n1 n2 n3
  have a1:=MG fc.1
  have a2:=MG fc.2.2.1
  have a3:=MG fc.2.2.2.2
  refine⟨⟨by omega,by omega⟩,⟨by omega,by omega,by omega⟩,⟨by omega,by omega,by omega⟩,EQ n1 n2 n3 (EQ m1 m2 m3 (EQ p1 p2 p3 ⟨⟨by omega,by omega⟩,?_⟩))⟩
  rw[show Int.toNat (8:Int)=8 from rfl,show Int.toNat (0:Int)=0 from rfl]
  generalize d2 s 0=h at*
  generalize d2 s 3=m at*
  generalize d2 s 6=sc at*
  clear n1 n2 n3 m1 m2 m3 p1 p2 p3
  --what is returned
  have ret:∀(f:Nat) (r:B8),f<1000000000->K (Fc h m sc f:Nat) r true (decide (okC h m sc)) st->BIf (decide (((h:Nat):Int)<=23)) (BIf (decide (((m:Nat):Int)<=59)) (K (i64.wrap ((i64.wrap ((i64.wrap ((i64.wrap ((i64.wrap ((i64.wrap (((h:Nat):Int)*60))+((m:Nat):Int)))*60))+((sc:Nat):Int)))*1000000000))+((f:Nat):Int))) r true (decide (((sc:Nat):Int)<=59)) st) (K (i64.wrap ((i64.wrap ((i64.wrap ((i64.wrap ((i64.wrap ((i64.wrap (((h:Nat):Int)*60))+((m:Nat):Int)))*60))+((sc:Nat):Int)))*1000000000))+((f:Nat):Int))) r true false st)) (K (i64.wrap ((i64.wrap ((i64.wrap ((i64.wrap ((i64.wrap ((i64.wrap (((h:Nat):Int)*60))+((m:Nat):Int)))*60))+((sc:Nat):Int)))*1000000000))+((f:Nat):Int))) r true false st):=fun f r hf hk'=>by
   rw[Ut a1 a2 a3 hf]
   refine Aa (fun g1=>Aa (fun g2=>?_) fun g2=>?_) fun g1=>?_
   ·have:decide (okC h m sc)=decide (((sc:Nat):Int)<=59):=decide_eq_decide.2 ⟨fun k=>by have:=k.2.2;omega,fun k=>⟨by omega,by omega,by omega⟩⟩
    rw[this]at hk';exact hk'
   ·rw[decide_eq_false fun k:okC h m sc=>by have:=k.2.1;omega]at hk';exact hk'
   ·rw[decide_eq_false fun k:okC h m sc=>by have:=k.1;omega]at hk';exact hk'
  have h8:(s.drop 8).getD 0 0=b0 s 8:=by rw[show(s.drop 8).getD 0 0=b0 (s.drop 8) 0 from rfl,Ec]
  rw[h8]
  have plain:b0 s 8≠46->K (Fc h m sc 0:Nat) (s.drop 8) true (decide (okC h m sc)) st:=fun h=>by rw[if_neg h]at hk;exact hk
  refine Aa (fun g=>⟨⟨by omega,g⟩,Aa (fun g1=>?_) fun g1=>ret 0 _ (by decide) (plain fun e=>g1 ((u8i (k:=46)).2 e))⟩) fun g=>ret 0 _ (by decide) (plain fun e=>?_)
  ·have g46:=(u8i (k:=46)).1 g1
   rw[if_pos g46]at hk
   have hd9:s.drop 9=(s.drop 8).drop 1:=by rw[List.drop_drop]
   rw[hd9]at hk
   have hl8:(s.drop 8).length<=1000000:=by rw[List.length_drop];omega
   have hfin:∀n,s.drop (9+n)=(s.drop 8).drop (1+n):=fun n=>by rw[List.drop_drop];congr 1;omega
   rw[hfin]at hk
   have hpos:0<(s.drop 8).length:=by omega
   generalize s.drop 8=t at*
   clear hfin hd9
   have hrl:=EL (t.drop 1)
   rw[List.length_drop]at hrl
   have hrd:=GO (t.drop 1)
   refine⟨fun n t' h' m' sc' st'=>t=t'/\((h:Nat):Int)=h'/\((m:Nat):Int)=m'/\((sc:Nat):Int)=sc'/\st=st'/\∃j:Nat,n=((1+j:Nat):Int)/\1+j<=t.length/\∀i,i<j->AL ((t.drop 1).getD i 0),fun n _ _ _ _ _=>(t.length-n).toNat,⟨rfl,rfl,rfl,rfl,rfl,0,rfl,by omega,fun j h=>absurd h (Nat.not_lt_zero _)⟩,?_⟩
   rintro _ _ _ _ _ _ ⟨rfl,rfl,rfl,rfl,rfl,j,rfl,hj,hd⟩
   rw[Int.toNat_natCast]
   have hget:(t.drop 1).getD j 0=t.getD (1+j) 0:=Ec t 1 j
   have run:(1+j=t.length∨¬AL (t.getD (1+j) 0))->(AA (t.drop 1)).length=j:=fun hs=>Kb (t.drop 1) j (by rw[List.length_drop];omega) hd (by
    rcases hs with hs | hs
    ·left;rw[List.length_drop];omega
    ·right;rw[hget];exact hs)
   have tail:(1+j=t.length∨¬AL (t.getD (1+j) 0))->BIf (decide (((1+j:Nat):Int)<2)) (K 0 [] false false st) (BIf (decide (10<((1+j:Nat):Int))) (K 0 [] false false st) ((0<=(1:Int)/\(1:Int)<=((1+j:Nat):Int)/\((1+j:Nat):Int)<=((t.length:Nat):Int))/\((List.drop (Int.toNat (1:Int)) (List.take (1+j) t)).length+Fz.length<=9223372036854775807/\((0<=(9:Int)/\(9:Int)<=(((List.drop (Int.toNat (1:Int)) (List.take (1+j) t)++Fz).length:Nat):Int))/\
     CallT PR Ao [.str (List.take (Int.toNat (9:Int)) (List.drop (Int.toNat (1:Int)) (List.take (1+j) t)++Fz))] [.one (.int .i64)] st fun n4 st6=>((0<=((1+j:Nat):Int)/\((1+j:Nat):Int)<=((t.length:Nat):Int))/\BIf (decide (((h:Nat):Int)<=23)) (BIf (decide (((m:Nat):Int)<=59)) (K (i64.wrap ((i64.wrap ((i64.wrap ((i64.wrap ((i64.wrap ((i64.wrap (((h:Nat):Int)*60))+((m:Nat):Int)))*60))+((sc:Nat):Int)))*1000000000))+n4)) (List.drop (1+j) t) true (decide (((sc:Nat):Int)<=59)) st6) (K (i64.wrap ((i64.wrap ((i64.wrap ((i64.wrap ((i64.wrap ((i64.wrap (((h:Nat):Int)*60))+((m:Nat):Int)))*60))+((sc:Nat):Int)))*1000000000))+n4)) (List.drop (1+j) t) true false st6)) (K (i64.wrap ((i64.wrap ((i64.wrap ((i64.wrap ((i64.wrap ((i64.wrap (((h:Nat):Int)*60))+((m:Nat):Int)))*60))+((sc:Nat):Int)))*1000000000))+n4)) (List.drop (1+j) t) true false st6)))))):=fun hs=>by
    have hr:=run hs
    have htk:List.drop (Int.toNat (1:Int)) (List.take (1+j) t)=AA (t.drop 1):=by
     show(t.take (1+j)).drop 1=_
     rw[List.drop_take,Nat.add_sub_cancel_left,<-hr,EC]
    rw[htk]
    rw[hr]at hk
    generalize AA (t.drop 1)=f at*
    refine Aa (fun g2=>?_) fun g2=>Aa (fun g3=>?_) fun g3=>⟨⟨by omega,by omega,by omega⟩,?_,⟨by omega,?_⟩,?_⟩
    ·rw[if_pos (.inl (List.length_eq_zero_iff.1 (by omega)))]at hk;exact hk
    ·rw[if_pos (.inr (by omega))]at hk;exact hk
    ·show f.length+9<=_;omega
    ·rw[List.length_append];show(9:Int)<=((f.length+9:Nat):Int);omega
    ·rw[if_neg (by rintro(e | e);rw[e]at hr;simp at hr;omega;omega)]at hk
     have hlt:=Yc hrd (by omega)
     have he:(f++Fz).take 9=f++List.replicate (9-f.length) 48:=by
      rw[List.take_append,List.take_of_length_le (by omega)]
      congr 1
      show(List.replicate 9 (48:UInt8)).take _=_
      rw[List.take_replicate];congr 1;omega
     have hN:Mx f=BJ ((f++Fz).take (Int.toNat (9:Int))):=by
      show _=BJ ((f++Fz).take 9)
      rw[he];rfl
     refine EQ (N:=Mx f) ?_ ?_ hN ⟨⟨by omega,by omega⟩,ret _ _ hlt hk⟩
     ·show((f++Fz).take 9).length<=18;rw[List.length_take];omega
     ·show ∀c,c∈(f++Fz).take 9->AL c
      rw[he]
      intro c hc
      rcases List.mem_append.1 hc with hc | hc
      ·exact hrd c hc
      ·rw[List.eq_of_mem_replicate hc];decide
   refine Aa (fun g2=>⟨⟨by omega,g2⟩,Aa (fun g3=>⟨⟨by omega,g2⟩,Aa (fun g4=>?_) fun g4=>?_⟩) fun g3=>?_⟩) fun g2=>?_
   ·rw[Ad _ (by omega) (by omega)]
    refine⟨⟨rfl,rfl,rfl,rfl,rfl,j+1,by omega,by omega,fun i hi=>?_⟩,by dsimp only;omega⟩
    by_cases hij:i=j
    ·subst hij;rw[hget];exact⟨by omega,by omega⟩
    ·exact hd i (by omega)
   ·exact tail (.inr fun h=>g4 (by have:=h.2;omega))
   ·exact tail (.inr fun h=>g3 (by have:=h.1;omega))
   ·exact tail (.inl (by omega))
  ·have:=Ou (by decide) e
   rw[List.length_drop]at g
   omega
 ·rw[if_neg fc]at hk
  rw[decide_eq_false fc]
  exact Aq (fun _=>hk) fun h=>by cases h
def KOf (K:Int->Bool->Bool->St->Prop) (r:Option (Bool×Nat×Nat)) (st:St):Prop:=match r with
 | none=>K 0 false false st
 | some (ls,oh,om)=>K (if ls then-((oh*60+om:Nat):Int)else((oh*60+om:Nat):Int)) true (decide (oh<=23/\om<=59)) st
theorem rto_ok {s:B8} (hl:s.length<=1000000) {st:St} {K:Int->Bool->Bool->St->Prop} (hk:KOf K (Mf s) st):CallT PR AV [.str s] [.one (.int .i64),.one .bool,.one .bool] st K:=by
 unfold Mf at hk
 refine Gr s st K (Aa (fun g=>?_) fun g=>Aa (fun g2=>?_) fun g2=>Aa (fun g3=>?_) fun g3=>?_)
 ·rw[if_pos (.inl g)]at hk;exact hk
 ·rw[if_pos (.inr g2)]at hk;exact hk
 ·have nz:¬(s=[90]∨s=[122]):=by rintro(h | h);exact g h;exact g2 h
  rw[if_neg nz,if_neg fun h=>by have:=h.1;omega]at hk;exact hk
 ·have nz:¬(s=[90]∨s=[122]):=by rintro(h | h);exact g h;exact g2 h
  rw[if_neg nz]at hk
  have h6:s.length=6:=by omega
  have tail:∀c:UInt8,b0 s 0=c->(c=43∨c=45)->dd s 1->b0 s 3=58->dd s 4->((0<=(1:Int)/\(1:Int)<=3/\(3:Int)<=((s.length:Nat):Int))/\((0<=(4:Int)/\(4:Int)<=6/\(6:Int)<=((s.length:Nat):Int))/\
    CallT PR Ao [.str (List.drop (Int.toNat (1:Int)) (List.take (Int.toNat (3:Int)) s))] [.one (.int .i64)] st fun n1 st3=>CallT PR Ao [.str (List.drop (Int.toNat (4:Int)) (List.take (Int.toNat (6:Int)) s))] [.one (.int .i64)] st3 fun n2 st4=>((0<=(0:Int)/\(0:Int)<((s.length:Nat):Int))/\
     BIf (decide (((List.getD s (Int.toNat (0:Int)) 0).toNat:Int)=45)) (BIf (decide (n1<=23)) (K (i64.wrap (0-i64.wrap (i64.wrap (n1*60)+n2))) true (decide (n2<=59)) st4) (K (i64.wrap (0-i64.wrap (i64.wrap (n1*60)+n2))) true false st4)) (BIf (decide (n1<=23)) (K (i64.wrap (i64.wrap (n1*60)+n2)) true (decide (n2<=59)) st4) (K (i64.wrap (i64.wrap (n1*60)+n2)) true false st4))))):=fun c h0 hc f1 f3 f4=>by
   obtain⟨n1,n2,n3⟩:=La (k:=1) (m:=3) rfl f1
   obtain⟨m1,m2,m3⟩:=La (k:=4) (m:=6) rfl f4
   have a1:=MG f1
   have a2:=MG f4
   rw[if_pos ⟨h6,(by rcases hc with rfl | rfl;exact .inl h0;exact .inr h0),f1,f3,f4⟩]at hk
   refine⟨⟨by omega,by omega,by omega⟩,⟨by omega,by omega,by omega⟩,EQ n1 n2 n3 (EQ m1 m2 m3 ⟨⟨by omega,by omega⟩,?_⟩)⟩
   generalize d2 s 1=oh at*
   generalize d2 s 4=om at*
   have hw:i64.wrap (i64.wrap (((oh:Nat):Int)*60)+((om:Nat):Int))=((oh*60+om:Nat):Int):=XI a1 a2
   rw[hw]
   change K (if decide (b0 s 0=45)=true then-((oh*60+om:Nat):Int)else((oh*60+om:Nat):Int)) true (decide (oh<=23/\om<=59)) st at hk
   have hin:∀z:Int,K z true (decide (oh<=23/\om<=59)) st->BIf (decide (((oh:Nat):Int)<=23)) (K z true (decide (((om:Nat):Int)<=59)) st) (K z true false st):=fun z hz=>Aa (fun g=>by
    rw[decide_eq_decide.2 (show(oh<=23/\om<=59)↔((om:Nat):Int)<=59 from⟨fun h=>by omega,fun h=>⟨by omega,by omega⟩⟩)]at hz;exact hz) fun g=>by
    rw[decide_eq_false fun h:oh<=23/\om<=59=>by omega]at hz;exact hz
   refine Aa (fun g=>hin _ ?_) fun g=>hin _ ?_
   ·have e:b0 s 0=45:=(u8i (k:=45)).1 g
    rw[if_pos (by simpa using e)]at hk
    rw[Ad _ (by omega) (by omega),show(0:Int)-((oh*60+om:Nat):Int)= -((oh*60+om:Nat):Int) by omega];exact hk
   ·have e:¬b0 s 0=45:=fun e=>g ((u8i (k:=45)).2 e)
    rw[if_neg (by simpa using e)]at hk;exact hk
  have L1:=XV s 43 (by decide) h6
  have L2:=XV s 45 (by decide) h6
  refine L5 (by omega) (Aq (fun b1=>L5 (by omega) (Aq (fun b2=>?_) fun b2=>?_)) fun b1=>?_)
  ·have x1:¬HV [43,100,100,58,100,100] s:=by have h:=b1;simp at h;exact h
   have x2:¬HV [45,100,100,58,100,100] s:=by have h:=b2;simp at h;exact h
   rw[if_neg]at hk
   ·exact hk
   ·rintro⟨_,h | h,h2,h3,h4⟩
    ·exact x1 (L1.2 ⟨h,h2,h3,h4⟩)
    ·exact x2 (L2.2 ⟨h,h2,h3,h4⟩)
  ·have x2:HV [45,100,100,58,100,100] s:=by have h:=b2;simp at h;exact h
   obtain⟨y1,y2,y3,y4⟩:=L2.1 x2
   exact tail 45 y1 (.inr rfl) y2 y3 y4
  ·have x1:HV [43,100,100,58,100,100] s:=by have h:=b1;simp at h;exact h
   obtain⟨y1,y2,y3,y4⟩:=L1.1 x1
   exact tail 43 y1 (.inl rfl) y2 y3 y4
theorem Uj {y:Nat} (h1:1<=y) (h2:y<=9999) {st:St} {K:Int->St->Prop} (hk:K (yrS y:Nat) st):CallT PR De [.int .i64 (y:Nat)] [.one (.int .i64)] st K:=by
 refine Ij _ st K ⟨fun n i y' st'=>((y:Nat):Int)=y'/\st=st'/\∃j:Nat,i=j/\1<=j/\j<=y/\n=(yrS j:Nat),fun _ i _ _=>(y-i).toNat,⟨rfl,rfl,1,rfl,by omega,by omega,rfl⟩,?_⟩
 rintro _ _ _ _ ⟨rfl,rfl,j,rfl,hj1,hj2,rfl⟩
 have hy:yrS j<=4000000:=by unfold yrS;omega
 refine Aa (fun g=>Lg hj1 (by omega) ?_) fun g=>?_
 ·have:=Ko j 12
  have:=ES j 12
  rw[Ad _ (by omega) (by omega),Ad _ (by omega) (by omega)]
  exact⟨⟨rfl,rfl,j+1,by omega,by omega,by omega,by rw[HB hj1];omega⟩,by dsimp only;omega⟩
 ·have:j=y:=by omega
  subst this;exact hk
theorem rDay_ok {y m d:Nat} (hy:y<=100000) (hm:m<=1000) (hd:d<=1000) {st:St} {K:Int->Int->St->Prop} (hk:K (if okD y m d then(Ju y m d:Nat)else 0) (if okD y m d then 0 else 2) st):
  CallT PR Ej [.int .i64 (y:Nat),.int .i64 (m:Nat),.int .i64 (d:Nat)] [.one (.int .i64),.one (.int .i64)] st K:=by
 refine KI _ _ _ st K (Aa (fun g=>?_) fun g=>HQ (by omega) (Aa (fun g2=>?_) fun g2=>?_))
 ·have hn:¬okD y m d:=fun h=>by have:=h.2.2.2.2.1;omega
  rw[if_neg hn,if_neg hn]at hk;exact hk
 ·have hn:¬okD y m d:=fun h=>by
   obtain⟨a1,a2,a3,a4,a5,a6⟩:=h
   rw[ER a1 a2 a3 a4]at g2
   omega
  rw[if_neg hn,if_neg hn]at hk;exact hk
 ·have hr:1<=y/\y<=9999/\1<=m/\m<=12:=by
   by_cases h:1<=y/\y<=9999/\1<=m/\m<=12
   ·exact h
   ·rw[show Uu y m=0 from if_neg h]at g2
    omega
  obtain⟨a1,a2,a3,a4⟩:=hr
  rw[ER a1 a2 a3 a4]at g2
  have ok:okD y m d:=⟨a1,a2,a3,a4,by omega,by omega⟩
  rw[if_pos ok,if_pos ok]at hk
  have hyr:yrS y<=4000000:=by unfold yrS;omega
  refine Uj a1 a2 ⟨fun n i y' m' d' st'=>((y:Nat):Int)=y'/\((m:Nat):Int)=m'/\((d:Nat):Int)=d'/\st=st'/\∃j:Nat,i=j/\1<=j/\j<=m/\n=((yrS y+D8 y j:Nat):Int),fun _ i _ _ _ _=>(m-i).toNat,⟨rfl,rfl,rfl,rfl,1,rfl,by omega,by omega,rfl⟩,?_⟩
  rintro _ _ _ _ _ _ ⟨rfl,rfl,rfl,rfl,j,rfl,hj1,hj2,rfl⟩
  have hms:=Ko y j
  refine Aa (fun g3=>HQ (by omega) ?_) fun g3=>?_
  ·have hmd:=ES y j
   rw[ER a1 a2 hj1 (by omega),Ad _ (by omega) (by omega),Ad _ (by omega) (by omega)]
   exact⟨⟨rfl,rfl,rfl,rfl,j+1,by omega,by omega,by omega,by rw[CR y hj1];omega⟩,by dsimp only;omega⟩
  ·have:j=m:=by omega
   subst this
   rw[Ad (((yrS y+D8 y j:Nat):Int)+((d:Nat):Int)) (by omega) (by omega),Ad _ (by omega) (by omega)]
   unfold Ju at hk
   rw[show((yrS y+D8 y j:Nat):Int)+((d:Nat):Int)-1=((yrS y+D8 y j+(d-1):Nat):Int) by omega]
   exact hk
theorem four_at {s:B8} (h1:dd s 0) (h2:dd s 2):(s.take 4).length<=18/\(∀c,c∈s.take 4->AL c)/\d2 s 0*100+d2 s 2=BJ (s.take 4):=by
 have f:KL 4 s:=(S5 _).2 ⟨h1,h2⟩
 refine⟨by rw[List.length_take];omega,fun c hc=>?_,(val4 f).symm⟩
 obtain⟨i,hi⟩:=List.getElem?_of_mem hc
 have hl:=(List.getElem?_eq_some_iff.1 hi).1
 rw[List.length_take]at hl
 rw[List.getElem?_take,if_pos (by omega)]at hi
 have:=f.2 i (by omega)
 rwa [List.getD,hi]at this
theorem rtP_ok {s:B8} (hl:s.length<=1000000) {st:St} {K:Int->Int->Int->Int->Int->St->Prop} (hk:KT K (tmP s) st):CallT PR Dw [.str s] [.agg [.int .i64,.int .i64,.int .i64,.int .i64],.one (.int .i64)] st K:=by
 refine Jj s st K (L5 (by omega) ?_)
 show BIf (!decide (HV [100,100,100,100,45,100,100,45,100,100] s)) _ _
 rw[decide_eq_decide.2 (like_D s)]
 unfold KT tmP at hk
 by_cases fd:Et s
 ·rw[if_pos fd]at hk
  rw[decide_eq_true fd]
  refine Aq (fun h=>by cases h) fun _=>?_
  have hlen:=PG fd.2.2.2.2.2.2
  obtain⟨n1,n2,n3⟩:=four_at fd.1 fd.2.1
  obtain⟨m1,m2,m3⟩:=La (k:=5) (m:=7) rfl fd.2.2.2.1
  obtain⟨p1,p2,p3⟩:=La (k:=8) (m:=10) rfl fd.2.2.2.2.2
  have a0:=MG fd.1
  have a1:=MG fd.2.1
  have a2:=MG fd.2.2.2.1
  have a3:=MG fd.2.2.2.2.2
  refine⟨⟨by omega,by omega⟩,⟨by omega,by omega,by omega⟩,⟨by omega,by omega,by omega⟩,EQ n1 n2 n3 (EQ m1 m2 m3 (EQ p1 p2 p3 (rDay_ok (by omega) (by omega) (by omega) ⟨⟨by omega,by omega⟩,?_⟩)))⟩
  rw[show Int.toNat (10:Int)=10 from rfl,show Int.toNat (0:Int)=0 from rfl]
  generalize d2 s 0*100+d2 s 2=y at*
  generalize d2 s 5=mo at*
  generalize d2 s 8=d at*
  clear n1 n2 n3 m1 m2 m3 p1 p2 p3
  have ht:(s.drop 10).length<=1000000:=by rw[List.length_drop];omega
  generalize s.drop 10=t at*
  unfold tmD at hk
  generalize hn5:(if okD y mo d then((Ju y mo d:Nat):Int)else 0)=n5
  generalize hn6:(if okD y mo d then(0:Int)else 2)=n6
  have ok:okD y mo d->n5=(Ju y mo d:Nat)/\n6=0:=fun h=>by rw[if_pos h]at hn5 hn6;exact⟨hn5.symm,hn6.symm⟩
  have nok:¬okD y mo d->n6=2:=fun h=>by rw[if_neg h]at hn6;exact hn6.symm
  have way:t≠ []->(b0 t 0=84∨b0 t 0=116∨b0 t 0=32)->((0<=(1:Int)/\(1:Int)<=((t.length:Nat):Int))/\CallT PR AQ [.str (List.drop (Int.toNat (1:Int)) t)] [.one (.int .i64),.one .str,.one .bool,.one .bool] st fun n7 s2 b4 b5 st7=>BIf (!b4) (K 0 0 0 0 3 st7) (BIf (decide (s2≠([]:B8))) (CallT PR AV [.str s2] [.one (.int .i64),.one .bool,.one .bool] st7 fun n8 b6 b7 st8=>BIf (!b6) (K 0 0 0 0 3 st8) (BIf b5 (BIf (decide (n6≠0)) (K 0 0 0 0 2 st8) (BIf (!b7) (K 0 0 0 0 2 st8) (K 4 n5 n7 n8 0 st8))) (BIf (decide (n6≠0)) (K 0 0 0 0 2 st8) (K 0 0 0 0 2 st8)))) (BIf (decide (n6≠0)) (K 0 0 0 0 2 st7) (BIf (!b5) (K 0 0 0 0 2 st7) (K 3 n5 n7 0 0 st7))))):=fun hne fo=>by
   rw[if_neg hne,if_pos fo]at hk
   have hpos:=List.length_pos_iff.2 hne
   refine⟨⟨by omega,by omega⟩,Xq (by rw[List.length_drop];omega) ?_⟩
   show KCl _ (GS (t.drop 1)) st
   have hcl:∀h m sc f r',GS (t.drop 1)=some (h,m,sc,f,r')->r'.length<=1000000:=fun h m sc f r' he=>by
    unfold GS at he
    split at he
    ·split at he
     ·split at he
      ·cases he
      ·simp only[Option.some.injEq,Prod.mk.injEq]at he
       rw[<-he.2.2.2.2];simp only[List.length_drop];omega
     ·simp only[Option.some.injEq,Prod.mk.injEq]at he
      rw[<-he.2.2.2.2];simp only[List.length_drop];omega
    ·cases he
   cases hc:GS (t.drop 1)with
   | none=>
    rw[hc]at hk
    exact hk
   | some p=>
    obtain⟨h,m,sc,f,r'⟩:=p
    have hr':=hcl _ _ _ _ _ hc
    rw[hc]at hk
    dsimp only at hk
    unfold tmO at hk
    refine Aa (fun g=>rto_ok hr' ?_) fun g=>?_
    ·rw[if_neg g]at hk
     cases ho:Mf r' with
     | none=>
      rw[ho]at hk
      exact hk
     | some q=>
      obtain⟨ls,oh,om⟩:=q
      rw[ho]at hk
      dsimp only at hk
      refine Aa (fun gc=>Aa (fun g6=>?_) fun g6=>Aq (fun g7=>?_) fun g7=>?_) fun gc=>?_
      ·rw[if_neg fun k=>g6 (ok k.1).2]at hk;exact hk
      ·have:¬(oh<=23/\om<=59):=by have h:=g7;simp at h;omega
       rw[if_neg fun k=>this k.2.2]at hk;exact hk
      ·have hin:oh<=23/\om<=59:=by have h:=g7;simp at h;exact h
       have hD:okD y mo d:=Decidable.byContradiction fun h=>by have:=nok h;omega
       rw[if_pos ⟨hD,gc,hin⟩]at hk
       rw[(ok hD).1];exact hk
      ·rw[if_neg fun k=>gc k.2.1]at hk
       exact Aa (fun _=>hk) fun _=>hk
    ·have hr:r'=[]:=Decidable.not_not.1 g
     rw[if_pos hr]at hk
     subst hr
     refine Aa (fun g6=>?_) fun g6=>Aq (fun g7=>?_) fun g7=>?_
     ·rw[if_neg fun k=>g6 (ok k.1).2]at hk;exact hk
     ·have:¬okC h m sc:=by have h:=g7;simp at h;exact h
      rw[if_neg fun k=>this k.2]at hk;exact hk
     ·have hin:okC h m sc:=by have h:=g7;simp at h;exact h
      have hD:okD y mo d:=Decidable.byContradiction fun h=>by have:=nok h;omega
      rw[if_pos ⟨hD,hin⟩]at hk
      rw[(ok hD).1];exact hk
  refine Aa (fun g=>?_) fun g=>?_
  ·rw[if_pos g]at hk
   refine Aa (fun g6=>?_) fun g6=>?_
   ·have hn:¬okD y mo d:=fun h=>g6 (ok h).2
    rw[if_neg hn]at hk
    rw[nok hn];exact hk
   ·have hD:okD y mo d:=Decidable.byContradiction fun h=>by have:=nok h;omega
    rw[if_pos hD]at hk
    rw[(ok hD).1];exact hk
  ·have hpos:=List.length_pos_iff.2 g
   refine⟨⟨by omega,by omega⟩,Aa (fun g1=>⟨⟨by omega,by omega⟩,Aa (fun g2=>⟨⟨by omega,by omega⟩,Aa (fun g3=>?_) fun g3=>way g (.inr (.inr ((u8i (k:=32)).1 (Decidable.not_not.1 g3))))⟩) fun g2=>way g (.inr (.inl ((u8i (k:=116)).1 (Decidable.not_not.1 g2))))⟩) fun g1=>way g (.inl ((u8i (k:=84)).1 (Decidable.not_not.1 g1)))⟩
   rw[if_neg g,if_neg]at hk
   ·exact hk
   ·rintro(h | h | h)
    ·exact g1 ((u8i (k:=84)).2 h)
    ·exact g2 ((u8i (k:=116)).2 h)
    ·exact g3 ((u8i (k:=32)).2 h)
 ·rw[if_neg fd]at hk
  rw[decide_eq_false fd]
  refine Aq (fun _=>Xq hl ?_) fun h=>by cases h
  cases hc:GS s with
  | none=>
   rw[hc]at hk
   exact hk
  | some p=>
   obtain⟨h,m,sc,f,r'⟩:=p
   rw[hc]at hk
   dsimp only at hk
   refine Aa (fun g=>?_) fun g=>Aq (fun g7=>?_) fun g7=>?_
   ·rw[if_neg g]at hk;exact hk
   ·have:¬okC h m sc:=by have h:=g7;simp at h;exact h
    rw[if_pos (Decidable.not_not.1 g),if_neg this]at hk;exact hk
   ·have hin:okC h m sc:=by have h:=g7;simp at h;exact h
    rw[if_pos (Decidable.not_not.1 g),if_pos hin]at hk;exact hk
theorem ST {al:B8} {c:UInt8} {st:St} {K:Int->St->Prop} (hl:(al.length:Int)<=1000000) (hk:K (fnd al c) st):CallT PR CF [.str al,.int .u8 (c.toNat:Int)] [.one (.int .i64)] st K:=by
 refine JI al _ st K ⟨fun i s c' st'=>s=al/\c'=(c.toNat:Int)/\st'=st/\0<=i/\i<=al.length/\∀j:Nat,(j:Int)<i->al.getD j 0≠c,fun i _ _ _=>(al.length-i).toNat,⟨rfl,rfl,rfl,by omega,by omega,fun j h=>absurd h (by omega)⟩,?_⟩
 rintro i _ _ _ ⟨rfl,rfl,rfl,h1,h2,h3⟩
 refine Aa (fun h4=>⟨⟨h1,h4⟩,Aa (fun h5=>?_) fun h5=>?_⟩) fun h4=>?_
 ·rw[ML]at h5
  have:=UI _ c i.toNat (by omega) h5 (fun j hj=>h3 j (by omega))
  rw[this]at hk
  rwa [show((i.toNat:Nat):Int)=i by omega]at hk
 ·rw[ML]at h5
  rw[Ad (i+1) (by omega) (by omega)]
  refine⟨⟨rfl,rfl,rfl,by omega,by omega,fun j hj=>?_⟩,by dsimp only;omega⟩
  by_cases hji:(j:Int)=i
  ·have:j=i.toNat:=by omega
   subst this;exact h5
  ·exact h3 j (by omega)
 ·rw[UH _ c (fun j hj=>h3 j (by omega))]at hk;exact hk
def Q2 (st:St) (v:TV) (al:B8):Prop:=∃b,v= .func Fp [.box b 0]/\b<st.nb/\st.box b= .cells [.str al]
theorem Q2.ext {st st':St} {v:TV} {al:B8} (h:Q2 st v al) (e:Ah st st'):Q2 st' v al:=by
 obtain⟨b,h1,h2,h3⟩:=h
 exact⟨b,h1,Nat.lt_of_lt_of_le h2 e.nb,by rw[e.box b h2,h3]⟩
theorem Ye {v:TV} {al:B8} {c:UInt8} {st:St} {K:Int->St->Prop} (h:Q2 st v al) (hl:(al.length:Int)<=1000000) (hk:K (fnd al c) st):He PR v [.int .u8 (c.toNat:Int)] [.one (.int .i64)] st K:=by
 obtain⟨b,rfl,hb,hc⟩:=h
 have hld:Af st [] (.t (.box b 0)) 0=some (.str al):=by simp only[Af,hc];rfl
 refine MX _ _ st K (Ac hld ?_)
 refine⟨fun i c' v' n st'=>v'= .box b 0/\n=(al.length:Int)/\c'=(c.toNat:Int)/\st'=st/\0<=i/\i<=al.length/\∀j:Nat,(j:Int)<i->al.getD j 0≠c,fun i _ _ _ _=>(al.length-i).toNat,⟨rfl,rfl,rfl,rfl,by omega,by omega,fun j h=>absurd h (by omega)⟩,?_⟩
 rintro i _ _ _ _ ⟨rfl,rfl,rfl,rfl,h1,h2,h3⟩
 refine Aa (fun h4=>Ac hld ⟨⟨h1,h4⟩,Aa (fun h5=>?_) fun h5=>?_⟩) fun h4=>?_
 ·rw[ML]at h5
  have:=UI _ c i.toNat (by omega) h5 (fun j hj=>h3 j (by omega))
  rw[this]at hk
  rwa [show((i.toNat:Nat):Int)=i by omega]at hk
 ·rw[ML]at h5
  rw[Ad (i+1) (by omega) (by omega)]
  refine⟨⟨rfl,rfl,rfl,rfl,by omega,by omega,fun j hj=>?_⟩,by dsimp only;omega⟩
  by_cases hji:(j:Int)=i
  ·have:j=i.toNat:=by omega
   subst this;exact h5
  ·exact h3 j (by omega)
 ·rw[UH _ c (fun j hj=>h3 j (by omega))]at hk;exact hk
theorem Wu {al:B8} {st:St} {K:TV->St->Prop} (hk:∀v st',Ah st st'->Q2 st' v al->K v st'):CallT PR GI [.str al] [.one (.tv)] st K:=by
 refine OI al st K (hk _ _ ((Ah.refl st).push _ _) ⟨st.nb,rfl,by simp[St.push],by simp[St.push]⟩)
theorem pow6:(2:Int)^(min (Int.toNat (6:Int)) (IntKind.bits .i64))=64:=by decide
def Yt (k_3 equals_2 word_1:Int) (pad_3:Bool) (out_1:TV) (st5:St) (K:TV->Int->St->Prop):Prop:=
 (BIf (decide ((Int.tmod k_3 (4:Int))=(0:Int))) (BIf (decide (equals_2=(0:Int))) (K (out_1) ((0:Int)) st5) (BIf (decide ((0:Int)<equals_2)) (BIf (decide ((Int.tmod k_3 (4:Int))<(2:Int))) (K (.nilSlice) ((3:Int)) st5) (BIf (decide ((i64.wrap ((4:Int)-(Int.tmod k_3 (4:Int))))<equals_2)) (K (.nilSlice) ((3:Int)) st5) (BIf (decide (word_1≠(0:Int))) (K (.nilSlice) ((3:Int)) st5) (BIf (decide ((Int.tmod k_3 (4:Int))=(1:Int))) (K (.nilSlice) ((4:Int)) st5) (BIf (decide (word_1≠(0:Int))) (K (.nilSlice) ((4:Int)) st5) (BIf pad_3 (BIf (decide (equals_2<(i64.wrap ((4:Int)-(Int.tmod k_3 (4:Int)))))) (K (.nilSlice) ((4:Int)) st5) (K (out_1) ((0:Int)) st5)) (K (out_1) ((0:Int)) st5))))))) (BIf (decide ((Int.tmod k_3 (4:Int))=(1:Int))) (K (.nilSlice) ((4:Int)) st5) (BIf (decide (word_1≠(0:Int))) (K (.nilSlice) ((4:Int)) st5) (BIf pad_3 (BIf (decide (equals_2<(i64.wrap ((4:Int)-(Int.tmod k_3 (4:Int)))))) (K (.nilSlice) ((4:Int)) st5) (K (out_1) ((0:Int)) st5)) (K (out_1) ((0:Int)) st5)))))) (BIf (decide ((0:Int)<equals_2)) (BIf (decide ((Int.tmod k_3 (4:Int))<(2:Int))) (K (.nilSlice) ((3:Int)) st5) (BIf (decide ((i64.wrap ((4:Int)-(Int.tmod k_3 (4:Int))))<equals_2)) (K (.nilSlice) ((3:Int)) st5) (BIf (decide (word_1≠(0:Int))) (K (.nilSlice) ((3:Int)) st5) (BIf (decide ((Int.tmod k_3 (4:Int))=(1:Int))) (K (.nilSlice) ((4:Int)) st5) (BIf (decide (word_1≠(0:Int))) (K (.nilSlice) ((4:Int)) st5) (BIf pad_3 (BIf (decide (equals_2<(i64.wrap ((4:Int)-(Int.tmod k_3 (4:Int)))))) (K (.nilSlice) ((4:Int)) st5) (K (out_1) ((0:Int)) st5)) (K (out_1) ((0:Int)) st5))))))) (BIf (decide ((Int.tmod k_3 (4:Int))=(1:Int))) (K (.nilSlice) ((4:Int)) st5) (BIf (decide (word_1≠(0:Int))) (K (.nilSlice) ((4:Int)) st5) (BIf pad_3 (BIf (decide (equals_2<(i64.wrap ((4:Int)-(Int.tmod k_3 (4:Int)))))) (K (.nilSlice) ((4:Int)) st5) (K (out_1) ((0:Int)) st5)) (K (out_1) ((0:Int)) st5))))))
def RN (k_1:Int) (s_1:B8) (pad_1:Bool) (value_1:TV) (st3:St) (K:TV->Int->St->Prop):Prop:=
 (∃(I2:Int->B8->Bool->TV->Int->Int->St->Prop) (M2:Int->B8->Bool->TV->Int->Int->St->Nat),(I2 (k_1) (s_1) (pad_1) (value_1) (k_1) ((i64.wrap (((s_1).length:Int)-k_1))) st3)/\∀(i_1:Int) (s_2:B8) (pad_2:Bool) (value_2:TV) (k_2:Int) (equals_1:Int) (st4:St),I2 i_1 s_2 pad_2 value_2 k_2 equals_1 st4->(BIf (decide (i_1<((s_2).length:Int))) (((0<=i_1/\i_1<((s_2).length:Int))/\BIf (decide (((List.getD s_2 (Int.toNat i_1) 0).toNat:Int)≠(61:Int))) (K (.nilSlice) ((3:Int)) st4) (BIf (!pad_2) (K (.nilSlice) ((3:Int)) st4) ((I2 ((i64.wrap (i_1+(1:Int)))) (s_2) (pad_2) (value_2) (k_2) (equals_1) st4/\M2 ((i64.wrap (i_1+(1:Int)))) (s_2) (pad_2) (value_2) (k_2) (equals_1) st4<M2 i_1 s_2 pad_2 value_2 k_2 equals_1 st4))))) (∃(I3:TV->Int->Int->Int->B8->Bool->TV->Int->Int->Int->St->Prop) (M3:TV->Int->Int->Int->B8->Bool->TV->Int->Int->Int->St->Nat),(I3 (.nilSlice) ((0:Int)) ((0:Int)) ((0:Int)) (s_2) (pad_2) (value_2) (k_2) (equals_1) (k_2) st4)/\∀(out_1:TV) (word_1:Int) (bits_1:Int) (n_1:Int) (s_3:B8) (pad_3:Bool) (value_3:TV) (k_3:Int) (equals_2:Int) (n_2:Int) (st5:St),I3 out_1 word_1 bits_1 n_1 s_3 pad_3 value_3 k_3 equals_2 n_2 st5->(BIf (decide (n_1<n_2)) (((0<=n_1/\n_1<((s_3).length:Int))/\He PR value_3 [(.int .u8 ((List.getD s_3 (Int.toNat n_1) 0).toNat:Int))] [.one (.int .i64)] st5 (fun (n2:Int) (st6:St)=>BIf (decide ((8:Int)<=(i64.wrap (bits_1+(6:Int))))) (need (decide (0<=(i64.wrap ((i64.wrap (bits_1+(6:Int)))-(8:Int))))) (A5 5 1 1 out_1 1 [(.int .u8 (u8.wrap (Int.fdiv (Au .or .i64 (i64.wrap (word_1*2^(min (Int.toNat (6:Int)) (IntKind.bits .i64)))) n2) (2^(min (Int.toNat (i64.wrap ((i64.wrap (bits_1+(6:Int)))-(8:Int)))) (IntKind.bits .i64))))))] st6 (fun (v2:TV) (st7:St)=>need (decide (0<=(i64.wrap ((i64.wrap (bits_1+(6:Int)))-(8:Int))))) ((I3 (v2) ((Au .and .i64 (Au .or .i64 (i64.wrap (word_1*2^(min (Int.toNat (6:Int)) (IntKind.bits .i64)))) n2) (i64.wrap ((i64.wrap ((1:Int)*2^(min (Int.toNat (i64.wrap ((i64.wrap (bits_1+(6:Int)))-(8:Int)))) (IntKind.bits .i64))))-(1:Int))))) ((i64.wrap ((i64.wrap (bits_1+(6:Int)))-(8:Int)))) ((i64.wrap (n_1+(1:Int)))) (s_3) (pad_3) (value_3) (k_3) (equals_2) (n_2) st7/\M3 (v2) ((Au .and .i64 (Au .or .i64 (i64.wrap (word_1*2^(min (Int.toNat (6:Int)) (IntKind.bits .i64)))) n2) (i64.wrap ((i64.wrap ((1:Int)*2^(min (Int.toNat (i64.wrap ((i64.wrap (bits_1+(6:Int)))-(8:Int)))) (IntKind.bits .i64))))-(1:Int))))) ((i64.wrap ((i64.wrap (bits_1+(6:Int)))-(8:Int)))) ((i64.wrap (n_1+(1:Int)))) (s_3) (pad_3) (value_3) (k_3) (equals_2) (n_2) st7<M3 out_1 word_1 bits_1 n_1 s_3 pad_3 value_3 k_3 equals_2 n_2 st5))))) ((I3 (out_1) ((Au .or .i64 (i64.wrap (word_1*2^(min (Int.toNat (6:Int)) (IntKind.bits .i64)))) n2)) ((i64.wrap (bits_1+(6:Int)))) ((i64.wrap (n_1+(1:Int)))) (s_3) (pad_3) (value_3) (k_3) (equals_2) (n_2) st6/\M3 (out_1) ((Au .or .i64 (i64.wrap (word_1*2^(min (Int.toNat (6:Int)) (IntKind.bits .i64)))) n2)) ((i64.wrap (bits_1+(6:Int)))) ((i64.wrap (n_1+(1:Int)))) (s_3) (pad_3) (value_3) (k_3) (equals_2) (n_2) st6<M3 out_1 word_1 bits_1 n_1 s_3 pad_3 value_3 k_3 equals_2 n_2 st5))))) (BIf (decide ((Int.tmod k_3 (4:Int))=(0:Int))) (BIf (decide (equals_2=(0:Int))) (K (out_1) ((0:Int)) st5) (BIf (decide ((0:Int)<equals_2)) (BIf (decide ((Int.tmod k_3 (4:Int))<(2:Int))) (K (.nilSlice) ((3:Int)) st5) (BIf (decide ((i64.wrap ((4:Int)-(Int.tmod k_3 (4:Int))))<equals_2)) (K (.nilSlice) ((3:Int)) st5) (BIf (decide (word_1≠(0:Int))) (K (.nilSlice) ((3:Int)) st5) (BIf (decide ((Int.tmod k_3 (4:Int))=(1:Int))) (K (.nilSlice) ((4:Int)) st5) (BIf (decide (word_1≠(0:Int))) (K (.nilSlice) ((4:Int)) st5) (BIf pad_3 (BIf (decide (equals_2<(i64.wrap ((4:Int)-(Int.tmod k_3 (4:Int)))))) (K (.nilSlice) ((4:Int)) st5) (K (out_1) ((0:Int)) st5)) (K (out_1) ((0:Int)) st5))))))) (BIf (decide ((Int.tmod k_3 (4:Int))=(1:Int))) (K (.nilSlice) ((4:Int)) st5) (BIf (decide (word_1≠(0:Int))) (K (.nilSlice) ((4:Int)) st5) (BIf pad_3 (BIf (decide (equals_2<(i64.wrap ((4:Int)-(Int.tmod k_3 (4:Int)))))) (K (.nilSlice) ((4:Int)) st5) (K (out_1) ((0:Int)) st5)) (K (out_1) ((0:Int)) st5)))))) (BIf (decide ((0:Int)<equals_2)) (BIf (decide ((Int.tmod k_3 (4:Int))<(2:Int))) (K (.nilSlice) ((3:Int)) st5) (BIf (decide ((i64.wrap ((4:Int)-(Int.tmod k_3 (4:Int))))<equals_2)) (K (.nilSlice) ((3:Int)) st5) (BIf (decide (word_1≠(0:Int))) (K (.nilSlice) ((3:Int)) st5) (BIf (decide ((Int.tmod k_3 (4:Int))=(1:Int))) (K (.nilSlice) ((4:Int)) st5) (BIf (decide (word_1≠(0:Int))) (K (.nilSlice) ((4:Int)) st5) (BIf pad_3 (BIf (decide (equals_2<(i64.wrap ((4:Int)-(Int.tmod k_3 (4:Int)))))) (K (.nilSlice) ((4:Int)) st5) (K (out_1) ((0:Int)) st5)) (K (out_1) ((0:Int)) st5))))))) (BIf (decide ((Int.tmod k_3 (4:Int))=(1:Int))) (K (.nilSlice) ((4:Int)) st5) (BIf (decide (word_1≠(0:Int))) (K (.nilSlice) ((4:Int)) st5) (BIf pad_3 (BIf (decide (equals_2<(i64.wrap ((4:Int)-(Int.tmod k_3 (4:Int)))))) (K (.nilSlice) ((4:Int)) st5) (K (out_1) ((0:Int)) st5)) (K (out_1) ((0:Int)) st5))))))))))
theorem end_ok {k eq w:Nat} {pad:Bool} {out:TV} {st:St} {K:TV->Int->St->Prop} {o:B8} (ho:RdB out o) (hk:∀v,RdB v (fin k eq w pad o).1->K v (fin k eq w pad o).2 st):Yt (k:Int) (eq:Int) (w:Int) pad out st K:=by
 have h0:∀v,v=out->fin k eq w pad o=(o,0)->K v 0 st:=fun v e h=>by
  have:=hk v (by rw[h,e];exact ho)
  rwa [h]at this
 have h3:fin k eq w pad o=([],3)->K .nilSlice 3 st:=fun h=>by
  have:=hk .nilSlice (by rw[h];exact .inl ⟨rfl,rfl,rfl⟩)
  rwa [h]at this
 have h4:fin k eq w pad o=([],4)->K .nilSlice 4 st:=fun h=>by
  have:=hk .nilSlice (by rw[h];exact .inl ⟨rfl,rfl,rfl⟩)
  rwa [h]at this
 clear hk
 have htm:Int.tmod (k:Int) 4=((k%4:Nat):Int):=by rw[Int.tmod_eq_emod_of_nonneg (by omega)];rfl
 have hm:k%4<4:=Nat.mod_lt _ (by decide)
 unfold Yt
 rw[htm,Ad (4-((k%4:Nat):Int)) (by omega) (by omega)]
 unfold fin at h0 h3 h4
 generalize k%4=r at*
 cases pad
 all_goals
  simp only[Bool.false_eq_true,false_and,or_false,true_and]at h0 h3 h4
  repeat' (refine Ow.2 ⟨fun a=>?_,fun a=>?_⟩)
  all_goals
   first
    | (exfalso;exact absurd ‹false=true› (by decide))
    | (exfalso;exact absurd ‹true=false› (by decide))
    | (simp only[decide_eq_true_eq,decide_eq_false_iff_not]at*;(first | refine h0 _ rfl ?_ | refine h3 ?_ | refine h4 ?_);(repeat' split)<;>first | rfl | (exfalso;omega))
theorem tail_ok {s:B8} {k:Nat} {pad:Bool} {v:TV} {st:St} {K:TV->Int->St->Prop} (hf:Q2 st v Ek) (hk1:k<=s.length) (hl:(s.length:Int)<=1000000) (hd:∀j,j<k->0<=fnd Ek (s.getD j 0))
  (hk:∀v' st',Ah st st'->RdB v' (Cf s k pad).1->K v' (Cf s k pad).2 st'):RN (k:Int) s pad v st K:=by
 unfold RN
 rw[Ad ((s.length:Int)-k) (by omega) (by omega)]
 refine⟨fun i s' pad' v' k' eq' st'=>s=s'/\pad=pad'/\v=v'/\k'=(k:Int)/\eq'=(s.length:Int)-k/\st=st'/\(k:Int)<=i/\i<=s.length/\∀j:Nat,k<=j->(j:Int)<i->s.getD j 0=61/\pad=true,fun i _ _ _ _ _ _=>(s.length-i).toNat,⟨rfl,rfl,rfl,rfl,rfl,rfl,by omega,by omega,fun j h1 h2=>absurd h2 (by omega)⟩,?_⟩
 rintro i _ _ _ _ _ _ ⟨rfl,rfl,rfl,rfl,rfl,rfl,h1,h2,h3⟩
 have bad:(∃j,k<=j/\j<s.length/\¬(s.getD j 0=61/\pad=true))->K .nilSlice 3 st:=fun ⟨j,j1,j2,j3⟩=>by
  have hn:¬K4 s k pad:=fun h=>j3 (h j j1 j2)
  have:=hk .nilSlice st (Ah.refl _) (by rw[Cf,if_neg hn];exact .inl ⟨rfl,rfl,rfl⟩)
  rwa [Cf,if_neg hn]at this
 refine Aa (fun h4=>⟨⟨by omega,h4⟩,Aa (fun h5=>?_) fun h5=>Ow.2 ⟨fun h6=>?_,fun h6=>?_⟩⟩) fun h4=>?_
 ·refine bad ⟨i.toNat,by omega,by omega,fun h=>h5 ?_⟩
  rw[h.1];rfl
 ·exact bad ⟨i.toNat,by omega,by omega,fun h=>by simp[h.2]at h6⟩
 ·have h5':s.getD i.toNat 0=61:=by
   have:((s.getD i.toNat 0).toNat:Int)=((61:UInt8).toNat:Int):=Decidable.byContradiction h5
   exact(ML _ _).1 this
  have hp:pad=true:=by cases pad<;>simp_all
  rw[Ad (i+1) (by omega) (by omega)]
  refine⟨⟨rfl,rfl,rfl,rfl,rfl,rfl,by omega,by omega,fun j j1 j2=>?_⟩,by dsimp only;omega⟩
  by_cases hji:(j:Int)=i
  ·have:j=i.toNat:=by omega
   subst this;exact⟨h5',hp⟩
  ·exact h3 j j1 (by omega)
 ·have hall:K4 s k pad:=fun j j1 j2=>h3 j j1 (by omega)
  refine⟨fun out w b n s' pad' v' k' eq' n2 st'=>s=s'/\pad=pad'/\v=v'/\k'=(k:Int)/\eq'=(s.length:Int)-k/\n2=(k:Int)/\0<=n/\n<=k/\Ah st st'/\En st.nt st' out (DS s n.toNat).1/\w=((DS s n.toNat).2.1:Nat)/\b=((DS s n.toNat).2.2:Nat),fun _ _ _ n _ _ _ _ _ _ _=>(k-n).toNat,⟨rfl,rfl,rfl,rfl,rfl,rfl,by omega,by omega,Ah.refl _,En.nil _ _,rfl,rfl⟩,?_⟩
  rintro out w b n _ _ _ _ _ _ st' ⟨rfl,rfl,rfl,rfl,rfl,rfl,g1,g2,e,hown,rfl,rfl⟩
  obtain⟨d1,d2,d3⟩:=YW s n.toNat
  refine Aa (fun g3=>⟨⟨g1,by omega⟩,Ye (hf.ext e) (by decide) ?_⟩) fun g3=>?_
  ·have hv0:=hd n.toNat (by omega)
   have hv:=W7 (s.getD n.toNat 0)
   have hvN:fnd Ek (s.getD n.toNat 0)=(v64 (s.getD n.toNat 0):Nat):=by unfold v64;omega
   have hv2:=Of (s.getD n.toNat 0)
   have hw2:(DS s n.toNat).2.1<2^7:=Nat.lt_of_lt_of_le d1 (Nat.pow_le_pow_right (by decide) (by omega))
   have hor:=Nh (DS s n.toNat).2.1 (v64 (s.getD n.toNat 0)) 6 (by omega) (by omega)
   have hstep:DS s (n.toNat+1)=if 8<=(DS s n.toNat).2.2+6 then((DS s n.toNat).1++[UInt8.ofNat (((DS s n.toNat).2.1*64+v64 (s.getD n.toNat 0))/2^((DS s n.toNat).2.2-2))],((DS s n.toNat).2.1*64+v64 (s.getD n.toNat 0))%2^((DS s n.toNat).2.2-2),(DS s n.toNat).2.2-2)
    else((DS s n.toNat).1,(DS s n.toNat).2.1*64+v64 (s.getD n.toNat 0),(DS s n.toNat).2.2+6):=rfl
   have hor':Au .or .i64 (((DS s n.toNat).2.1:Nat)*64:Int) (v64 (s.getD n.toNat 0):Nat)=(((DS s n.toNat).2.1*64+v64 (s.getD n.toNat 0):Nat):Int):=by
    rw[<-show((2:Nat)^6)=64 from rfl,<-hor];congr 1
   rw[Ad (((DS s n.toNat).2.2:Nat)+6:Int) (by omega) (by omega),Ad (n+1) (by omega) (by omega),pow6,Ad (((DS s n.toNat).2.1:Nat)*64:Int) (by omega) (by omega),hvN,hor']
   have hn1:(n+1).toNat=n.toNat+1:=by omega
   generalize hX:(DS s n.toNat).2.1*64+v64 (s.getD n.toNat 0)=X at*
   have hX8:X<2^((DS s n.toNat).2.2+6):=by rw[<-hX,Nat.pow_add];omega
   have hXs:X<2^14:=Nat.lt_of_lt_of_le hX8 (Nat.pow_le_pow_right (by decide) (by omega))
   refine Aa (fun g4=>?_) fun g4=>?_
   ·rw[Ad (((DS s n.toNat).2.2:Nat)+6-8:Int) (by omega) (by omega)]
    have hb:(((DS s n.toNat).2.2:Nat)+6-8:Int).toNat=(DS s n.toNat).2.2-2:=by omega
    rw[hb,Oi _ _ (by omega)]
    have hq:X/2^((DS s n.toNat).2.2-2)<256:=by
     rw[Nat.div_lt_iff_lt_mul (Nat.two_pow_pos _),show(256:Nat)=2^8 from rfl,<-Nat.pow_add,show 8+((DS s n.toNat).2.2-2)=(DS s n.toNat).2.2+6 by omega]
     exact hX8
    refine Ab (decide_eq_true (by omega)) ?_
    rw[Q3 _ hq,<-YG _ hq]
    refine Fq (ys:=[UInt8.ofNat (X/2^((DS s n.toNat).2.2-2))]) e hown (by simp;omega) fun v2 st2 e2 _ hown2=>Ab (decide_eq_true (by omega)) ?_
    have hmask:i64.wrap (i64.wrap ((1:Int)*2^(min ((DS s n.toNat).2.2-2) (IntKind.bits .i64)))-1)=((2^((DS s n.toNat).2.2-2)-1:Nat):Int):=by
     have hp:2^((DS s n.toNat).2.2-2)<=2^6:=Nat.pow_le_pow_right (by decide) (by omega)
     have hp1:0<2^((DS s n.toNat).2.2-2):=Nat.two_pow_pos _
     rw[show min ((DS s n.toNat).2.2-2) (IntKind.bits .i64)=(DS s n.toNat).2.2-2 from Nat.min_eq_left (by show _<=64;omega),show(2:Int)^((DS s n.toNat).2.2-2)=((2^((DS s n.toNat).2.2-2):Nat):Int) by simp]
     generalize 2^((DS s n.toNat).2.2-2)=Y at*
     rw[Ad (1*(Y:Int)) (by omega) (by omega),Ad (1*(Y:Int)-1) (by omega) (by omega)];omega
    rw[hmask,E7 X _ (by omega) (by omega)]
    rw[if_pos (by omega)]at hstep
    refine⟨⟨rfl,rfl,rfl,rfl,rfl,rfl,by omega,by omega,e2,?_,?_,?_⟩,by dsimp only;omega⟩
    ·rw[hn1,hstep];exact hown2
    ·rw[hn1,hstep]
    ·rw[hn1,hstep];dsimp only;omega
   ·rw[if_neg (by omega)]at hstep
    refine⟨⟨rfl,rfl,rfl,rfl,rfl,rfl,by omega,by omega,e,?_,?_,?_⟩,by dsimp only;omega⟩
    ·rw[hn1,hstep];exact hown
    ·rw[hn1,hstep]
    ·rw[hn1,hstep];dsimp only;omega
  ·have hn:n.toNat=k:=by omega
   rw[hn]at hown⊢
   rw[show(s.length:Int)-k=((s.length-k:Nat):Int) by omega]
   refine end_ok hown.rd fun v' hv'=>?_
   have:=hk v' st' e
   rw[Cf,if_pos hall]at this
   exact this hv'
theorem dec_ok {s:B8} {pad:Bool} {st:St} {K:TV->Int->St->Prop} (hl:(s.length:Int)<=1000000) (hk:∀v st',Ah st st'->RdB v (Cf s (Bh s) pad).1->K v (Cf s (Bh s) pad).2 st'):CallT PR GK [.str s,.bool pad] [.one (.tv),.one (.int .i64)] st K:=by
 refine OK s pad st K (Wu (al:=Ek) fun v st1 e1 hf=>?_)
 refine⟨fun k s' pad' v' st'=>s=s'/\pad=pad'/\v=v'/\st1=st'/\0<=k/\k<=s.length/\∀j:Nat,(j:Int)<k->0<=fnd Ek (s.getD j 0),fun k _ _ _ _=>(s.length-k).toNat,⟨rfl,rfl,rfl,rfl,by omega,by omega,fun j h=>absurd h (by omega)⟩,?_⟩
 rintro k _ _ _ _ ⟨rfl,rfl,rfl,rfl,h1,h2,h3⟩
 have stop:((k.toNat=s.length)∨¬0<=fnd Ek (s.getD k.toNat 0))->RN k s pad v st1 K:=fun hs=>by
  have hle:=Kq s k.toNat (by omega) (fun j hj=>h3 j (by omega)) hs
  rw[hle]at hk
  have:=tail_ok (pad:=pad) (K:=K) hf (show k.toNat<=s.length by omega) hl (fun j hj=>h3 j (by omega)) (fun v' st' e' hv'=>hk v' st' (e1.trans e') hv')
  rwa [show((k.toNat:Nat):Int)=k by omega]at this
 refine Aa (fun h4=>⟨⟨h1,h4⟩,Ye hf (by decide) (Aa (fun h5=>?_) fun h5=>?_)⟩) fun h4=>?_
 ·rw[Ad (k+1) (by omega) (by omega)]
  refine⟨⟨rfl,rfl,rfl,rfl,by omega,by omega,fun j hj=>?_⟩,by dsimp only;omega⟩
  by_cases hji:(j:Int)=k
  ·have:j=k.toNat:=by omega
   subst this;exact h5
  ·exact h3 j (by omega)
 ·exact stop (.inr h5)
 ·exact stop (.inl (by omega))
theorem TN (f:Nat->Nat) (n:Nat):FO [.int .u8 (0:Int)] (n*1)=At (bys (msk f 0) n):=by
 unfold FO At bys
 rw[List.map_map,Nat.mul_one]
 refine List.map_congr_left fun q _=>?_
 have h0:bn (msk f 0) (8*q) 8=0:=Kx _ _ _ fun j _=>by simp[msk]
 simp[Nat.mod_one,Function.comp,h0,D5]
theorem Wf {s:B8} {st:St} {K:TV->St->Prop} (hl:(s.length:Int)<=1000000) (hd:∀j,j<s.length->0<=fnd Ek (s.getD j 0)) (hk:∀v st',Ah st st'->SlR st' 1 v (6*s.length/8) (At (bys (BM s) (6*s.length/8)))->K v st'):CallT PR BH [.str s] [.one (.tv)] st K:=by
 refine Jf s st K ?_
 rw[Ad ((s.length:Int)*6) (by omega) (by omega),Int.tdiv_eq_ediv_of_nonneg (by omega),Ad ((s.length:Int)*6/8) (by omega) (by omega)]
 have hn:((s.length:Int)*6/8).toNat=6*s.length/8:=by omega
 rw[hn]
 generalize hN:6*s.length/8=n at*
 refine⟨⟨by omega,by omega,by omega⟩,fun i s' out st1=>s=s'/\out= .ms 1 st.nb 0 n n/\Ah st st1/\st.nb<st1.nb/\0<=i/\i<=8*n/\st1.box st.nb= .cells (At (bys (msk (BM s) i.toNat) n)),fun i _ _ _=>(8*n-i).toNat,⟨rfl,rfl,(Ah.refl st).push _ _,by simp[St.push],by omega,by omega,by simp only[St.push,if_true];rw[TN (BM s)];rfl⟩,?_⟩
 rintro i _ _ st1 ⟨rfl,rfl,e,hnb,h0,h1,hbox⟩
 refine Ab rfl ?_
 show BIf (decide (i<i64.wrap (8*(n:Int)))) _ _
 rw[Ad (8*(n:Int)) (by omega) (by omega)]
 refine Aa (fun h2=>?_) fun h2=>?_
 ·rw[Int.tdiv_eq_ediv_of_nonneg h0,Int.tdiv_eq_ediv_of_nonneg h0,Int.tmod_eq_emod_of_nonneg h0,Int.tmod_eq_emod_of_nonneg h0,Ad (i/6) (by omega) (by omega),Ad (i/8) (by omega) (by omega)]
  have hi6:(i/6).toNat=i.toNat/6:=by omega
  have hi8:(i/8).toNat=i.toNat/8:=by omega
  have hlt6:i.toNat/6<s.length:=by omega
  refine⟨⟨by omega,by omega⟩,ST (al:=Ek) (by decide) ⟨⟨by omega,by show _<((n:Nat):Int);omega⟩,?_⟩⟩
  have hq:i.toNat/8<n:=by omega
  have hlen:(bys (msk (BM s) i.toNat) n).length=n:=Hh _ _
  have hld:Af st1 [] (.t (ixT 1 (.ms 1 st.nb 0 n n) (i/8).toNat)) 0=some (.int .u8 ((bn (msk (BM s) i.toNat) (8*(i.toNat/8)) 8:Nat):Int)):=by
   have hlt:=NV _ (Rz (BM s) (IX s) i.toNat) (8*(i.toNat/8)) 8
   simp only[ixT,Af,hbox,hi8]
   rw[<-YG _ hlt]
   simp[At,bys,hq]
  refine Ac hld ?_
  show need _ _
  rw[Ad (5-i%6) (by omega) (by omega),Ad (7-i%8) (by omega) (by omega)]
  have u5:IntKind.u64.wrap (5-i%6)=5-i%6:=by
   unfold IntKind.wrap
   simp only[IntKind.signed,IntKind.bits]
   simp
   omega
  have u7:IntKind.u64.wrap (7-i%8)=7-i%8:=by
   unfold IntKind.wrap
   simp only[IntKind.signed,IntKind.bits]
   simp
   omega
  rw[u5,u7]
  have hd0:=hd (i.toNat/6) hlt6
  have hv:=Of (s.getD (i.toNat/6) 0)
  have hvN:fnd Ek (s.getD (i.toNat/6) 0)=(v64 (s.getD (i.toNat/6) 0):Nat):=by unfold v64;omega
  have hsh:(2:Int)^min (7-i%8).toNat (IntKind.bits .u8)=((2^(7-i.toNat%8):Nat):Int):=by
   rw[show min (7-i%8).toNat (IntKind.bits .u8)=7-i.toNat%8 by rw[Nat.min_eq_left (by show _<=8;omega)];omega];simp
  rw[hi6,hvN,Oi _ _ (by omega),hsh]
  have hq5:v64 (s.getD (i.toNat/6) 0)/2^(5-i%6).toNat<2^63:=Nat.lt_of_le_of_lt (Nat.div_le_self _ _) (by omega)
  have hand:=E7 (v64 (s.getD (i.toNat/6) 0)/2^(5-i%6).toNat) 1 hq5 (by decide)
  have hbit:v64 (s.getD (i.toNat/6) 0)/2^(5-i%6).toNat%2^1=BM s i.toNat:=by
   rw[BM,show(5-i%6).toNat=5-i.toNat%6 by omega]
  have hand':Au .and .i64 ((v64 (s.getD (i.toNat/6) 0)/2^(5-i%6).toNat:Nat):Int) (1:Int)=((v64 (s.getD (i.toNat/6) 0)/2^(5-i%6).toNat%2^1:Nat):Int):=hand
  rw[hand',hbit]
  have hb2:=IX s i.toNat
  have hp7:2^(7-i.toNat%8)<=2^7:=Nat.pow_le_pow_right (by decide) (by omega)
  have hprod:BM s i.toNat*2^(7-i.toNat%8)<256:=by
   have:=Nat.mul_le_mul (show BM s i.toNat<=1 by omega) hp7
   omega
  rw[Q3 _ (by omega),show((BM s i.toNat:Nat):Int)*((2^(7-i.toNat%8):Nat):Int)=((BM s i.toNat*2^(7-i.toNat%8):Nat):Int) by simp,Q3 _ hprod,or_msk _ (IX s)]
  refine Ab (decide_eq_true (by omega)) (Ab (decide_eq_true (by omega)) ⟨⟨by omega,by show _<((n:Nat):Int);omega⟩,_,hbox,?_,?_⟩)
  ·rw[BO,hlen];simp;omega
  ·rw[Ad (i+1) (by omega) (by omega)]
   refine⟨⟨rfl,rfl,e.put (Nat.le_refl _) _,hnb,by omega,by omega,?_⟩,by dsimp only;omega⟩
   simp only[St.put,if_true]
   congr 1
   rw[show(i+1).toNat=i.toNat+1 by omega,hi8]
   apply List.ext_getElem
   ·simp[setAll,At,bys]
   ·intro q h1 h2
    have hqn:q<n:=by simpa [At,bys]using h2
    simp only[setAll]
    by_cases hqe:q=i.toNat/8
    ·subst hqe
     have hlt:=NV _ (Rz (BM s) (IX s) (i.toNat+1)) (8*(i.toNat/8)) 8
     simp[At,bys,List.getElem_set,D5,UInt8.toNat_ofNat]
     omega
    ·simp[At,bys,List.getElem_set,D5,R4 _ _ _ hqe]
     intro hh;omega
 ·have hin:i.toNat=8*n:=by omega
  rw[hin,msk_all]at hbox
  refine hk _ _ e (.inr ⟨_,_,_,_,rfl,hnb,hbox,?_,Nat.le_refl _,?_⟩)
  ·rw[BO,Hh];omega
  ·rw[List.drop_zero,Nat.mul_one,List.take_of_length_le (by rw[BO,Hh];exact Nat.le_refl _)]
theorem Qu {s:B8} {n:Nat} {pad:Bool} {st:St} {K:TV->Int->St->Prop} (hn:n<=s.length) (hl:(s.length:Int)<=1000000) (hd:∀j,j<n->0<=fnd Ek (s.getD j 0))
  (hk:∀v st',Ah st st'->SlR st' 1 v (Le s n pad).1.length (At (Le s n pad).1)->K v (Le s n pad).2 st'):
  ((0<=((n:Nat):Int)/\((n:Nat):Int)<=((s).length:Int))/\CallT PR BH [(.str (List.take (Int.toNat ((n:Nat):Int)) s))] [.one (.tv)] st fun v2 st5=>CallT PR Ba [v2,.bool pad] [.one .str] st5 fun s2 st6=>BIf (decide (s2=s)) (K v2 0 st6) (BIf (decide (((n:Nat):Int)=((s).length:Int))) (K .nilSlice 4 st6) (BIf (decide (((s).length:Int)<((s2).length:Int))) (((0<=((s).length:Int)/\((s).length:Int)<=((s2).length:Int))/\BIf (decide ((List.take (Int.toNat ((s).length:Int)) s2)=s)) (K .nilSlice 4 st6) (K .nilSlice 3 st6))) (K .nilSlice 3 st6)))):=by
 have hnil:∀(r:Int) st',Ah st st'->Le s n pad=([],r)->K .nilSlice r st':=fun r st' e h=>by
  have:=hk .nilSlice st' e (by rw[h];exact .of_rd (.inl ⟨rfl,rfl,rfl⟩))
  rwa [h]at this
 rw[Int.toNat_natCast,Int.toNat_natCast]
 have htl:(s.take n).length=n:=by simp;omega
 refine⟨⟨by omega,by omega⟩,Wf (by omega) (fun j hj=>?_) fun v st1 e1 hv=>?_⟩
 ·rw[htl]at hj
  have:(s.take n).getD j 0=s.getD j 0:=by simp[List.getD,List.getElem?_take,hj]
  rw[this];exact hd j hj
 ·rw[htl]at hv
  have hbl:(Rq s n).length=6*n/8:=Xw s n
  refine Vo (l:=Rq s n) (by rw[hbl];exact hv) (by rw[hbl];omega) fun st2 e2=>?_
  have e:=e1.trans e2
  refine Aa (fun h1=>?_) fun h1=>?_
  ·have h:Le s n pad=(Rq s n,0):=by rw[Le,if_pos h1]
   have:=hk v st2 e (by rw[h];dsimp only;rw[hbl];exact hv.keep e2.keeps)
   rwa [h]at this
  ·refine Aa (fun h2=>hnil 4 st2 e (by rw[Le,if_neg h1,if_pos (by omega)])) fun h2=>?_
   refine Aa (fun h3=>⟨⟨by omega,by omega⟩,Aa (fun h4=>?_) fun h4=>?_⟩) fun h3=>?_
   ·exact hnil 4 st2 e (by rw[Le,if_neg h1,if_neg (by omega),if_pos ⟨Int.ofNat_lt.1 h3,h4⟩])
   ·exact hnil 3 st2 e (by rw[Le,if_neg h1,if_neg (by omega),if_neg (fun hh=>h4 hh.2)])
   ·exact hnil 3 st2 e (by rw[Le,if_neg h1,if_neg (by omega),if_neg (fun hh=>h3 (Int.ofNat_lt.2 hh.1))])
theorem rdec_ok {s:B8} {pad:Bool} {st:St} {K:TV->Int->St->Prop} (hl:(s.length:Int)<=1000000) (hk:∀v st',Ah st st'->SlR st' 1 v (Cf s (Bh s) pad).1.length (At (Cf s (Bh s) pad).1)->K v (Cf s (Bh s) pad).2 st'):CallT PR Dc [.str s,.bool pad] [.one (.tv),.one (.int .i64)] st K:=by
 rw[<-ref_eq]at hk
 refine If s pad st K ⟨fun k s' pad' st'=>s=s'/\pad=pad'/\st=st'/\∃n:Nat,k=n/\n<=s.length/\∀j:Nat,j<n->0<=fnd Ek (s.getD j 0),fun k _ _ _=>(s.length-k).toNat,⟨rfl,rfl,rfl,0,rfl,Nat.zero_le _,fun j h=>absurd h (Nat.not_lt_zero _)⟩,?_⟩
 rintro _ _ _ _ ⟨rfl,rfl,rfl,n,rfl,h1,h3⟩
 have stop:((n=s.length)∨¬0<=fnd Ek (s.getD n 0))->∀v st',Ah st st'->SlR st' 1 v (Le s n pad).1.length (At (Le s n pad).1)->K v (Le s n pad).2 st':=fun hs=>by
  rw[Kq s n h1 h3 hs]at hk;exact hk
 refine Aa (fun h4=>⟨⟨by omega,h4⟩,ST (al:=Ek) (by decide) (Aa (fun h5=>?_) fun h5=>?_)⟩) fun h4=>?_
 ·rw[Ad _ (by omega) (by omega)]
  rw[Int.toNat_natCast]at h5
  refine⟨⟨rfl,rfl,rfl,n+1,by omega,by omega,fun j hj=>?_⟩,by dsimp only;omega⟩
  by_cases hji:j=n
  ·subst hji;exact h5
  ·exact h3 j (by omega)
 ·rw[Int.toNat_natCast]at h5
  exact Qu h1 hl h3 (stop (.inr h5))
 ·exact Qu h1 hl h3 (stop (.inl (by omega)))
def PS (p:Nat) (s:B8) (st:St) (a:Nat) (b:Bool):Prop:=p<st.nb/\st.box p= .cells [.str s,.int .i64 (a:Nat),.bool b]/\a<=s.length
theorem PS.src {p a:Nat} {s:B8} {st:St} {b:Bool} (h:PS p s st a b):Af st [] (.t (.box p 0)) 0=some (.str s):=by simp[Af,h.2.1]
theorem PS.pos {p a:Nat} {s:B8} {st:St} {b:Bool} (h:PS p s st a b):Af st [] (.t (.box p 1)) 0=some (.int .i64 (a:Nat)):=by simp[Af,h.2.1]
theorem PS.bad {p a:Nat} {s:B8} {st:St} {b:Bool} (h:PS p s st a b):Af st [] (.t (.box p 2)) 0=some (.bool b):=by simp[Af,h.2.1]
theorem PS.setBad {p a:Nat} {s:B8} {st:St} {b:Bool} (h:PS p s st a b) (c:Bool) {K:St->Prop} (hk:∀st',StX (·=p) st st'->PS p s st' a c->K st'):stB st (.box p 2) [.bool c] K:=
 ⟨_,h.2.1,by simp,hk _ (StX.put (S:=(·=p)) rfl _) ⟨h.1,by simp[St.put,setAll],h.2.2⟩⟩
theorem PS.setPos {p a c:Nat} {s:B8} {st:St} {b:Bool} (h:PS p s st a b) (hc:c<=s.length) {x:Int} (hx:x=(c:Nat)) {K:St->Prop} (hk:∀st',StX (·=p) st st'->PS p s st' c b->K st'):stB st (.box p 1) [.int .i64 x] K:=by
 subst hx
 exact⟨_,h.2.1,by simp,hk _ (StX.put (S:=(·=p)) rfl _) ⟨h.1,by simp[St.put,setAll],hc⟩⟩
theorem PS.same {p a:Nat} {s:B8} {st st':St} {b:Bool} (h:PS p s st a b) (hb:st'.box=st.box) (hn:st'.nb=st.nb):PS p s st' a b:=⟨by rw[hn];exact h.1,by rw[hb];exact h.2.1,h.2.2⟩
theorem PS.ext {p a:Nat} {s:B8} {st st':St} {b:Bool} (h:PS p s st a b) (e:Ah st st'):PS p s st' a b:=⟨Nat.lt_of_lt_of_le h.1 e.nb,(e.box p h.1).trans h.2.1,h.2.2⟩
def nxC (s:B8) (a:Nat) (b:Bool):UInt8:=if b then 0 else s.getD a 0
theorem HR {p a:Nat} {s:B8} {st:St} {b:Bool} (hl:s.length<=1000000) (h:PS p s st a b) {K:Int->St->Prop} (hk:K ((nxC s a b).toNat:Nat) st):CallT PR AX [.box p 0] [.one (.int .u8)] st K:=by
 unfold nxC at hk
 refine JP p st K (Ac h.bad (Cy (Aq (fun g=>?_) fun g=>Ac h.pos (Ap (Ac h.src (Aw (Aa (fun g2=>?_) fun g2=>Ac h.src (Aw (Ac h.pos (Ap ⟨⟨by omega,by omega⟩,?_⟩))))))))))
 ·rw[if_pos g]at hk;exact hk
 ·rw[if_neg (by simp[g]),show s.getD a 0=0 by simp[List.getD,show s.length<=a by omega]]at hk;exact hk
 ·rw[if_neg (by simp[g])]at hk
  rw[Int.toNat_natCast];exact hk
def tkF (t s:B8) (a:Nat) (b:Bool):Prop:=b=false/\(s.drop a).take t.length=t
instance (t s:B8) (a:Nat) (b:Bool):Decidable (tkF t s a b):=inferInstanceAs (Decidable (_/\_))
theorem CO {p a:Nat} {s t:B8} {st:St} {b:Bool} (hl:s.length<=1000000) (ht:t.length<=1000) (h:PS p s st a b) {K:St->Prop}
  (hk:∀st',StX (·=p) st st'->PS p s st' (if tkF t s a b then a+t.length else a) (decide (¬tkF t s a b))->K st'):CallT PR Av [.box p 0,.str t] [] st K:=by
 have ha:=h.2.2
 have no:¬tkF t s a b->stB st (.box p 2) [.bool true] K:=fun hn=>h.setBad true fun st' e h'=>hk st' e (by rw[if_neg hn,decide_eq_true hn];exact h')
 refine JO p t st K (Ac h.bad (Cy (Aq (fun g=>no fun h=>by rw[h.1]at g;cases g) fun g=>Ac h.src (Aw (Ac h.pos (Ap ?_))))))
 rw[Ad ((s.length:Int)-_) (by omega) (by omega)]
 have hlen:tkF t s a b->a+t.length<=s.length:=fun h=>by
  have:=congrArg List.length h.2
  rw[List.length_take,List.length_drop]at this
  omega
 refine Aa (fun g2=>no fun h=>by have:=hlen h;omega) fun g2=>Ac h.src (Aw (Ac h.pos (Ap (Ac h.pos (Ap ?_)))))
 rw[Ad (_+_) (by omega) (by omega)]
 have e:(s.take (((a:Nat):Int)+((t.length:Nat):Int)).toNat).drop (((a:Nat):Int)).toNat=(s.drop a).take t.length:=by
  rw[Int.toNat_natCast,show(((a:Nat):Int)+((t.length:Nat):Int)).toNat=a+t.length by omega,List.drop_take,Nat.add_sub_cancel_left]
 rw[e]
 refine⟨⟨by omega,by omega,by omega⟩,Aa (fun g3=>no fun h=>g3 h.2) fun g3=>Ac h.pos (Ap ?_)⟩
 have ok:tkF t s a b:=⟨g,Decidable.not_not.1 g3⟩
 rw[Ad (_+_) (by omega) (by omega)]
 exact h.setPos (c:=a+t.length) (by omega) (by omega) fun st' e h'=>hk st' e (by rw[if_pos ok,decide_eq_false (fun hn=>hn ok),<-g];exact h')
theorem Gv {t s r:B8} {a:Nat} {b:Bool} (hb:b=false) (h:s.drop a=t++r):tkF t s a b:=⟨hb,by rw[h,List.take_left]⟩
theorem JU {t s r:B8} {a:Nat} (h:s.drop a=t++r):s.drop (a+t.length)=r:=by rw[<-List.drop_drop,h,List.drop_left]
theorem BP {s r:B8} {a:Nat} {c:UInt8} (h:s.drop a=c::r):s.getD a 0=c/\s.drop (a+1)=r/\a<s.length:=by
 have hlt:a<s.length:=by
  by_cases g:a<s.length
  ·exact g
  ·rw[List.drop_of_length_le (by omega)]at h;cases h
 rw[List.drop_eq_getElem_cons hlt]at h
 injection h with h1 h2
 exact⟨by simp[List.getD,hlt,h1],h2,hlt⟩
theorem Qp:∀a:Nat,a<128->∀b:Nat,b<128->Bw a.toUInt8=Bw b.toUInt8->Bw a.toUInt8≠0->a=b:=by decide+kernel
theorem LZ:∀c:Nat,c<256->Bw c.toUInt8≠0->c<128:=by decide+kernel
theorem V4:∀c:Nat,c<256->Bw c.toUInt8≠117:=by decide+kernel
theorem UC:∀a:Nat,a<16->∀b:Nat,b<16->hxD a=hxD b->a=b:=by decide
theorem hx_ne:∀a:Nat,a<16->hxD a≠0:=by decide
theorem u8n (c:UInt8):c.toNat.toUInt8=c:=by simp
def EscG (s:B8) (a:Nat) (b:Bool) (c:UInt8) (a':Nat) (b':Bool):Prop:=∀c0 t r,b=false->BL c0=92::t->s.drop a=t++r->c=c0/\b'=false/\a'=a+t.length
theorem Fa {s:B8} {a:Nat} {b:Bool} (h:nxC s a b≠0):b=false/\a<s.length/\nxC s a b=s.getD a 0:=by
 unfold nxC at h⊢
 cases b with
 | true=>exact absurd rfl h
 | false=>
  refine⟨rfl,?_,rfl⟩
  by_cases g:a<s.length
  ·exact g
  ·exact absurd (show s.getD a 0=0 by simp[List.getD,Nat.le_of_not_lt g]) h
theorem W4 {k:Nat} (h:k<256):u8.wrap ((k:Nat):Int)=((k.toUInt8.toNat:Nat):Int):=by
 rw[EN _ (by omega) (by omega)]
 simp;omega
theorem MA {c0:UInt8} {t:B8} (h:BL c0=92::t):(Bw c0≠0/\∃x:UInt8,t=[x]/\Bw c0=x.toNat)∨(c0.toNat<32/\t=[117,48,48,hxD (c0.toNat/16),hxD (c0.toNat%16)]):=by
 by_cases hs:Bw c0=0
 ·right
  rw[QN hs]at h
  by_cases h32:c0.toNat<32
  ·rw[if_pos h32]at h
   injection h with _ h2
   exact⟨h32,h2.symm⟩
  ·rw[if_neg h32]at h
   injection h with h1 _
   subst h1
   exact absurd hs (by decide)
 ·left
  obtain⟨x,h1,h2⟩:=Pp hs
  rw[h1]at h
  injection h with _ h3
  exact⟨hs,x,h3.symm,h2⟩
theorem pesc_ok {p a:Nat} {s:B8} {st:St} {b:Bool} (hl:s.length<=1000000) (h:PS p s st a b) {K:Int->St->Prop}
  (hk:∀(c:UInt8) st' a' b',StX (·=p) st st'->PS p s st' a' b'->a<=a'->(b'=false->b=false)->EscG s a b c a' b'->K (c.toNat:Nat) st'):CallT PR Dj [.box p 0] [.one (.int .u8)] st K:=by
 refine Ir p st K (HR hl h ?_)
 refine⟨fun i p' c' st'=> .box p 0=p'/\(((nxC s a b).toNat:Nat):Int)=c'/\st=st'/\∃k:Nat,i=k/\k<=128/\∀j,j<k->¬(Bw j.toUInt8=(nxC s a b).toNat/\Bw j.toUInt8≠0),fun i _ _ _=>(128-i).toNat,⟨rfl,rfl,rfl,0,rfl,by omega,fun j h=>absurd h (Nat.not_lt_zero _)⟩,?_⟩
 rintro _ _ _ _ ⟨rfl,rfl,rfl,k,rfl,hk1,hno⟩
 refine Aa (fun g=>?_) fun g=>?_
 ·rw[W4 (by omega)]
  refine SM ?_
  have more:¬(Bw k.toUInt8=(nxC s a b).toNat/\Bw k.toUInt8≠0)->(.box p 0=TV.box p 0/\(((nxC s a b).toNat:Nat):Int)=(((nxC s a b).toNat:Nat):Int)/\st=st/\∃k':Nat,i64.wrap (((k:Nat):Int)+1)=k'/\k'<=128/\∀j,j<k'->¬(Bw j.toUInt8=(nxC s a b).toNat/\Bw j.toUInt8≠0))/\(128-i64.wrap (((k:Nat):Int)+1)).toNat<(128-((k:Nat):Int)).toNat:=fun hn=>by
   rw[Ad _ (by omega) (by omega)]
   refine⟨⟨rfl,rfl,rfl,k+1,by omega,by omega,fun j hj=>?_⟩,by omega⟩
   by_cases hjk:j=k
   ·subst hjk;exact hn
   ·exact hno j (by omega)
  refine Aa (fun g1=>Aa (fun g2=>?_) fun g2=>more fun hn=>?_) fun g1=>more fun hn=>?_
  ·have hs:Bw k.toUInt8=(nxC s a b).toNat:=by omega
   have hne:nxC s a b≠0:=fun e=>g2 (by rw[e];rfl)
   obtain⟨hb,ha,hnx⟩:=Fa hne
   refine Ab rfl (Ab rfl (Ac h.pos (Ap (Ab rfl (Ab rfl (h.setPos (c:=a+1) (by omega) (by rw[Ad _ (by omega) (by omega)];omega) fun st' e h'=>?_))))))
   refine hk k.toUInt8 st' (a+1) b e h' (by omega) id ?_
   intro c0 t r _ he hd
   rcases MA he with⟨h0,x,rfl,hx⟩ | ⟨h32,rfl⟩
   ·obtain⟨d1,_,_⟩:=BP hd
    rw[hnx,d1]at hs
    have hc:=LZ c0.toNat (UInt8.toNat_lt _) (by rw[u8n];exact h0)
    have:=Qp k (by omega) c0.toNat hc (by rw[u8n,hs,hx]) (by rw[hs,<-hx];exact h0)
    exact⟨by rw[this,u8n],hb,rfl⟩
   ·obtain⟨d1,_,_⟩:=BP hd
    rw[hnx,d1]at hs
    exact absurd hs (V4 k (by omega))
  ·exact g2 (fun e=>hn.2 (by rw[hn.1];omega))
  ·exact g1 (by rw[hn.1])
 ·have hk128:k=128:=by omega
  subst hk128
  refine CO (t:=[117,48,48]) hl (by decide) h fun st5 e5 h5=>?_
  have good0:∀c0 t r,b=false->BL c0=92::t->s.drop a=t++r->c0.toNat<32/\t=[117,48,48,hxD (c0.toNat/16),hxD (c0.toNat%16)]:=fun c0 t r hb he hd=>by
   rcases MA he with⟨h0,x,rfl,hx⟩ | h2
   ·exfalso
    obtain⟨d1,_,_⟩:=BP hd
    have hc:=LZ c0.toNat (UInt8.toNat_lt _) (by rw[u8n];exact h0)
    refine hno c0.toNat hc ⟨?_,by rw[u8n];exact h0⟩
    rw[u8n,hx]
    unfold nxC
    rw[hb,if_neg (by decide),d1]
   ·exact h2
  refine⟨fun n i p' st'=> .box p 0=p'/\StX (·=p) st st'/\∃(j m a2:Nat) (b2:Bool),i=j/\n=m/\j<=2/\m<16^j/\a<=a2/\PS p s st' a2 b2/\(b2=false->b=false)/\
   ∀c0 t r,b=false->BL c0=92::t->s.drop a=t++r->b2=false/\a2=a+3+j/\(j=1->m=c0.toNat/16)/\(j=2->m=c0.toNat),fun _ i _ _=>(2-i).toNat,⟨rfl,e5,0,0,_,_,rfl,rfl,by omega,by decide,?_,h5,?_,?_⟩,?_⟩
  ·split<;>simp
  ·intro hb
   have:=Decidable.not_not.1 (of_decide_eq_false hb)
   exact this.1
  ·intro c0 t r hb he hd
   obtain⟨_,rfl⟩:=good0 c0 t r hb he hd
   have ok:tkF [117,48,48] s a b:=Gv (r:=hxD (c0.toNat/16)::hxD (c0.toNat%16)::r) hb (by rw[hd];rfl)
   rw[if_pos ok,decide_eq_false (fun hn=>hn ok)]
   exact⟨rfl,rfl,fun h=>by omega,fun h=>by omega⟩
  rintro _ _ _ st6 ⟨rfl,e6,j,m,a2,b2,rfl,rfl,hj,hm,ha2,h6,hbb,hG⟩
  have ha2l:=h6.2.2
  refine Aa (fun g2=>?_) fun g2=>?_
  ·refine⟨fun k p' n' i' st'=> .box p 0=p'/\((m:Nat):Int)=n'/\((j:Nat):Int)=i'/\st6=st'/\∃q:Nat,k=q/\q<=16/\∀i,i<q->hxD i≠nxC s a2 b2,fun k _ _ _ _=>(16-k).toNat,⟨rfl,rfl,rfl,rfl,0,rfl,by omega,fun j h=>absurd h (Nat.not_lt_zero _)⟩,?_⟩
   rintro _ _ _ _ _ ⟨rfl,rfl,rfl,rfl,q,rfl,hq,hnq⟩
   refine Aa (fun g3=>⟨⟨by omega,by show _<(16:Int);omega⟩,HR hl h6 ?_⟩) fun g3=>?_
   ·rw[Int.toNat_natCast]
    have hx:(FA.getD q 0)=hxD q:=Ph q (by omega)
    rw[hx]
    refine Aa (fun g4=>?_) fun g4=>Aa (fun g5=>by omega) fun g5=>?_
    ·rw[Ad _ (by omega) (by omega)]
     refine⟨⟨rfl,rfl,rfl,rfl,q+1,by omega,by omega,fun i hi=>?_⟩,by dsimp only;omega⟩
     by_cases hiq:i=q
     ·subst hiq;exact fun e=>g4 (by rw[e])
     ·exact hnq i (by omega)
    ·have g4':hxD q=nxC s a2 b2:=u8i.1 (Decidable.not_not.1 g4)
     have hne:nxC s a2 b2≠0:=by rw[<-g4'];exact hx_ne q (by omega)
     obtain⟨hb2,hal,hnx⟩:=Fa hne
     refine Ab rfl (Ab rfl (Ac h6.pos (Ap (Ab rfl (Ab rfl (h6.setPos (c:=a2+1) (by omega) (by rw[Ad _ (by omega) (by omega)];omega) fun st' e h'=>?_))))))
     have p16:16^j<=16:=by
      have:16^j<=16^1:=Nat.pow_le_pow_right (by decide) (by omega)
      omega
     rw[Ad (16*_) (by omega) (by omega),Ad (_+_) (by omega) (by omega),Ad (((j:Nat):Int)+1) (by omega) (by omega)]
     refine⟨⟨rfl,e6.trans e,j+1,16*m+q,a2+1,b2,by omega,by omega,by omega,by rw[Nat.pow_succ];omega,by omega,h',hbb,?_⟩,by dsimp only;omega⟩
     intro c0 t r hb he hd
     obtain⟨g1,g2',g3',g4''⟩:=hG c0 t r hb he hd
     obtain⟨h32,rfl⟩:=good0 c0 t r hb he hd
     have hd3:s.drop (a+3)=hxD (c0.toNat/16)::hxD (c0.toNat%16)::r:=by rw[<-List.drop_drop,hd];rfl
     refine⟨g1,by omega,fun hj1=>?_,fun hj2=>?_⟩
     ·have hj0:j=0:=by omega
      subst hj0
      rw[g2',Nat.add_zero]at hnx
      obtain⟨d1,_,_⟩:=BP hd3
      rw[d1]at hnx
      have:=UC q (by omega) (c0.toNat/16) (by omega) (by rw[g4',g2',Nat.add_zero,hnx])
      have hm0:m=0:=by simpa using hm
      omega
     ·have hj0:j=1:=by omega
      subst hj0
      obtain⟨_,d2,_⟩:=BP hd3
      obtain⟨d3,_,_⟩:=BP d2
      rw[g2',show a+3+1=a+3+1 from rfl,d3]at hnx
      have:=UC q (by omega) (c0.toNat%16) (by omega) (by rw[g4',g2',hnx])
      have:=g3' rfl
      omega
   ·refine Aa (fun g5=>Ab rfl (Ab rfl (h6.setBad true fun st' e h'=>hk 0 st' a2 true (e6.trans e) h' ha2 (fun h=>by cases h) ?_))) fun g5=>absurd (by omega) g5
    intro c0 t r hb he hd
    exfalso
    obtain⟨g1,g2',_,_⟩:=hG c0 t r hb he hd
    obtain⟨h32,rfl⟩:=good0 c0 t r hb he hd
    have hd3:s.drop (a+3)=hxD (c0.toNat/16)::hxD (c0.toNat%16)::r:=by rw[<-List.drop_drop,hd];rfl
    rcases (by omega:j=0∨j=1)with rfl | rfl
    ·obtain⟨d1,_,_⟩:=BP hd3
     refine hnq (c0.toNat/16) (by omega) ?_
     unfold nxC
     rw[g1,if_neg (by decide),g2',Nat.add_zero,d1]
    ·obtain⟨_,d2,_⟩:=BP hd3
     obtain⟨d3,_,_⟩:=BP d2
     refine hnq (c0.toNat%16) (by omega) ?_
     unfold nxC
     rw[g1,if_neg (by decide),g2',d3]
  ·have hj2:j=2:=by omega
   subst hj2
   rw[W4 (by simpa using hm)]
   refine hk m.toUInt8 st6 a2 b2 e6 h6 ha2 hbb ?_
   intro c0 t r hb he hd
   obtain⟨g1,g2',_,g4⟩:=hG c0 t r hb he hd
   obtain⟨h32,rfl⟩:=good0 c0 t r hb he hd
   exact⟨by rw[g4 rfl,u8n],g1,by rw[g2'];rfl⟩
def StrG (s:B8) (a:Nat) (b:Bool) (x:B8) (a':Nat) (b':Bool):Prop:=∀w r,b=false->s.drop a=quB w++r->x=w/\b'=false/\a'=a+(quB w).length
def posOf (p:Nat) (st:St):Nat:=match st.box p with | .cells [_,.int _ n,_]=>n.toNat | _=>0
theorem PS.posOf {p a:Nat} {s:B8} {st:St} {b:Bool} (h:PS p s st a b):posOf p st=a:=by unfold TVF.posOf;rw[h.2.1];simp
theorem YQ {S:Nat->Prop} {st0 st:St} {v:TV} {l:B8} {c:UInt8} {x:TV} (e:StX S st0 st) (h:En st0.nt st v l) (hl:l.length<=1000000) (hx:x=D5 c) {K:TV->St->Prop} (hk:∀v' st',StX S st0 st'->st'.box=st.box->st'.nb=st.nb->En st0.nt st' v' (l++[c])->K v' st'):
  A5 5 1 1 v 1 [x] st K:=by
 subst hx
 refine PH e rfl (show Own st0.nt 1 st v l.length (At l)from h) (by omega) (by omega) fun v' st' e' hb hn ho=>hk v' st' e' hb hn ?_
 show Own st0.nt 1 st' v' (l++[c]).length (At (l++[c]))
 have e1:At (l++[c])=At l++[D5 c]:=by simp[At]
 rw[e1,List.length_append,List.length_singleton];exact ho
theorem Mc {p a:Nat} {s:B8} {st:St} {b:Bool} (hl:s.length<=1000000) (h:PS p s st a b) {K:B8->St->Prop}
  (hk:∀x st' a' b',StX (·=p) st st'->PS p s st' a' b'->a+x.length<=a'->(b'=false->b=false/\a<a')->StrG s a b x a' b'->K x st'):CallT PR Bf [.box p 0] [.one .str] st K:=by
 refine KK p st K (CO (t:=[34]) hl (by decide) h fun st1 e1 h1=>?_)
 refine⟨fun out p' st'=> .box p 0=p'/\StX (·=p) st1 st'/\∃(o:B8) (a2:Nat) (b2:Bool),En st1.nt st' out o/\PS p s st' a2 b2/\a+o.length<=a2/\(b2=false->b=false/\a+o.length<a2)/\
  ∀w r,b=false->s.drop a=quB w++r->b2=false/\∃w2,w=o++w2/\s.drop a2=w2.flatMap BL++34::r,fun _ _ st'=>s.length-posOf p st',⟨rfl,StX.refl _ _,[],_,_,En.nil _ _,h1,?_,?_,?_⟩,?_⟩
 ·simp only[List.length_nil];split<;>omega
 ·intro hb
  have ok:=Decidable.not_not.1 (of_decide_eq_false hb)
  rw[if_pos ok]
  exact⟨ok.1,by simp⟩
 ·intro w r hb hd
  have hd':s.drop a=[34]++(w.flatMap BL++34::r):=by rw[hd];unfold quB;simp
  have ok:tkF [34] s a b:=Gv hb hd'
  rw[if_pos ok,decide_eq_false (fun hn=>hn ok)]
  exact⟨rfl,w,rfl,JU hd'⟩
 rintro out _ st2 ⟨rfl,e2,o,a2,b2,hown,h2,hal,hbb,hG⟩
 have ha2:=h2.2.2
 refine Ab rfl (Ab rfl (Ac h2.bad (Cy (Aq (fun g=>?_) fun g=>?_))))
 ·have hb2:b2=false:=by simpa using g
  subst hb2
  obtain⟨hb,hlt⟩:=hbb rfl
  refine Ab rfl (Ab rfl (Ac h2.pos (Ap (Ab rfl (Ab rfl (Ac h2.src (Aw (Aa (fun g1=>Ab rfl (Ab rfl (h2.setBad true fun st' e h'=>?_))) fun g1=>?_))))))))
  ·refine hk [] st' a2 true (e1.trans (e2.trans e)) h' (by simp;omega) (fun h=>by cases h) ?_
   intro w r _ hd
   obtain⟨_,w2,_,hd2⟩:=hG w r hb hd
   exfalso
   rw[List.drop_of_length_le (by omega)]at hd2
   have:=congrArg List.length hd2
   simp at this
  ·refine Ab rfl (Ab rfl (Ac h2.src (Aw (Ab rfl (Ab rfl (Ac h2.pos (Ap ⟨⟨by omega,by omega⟩,Ab rfl (Ab rfl (Ac h2.pos (Ap (Ab rfl (Ab rfl (h2.setPos (c:=a2+1) (by omega) (by rw[Ad _ (by omega) (by omega)];omega) fun st4 e4 h4=>?_))))))⟩)))))))
   rw[Int.toNat_natCast]
   have hown4:En st1.nt st4 out o:=hown.extX e4
   have hlt2:a2<s.length:=by omega
   have hcons:s.drop a2=s.getD a2 0::s.drop (a2+1):=by rw[List.drop_eq_getElem_cons hlt2];simp[List.getD,hlt2]
   have hp:=h4.posOf
   have hp2:=h2.posOf
   refine Aa (fun g2=>?_) fun g2=>Aa (fun g3=>?_) fun g3=>?_
   ·have h34:s.getD a2 0=34:=(u8i (k:=34)).1 g2
    refine Ac (x:= .str o) (by rw[hown4.rd.toBytes];rfl) (Aw (hk o st4 (a2+1) false (e1.trans (e2.trans e4)) h4 (by omega) (fun _=>⟨hb,by omega⟩) ?_))
    intro w r _ hd
    obtain⟨_,w2,rfl,hd2⟩:=hG w r hb hd
    rw[hcons,h34]at hd2
    cases w2 with
    | nil=>
     refine⟨by rw[List.append_nil],rfl,?_⟩
     have l1:=congrArg List.length hd
     have l2:=congrArg List.length hd2
     simp only[List.length_drop,List.length_append,List.length_cons,List.flatMap_nil,List.nil_append]at l1 l2
     rw[List.append_nil]at l1⊢
     omega
    | cons c w2=>
     rw[List.flatMap_cons,List.append_assoc]at hd2
     exact absurd hd2.symm (Kv c _ _)
   ·have h92:s.getD a2 0=92:=(u8i (k:=92)).1 g3
    refine pesc_ok hl h4 fun c st5 a5 b5 e5 h5 ha5 hb5 hE=>YQ (e2.trans (e4.trans e5)) (hown4.extX e5) (by omega) rfl fun v' st6 e6 hbx hnb ho6=>?_
    have h6:=h5.same hbx hnb
    have ha5l:=h5.2.2
    refine⟨⟨rfl,e6,o++[c],a5,b5,ho6,h6,by rw[List.length_append,List.length_singleton];omega,fun h=>⟨hb,by rw[List.length_append,List.length_singleton];omega⟩,?_⟩,by dsimp only;rw[h6.posOf,hp2];omega⟩
    intro w r _ hd
    obtain⟨_,w2,rfl,hd2⟩:=hG w r hb hd
    rw[hcons,h92]at hd2
    cases w2 with
    | nil=>injection hd2 with h0 _;exact absurd h0 (by decide)
    | cons c0 w2=>
     rw[List.flatMap_cons,List.append_assoc]at hd2
     rcases GL c0 with⟨x,q1,q2,q3⟩ | ⟨x,y,q1,q2⟩ | ⟨q1,q2,q3⟩
     ·rw[q1]at hd2
      injection hd2 with _ hd3
      obtain⟨r1,r2,r3⟩:=hE c0 [x] _ rfl q1 hd3
      refine⟨r2,w2,by rw[r1];simp,?_⟩
      rw[r3,<-List.drop_drop,hd3];rfl
     ·rw[q1]at hd2
      injection hd2 with _ hd3
      obtain⟨r1,r2,r3⟩:=hE c0 [117,48,48,x,y] _ rfl q1 hd3
      refine⟨r2,w2,by rw[r1];simp,?_⟩
      rw[r3,<-List.drop_drop,hd3];rfl
     ·rw[q1]at hd2
      injection hd2 with h0 _
      exact absurd h0.symm q2
   ·refine YQ (c:=s.getD a2 0) (e2.trans e4) hown4 (by omega) rfl fun v' st6 e6 hbx hnb ho6=>?_
    have h6:=h4.same hbx hnb
    refine⟨⟨rfl,e6,o++[s.getD a2 0],a2+1,false,ho6,h6,by rw[List.length_append,List.length_singleton];omega,fun h=>⟨hb,by rw[List.length_append,List.length_singleton];omega⟩,?_⟩,by dsimp only;rw[h6.posOf,hp2];omega⟩
    intro w r _ hd
    obtain⟨_,w2,rfl,hd2⟩:=hG w r hb hd
    rw[hcons]at hd2
    refine⟨rfl,?_⟩
    cases w2 with
    | nil=>injection hd2 with h0 _;exact absurd ((u8i (k:=34)).2 h0) g2
    | cons c0 w2=>
     rw[List.flatMap_cons,List.append_assoc]at hd2
     rcases GL c0 with⟨x,q1,q2,q3⟩ | ⟨x,y,q1,q2⟩ | ⟨q1,q2,q3⟩
     ·rw[q1]at hd2;injection hd2 with h0 _;exact absurd ((u8i (k:=92)).2 h0) g3
     ·rw[q1]at hd2;injection hd2 with h0 _;exact absurd ((u8i (k:=92)).2 h0) g3
     ·rw[q1]at hd2
      injection hd2 with h0 hd3
      exact⟨w2,by rw[h0];simp,hd3⟩
 ·have hb2:b2=true:=by simpa using g
  subst hb2
  refine hk [] st2 a2 true (e1.trans e2) h2 (by simp;omega) (fun h=>by cases h) ?_
  intro w r hb hd
  have:=(hG w r hb hd).1
  cases this
theorem CA (c:UInt8):nch c↔(48<=c.toNat/\c.toNat<=57)∨c.toNat=45∨c.toNat=43∨c.toNat=46∨c.toNat=101:=by
 have e:∀k:UInt8,c=k↔c.toNat=k.toNat:=fun k=>UInt8.toNat_inj.symm
 unfold nch AL
 rw[e 45,e 43,e 46,e 101]
 exact Iff.rfl
theorem Ry:∀(t:B8) (k:Nat),(∀j,j<k->nch (t.getD j 0))->¬nch (t.getD k 0)->Ta t=t.take k
 | [],k,_,_=>by simp[Ta]
 | a::t,0,_,h=>by
  unfold Ta
  rw[List.takeWhile_cons_of_neg (by simpa using h)];rfl
 | a::t,k+1,h1,h2=>by
  have ha:nch a:=h1 0 (by omega)
  have ih:=Ry t k (fun j hj=>h1 (j+1) (by omega)) h2
  unfold Ta at ih⊢
  rw[List.takeWhile_cons_of_pos (by simpa using ha),List.take_succ_cons,ih]
def NumG (s:B8) (a:Nat) (b:Bool) (x:Bool×B8×Int) (a':Nat) (b':Bool):Prop:=∀n0 d0 e0 r,b=false->Cu n0 d0 e0->s.drop a=dcT n0 d0 e0++r->¬nch (r.getD 0 0)->x=(n0,d0,e0)/\b'=false/\a'=a+(dcT n0 d0 e0).length
theorem Um {p a:Nat} {s:B8} {st:St} {b:Bool} (hl:s.length<=1000000) (h:PS p s st a b) {K:Int->Bool->Bool->B8->Int->Int->Int->Int->Int->B8->TV->TV->TV->St->Prop}
  (hk:∀x st' a' b',StX (·=p) st st'->PS p s st' a' b'->a+x.2.1.length<=a'->(b'=false->b=false/\a<a')->NumG s a b x a' b'->K 2 false x.1 x.2.1 x.2.2 0 0 0 0 [] .nilSlice .nilSlice .nilSlice st'):
  CallT PR Di [.box p 0] [.agg [.int .i64,.bool,.bool,.str,.int .i64,.int .i64,.int .i64,.int .i64,.int .i64,.str,.tv,.tv,.tv]] st K:=by
 have ha:=h.2.2
 refine Iq p st K (Ac h.pos (Ap ?_))
 refine⟨fun p' from_ n2 b1 b2 s1 n3 n4 n5 n6 n7 s2 v1 v2 v3 st'=>TV.box p 0=p'/\((a:Nat):Int)=from_/\(0:Int)=n2/\false=b1/\false=b2/\([]:B8)=s1/\(0:Int)=n3/\(0:Int)=n4/\(0:Int)=n5/\(0:Int)=n6/\(0:Int)=n7/\([]:B8)=s2/\TV.nilSlice=v1/\TV.nilSlice=v2/\TV.nilSlice=v3/\StX (·=p) st st'/\∃k:Nat,PS p s st' (a+k) b/\(∀j,j<k->nch (s.getD (a+j) 0))/\(b=true->k=0),
  fun _ _ _ _ _ _ _ _ _ _ _ _ _ _ _ st'=>s.length-posOf p st',⟨rfl,rfl,rfl,rfl,rfl,rfl,rfl,rfl,rfl,rfl,rfl,rfl,rfl,rfl,rfl,StX.refl _ _,0,h,fun j hj=>absurd hj (Nat.not_lt_zero _),fun _=>rfl⟩,?_⟩
 rintro _ _ _ _ _ _ _ _ _ _ _ _ _ _ _ st2 ⟨rfl,rfl,rfl,rfl,rfl,rfl,rfl,rfl,rfl,rfl,rfl,rfl,rfl,rfl,rfl,e2,k,h2,hn,hbk⟩
 have hal:=h2.2.2
 have hp2:=h2.posOf
 refine HR hl h2 ?_
 have more:nch (nxC s (a+k) b)->∀j,j<k+1->nch (s.getD (a+j) 0):=fun h j hj=>by
  by_cases hjk:j=k
  ·subst hjk
   have hne:nxC s (a+j) b≠0:=fun e=>by rw[e]at h;exact S9 h
   rw[<-(Fa hne).2.2];exact h
  ·exact hn j (by omega)
 have run:(s.take (a+k)).drop a=(s.drop a).take k:=by rw[List.drop_take,Nat.add_sub_cancel_left]
 have hrl:((s.drop a).take k).length=k:=by rw[List.length_take,List.length_drop];omega
 have hdl:=VL ((s.drop a).take k)
 have fin:¬nch (nxC s (a+k) b)->∀(b':Bool) st',StX (·=p) st st'->PS p s st' (a+k) b'->b'=(b || decide ((dcP ((s.drop a).take k)).2.2.2≠0))->K 2 false (dcP ((s.drop a).take k)).1 (dcP ((s.drop a).take k)).2.1 (dcP ((s.drop a).take k)).2.2.1 0 0 0 0 [] .nilSlice .nilSlice .nilSlice st':=fun hstop b' st' e' h' hb'=>by
  refine hk ((dcP ((s.drop a).take k)).1,(dcP ((s.drop a).take k)).2.1,(dcP ((s.drop a).take k)).2.2.1) st' (a+k) b' e' h' (by dsimp only;omega) (fun hf=>?_) ?_
  ·rw[hf]at hb'
   have hb:b=false:=by
    cases b with
    | false=>rfl
    | true=>exact absurd hb'.symm (by simp)
   refine⟨hb,?_⟩
   by_cases hk0:k=0
   ·subst hk0
    rw[hb,List.take_zero]at hb'
    exact absurd hb' (by decide)
   ·omega
  ·intro n0 d0 e0 r hb hD hd hr
   have hstop':¬nch (s.getD (a+k) 0):=by
    unfold nxC at hstop
    rw[hb,if_neg (by decide)]at hstop
    exact hstop
   have h1:=Ry (s.drop a) k (fun j hj=>by have:=hn j hj;rwa [show(s.drop a).getD j 0=s.getD (a+j) 0 from Ec s a j]) (by rw[show(s.drop a).getD k 0=s.getD (a+k) 0 from Ec s a k];exact hstop')
   rw[hd,Mh (ME hD) hr]at h1
   rw[<-hd]at h1
   have hk':(dcT n0 d0 e0).length=k:=by rw[h1,hrl]
   rw[<-h1,MF hD]at hb'⊢
   exact⟨rfl,by rw[hb',hb];rfl,by rw[hk']⟩
 have stop:¬nch (nxC s (a+k) b)->need (isPtr (.box p 0)) (need (isPtr (.box p 0)) (Ak (Af st2 [] (.t (AC (.box p 0) 0)) 0) fun x2=>As .str x2 fun s3=>need (isPtr (.box p 0)) (need (isPtr (.box p 0)) (Ak (Af st2 [] (.t (AC (.box p 0) 1)) 0) fun x3=>As (.int .i64) x3 fun n9=>((0<=((a:Nat):Int)/\((a:Nat):Int)<=n9/\n9<=((s3).length:Int))/\
   CallT PR CS [.str (List.drop (Int.toNat ((a:Nat):Int)) (List.take (Int.toNat n9) s3))] [.agg [.bool,.str,.int .i64],.one (.int .i64)] st2 fun b3 s4 n10 n11 st3=>(Af st3 [] (.t (AC (.box p 0) 1)) 0=some (.int .i64 n9)/\(Af st3 [] (.t (AC (.box p 0) 0)) 0=some (.str s3)/\need (isPtr (.box p 0)) (need (isPtr (.box p 0)) (Ak (Af st3 [] (.t (AC (.box p 0) 2)) 0) fun x4=>As .bool x4 fun b4=>BIf b4
    (need (isPtr (.box p 0)) (need (isPtr (.box p 0)) (stB st3 (AC (.box p 0) 2) [.bool true] fun st4=>K 2 false b3 s4 n10 0 0 0 0 [] .nilSlice .nilSlice .nilSlice st4))) (need (isPtr (.box p 0)) (need (isPtr (.box p 0)) (stB st3 (AC (.box p 0) 2) [.bool (decide (n11≠0))] fun st5=>K 2 false b3 s4 n10 0 0 0 0 [] .nilSlice .nilSlice .nilSlice st5)))))))))))):=fun hstop=>by
  refine Ab rfl (Ab rfl (Ac h2.src (Aw (Ab rfl (Ab rfl (Ac h2.pos (Ap ⟨⟨Int.natCast_nonneg _,by omega,Int.ofNat_le.2 hal⟩,?_⟩)))))))
  rw[Int.toNat_natCast,Int.toNat_natCast,run]
  refine dP_ok (by omega) ⟨h2.pos,h2.src,Ab rfl (Ab rfl (Ac h2.bad (Cy (Aq (fun g=>Ab rfl (Ab rfl (h2.setBad true fun st' e h'=>fin hstop true st' (e2.trans e) h' (by rw[g];rfl)))) fun g=>Ab rfl (Ab rfl (h2.setBad _ fun st' e h'=>fin hstop _ st' (e2.trans e) h' (by rw[g];rfl)))))))⟩
 refine Aa (fun l1=>Aa (fun l2=>Aa (fun l3=>Aa (fun l4=>Aa (fun l5=>?_) fun l5=>?_) fun l4=>?_) fun l3=>?_) fun l2=>?_) fun l1=>Aa (fun m1=>Aa (fun l2=>Aa (fun l3=>Aa (fun l4=>Aa (fun l5=>?_) fun l5=>?_) fun l4=>?_) fun l3=>?_) fun l2=>?_) fun m1=>?_
 ·exact stop (fun h=>by have:=(CA _).1 h;omega)
 ·have hne:nxC s (a+k) b≠0:=fun e=>by have e0:(nxC s (a+k) b).toNat=0:=by rw[e];rfl
                                      omega
  obtain⟨hfalse,hlt,hnx⟩:=Fa hne
  exact Ab rfl (Ab rfl (Ac h2.pos (Ap (Ab rfl (Ab rfl (h2.setPos (c:=a+(k+1)) (by omega) (by rw[Ad _ (by omega) (by omega)];omega) fun st' e h'=>⟨⟨rfl,rfl,rfl,rfl,rfl,rfl,rfl,rfl,rfl,rfl,rfl,rfl,rfl,rfl,rfl,e2.trans e,k+1,h',more ((CA _).2 (by omega)),fun hb=>by rw[hb]at hfalse;cases hfalse⟩,by dsimp only;rw[h'.posOf,hp2];omega⟩))))))
 ·have hne:nxC s (a+k) b≠0:=fun e=>by have e0:(nxC s (a+k) b).toNat=0:=by rw[e];rfl
                                      omega
  obtain⟨hfalse,hlt,hnx⟩:=Fa hne
  exact Ab rfl (Ab rfl (Ac h2.pos (Ap (Ab rfl (Ab rfl (h2.setPos (c:=a+(k+1)) (by omega) (by rw[Ad _ (by omega) (by omega)];omega) fun st' e h'=>⟨⟨rfl,rfl,rfl,rfl,rfl,rfl,rfl,rfl,rfl,rfl,rfl,rfl,rfl,rfl,rfl,e2.trans e,k+1,h',more ((CA _).2 (by omega)),fun hb=>by rw[hb]at hfalse;cases hfalse⟩,by dsimp only;rw[h'.posOf,hp2];omega⟩))))))
 ·have hne:nxC s (a+k) b≠0:=fun e=>by have e0:(nxC s (a+k) b).toNat=0:=by rw[e];rfl
                                      omega
  obtain⟨hfalse,hlt,hnx⟩:=Fa hne
  exact Ab rfl (Ab rfl (Ac h2.pos (Ap (Ab rfl (Ab rfl (h2.setPos (c:=a+(k+1)) (by omega) (by rw[Ad _ (by omega) (by omega)];omega) fun st' e h'=>⟨⟨rfl,rfl,rfl,rfl,rfl,rfl,rfl,rfl,rfl,rfl,rfl,rfl,rfl,rfl,rfl,e2.trans e,k+1,h',more ((CA _).2 (by omega)),fun hb=>by rw[hb]at hfalse;cases hfalse⟩,by dsimp only;rw[h'.posOf,hp2];omega⟩))))))
 ·have hne:nxC s (a+k) b≠0:=fun e=>by have e0:(nxC s (a+k) b).toNat=0:=by rw[e];rfl
                                      omega
  obtain⟨hfalse,hlt,hnx⟩:=Fa hne
  exact Ab rfl (Ab rfl (Ac h2.pos (Ap (Ab rfl (Ab rfl (h2.setPos (c:=a+(k+1)) (by omega) (by rw[Ad _ (by omega) (by omega)];omega) fun st' e h'=>⟨⟨rfl,rfl,rfl,rfl,rfl,rfl,rfl,rfl,rfl,rfl,rfl,rfl,rfl,rfl,rfl,e2.trans e,k+1,h',more ((CA _).2 (by omega)),fun hb=>by rw[hb]at hfalse;cases hfalse⟩,by dsimp only;rw[h'.posOf,hp2];omega⟩))))))
 ·exact stop (fun h=>by have:=(CA _).1 h;omega)
 ·have hne:nxC s (a+k) b≠0:=fun e=>by have e0:(nxC s (a+k) b).toNat=0:=by rw[e];rfl
                                      omega
  obtain⟨hfalse,hlt,hnx⟩:=Fa hne
  exact Ab rfl (Ab rfl (Ac h2.pos (Ap (Ab rfl (Ab rfl (h2.setPos (c:=a+(k+1)) (by omega) (by rw[Ad _ (by omega) (by omega)];omega) fun st' e h'=>⟨⟨rfl,rfl,rfl,rfl,rfl,rfl,rfl,rfl,rfl,rfl,rfl,rfl,rfl,rfl,rfl,e2.trans e,k+1,h',more ((CA _).2 (by omega)),fun hb=>by rw[hb]at hfalse;cases hfalse⟩,by dsimp only;rw[h'.posOf,hp2];omega⟩))))))
 ·have hne:nxC s (a+k) b≠0:=fun e=>by have e0:(nxC s (a+k) b).toNat=0:=by rw[e];rfl
                                      omega
  obtain⟨hfalse,hlt,hnx⟩:=Fa hne
  exact Ab rfl (Ab rfl (Ac h2.pos (Ap (Ab rfl (Ab rfl (h2.setPos (c:=a+(k+1)) (by omega) (by rw[Ad _ (by omega) (by omega)];omega) fun st' e h'=>⟨⟨rfl,rfl,rfl,rfl,rfl,rfl,rfl,rfl,rfl,rfl,rfl,rfl,rfl,rfl,rfl,e2.trans e,k+1,h',more ((CA _).2 (by omega)),fun hb=>by rw[hb]at hfalse;cases hfalse⟩,by dsimp only;rw[h'.posOf,hp2];omega⟩))))))
 ·have hne:nxC s (a+k) b≠0:=fun e=>by have e0:(nxC s (a+k) b).toNat=0:=by rw[e];rfl
                                      omega
  obtain⟨hfalse,hlt,hnx⟩:=Fa hne
  exact Ab rfl (Ab rfl (Ac h2.pos (Ap (Ab rfl (Ab rfl (h2.setPos (c:=a+(k+1)) (by omega) (by rw[Ad _ (by omega) (by omega)];omega) fun st' e h'=>⟨⟨rfl,rfl,rfl,rfl,rfl,rfl,rfl,rfl,rfl,rfl,rfl,rfl,rfl,rfl,rfl,e2.trans e,k+1,h',more ((CA _).2 (by omega)),fun hb=>by rw[hb]at hfalse;cases hfalse⟩,by dsimp only;rw[h'.posOf,hp2];omega⟩))))))
 ·have hne:nxC s (a+k) b≠0:=fun e=>by have e0:(nxC s (a+k) b).toNat=0:=by rw[e];rfl
                                      omega
  obtain⟨hfalse,hlt,hnx⟩:=Fa hne
  exact Ab rfl (Ab rfl (Ac h2.pos (Ap (Ab rfl (Ab rfl (h2.setPos (c:=a+(k+1)) (by omega) (by rw[Ad _ (by omega) (by omega)];omega) fun st' e h'=>⟨⟨rfl,rfl,rfl,rfl,rfl,rfl,rfl,rfl,rfl,rfl,rfl,rfl,rfl,rfl,rfl,e2.trans e,k+1,h',more ((CA _).2 (by omega)),fun hb=>by rw[hb]at hfalse;cases hfalse⟩,by dsimp only;rw[h'.posOf,hp2];omega⟩))))))
 ·have hne:nxC s (a+k) b≠0:=fun e=>by have e0:(nxC s (a+k) b).toNat=0:=by rw[e];rfl
                                      omega
  obtain⟨hfalse,hlt,hnx⟩:=Fa hne
  exact Ab rfl (Ab rfl (Ac h2.pos (Ap (Ab rfl (Ab rfl (h2.setPos (c:=a+(k+1)) (by omega) (by rw[Ad _ (by omega) (by omega)];omega) fun st' e h'=>⟨⟨rfl,rfl,rfl,rfl,rfl,rfl,rfl,rfl,rfl,rfl,rfl,rfl,rfl,rfl,rfl,e2.trans e,k+1,h',more ((CA _).2 (by omega)),fun hb=>by rw[hb]at hfalse;cases hfalse⟩,by dsimp only;rw[h'.posOf,hp2];omega⟩))))))
theorem enc0 {w:Vl} (h:BR w) (k:w.sc.kind=0):w= .mk (scK 0) [] []:=by
 obtain⟨s,l,f⟩:=w
 change s.kind=0 at k
 unfold BR at h
 obtain⟨own,_⟩:=h
 rw[own.ls (by omega),own.fs (by omega),CM own (t:=scK 0) k (by omega) (fun _=>rfl) (by omega) (fun _=>⟨rfl,rfl,rfl⟩) (by omega) (fun _=>⟨rfl,rfl,rfl,rfl⟩) (by omega) (fun _=>rfl) (by omega) (fun _=>rfl)]
theorem Yo {w:Vl} (h:BR w) (k:w.sc.kind=1):w= .mk {scK 1 with b:=w.sc.b} [] []:=by
 obtain⟨s,l,f⟩:=w
 change s.kind=1 at k
 unfold BR at h
 obtain⟨own,_⟩:=h
 rw[own.ls (by omega),own.fs (by omega)]
 show Vl.mk s [] []= .mk {scK 1 with b:=s.b} [] []
 rw[<-CM own (t:={scK 1 with b:=s.b}) k (fun _=>rfl) (by omega) (by omega) (fun _=>⟨rfl,rfl,rfl⟩) (by omega) (fun _=>⟨rfl,rfl,rfl,rfl⟩) (by omega) (fun _=>rfl) (by omega) (fun _=>rfl)]
theorem enc2 {w:Vl} (h:BR w) (k:w.sc.kind=2):w= .mk {scK 2 with neg:=w.sc.neg,dg:=w.sc.dg,ex:=w.sc.ex} [] []/\Cu w.sc.neg w.sc.dg w.sc.ex/\AG w=dcT w.sc.neg w.sc.dg w.sc.ex:=by
 obtain⟨s,l,f⟩:=w
 change s.kind=2 at k
 unfold BR at h
 obtain⟨own,dec,_⟩:=h
 refine⟨?_,dec,Sw k⟩
 rw[own.ls (by omega),own.fs (by omega)]
 show Vl.mk s [] []= .mk {scK 2 with neg:=s.neg,dg:=s.dg,ex:=s.ex} [] []
 rw[<-CM own (t:={scK 2 with neg:=s.neg,dg:=s.dg,ex:=s.ex}) k (by omega) (fun _=>rfl) (fun _=>⟨rfl,rfl,rfl⟩) (by omega) (by omega) (fun _=>⟨rfl,rfl,rfl,rfl⟩) (by omega) (fun _=>rfl) (by omega) (fun _=>rfl)]
theorem enc3 {w:Vl} (h:BR w) (k:w.sc.kind=3):w= .mk {scK 3 with tk:=w.sc.tk,td:=w.sc.td,tn:=w.sc.tn,tz:=w.sc.tz} [] []/\BW w.sc.tk w.sc.td w.sc.tn w.sc.tz/\AG w=116::34::(FS w.sc.tk w.sc.td w.sc.tn w.sc.tz++[34]):=by
 obtain⟨s,l,f⟩:=w
 change s.kind=3 at k
 unfold BR at h
 obtain⟨own,dec,tim,_⟩:=h
 refine⟨?_,tim k,Sv k⟩
 rw[own.ls (by omega),own.fs (by omega)]
 show Vl.mk s [] []= .mk {scK 3 with tk:=s.tk,td:=s.td,tn:=s.tn,tz:=s.tz} [] []
 rw[<-CM own (t:={scK 3 with tk:=s.tk,td:=s.td,tn:=s.tn,tz:=s.tz}) k (by omega) (fun _=>rfl) (by omega) (fun _=>⟨rfl,rfl,rfl⟩) (fun _=>⟨rfl,rfl,rfl,rfl⟩) (by omega) (by omega) (fun _=>rfl) (by omega) (fun _=>rfl)]
theorem enc4 {w:Vl} (h:BR w) (k:w.sc.kind=4):w= .mk {scK 4 with text:=w.sc.text} [] []/\AG w=quB w.sc.text:=by
 obtain⟨s,l,f⟩:=w
 change s.kind=4 at k
 unfold BR at h
 obtain⟨own,_⟩:=h
 refine⟨?_,Su k⟩
 rw[own.ls (by omega),own.fs (by omega)]
 show Vl.mk s [] []= .mk {scK 4 with text:=s.text} [] []
 rw[<-CM own (t:={scK 4 with text:=s.text}) k (by omega) (fun _=>rfl) (by omega) (fun _=>⟨rfl,rfl,rfl⟩) (by omega) (fun _=>⟨rfl,rfl,rfl,rfl⟩) (fun _=>rfl) (by omega) (by omega) (fun _=>rfl)]
theorem enc5 {w:Vl} (h:BR w) (k:w.sc.kind=5):w= .mk {scK 5 with bytes:=w.sc.bytes} [] []/\AG w=98::34::(Bt true w.sc.bytes++[34]):=by
 obtain⟨s,l,f⟩:=w
 change s.kind=5 at k
 unfold BR at h
 obtain⟨own,_⟩:=h
 refine⟨?_,Ss k⟩
 rw[own.ls (by omega),own.fs (by omega)]
 show Vl.mk s [] []= .mk {scK 5 with bytes:=s.bytes} [] []
 rw[<-CM own (t:={scK 5 with bytes:=s.bytes}) k (by omega) (fun _=>rfl) (by omega) (fun _=>⟨rfl,rfl,rfl⟩) (by omega) (fun _=>⟨rfl,rfl,rfl,rfl⟩) (by omega) (fun _=>rfl) (fun _=>rfl) (by omega)]
theorem enc6 {w:Vl} (h:BR w) (k:w.sc.kind=6):w= .mk (scK 6) w.list []/\CL w.list/\AG w=91::(AJ true w.list++[93]):=by
 obtain⟨s,l,f⟩:=w
 change s.kind=6 at k
 unfold BR at h
 obtain⟨own,_,_,_,_,hl,_⟩:=h
 refine⟨?_,hl,Sr k⟩
 rw[own.fs (by omega),CM own (t:=scK 6) k (by omega) (fun _=>rfl) (by omega) (fun _=>⟨rfl,rfl,rfl⟩) (by omega) (fun _=>⟨rfl,rfl,rfl,rfl⟩) (by omega) (fun _=>rfl) (by omega) (fun _=>rfl)]
 rfl
theorem enc7 {w:Vl} (h:BR w) (k:w.sc.kind=7):w= .mk (scK 7) [] w.flds/\CH w.flds/\AG w=123::(AD true w.flds++[125]):=by
 obtain⟨s,l,f⟩:=w
 change s.kind=7 at k
 unfold BR at h
 obtain⟨own,_,_,_,_,_,hf⟩:=h
 refine⟨?_,hf,Sq k⟩
 rw[own.ls (by omega),CM own (t:=scK 7) k (by omega) (fun _=>rfl) (by omega) (fun _=>⟨rfl,rfl,rfl⟩) (by omega) (fun _=>⟨rfl,rfl,rfl,rfl⟩) (by omega) (fun _=>rfl) (by omega) (fun _=>rfl)]
 rfl
abbrev K13:=Int->Bool->Bool->B8->Int->Int->Int->Int->Int->B8->TV->TV->TV->St->Prop
def ValG (d:Nat) (s:B8) (a:Nat) (b:Bool) (v:Vl) (a':Nat) (b':Bool):Prop:=∀w r,b=false->BR w->lvV w<=d->s.drop a=AG w++r->¬nch (r.getD 0 0)->v=w/\b'=false/\a'=a+(AG w).length
def Q0 (d:Nat):Prop:=∀(p a:Nat) (s:B8) (st:St) (b:Bool) (K:K13),s.length<=100000->PS p s st a b->
 (∀sc ub ul uf st' a' b' v,Ar ub=true->Ar ul=true->Ar uf=true->StX (·=p) st st'->PS p s st' a' b'->a<=a'->VlR St.zero v (AI sc ub ul uf)->v.sz<=3*(a'-a)+1->(b'=false->b=false/\a<a'/\v.sz<=3*(a'-a))->ValG d s a b v a' b'->K sc.kind sc.b sc.neg sc.dg sc.ex sc.tk sc.td sc.tn sc.tz sc.text ub ul uf st')->
 CallT PR A2 [.box p 0,.int .i64 (49-(d:Nat))] [.agg [.int .i64,.bool,.bool,.str,.int .i64,.int .i64,.int .i64,.int .i64,.int .i64,.str,.tv,.tv,.tv]] st K
def badOf (p:Nat) (st:St):Nat:=match st.box p with | .cells [_,_,.bool b]=>if b then 0 else 1 | _=>0
theorem PS.badOf {p a:Nat} {s:B8} {st:St} {b:Bool} (h:PS p s st a b):badOf p st=if b then 0 else 1:=by unfold TVF.badOf;rw[h.2.1]
theorem XD {d:Nat} (hdd:d<=47) (ih:Q0 d) {p a:Nat} {s:B8} {st:St} {K:K13} (hl:s.length<=100000) (h:PS p s st a false) (hlt:a<s.length) (h91:s.getD a 0=91)
  (hk:∀ul st' a' b' l,Ar ul=true->StX (·=p) st st'->PS p s st' a' b'->a<a'->VlR St.zero (.mk (scK 6) l []) (AI (scK 6) .nilSlice ul .nilSlice)->1+Ct l<=3*(a'-a)->
   (∀w r,CL w->(∀x,x∈w->lvV x<=d)->s.drop a=91::(AJ true w++93::r)->l=w/\b'=false/\a'=a+1+(AJ true w).length+1)->K 6 false false [] 0 0 0 0 0 [] .nilSlice ul .nilSlice st'):
  CallT PR D1 [.box p 0,.int .i64 (49-((d+1:Nat):Int))] [.agg [.int .i64,.bool,.bool,.str,.int .i64,.int .i64,.int .i64,.int .i64,.int .i64,.str,.tv,.tv,.tv]] st K:=by
 have hcons:s.drop a=91::s.drop (a+1):=by rw[List.drop_eq_getElem_cons hlt];congr 1;rw[<-h91];simp[List.getD,hlt]
 refine JQ p _ st K (CO (t:=[91]) (by omega) (by decide) h fun st1 e1 h1=>?_)
 have ok:tkF [91] s a false:=Gv rfl hcons
 rw[if_pos ok,decide_eq_false (fun hn=>hn ok)]at h1
 refine⟨fun p' D z1 z2 z3 z4 z5 z6 z7 z8 z9 z10 z11 z12 z13 c1 c2 c3 c4 c5 c6 c7 c8 c9 c10 c11 c12 c13 st'=>TV.box p 0=p'/\49-((d+1:Nat):Int)=D/\(0:Int)=z1/\false=z2/\false=z3/\([]:B8)=z4/\(0:Int)=z5/\(0:Int)=z6/\(0:Int)=z7/\(0:Int)=z8/\(0:Int)=z9/\([]:B8)=z10/\TV.nilSlice=z11/\TV.nilSlice=z12/\TV.nilSlice=z13/\
   (6:Int)=c1/\false=c2/\false=c3/\([]:B8)=c4/\(0:Int)=c5/\(0:Int)=c6/\(0:Int)=c7/\(0:Int)=c8/\(0:Int)=c9/\([]:B8)=c10/\TV.nilSlice=c11/\TV.nilSlice=c13/\
   ∃(l2:List Vl) (xs:List TV) (a2:Nat) (b2:Bool),StX (·=p) st1 st'/\PS p s st' a2 b2/\Ar c12=true/\Own st1.nt 13 st' c12 l2.length xs/\VsR St.zero l2 xs/\a+1<=a2/\Ct l2+3<=3*(a2-a)+(if b2 then 1 else 0)/\
    ∀w r,CL w->(∀x,x∈w->lvV x<=d)->s.drop a=91::(AJ true w++93::r)->b2=false/\∃l3,w=l2++l3/\s.drop a2=AJ (decide (l2=[])) l3++93::r,
  fun _ _ _ _ _ _ _ _ _ _ _ _ _ _ _ _ _ _ _ _ _ _ _ _ _ _ _ _ st'=>2*(s.length-posOf p st')+badOf p st',⟨rfl,rfl,rfl,rfl,rfl,rfl,rfl,rfl,rfl,rfl,rfl,rfl,rfl,rfl,rfl,rfl,rfl,rfl,rfl,rfl,rfl,rfl,rfl,rfl,rfl,rfl,rfl,[],[],_,_,StX.refl _ _,h1,rfl,Own.nil _ _ _,by unfold VsR;rfl,Nat.le_refl _,?_,?_⟩,?_⟩
 ·show Ct []+3<=3*(a+1-a)+0
  have:Ct []=0:=by unfold Ct;rfl
  omega
 ·intro w r hw hlv hd
  rw[hcons]at hd
  injection hd with _ hd
  exact⟨rfl,w,rfl,hd⟩
 rintro _ _ _ _ _ _ _ _ _ _ _ _ _ _ _ _ _ _ _ _ _ _ _ _ _ _ c12 _ st2 ⟨rfl,rfl,rfl,rfl,rfl,rfl,rfl,rfl,rfl,rfl,rfl,rfl,rfl,rfl,rfl,rfl,rfl,rfl,rfl,rfl,rfl,rfl,rfl,rfl,rfl,rfl,rfl,l2,xs,a2,b2,e2,h2,o2,ho2,hvs,ha2,hsb,hG⟩
 have ha2l:=h2.2.2
 have hll:=DF l2
 have hb01:(if b2 then 1 else 0)<=1:=by split<;>omega
 have hone:List.all [TV.int .i64 6,.bool false,.bool false,.str [],.int .i64 0,.int .i64 0,.int .i64 0,.int .i64 0,.int .i64 0,.str [],.nilSlice,c12,.nilSlice] Ar=true:=Bv rfl o2 rfl
 have hV:VlR St.zero (.mk (scK 6) l2 []) (AI (scK 6) .nilSlice c12 .nilSlice):=by
  unfold VlR
  exact⟨_,_,_,xs,[],rfl,.of_rd (.inl ⟨rfl,rfl,rfl⟩),.of_rd ho2.rd,hvs,.of_rd (.inl ⟨rfl,rfl,rfl⟩),by unfold FsR;rfl⟩
 refine HR (by omega) h2 (Aa (fun g=>Ab rfl (Ab rfl (Ac h2.bad (Cy (Aq (fun g1=>?_) fun g1=>?_))))) fun g=>?_)
 ·have hb2:b2=false:=by simpa using g1
  subst hb2
  have hne93:s.getD a2 0≠93:=fun e=>g (by unfold nxC;rw[if_neg (by decide),e];rfl)
  have hD:i64.wrap (49-((d+1:Nat):Int)+1)=49-((d:Nat):Int):=by rw[Ad _ (by omega) (by omega)];omega
  rw[hD]
  have hcase:∀w r,CL w->(∀x,x∈w->lvV x<=d)->s.drop a=91::(AJ true w++93::r)->∃x l4,w=l2++x::l4/\s.drop a2=(if decide (l2=[])=true then []else [44])++(AG x++(AJ false l4++93::r)):=fun w r hw hlv hd=>by
   obtain⟨_,l3,hwl,hd2⟩:=hG w r hw hlv hd
   cases l3 with
   | nil=>
    exfalso
    unfold AJ at hd2
    exact hne93 (BP hd2).1
   | cons x l4=>
    refine⟨x,l4,hwl,?_⟩
    rw[hd2,AJ];simp only[List.append_assoc]
  refine Ab ho2.rd.isSl ?_
  rw[ho2.rd.lenS]
  refine Aa (fun g2=>CO (t:=[44]) (by omega) (by decide) h2 fun st3 e3' h3=>?_) fun g2=>?_
  ·have hl2:l2≠ []:=fun e=>by rw[e]at g2;simp at g2
   generalize ha3:(if tkF [44] s a2 false then a2+ [44].length else a2)=a3 at h3
   generalize hb3:decide (¬tkF [44] s a2 false)=b3 at h3
   have h23:a2<=a3:=by rw[<-ha3];split<;>simp
   have e3:=e2.trans e3'
   have ho3:=ho2.extX e3'
   have G3:∀w r,CL w->(∀x,x∈w->lvV x<=d)->s.drop a=91::(AJ true w++93::r)->b3=false/\∃x l4,w=l2++x::l4/\s.drop a3=AG x++(AJ false l4++93::r):=fun w r hw hlv hd=>by
    obtain⟨x,l4,hwl,hd2⟩:=hcase w r hw hlv hd
    rw[decide_eq_false hl2,if_neg (by decide)]at hd2
    have ok2:tkF [44] s a2 false:=Gv rfl hd2
    rw[<-hb3,<-ha3,if_pos ok2]
    exact⟨decide_eq_false fun hn=>hn ok2,x,l4,hwl,JU hd2⟩
   have hb3f:b3=false->a2<a3:=fun e=>by
    rw[<-hb3]at e
    have:=Decidable.not_not.1 (of_decide_eq_false e)
    rw[<-ha3,if_pos this];simp
   ·refine ih p a3 s st3 b3 _ hl h3 fun sc wb wl wf st4 a4 b4 v q1 q2 q3 e4 h4 ha4 hv hz hb4 hG4=>Ab (Bv q1 q2 q3) ?_
    refine PH (e3.trans e4) rfl (ho3.extX e4) (by omega) (by omega) fun v' st5 e5 hbx hnb ho5=>Ab (by simp[ho5.rd.one]) ?_
    have h5:=h4.same hbx hnb
    have ha4l:=h5.2.2
    have hsz:Ct (l2++[v])=Ct l2+v.sz:=by simp[Lw]
    refine⟨⟨rfl,rfl,rfl,rfl,rfl,rfl,rfl,rfl,rfl,rfl,rfl,rfl,rfl,rfl,rfl,rfl,rfl,rfl,rfl,rfl,rfl,rfl,rfl,rfl,rfl,rfl,rfl,l2++[v],_,a4,b4,e5,h5,ho5.rd.one,by rw[List.length_append,List.length_singleton];exact ho5,VsR.snoc hvs hv,by omega,?_,?_⟩,?_⟩
    ·rw[hsz]
     cases b4 with
     | false=>have:=(hb4 rfl).2.2;simp only[Bool.false_eq_true,if_false]at hsb⊢;omega
     | true=>simp only[Bool.false_eq_true,if_false,if_true]at hsb⊢;omega
    ·intro w r hw hlv hd
     obtain⟨hb3,x,l4,rfl,hd3⟩:=G3 w r hw hlv hd
     have hx:=Ft.1 hw x (by simp)
     obtain⟨rfl,r2,r3⟩:=hG4 x _ hb3 hx (hlv x (by simp)) hd3 (by rw[JR];exact G7 AG (by decide) l4 r)
     refine⟨r2,l4,by simp,?_⟩
     rw[r3,<-List.drop_drop,hd3,List.drop_left,decide_eq_false (by simp)]
    ·dsimp only
     rw[h5.posOf,h5.badOf,h2.posOf,h2.badOf]
     cases b4 with
     | false=>have:=(hb4 rfl).2.1;simp only[Bool.false_eq_true,if_false];omega
     | true=>simp only[Bool.false_eq_true,if_false,if_true];omega
  ·have hl2:l2=[]:=List.length_eq_zero_iff.1 (by omega)
   obtain⟨st3,hst3⟩:∃st3,st3=st2:=⟨_,rfl⟩
   obtain⟨a3,ha3⟩:∃a3,a3=a2:=⟨_,rfl⟩
   obtain⟨b3,hb3⟩:∃b3,b3=false:=⟨_,rfl⟩
   have h3:PS p s st3 a3 b3:=by rw[hst3,ha3,hb3];exact h2
   have e3:StX (·=p) st1 st3:=by rw[hst3];exact e2
   have ho3:Own st1.nt 13 st3 c12 l2.length xs:=by rw[hst3];exact ho2
   have h23:a2<=a3:=by omega
   have G3:∀w r,CL w->(∀x,x∈w->lvV x<=d)->s.drop a=91::(AJ true w++93::r)->b3=false/\∃x l4,w=l2++x::l4/\s.drop a3=AG x++(AJ false l4++93::r):=fun w r hw hlv hd=>by
    obtain⟨x,l4,hwl,hd2⟩:=hcase w r hw hlv hd
    rw[decide_eq_true hl2,if_pos rfl,List.nil_append]at hd2
    exact⟨hb3,x,l4,hwl,by rw[ha3];exact hd2⟩
   rw[<-hst3]
   ·refine ih p a3 s st3 b3 _ hl h3 fun sc wb wl wf st4 a4 b4 v q1 q2 q3 e4 h4 ha4 hv hz hb4 hG4=>Ab (Bv q1 q2 q3) ?_
    refine PH (e3.trans e4) rfl (ho3.extX e4) (by omega) (by omega) fun v' st5 e5 hbx hnb ho5=>Ab (by simp[ho5.rd.one]) ?_
    have h5:=h4.same hbx hnb
    have ha4l:=h5.2.2
    have hsz:Ct (l2++[v])=Ct l2+v.sz:=by simp[Lw]
    refine⟨⟨rfl,rfl,rfl,rfl,rfl,rfl,rfl,rfl,rfl,rfl,rfl,rfl,rfl,rfl,rfl,rfl,rfl,rfl,rfl,rfl,rfl,rfl,rfl,rfl,rfl,rfl,rfl,l2++[v],_,a4,b4,e5,h5,ho5.rd.one,by rw[List.length_append,List.length_singleton];exact ho5,VsR.snoc hvs hv,by omega,?_,?_⟩,?_⟩
    ·rw[hsz]
     cases b4 with
     | false=>have:=(hb4 rfl).2.2;simp only[Bool.false_eq_true,if_false]at hsb⊢;omega
     | true=>simp only[Bool.false_eq_true,if_false,if_true]at hsb⊢;omega
    ·intro w r hw hlv hd
     obtain⟨hb3,x,l4,rfl,hd3⟩:=G3 w r hw hlv hd
     have hx:=Ft.1 hw x (by simp)
     obtain⟨rfl,r2,r3⟩:=hG4 x _ hb3 hx (hlv x (by simp)) hd3 (by rw[JR];exact G7 AG (by decide) l4 r)
     refine⟨r2,l4,by simp,?_⟩
     rw[r3,<-List.drop_drop,hd3,List.drop_left,decide_eq_false (by simp)]
    ·dsimp only
     rw[h5.posOf,h5.badOf,h3.posOf,h3.badOf,hb3]
     cases b4 with
     | false=>have:=(hb4 rfl).2.1;simp only[Bool.false_eq_true,if_false];omega
     | true=>simp only[Bool.false_eq_true,if_false,if_true];omega
 ·have hb2:b2=true:=by simpa using g1
  subst hb2
  refine CO (t:=[93]) (by omega) (by decide) h2 fun st3 e3 h3=>Ab hone ?_
  have no:¬tkF [93] s a2 true:=fun h=>by cases h.1
  rw[if_neg no,decide_eq_true no]at h3
  refine hk c12 st3 a2 true l2 o2 (e1.trans (e2.trans e3)) h3 (by omega) hV (by simp only[if_true]at hsb;omega) ?_
  intro w r hw hlv hd
  have:=(hG w r hw hlv hd).1
  cases this
 ·have h93:nxC s a2 b2=93:=(u8i (k:=93)).1 (Decidable.not_not.1 g)
  have hne:nxC s a2 b2≠0:=by rw[h93];decide
  obtain⟨hb2,hlt2,hnx⟩:=Fa hne
  subst hb2
  rw[h93]at hnx
  refine CO (t:=[93]) (by omega) (by decide) h2 fun st3 e3 h3=>Ab hone ?_
  have hc2:s.drop a2=[93]++s.drop (a2+1):=by rw[List.drop_eq_getElem_cons hlt2,List.singleton_append];congr 1;rw[hnx];simp[List.getD,hlt2]
  have ok2:tkF [93] s a2 false:=Gv rfl hc2
  rw[if_pos ok2,decide_eq_false (fun hn=>hn ok2)]at h3
  refine hk c12 st3 (a2+1) false l2 o2 (e1.trans (e2.trans e3)) h3 (by omega) hV (by simp only[Bool.false_eq_true,if_false]at hsb;omega) ?_
  intro w r hw hlv hd
  obtain⟨_,l3,rfl,hd2⟩:=hG w r hw hlv hd
  cases l3 with
  | nil=>
   unfold AJ at hd2
   refine⟨by rw[List.append_nil],rfl,?_⟩
   have l1:=congrArg List.length hd
   have l2':=congrArg List.length hd2
   simp only[List.length_drop,List.length_append,List.length_cons,List.nil_append,List.append_nil]at l1 l2'⊢
   omega
  | cons x l4=>
   exfalso
   have hx:=Ft.1 hw x (by simp)
   rw[AJ]at hd2
   by_cases hl2:l2=[]
   ·rw[decide_eq_true hl2,if_pos rfl,List.nil_append,List.append_assoc]at hd2
    have h0:=(Q9 hx (AJ false l4++93::r)).1
    rw[<-hd2,hc2]at h0
    exact h0 rfl
   ·rw[decide_eq_false hl2,if_neg (by decide),hc2]at hd2
    injection hd2 with h0 _
    exact absurd h0 (by decide)
theorem Ul {d:Nat} (hdd:d<=47) (ih:Q0 d) {p a:Nat} {s:B8} {st:St} {K:K13} (hl:s.length<=100000) (h:PS p s st a false) (hlt:a<s.length) (h91:s.getD a 0=123)
  (hk:∀uf st' a' b' l,Ar uf=true->StX (·=p) st st'->PS p s st' a' b'->a<a'->VlR St.zero (.mk (scK 7) [] l) (AI (scK 7) .nilSlice .nilSlice uf)->1+BS l<=3*(a'-a)->
   (∀w r,CH w->(∀x,x∈w->lvD x<=d)->s.drop a=123::(AD true w++125::r)->l=w/\b'=false/\a'=a+1+(AD true w).length+1)->K 7 false false [] 0 0 0 0 0 [] .nilSlice .nilSlice uf st'):
  CallT PR Dh [.box p 0,.int .i64 (49-((d+1:Nat):Int))] [.agg [.int .i64,.bool,.bool,.str,.int .i64,.int .i64,.int .i64,.int .i64,.int .i64,.str,.tv,.tv,.tv]] st K:=by
 have hcons:s.drop a=123::s.drop (a+1):=by rw[List.drop_eq_getElem_cons hlt];congr 1;rw[<-h91];simp[List.getD,hlt]
 refine Ip p _ st K (CO (t:=[123]) (by omega) (by decide) h fun st1 e1 h1=>?_)
 have ok:tkF [123] s a false:=Gv rfl hcons
 rw[if_pos ok,decide_eq_false (fun hn=>hn ok)]at h1
 refine⟨fun p' D z1 z2 z3 z4 z5 z6 z7 z8 z9 z10 z11 z12 z13 c1 c2 c3 c4 c5 c6 c7 c8 c9 c10 c11 c12 c13 st'=>TV.box p 0=p'/\49-((d+1:Nat):Int)=D/\(0:Int)=z1/\false=z2/\false=z3/\([]:B8)=z4/\(0:Int)=z5/\(0:Int)=z6/\(0:Int)=z7/\(0:Int)=z8/\(0:Int)=z9/\([]:B8)=z10/\TV.nilSlice=z11/\TV.nilSlice=z12/\TV.nilSlice=z13/\
   (7:Int)=c1/\false=c2/\false=c3/\([]:B8)=c4/\(0:Int)=c5/\(0:Int)=c6/\(0:Int)=c7/\(0:Int)=c8/\(0:Int)=c9/\([]:B8)=c10/\TV.nilSlice=c11/\TV.nilSlice=c12/\
   ∃(l2:List Fd) (xs:List TV) (a2:Nat) (b2:Bool),StX (·=p) st1 st'/\PS p s st' a2 b2/\Ar c13=true/\Own st1.nt 14 st' c13 l2.length xs/\FsR St.zero l2 xs/\a+1<=a2/\BS l2+3<=3*(a2-a)+(if b2 then 1 else 0)/\
    ∀w r,CH w->(∀x,x∈w->lvD x<=d)->s.drop a=123::(AD true w++125::r)->b2=false/\∃l3,w=l2++l3/\s.drop a2=AD (decide (l2=[])) l3++125::r,
  fun _ _ _ _ _ _ _ _ _ _ _ _ _ _ _ _ _ _ _ _ _ _ _ _ _ _ _ _ st'=>2*(s.length-posOf p st')+badOf p st',⟨rfl,rfl,rfl,rfl,rfl,rfl,rfl,rfl,rfl,rfl,rfl,rfl,rfl,rfl,rfl,rfl,rfl,rfl,rfl,rfl,rfl,rfl,rfl,rfl,rfl,rfl,rfl,[],[],_,_,StX.refl _ _,h1,rfl,Own.nil _ _ _,by unfold FsR;rfl,Nat.le_refl _,?_,?_⟩,?_⟩
 ·show BS []+3<=3*(a+1-a)+0
  have:BS []=0:=by unfold BS;rfl
  omega
 ·intro w r hw hlv hd
  rw[hcons]at hd
  injection hd with _ hd
  exact⟨rfl,w,rfl,hd⟩
 rintro _ _ _ _ _ _ _ _ _ _ _ _ _ _ _ _ _ _ _ _ _ _ _ _ _ _ _ c13 st2 ⟨rfl,rfl,rfl,rfl,rfl,rfl,rfl,rfl,rfl,rfl,rfl,rfl,rfl,rfl,rfl,rfl,rfl,rfl,rfl,rfl,rfl,rfl,rfl,rfl,rfl,rfl,rfl,l2,xs,a2,b2,e2,h2,o2,ho2,hvs,ha2,hsb,hG⟩
 have ha2l:=h2.2.2
 have hll:=CC l2
 have hb01:(if b2 then 1 else 0)<=1:=by split<;>omega
 have hone:List.all [TV.int .i64 7,.bool false,.bool false,.str [],.int .i64 0,.int .i64 0,.int .i64 0,.int .i64 0,.int .i64 0,.str [],.nilSlice,.nilSlice,c13] Ar=true:=Bv rfl rfl o2
 have hV:VlR St.zero (.mk (scK 7) [] l2) (AI (scK 7) .nilSlice .nilSlice c13):=by
  unfold VlR
  exact⟨_,_,_,[],xs,rfl,.of_rd (.inl ⟨rfl,rfl,rfl⟩),.of_rd (.inl ⟨rfl,rfl,rfl⟩),by unfold VsR;rfl,.of_rd ho2.rd,hvs⟩
 refine HR (by omega) h2 (Aa (fun g=>Ab rfl (Ab rfl (Ac h2.bad (Cy (Aq (fun g1=>?_) fun g1=>?_))))) fun g=>?_)
 ·have hb2:b2=false:=by simpa using g1
  subst hb2
  have hne93:s.getD a2 0≠125:=fun e=>g (by unfold nxC;rw[if_neg (by decide),e];rfl)
  have hD:i64.wrap (49-((d+1:Nat):Int)+1)=49-((d:Nat):Int):=by rw[Ad _ (by omega) (by omega)];omega
  rw[hD]
  have hcase:∀w r,CH w->(∀x,x∈w->lvD x<=d)->s.drop a=123::(AD true w++125::r)->∃k x l4,w=l2++Fd.mk k x::l4/\s.drop a2=(if decide (l2=[])=true then []else [44])++(quB k++(58::(AG x++(AD false l4++125::r)))):=fun w r hw hlv hd=>by
   obtain⟨_,l3,hwl,hd2⟩:=hG w r hw hlv hd
   cases l3 with
   | nil=>
    exfalso
    unfold AD at hd2
    exact hne93 (BP hd2).1
   | cons x l4=>
    obtain⟨k,x⟩:=x
    refine⟨k,x,l4,hwl,?_⟩
    rw[hd2,AD,HL];simp only[List.append_assoc,List.cons_append]
  refine Ab ho2.rd.isSl ?_
  rw[ho2.rd.lenS]
  refine Aa (fun g2=>CO (t:=[44]) (by omega) (by decide) h2 fun st3 e3' h3=>?_) fun g2=>?_
  ·have hl2:l2≠ []:=fun e=>by rw[e]at g2;simp at g2
   generalize ha3:(if tkF [44] s a2 false then a2+ [44].length else a2)=a3 at h3
   generalize hb3:decide (¬tkF [44] s a2 false)=b3 at h3
   have h23:a2<=a3:=by rw[<-ha3];split<;>simp
   have e3:=e2.trans e3'
   have ho3:=ho2.extX e3'
   have G3:∀w r,CH w->(∀x,x∈w->lvD x<=d)->s.drop a=123::(AD true w++125::r)->b3=false/\∃k x l4,w=l2++Fd.mk k x::l4/\s.drop a3=quB k++(58::(AG x++(AD false l4++125::r))):=fun w r hw hlv hd=>by
    obtain⟨k,x,l4,hwl,hd2⟩:=hcase w r hw hlv hd
    rw[decide_eq_false hl2,if_neg (by decide)]at hd2
    have ok2:tkF [44] s a2 false:=Gv rfl hd2
    rw[<-hb3,<-ha3,if_pos ok2]
    exact⟨decide_eq_false fun hn=>hn ok2,k,x,l4,hwl,JU hd2⟩
   ·refine Mc (by omega) h3 fun key st31 a31 b31 e31 h31 hka hkb hkG=>CO (t:=[58]) (by omega) (by decide) h31 fun st32 e32 h32=>?_
    generalize ha32:(if tkF [58] s a31 b31 then a31+ [58].length else a31)=a32 at h32
    generalize hb32:decide (¬tkF [58] s a31 b31)=b32 at h32
    have h312:a31<=a32:=by rw[<-ha32];split<;>simp
    have G4:∀w r,CH w->(∀x,x∈w->lvD x<=d)->s.drop a=123::(AD true w++125::r)->b32=false/\∃x l4,w=l2++Fd.mk key x::l4/\s.drop a32=AG x++(AD false l4++125::r):=fun w r hw hlv hd=>by
     obtain⟨hb3',k,x,l4,hwl,hd3⟩:=G3 w r hw hlv hd
     obtain⟨rfl,y2,y3⟩:=hkG k _ hb3' hd3
     have hd31:s.drop a31=[58]++(AG x++(AD false l4++125::r)):=by rw[y3,<-List.drop_drop,hd3,List.drop_left];rfl
     have ok3:tkF [58] s a31 b31:=Gv y2 hd31
     rw[<-hb32,<-ha32,if_pos ok3]
     exact⟨decide_eq_false fun hn=>hn ok3,x,l4,hwl,JU hd31⟩
    have e32':=(e3.trans e31).trans e32
    have ho32:=(ho3.extX e31).extX e32
    refine ih p a32 s st32 b32 _ hl h32 fun sc wb wl wf st4 a4 b4 v q1 q2 q3 e4 h4 ha4 hv hz hb4 hG4=>Ab (Me q1 q2 q3) ?_
    refine PH (e32'.trans e4) rfl (ho32.extX e4) (by omega) (by omega) fun v' st5 e5 hbx hnb ho5=>Ab (by simp[ho5.rd.one]) ?_
    have h5:=h4.same hbx hnb
    have ha4l:=h5.2.2
    have hsz:BS (l2++[Fd.mk key v])=BS l2+(key.length+v.sz):=by simp[Mv,szd]
    refine⟨⟨rfl,rfl,rfl,rfl,rfl,rfl,rfl,rfl,rfl,rfl,rfl,rfl,rfl,rfl,rfl,rfl,rfl,rfl,rfl,rfl,rfl,rfl,rfl,rfl,rfl,rfl,rfl,l2++[Fd.mk key v],_,a4,b4,e5,h5,ho5.rd.one,by rw[List.length_append,List.length_singleton];exact ho5,FsR.snoc0 hvs (show FdR St.zero (Fd.mk key v) _ by unfold FdR;exact⟨_,rfl,hv⟩),by omega,?_,?_⟩,?_⟩
    ·rw[hsz]
     cases b4 with
     | false=>have:=(hb4 rfl).2.2;simp only[Bool.false_eq_true,if_false]at hsb⊢;omega
     | true=>simp only[Bool.false_eq_true,if_false,if_true]at hsb⊢;omega
    ·intro w r hw hlv hd
     obtain⟨hb3',x,l4,rfl,hd3⟩:=G4 w r hw hlv hd
     have hx:=EM.1 hw (Fd.mk key x) (by simp)
     have hlx:=hlv (Fd.mk key x) (by simp)
     unfold Lu at hx
     unfold lvD at hlx
     obtain⟨rfl,r2,r3⟩:=hG4 x _ hb3' hx.2 hlx hd3 (by rw[JS];exact G7 HL (by decide) l4 r)
     refine⟨r2,l4,by simp,?_⟩
     rw[r3,<-List.drop_drop,hd3,List.drop_left,decide_eq_false (by simp)]
    ·dsimp only
     rw[h5.posOf,h5.badOf,h2.posOf,h2.badOf]
     cases b4 with
     | false=>have:=(hb4 rfl).2.1;simp only[Bool.false_eq_true,if_false];omega
     | true=>simp only[Bool.false_eq_true,if_false,if_true];omega
  ·have hl2:l2=[]:=List.length_eq_zero_iff.1 (by omega)
   obtain⟨st3,hst3⟩:∃st3,st3=st2:=⟨_,rfl⟩
   obtain⟨a3,ha3⟩:∃a3,a3=a2:=⟨_,rfl⟩
   obtain⟨b3,hb3⟩:∃b3,b3=false:=⟨_,rfl⟩
   have h3:PS p s st3 a3 b3:=by rw[hst3,ha3,hb3];exact h2
   have e3:StX (·=p) st1 st3:=by rw[hst3];exact e2
   have ho3:Own st1.nt 14 st3 c13 l2.length xs:=by rw[hst3];exact ho2
   have h23:a2<=a3:=by omega
   have G3:∀w r,CH w->(∀x,x∈w->lvD x<=d)->s.drop a=123::(AD true w++125::r)->b3=false/\∃k x l4,w=l2++Fd.mk k x::l4/\s.drop a3=quB k++(58::(AG x++(AD false l4++125::r))):=fun w r hw hlv hd=>by
    obtain⟨k,x,l4,hwl,hd2⟩:=hcase w r hw hlv hd
    rw[decide_eq_true hl2,if_pos rfl,List.nil_append]at hd2
    exact⟨hb3,k,x,l4,hwl,by rw[ha3];exact hd2⟩
   rw[<-hst3]
   ·refine Mc (by omega) h3 fun key st31 a31 b31 e31 h31 hka hkb hkG=>CO (t:=[58]) (by omega) (by decide) h31 fun st32 e32 h32=>?_
    generalize ha32:(if tkF [58] s a31 b31 then a31+ [58].length else a31)=a32 at h32
    generalize hb32:decide (¬tkF [58] s a31 b31)=b32 at h32
    have h312:a31<=a32:=by rw[<-ha32];split<;>simp
    have G4:∀w r,CH w->(∀x,x∈w->lvD x<=d)->s.drop a=123::(AD true w++125::r)->b32=false/\∃x l4,w=l2++Fd.mk key x::l4/\s.drop a32=AG x++(AD false l4++125::r):=fun w r hw hlv hd=>by
     obtain⟨hb3',k,x,l4,hwl,hd3⟩:=G3 w r hw hlv hd
     obtain⟨rfl,y2,y3⟩:=hkG k _ hb3' hd3
     have hd31:s.drop a31=[58]++(AG x++(AD false l4++125::r)):=by rw[y3,<-List.drop_drop,hd3,List.drop_left];rfl
     have ok3:tkF [58] s a31 b31:=Gv y2 hd31
     rw[<-hb32,<-ha32,if_pos ok3]
     exact⟨decide_eq_false fun hn=>hn ok3,x,l4,hwl,JU hd31⟩
    have e32':=(e3.trans e31).trans e32
    have ho32:=(ho3.extX e31).extX e32
    refine ih p a32 s st32 b32 _ hl h32 fun sc wb wl wf st4 a4 b4 v q1 q2 q3 e4 h4 ha4 hv hz hb4 hG4=>Ab (Me q1 q2 q3) ?_
    refine PH (e32'.trans e4) rfl (ho32.extX e4) (by omega) (by omega) fun v' st5 e5 hbx hnb ho5=>Ab (by simp[ho5.rd.one]) ?_
    have h5:=h4.same hbx hnb
    have ha4l:=h5.2.2
    have hsz:BS (l2++[Fd.mk key v])=BS l2+(key.length+v.sz):=by simp[Mv,szd]
    refine⟨⟨rfl,rfl,rfl,rfl,rfl,rfl,rfl,rfl,rfl,rfl,rfl,rfl,rfl,rfl,rfl,rfl,rfl,rfl,rfl,rfl,rfl,rfl,rfl,rfl,rfl,rfl,rfl,l2++[Fd.mk key v],_,a4,b4,e5,h5,ho5.rd.one,by rw[List.length_append,List.length_singleton];exact ho5,FsR.snoc0 hvs (show FdR St.zero (Fd.mk key v) _ by unfold FdR;exact⟨_,rfl,hv⟩),by omega,?_,?_⟩,?_⟩
    ·rw[hsz]
     cases b4 with
     | false=>have:=(hb4 rfl).2.2;simp only[Bool.false_eq_true,if_false]at hsb⊢;omega
     | true=>simp only[Bool.false_eq_true,if_false,if_true]at hsb⊢;omega
    ·intro w r hw hlv hd
     obtain⟨hb3',x,l4,rfl,hd3⟩:=G4 w r hw hlv hd
     have hx:=EM.1 hw (Fd.mk key x) (by simp)
     have hlx:=hlv (Fd.mk key x) (by simp)
     unfold Lu at hx
     unfold lvD at hlx
     obtain⟨rfl,r2,r3⟩:=hG4 x _ hb3' hx.2 hlx hd3 (by rw[JS];exact G7 HL (by decide) l4 r)
     refine⟨r2,l4,by simp,?_⟩
     rw[r3,<-List.drop_drop,hd3,List.drop_left,decide_eq_false (by simp)]
    ·dsimp only
     rw[h5.posOf,h5.badOf,h3.posOf,h3.badOf,hb3]
     cases b4 with
     | false=>have:=(hb4 rfl).2.1;simp only[Bool.false_eq_true,if_false];omega
     | true=>simp only[Bool.false_eq_true,if_false,if_true];omega
 ·have hb2:b2=true:=by simpa using g1
  subst hb2
  refine CO (t:=[125]) (by omega) (by decide) h2 fun st3 e3 h3=>Ab hone ?_
  have no:¬tkF [125] s a2 true:=fun h=>by cases h.1
  rw[if_neg no,decide_eq_true no]at h3
  refine hk c13 st3 a2 true l2 o2 (e1.trans (e2.trans e3)) h3 (by omega) hV (by simp only[if_true]at hsb;omega) ?_
  intro w r hw hlv hd
  have:=(hG w r hw hlv hd).1
  cases this
 ·have h93:nxC s a2 b2=125:=(u8i (k:=125)).1 (Decidable.not_not.1 g)
  have hne:nxC s a2 b2≠0:=by rw[h93];decide
  obtain⟨hb2,hlt2,hnx⟩:=Fa hne
  subst hb2
  rw[h93]at hnx
  refine CO (t:=[125]) (by omega) (by decide) h2 fun st3 e3 h3=>Ab hone ?_
  have hc2:s.drop a2=[125]++s.drop (a2+1):=by rw[List.drop_eq_getElem_cons hlt2,List.singleton_append];congr 1;rw[hnx];simp[List.getD,hlt2]
  have ok2:tkF [125] s a2 false:=Gv rfl hc2
  rw[if_pos ok2,decide_eq_false (fun hn=>hn ok2)]at h3
  refine hk c13 st3 (a2+1) false l2 o2 (e1.trans (e2.trans e3)) h3 (by omega) hV (by simp only[Bool.false_eq_true,if_false]at hsb;omega) ?_
  intro w r hw hlv hd
  obtain⟨_,l3,rfl,hd2⟩:=hG w r hw hlv hd
  cases l3 with
  | nil=>
   unfold AD at hd2
   refine⟨by rw[List.append_nil],rfl,?_⟩
   have l1:=congrArg List.length hd
   have l2':=congrArg List.length hd2
   simp only[List.length_drop,List.length_append,List.length_cons,List.nil_append,List.append_nil]at l1 l2'⊢
   omega
  | cons x l4=>
   exfalso
   obtain⟨k,x⟩:=x
   rw[AD,HL,hc2]at hd2
   by_cases hl2:l2=[]
   ·rw[decide_eq_true hl2,if_pos rfl,List.nil_append]at hd2
    unfold quB at hd2
    injection hd2 with h0 _
    exact absurd h0 (by decide)
   ·rw[decide_eq_false hl2,if_neg (by decide)]at hd2
    injection hd2 with h0 _
    exact absurd h0 (by decide)
theorem szl (s:Sc):(Vl.mk s [] []).sz=1+s.bytes.length+s.text.length+s.dg.length:=by rw[szs];rfl
theorem Vs (v:Vl):1<=lvV v:=by cases v;unfold lvV;omega
theorem fin_len (k eq w:Nat) (pad:Bool) (o:B8):(fin k eq w pad o).1.length<=o.length:=by
 unfold fin
 split
 ·exact Nat.le_refl _
 split
 ·simp
 split
 ·simp
 ·exact Nat.le_refl _
theorem Tt (s:B8) (pad:Bool):(Cf s (Bh s) pad).1.length<=s.length:=by
 unfold Cf
 split
 ·exact Nat.le_trans (fin_len _ _ _ _ _) (Nat.le_trans (YW s (Bh s)).2.2 (RE s))
 ·simp
theorem Mo {s:B8} {a:Nat} {w:Vl} {r:B8} (hw:BR w) (hd:s.drop a=AG w++r):w.sc.kind=kdT (s.drop a):=by rw[hd];exact Oo hw r
theorem Mn {s:B8} {a:Nat} (c e:UInt8) (h0:s.getD a 0=c) (h1:s.getD (a+1) 0=e):kdT (s.drop a)=(if c=110 then 0 else if c=102 then 1 else if c=116 then(if e=34 then 3 else 1)else if c=34 then 4 else if c=98 then 5 else if c=91 then 6 else if c=123 then 7 else 2):=by
 unfold kdT
 rw[show(s.drop a).getD 0 0=s.getD a 0 from Ec s a 0,show(s.drop a).getD 1 0=s.getD (a+1) 0 from Ec s a 1,h0,h1]
theorem Mb {p a:Nat} {s w:B8} {st:St} {b:Bool} {sc:Sc} {K:K13} (hl:s.length<=100000) (hw:w.length<=1000) (h:PS p s st a b)
  (hk:∀st',StX (·=p) st st'->PS p s st' (if tkF w s a b then a+w.length else a) (decide (¬tkF w s a b))->K sc.kind sc.b sc.neg sc.dg sc.ex sc.tk sc.td sc.tn sc.tz sc.text .nilSlice .nilSlice .nilSlice st'):
  CallT PR Bs [.box p 0,.str w,.agg (AI sc .nilSlice .nilSlice .nilSlice)] [.agg [.int .i64,.bool,.bool,.str,.int .i64,.int .i64,.int .i64,.int .i64,.int .i64,.str,.tv,.tv,.tv]] st K:=
 JN p w _ _ _ _ _ _ _ _ _ _ _ _ _ st K (CO (by omega) hw h fun st1 e1 h1=>Ab (Bv rfl rfl rfl) (hk st1 e1 h1))
theorem val_0:Q0 0:=by
 intro p a s st b K hl h hk
 refine E9 p _ st K (Aa (fun _=>h.setBad true fun st' e h'=>?_) fun g=>absurd (by decide) g)
 refine hk (scK 0) .nilSlice .nilSlice .nilSlice st' a true (.mk (scK 0) [] []) rfl rfl rfl e h' (Nat.le_refl _) (Fg _ _ rfl) (by rw[szl];simp[scK]) (fun h=>by cases h) ?_
 intro w r _ _ hlv _ _
 have:=Vs w
 omega
theorem W5 {d:Nat} (hdd:d<=47) (ih:Q0 d):Q0 (d+1):=by
 intro p a s st b K hl h hk
 have ha:=h.2.2
 refine E9 p _ st K (Aa (fun g=>by omega) fun _=>HR (by omega) h ?_)
 --a scalar that was read
 have leaf:∀(sc:Sc) st' a' b',sc.bytes=[]->StX (·=p) st st'->PS p s st' a' b'->a+sc.text.length+sc.dg.length<=a'->(b'=false->b=false/\a<a')->ValG (d+1) s a b (.mk sc [] []) a' b'->K sc.kind sc.b sc.neg sc.dg sc.ex sc.tk sc.td sc.tn sc.tz sc.text .nilSlice .nilSlice .nilSlice st':=fun sc st' a' b' hby e h' hlen hbb hG=>
  hk sc .nilSlice .nilSlice .nilSlice st' a' b' (.mk sc [] []) rfl rfl rfl e h' (by omega) (Fg _ _ hby) (by rw[szl,hby,List.length_nil];omega) (fun hf=>⟨(hbb hf).1,(hbb hf).2,by rw[szl,hby,List.length_nil];have:=(hbb hf).2;omega⟩) hG
 have word:∀(sc:Sc) (t:B8) st',sc.bytes=[]->sc.text=[]->sc.dg=[]->t≠ []->StX (·=p) st st'->PS p s st' (if tkF t s a b then a+t.length else a) (decide (¬tkF t s a b))->(∀w r,b=false->BR w->s.drop a=AG w++r->Vl.mk sc [] []=w/\AG w=t)->K sc.kind sc.b sc.neg sc.dg sc.ex sc.tk sc.td sc.tn sc.tz sc.text .nilSlice .nilSlice .nilSlice st':=fun sc t st' h1 h2 h3 hne e h' hG=>by
  have hpos:=List.length_pos_iff.2 hne
  refine leaf sc st' _ _ h1 e h' (by rw[h2,h3];simp only[List.length_nil];split<;>omega) (fun hf=>?_) ?_
  ·have ok:=Decidable.not_not.1 (of_decide_eq_false hf)
   rw[if_pos ok]
   exact⟨ok.1,by omega⟩
  ·intro w r hb hw hlv hd hr
   obtain⟨h4,h5⟩:=hG w r hb hw hd
   have ok:tkF t s a b:=Gv hb (by rw[hd,h5])
   rw[if_pos ok,h5]
   exact⟨h4,decide_eq_false fun hn=>hn ok,rfl⟩
 have nx:b=false->s.getD a 0=nxC s a b:=fun hb=>by unfold nxC;rw[hb];rfl
 refine Aa (fun g=>?_) fun g110=>?_
 ·have hc:nxC s a b=110:=(u8i (k:=110)).1 g
  refine Mb (sc:=scK 0) hl (by decide) h fun st1 e1 h1=>Ab (Bv rfl rfl rfl) (word (scK 0) [110,117,108,108] st1 rfl rfl rfl (by decide) e1 h1 fun w r hb hw hd=>?_)
  have hk0:=Mo hw hd
  rw[Mn 110 _ ((nx hb).trans hc) rfl]at hk0
  have hw0:=enc0 hw hk0
  exact⟨hw0.symm,by rw[hw0];exact Sx rfl⟩
 refine Aa (fun g=>?_) fun g116=>?_
 ·have hc:nxC s a b=116:=(u8i (k:=116)).1 g
  obtain⟨hb,hlt,hnx⟩:=Fa (by rw[hc];decide:nxC s a b≠0)
  subst hb
  have hc0:s.getD a 0=116:=(nx rfl).trans hc
  have hcons:s.drop a=116::s.drop (a+1):=by rw[List.drop_eq_getElem_cons hlt];congr 1;rw[<-hc0];simp[List.getD,hlt]
  refine Ac h.pos (Ap (Ac h.src (Aw ?_)))
  rw[Ad (((a:Nat):Int)+1) (by omega) (by omega)]
  have tr:s.getD (a+1) 0≠34->∀st',StX (·=p) st st'->PS p s st' (if tkF [116,114,117,101] s a false then a+ [116,114,117,101].length else a) (decide (¬tkF [116,114,117,101] s a false))->K ({scK 1 with b:=true}:Sc).kind true false [] 0 0 0 0 0 [] .nilSlice .nilSlice .nilSlice st':=fun h34 st' e h'=>
   word {scK 1 with b:=true} [116,114,117,101] st' rfl rfl rfl (by decide) e h' fun w r hb hw hd=>by
    have hk0:=Mo hw hd
    rw[Mn 116 _ hc0 rfl,if_neg (by decide),if_neg (by decide),if_pos rfl,if_neg h34]at hk0
    have hw1:=Yo hw hk0
    have ht:AG w=if w.sc.b then [116,114,117,101]else [102,97,108,115,101]:=by
     conv=>lhs;rw[hw1]
     exact LI rfl
    have hb1:w.sc.b=true:=by
     cases hb:w.sc.b with
     | true=>rfl
     | false=>
      rw[hb]at ht
      rw[ht,hcons]at hd
      injection hd with h0 _
      exact absurd h0 (by decide)
    rw[hb1]at ht hw1
    exact⟨hw1.symm,ht⟩
  refine Aa (fun g1=>Ac h.src (Aw (Ac h.pos (Ap ?_)))) fun g1=>?_
  ·rw[Ad (((a:Nat):Int)+1) (by omega) (by omega),show(((a:Nat):Int)+1).toNat=a+1 by omega]
   refine⟨⟨by omega,by omega⟩,Aa (fun g2=>?_) fun g2=>?_⟩
   ·have h34:s.getD (a+1) 0=34:=(u8i (k:=34)).1 g2
    refine Ac h.pos (Ap (h.setPos (c:=a+1) (by omega) (by rw[Ad _ (by omega) (by omega)];omega) fun st4 e4 h4=>Mc (by omega) h4 fun x st5 a5 b5 e5 h5 hx5 hb5 hG5=>tP_ok (by have:=h5.2.2;omega) fun st6 e6=>?_))
    have h6:=h5.ext e6
    have E6:StX (·=p) st st6:=(e4.trans e5).trans (.of e6)
    have fin:∀st7 b7,StX (·=p) st6 st7->PS p s st7 a5 b7->b7=(b5 || decide ((tmP x).2.2.2.2≠0))->K 3 false false [] 0 (tmP x).1 (tmP x).2.1 (tmP x).2.2.1 (tmP x).2.2.2.1 [] .nilSlice .nilSlice .nilSlice st7:=fun st7 b7 e7 h7 hb7=>
     leaf {scK 3 with tk:=(tmP x).1,td:=(tmP x).2.1,tn:=(tmP x).2.2.1,tz:=(tmP x).2.2.2.1} st7 a5 b7 rfl (E6.trans e7) h7 (by show a+0+0<=a5;omega) (fun hf=>by
      have:b5=false:=by
       cases b5 with
       | false=>rfl
       | true=>rw[hf]at hb7;exact absurd hb7.symm (by simp)
      exact⟨rfl,by have:=(hb5 this).2;omega⟩) (by
      intro w r _ hw hlv hd hr
      have hk0:=Mo hw hd
      rw[Mn 116 34 hc0 h34]at hk0
      obtain⟨hw3,ht,htx⟩:=enc3 hw hk0
      have hq:AG w=116::quB (FS w.sc.tk w.sc.td w.sc.tn w.sc.tz):=by rw[htx,(HM _ _ _ _).quB]
      have hd1:s.drop (a+1)=quB (FS w.sc.tk w.sc.td w.sc.tn w.sc.tz)++r:=by
       rw[hq,hcons]at hd
       injection hd
      obtain⟨rfl,y2,y3⟩:=hG5 _ r rfl hd1
      have htm:=LN ht fun _=>Mq (by obtain⟨_,_,q3,q4,_⟩:=ht;omega)
      rw[htm]at hb7⊢
      exact⟨hw3.symm,by rw[hb7,y2];rfl,by rw[y3,hq,List.length_cons];omega⟩)
    exact Ac h6.bad (Cy (Aq (fun g3=>h6.setBad true fun st7 e7 h7=>fin st7 true e7 h7 (by rw[g3];rfl)) fun g3=>h6.setBad _ fun st7 e7 h7=>fin st7 _ e7 h7 (by rw[g3];rfl)))
   ·exact Mb (sc:={scK 1 with b:=true}) hl (by decide) h fun st1 e1 h1=>Ab (Bv rfl rfl rfl) (tr (fun e=>g2 (by rw[e];rfl)) st1 e1 h1)
  ·exact Mb (sc:={scK 1 with b:=true}) hl (by decide) h fun st1 e1 h1=>Ab (Bv rfl rfl rfl) (tr (fun e=>by have:=Ou (by decide) e;omega) st1 e1 h1)
 refine Aa (fun g=>?_) fun g102=>?_
 ·have hc:nxC s a b=102:=(u8i (k:=102)).1 g
  refine Mb (sc:=scK 1) hl (by decide) h fun st1 e1 h1=>Ab (Bv rfl rfl rfl) (word (scK 1) [102,97,108,115,101] st1 rfl rfl rfl (by decide) e1 h1 fun w r hb hw hd=>?_)
  have hc0:s.getD a 0=102:=(nx hb).trans hc
  have hlt:a<s.length:=Ou (by decide) hc0
  have hcons:s.drop a=102::s.drop (a+1):=by rw[List.drop_eq_getElem_cons hlt];congr 1;rw[<-hc0];simp[List.getD,hlt]
  have hk0:=Mo hw hd
  rw[Mn 102 _ hc0 rfl]at hk0
  have hw1:=Yo hw hk0
  have ht:AG w=if w.sc.b then [116,114,117,101]else [102,97,108,115,101]:=by
   conv=>lhs;rw[hw1]
   exact LI rfl
  have hb1:w.sc.b=false:=by
   cases hb:w.sc.b with
   | false=>rfl
   | true=>
    rw[hb]at ht
    rw[ht,hcons]at hd
    injection hd with h0 _
    exact absurd h0 (by decide)
  rw[hb1]at ht hw1
  exact⟨hw1.symm,ht⟩
 refine Aa (fun g=>?_) fun g34=>?_
 ·have hc:nxC s a b=34:=(u8i (k:=34)).1 g
  refine Mc (by omega) h fun x st1 a1 b1 e1 h1 hx hb1 hG=>leaf {scK 4 with text:=x} st1 a1 b1 rfl e1 h1 (by show a+x.length+0<=a1;omega) hb1 ?_
  intro w r hb hw hlv hd hr
  have hk0:=Mo hw hd
  rw[Mn 34 _ ((nx hb).trans hc) rfl]at hk0
  obtain⟨hw4,ht⟩:=enc4 hw hk0
  rw[ht]at hd⊢
  obtain⟨rfl,y2,y3⟩:=hG _ r hb hd
  exact⟨hw4.symm,y2,y3⟩
 refine Aa (fun g=>?_) fun g98=>?_
 ·have hc:nxC s a b=98:=(u8i (k:=98)).1 g
  obtain⟨hb,hlt,hnx⟩:=Fa (by rw[hc];decide:nxC s a b≠0)
  subst hb
  have hc0:s.getD a 0=98:=(nx rfl).trans hc
  have hcons:s.drop a=98::s.drop (a+1):=by rw[List.drop_eq_getElem_cons hlt];congr 1;rw[<-hc0];simp[List.getD,hlt]
  refine Ac h.pos (Ap (h.setPos (c:=a+1) (by omega) (by rw[Ad _ (by omega) (by omega)];omega) fun st4 e4 h4=>Mc (by omega) h4 fun x st5 a5 b5 e5 h5 hx5 hb5 hG5=>dec_ok (by have:=h5.2.2;omega) fun v st6 e6 hv=>?_))
  have h6:=h5.ext e6
  have hdl:=Tt x true
  have E6:StX (·=p) st st6:=(e4.trans e5).trans (.of e6)
  have fin:∀st7 b7,StX (·=p) st6 st7->PS p s st7 a5 b7->b7=(b5 || decide ((Cf x (Bh x) true).2≠0))->K 5 false false [] 0 0 0 0 0 [] v .nilSlice .nilSlice st7:=fun st7 b7 e7 h7 hb7=>by
   have hb5':b7=false->b5=false:=fun hf=>by
    cases b5 with
    | false=>rfl
    | true=>rw[hf]at hb7;exact absurd hb7.symm (by simp)
   refine hk {scK 5 with bytes:=(Cf x (Bh x) true).1} v .nilSlice .nilSlice st7 a5 b7 (.mk {scK 5 with bytes:=(Cf x (Bh x) true).1} [] []) (Rd.one hv) rfl rfl (E6.trans e7) h7 (by omega) ?_ ?_ (fun hf=>⟨rfl,?_,?_⟩) ?_
   ·unfold VlR
    exact⟨_,_,_,[],[],rfl,.of_rd hv,.of_rd (.inl ⟨rfl,rfl,rfl⟩),by unfold VsR;rfl,.of_rd (.inl ⟨rfl,rfl,rfl⟩),by unfold FsR;rfl⟩
   ·rw[szl];show 1+(Cf x (Bh x) true).1.length+0+0<=_;omega
   ·have:=(hb5 (hb5' hf)).2;omega
   ·rw[szl];show 1+(Cf x (Bh x) true).1.length+0+0<=_;have:=(hb5 (hb5' hf)).2;omega
   ·intro w r _ hw hlv hd hr
    have hk0:=Mo hw hd
    rw[Mn 98 _ hc0 rfl]at hk0
    obtain⟨hw5,htx⟩:=enc5 hw hk0
    have hq:AG w=98::quB (Bt true w.sc.bytes):=by rw[htx,(HX _ _).quB]
    have hd1:s.drop (a+1)=quB (Bt true w.sc.bytes)++r:=by
     rw[hq,hcons]at hd
     injection hd
    obtain⟨rfl,y2,y3⟩:=hG5 _ r rfl hd1
    rw[MD]at hb7⊢
    exact⟨hw5.symm,by rw[hb7,y2];rfl,by rw[y3,hq,List.length_cons];omega⟩
  have o1:Ar v=true:=Rd.one hv
  exact Ac h6.bad (Cy (Aq (fun g3=>h6.setBad true fun st7 e7 h7=>Ab (by simp[o1]) (Ab (Bv o1 rfl rfl) (fin st7 true e7 h7 (by rw[g3];rfl)))) fun g3=>h6.setBad _ fun st7 e7 h7=>Ab (by simp[o1]) (Ab (Bv o1 rfl rfl) (fin st7 _ e7 h7 (by rw[g3];rfl)))))
 refine Aa (fun g=>?_) fun g91=>?_
 ·have hc:nxC s a b=91:=(u8i (k:=91)).1 g
  obtain⟨hb,hlt,hnx⟩:=Fa (by rw[hc];decide:nxC s a b≠0)
  subst hb
  have hc0:s.getD a 0=91:=(nx rfl).trans hc
  refine XD hdd ih hl h hlt hc0 fun ul st1 a1 b1 l o1 e1 h1 ha1 hV hz hG=>Ab (Bv rfl o1 rfl) ?_
  have hsz:(Vl.mk (scK 6) l []).sz=1+Ct l:=by rw[szs];rfl
  refine hk (scK 6) .nilSlice ul .nilSlice st1 a1 b1 (.mk (scK 6) l []) rfl o1 rfl e1 h1 (by omega) hV (by omega) (fun _=>⟨rfl,ha1,by omega⟩) ?_
  intro w r _ hw hlv hd hr
  have hk0:=Mo hw hd
  rw[Mn 91 _ hc0 rfl]at hk0
  obtain⟨hw6,hE,ht⟩:=enc6 hw hk0
  have hlv':∀x,x∈w.list->lvV x<=d:=by
   rw[hw6]at hlv
   unfold lvV at hlv
   exact RB.1 (show Mi w.list<=d by omega)
  have hd':s.drop a=91::(AJ true w.list++93::r):=by rw[hd,ht];simp
  obtain⟨y1,y2,y3⟩:=hG w.list r hE hlv' hd'
  exact⟨by rw[y1];exact hw6.symm,y2,by rw[y3,ht];simp;omega⟩
 refine Aa (fun g=>?_) fun g123=>?_
 ·have hc:nxC s a b=123:=(u8i (k:=123)).1 g
  obtain⟨hb,hlt,hnx⟩:=Fa (by rw[hc];decide:nxC s a b≠0)
  subst hb
  have hc0:s.getD a 0=123:=(nx rfl).trans hc
  refine Ul hdd ih hl h hlt hc0 fun uf st1 a1 b1 l o1 e1 h1 ha1 hV hz hG=>Ab (Bv rfl rfl o1) ?_
  have hsz:(Vl.mk (scK 7) [] l).sz=1+BS l:=by rw[szs];show 1+0+0+0+Ct []+BS l=_;have:Ct []=0:=rfl;omega
  refine hk (scK 7) .nilSlice .nilSlice uf st1 a1 b1 (.mk (scK 7) [] l) rfl rfl o1 e1 h1 (by omega) hV (by omega) (fun _=>⟨rfl,ha1,by omega⟩) ?_
  intro w r _ hw hlv hd hr
  have hk0:=Mo hw hd
  rw[Mn 123 _ hc0 rfl]at hk0
  obtain⟨hw7,hE,ht⟩:=enc7 hw hk0
  have hlv':∀x,x∈w.flds->lvD x<=d:=by
   rw[hw7]at hlv
   unfold lvV at hlv
   exact Mj.1 (show KN w.flds<=d by omega)
  have hd':s.drop a=123::(AD true w.flds++125::r):=by rw[hd,ht];simp
  obtain⟨y1,y2,y3⟩:=hG w.flds r hE hlv' hd'
  exact⟨by rw[y1];exact hw7.symm,y2,by rw[y3,ht];simp;omega⟩
 ·refine Um (by omega) h fun x st1 a1 b1 e1 h1 hx hb1 hG=>Ab (Bv rfl rfl rfl) (leaf {scK 2 with neg:=x.1,dg:=x.2.1,ex:=x.2.2} st1 a1 b1 rfl e1 h1 (by show a+0+x.2.1.length<=a1;omega) hb1 ?_)
  intro w r hb hw hlv hd hr
  have hk0:=Mo hw hd
  have ne:∀k:UInt8,¬(((nxC s a b).toNat:Nat):Int)=((k.toNat:Nat):Int)->s.getD a 0≠k:=fun k hn e=>hn (by rw[<-nx hb,e])
  rw[Mn _ _ rfl rfl,if_neg (ne 110 g110),if_neg (ne 102 g102),if_neg (ne 116 g116),if_neg (ne 34 g34),if_neg (ne 98 g98),if_neg (ne 91 g91),if_neg (ne 123 g123)]at hk0
  obtain⟨hw2,hD,ht⟩:=enc2 hw hk0
  rw[ht]at hd⊢
  obtain⟨y1,y2,y3⟩:=hG _ _ _ r hb hD hd hr
  refine⟨?_,y2,y3⟩
  rw[y1];exact hw2.symm
theorem Vf:∀d,d<=48->Q0 d
 | 0,_=>val_0
 | d+1,h=>W5 (by omega) (Vf d (by omega))
theorem L6 {c:UInt8} {st:St} {K:Int->St->Prop} (hk:∀n:Int, -1<=n->n<=15->(∀q:Nat,q<16->c=hxD q->n=q)->K n st):CallT PR AO [.int .u8 (c.toNat:Int)] [.one (.int .i64)] st K:=by
 refine KC _ st K ⟨fun i b st'=>(c.toNat:Int)=b/\st=st'/\∃k:Nat,i=k/\k<=16/\∀j,j<k->hxD j≠c,fun i _ _=>(16-i).toNat,⟨rfl,rfl,0,rfl,by omega,fun j h=>absurd h (Nat.not_lt_zero _)⟩,?_⟩
 rintro _ _ _ ⟨rfl,rfl,k,rfl,hk1,hn⟩
 refine Aa (fun g=>⟨⟨by omega,by show _<(16:Int);omega⟩,?_⟩) fun g=>?_
 ·rw[Int.toNat_natCast]
  have hx:(FA.getD k 0)=hxD k:=Ph k (by omega)
  rw[hx]
  refine Aa (fun g1=>?_) fun g1=>?_
  ·have e:hxD k=c:=u8i.1 g1
   refine hk _ (by omega) (by omega) fun q hq hc=>?_
   have:=UC k (by omega) q hq (by rw[e,hc])
   omega
  ·rw[Ad _ (by omega) (by omega)]
   refine⟨⟨rfl,rfl,k+1,by omega,by omega,fun j hj=>?_⟩,by dsimp only;omega⟩
   by_cases hjk:j=k
   ·subst hjk;exact fun e=>g1 (by rw[e])
   ·exact hn j (by omega)
 ·exact hk _ (by omega) (by omega) fun q hq hc=>absurd hc.symm (hn q (by omega))
theorem fromto:∀i:Nat,i<7->Bw ([34,92,8,12,10,13,9].getD i (0:UInt8))=([34,92,98,102,110,114,116].getD i (0:UInt8)).toNat/\Bw ([34,92,8,12,10,13,9].getD i (0:UInt8))≠0/\([34,92,98,102,110,114,116].getD i (0:UInt8))≠117:=by decide
theorem Ya:∀c:Nat,c<256->Bw c.toUInt8≠0->∃i,i<7/\Bw c.toUInt8=([34,92,98,102,110,114,116].getD i (0:UInt8)).toNat:=by decide+kernel
theorem Ua {a b:UInt8} (h:Bw a=Bw b) (h0:Bw a≠0):a=b:=by
 have ha:=LZ a.toNat (UInt8.toNat_lt _) (by rw[u8n];exact h0)
 have hb:=LZ b.toNat (UInt8.toNat_lt _) (by rw[u8n,<-h];exact h0)
 exact UInt8.toNat_inj.1 (Qp a.toNat ha b.toNat hb (by rw[u8n,u8n,h]) (by rw[u8n];exact h0))
def UnsG (t:B8) (c:UInt8) (n:Nat):Prop:=∀c0 u r,BL c0=92::u->t=u++r->c=c0/\n=u.length
theorem VW {t:B8} (hl:t.length<=1000000) {st:St} {K:Int->Int->St->Prop} (hk:∀(c:UInt8) (n:Nat),n<=t.length->UnsG t c n->K (c.toNat:Int) (n:Nat) st):CallT PR C0 [.str t] [.one (.int .u8),.one (.int .i64)] st K:=by
 refine H8 t st K ⟨fun i t' f g st'=>t=t'/\str19=f/\str18=g/\st=st'/\∃k:Nat,i=k/\k<=7/\(0<t.length->∀j,j<k->t.getD 0 0≠([34,92,98,102,110,114,116].getD j (0:UInt8))),fun i _ _ _ _=>(7-i).toNat,⟨rfl,rfl,rfl,rfl,0,rfl,by omega,fun _ j h=>absurd h (Nat.not_lt_zero _)⟩,?_⟩
 rintro _ _ _ _ _ ⟨rfl,rfl,rfl,rfl,k,rfl,hk1,hn⟩
 refine Aa (fun g=>Aa (fun g1=>⟨⟨by omega,g1⟩,⟨by omega,g⟩,?_⟩) fun g1=>Aa (fun g2=>by omega) fun _=>?_) fun g=>?_
 ·have g7:((k:Nat):Int)<7:=g
  rw[Int.toNat_natCast]
  obtain⟨f1,f2,f3⟩:=fromto k (by omega)
  refine Aa (fun g2=>⟨⟨by omega,by show _<(7:Int);omega⟩,?_⟩) fun g2=>?_
  ·have e:t.getD 0 0=[34,92,98,102,110,114,116].getD k (0:UInt8):=UInt8.toNat_inj.1 (Int.ofNat.inj g2)
   refine hk ([34,92,8,12,10,13,9].getD k 0) 1 (by omega) ?_
   rintro c0 u r he rfl
   rcases MA he with⟨h0,x,rfl,hx⟩ | ⟨h32,rfl⟩
   ·have e':x=[34,92,98,102,110,114,116].getD k (0:UInt8):=e
    exact⟨Ua (by rw[f1,hx,e']) f2,rfl⟩
   ·exact absurd e.symm f3
  ·rw[Ad _ (by omega) (by omega)]
   refine⟨⟨rfl,rfl,rfl,rfl,k+1,by omega,by omega,fun h0 j hj=>?_⟩,by dsimp only;omega⟩
   by_cases hjk:j=k
   ·subst hjk
    exact fun e=>g2 (by rw[show List.getD t (Int.toNat 0) 0=t.getD 0 0 from rfl,e];rfl)
   ·exact hn h0 j (by omega)
 ·refine hk 0 0 (Nat.zero_le _) ?_
  rintro c0 u r he rfl
  exfalso
  have:u++r=[]:=List.length_eq_zero_iff.1 (by omega)
  have hu:=(List.append_eq_nil_iff.1 this).1
  subst hu
  rcases MA he with⟨_,x,h,_⟩ | ⟨_,h⟩<;>cases h
 ·have hk7:k=7:=by
   have:¬((k:Nat):Int)<7:=g
   omega
  subst hk7
  have only:∀c0 u r,BL c0=92::u->t=u++r->c0.toNat<32/\u=[117,48,48,hxD (c0.toNat/16),hxD (c0.toNat%16)]:=by
   rintro c0 u r he rfl
   rcases MA he with⟨h0,x,rfl,hx⟩ | h2
   ·exfalso
    obtain⟨i,hi,e⟩:=Ya c0.toNat (UInt8.toNat_lt _) (by rw[u8n];exact h0)
    rw[u8n,hx]at e
    exact hn (by simp) i hi (UInt8.toNat_inj.1 e)
   ·exact h2
  have no:(∀c0:UInt8,∀r,t=[117,48,48,hxD (c0.toNat/16),hxD (c0.toNat%16)]++r->c0.toNat<32->False)->K 0 0 st:=fun hf=>hk 0 0 (Nat.zero_le _) (by
   intro c0 u r he hd
   obtain⟨h1,h2⟩:=only c0 u r he hd
   exact(hf c0 r (by rw[hd,h2]) h1).elim)
  refine Aa (fun g2=>⟨⟨by omega,by omega⟩,Aa (fun g3=>⟨⟨by omega,by omega⟩,?_⟩) fun g3=>no ?_⟩) fun g2=>no ?_
  ·have q3:∀c0:UInt8,∀r,t=[117,48,48,hxD (c0.toNat/16),hxD (c0.toNat%16)]++r->t.getD 3 0=hxD (c0.toNat/16)/\t.getD 4 0=hxD (c0.toNat%16):=by
    rintro c0 r rfl;exact⟨rfl,rfl⟩
   refine L6 fun n1 a1 a2 a3=>Aa (fun g4=>⟨⟨by omega,by omega⟩,L6 fun n2 b1 b2 b3=>Aa (fun g5=>⟨⟨by omega,by omega⟩,⟨by omega,by omega⟩,L6 fun n3 c1 c2 c3=>L6 fun n4 d1 d2 d3=>?_⟩) fun g5=>no fun c0 r ht h32=>?_⟩) fun g4=>no fun c0 r ht h32=>?_
   ·have hv:u8.wrap (i64.wrap (i64.wrap (16*n3)+n4))=(((u8.wrap (16*n3+n4)).toNat.toUInt8.toNat:Nat):Int):=by
     rw[Ad (16*n3) (by omega) (by omega),Ad _ (by omega) (by omega)]
     have hw:0<=u8.wrap (16*n3+n4)/\u8.wrap (16*n3+n4)<256:=by unfold IntKind.wrap;simp only[IntKind.signed,IntKind.bits];simp;omega
     have:((u8.wrap (16*n3+n4)).toNat.toUInt8.toNat)=(u8.wrap (16*n3+n4)).toNat:=by simp;omega
     omega
    rw[hv]
    refine hk _ 5 (by omega) ?_
    intro c0 u r he hd
    obtain⟨h1,h2⟩:=only c0 u r he hd
    obtain⟨e3,e4⟩:=q3 c0 r (by rw[hd,h2])
    have m3:=c3 (c0.toNat/16) (by omega) e3
    have m4:=d3 (c0.toNat%16) (by omega) e4
    refine⟨?_,by rw[h2];rfl⟩
    rw[EN _ (by omega) (by omega),show(16*n3+n4).toNat=c0.toNat by omega,u8n]
   ·have:=b3 (c0.toNat%16) (by omega) (q3 c0 r ht).2
    omega
   ·have:=a3 (c0.toNat/16) (by omega) (q3 c0 r ht).1
    omega
  ·intro c0 r ht h32
   rw[ht]at g3
   exact g3 rfl
  ·intro c0 r ht h32
   have:=congrArg List.length ht
   simp at this
   omega
def UnqG (s x:B8) (n:Nat):Prop:=∀w r,s=quB w++r->x=w/\n=(quB w).length
theorem Iu {s:B8} (hl:s.length<=1000000) {st:St} {K:B8->Int->St->Prop} (hk:∀x st' (n:Nat),Ah st st'->n<=s.length->x.length<=n->UnqG s x n->K x (n:Nat) st'):CallT PR A7 [.str s] [.one .str,.one (.int .i64)] st K:=by
 have no:∀st',Ah st st'->(∀w r,s=quB w++r->False)->K [] 0 st':=fun st' e hf=>hk [] st' 0 e (Nat.zero_le _) (Nat.le_refl _) fun w r h=>(hf w r h).elim
 have e0:=Ah.refl st
 refine HG s st K (Aa (fun g=>no st e0 fun w r h=>?_) fun g=>⟨⟨by omega,by omega⟩,Aa (fun g1=>no st e0 fun w r h=>?_) fun g1=>?_⟩)
 ·have:=congrArg List.length h
  unfold quB at this
  simp at this;omega
 ·rw[h]at g1;exact g1 rfl
 refine⟨fun out i s' st'=>s=s'/\Ah st st'/\∃(k:Nat) (o:B8),i=k/\En st.nt st' out o/\o.length+1<=k/\k<=s.length/\∀w r,s=quB w++r->∃w2,w=o++w2/\s.drop k=w2.flatMap BL++34::r,fun _ i _ _=>(s.length-i).toNat,⟨rfl,e0,1,[],rfl,En.nil _ _,by simp,by omega,fun w r h=>⟨w,rfl,?_⟩⟩,?_⟩
 ·rw[h];unfold quB;simp
 rintro out _ _ st1 ⟨rfl,e1,k,o,rfl,hown,hok,hks,hG⟩
 rw[Int.toNat_natCast]
 refine Aa (fun g2=>⟨⟨by omega,g2⟩,?_⟩) fun g2=>no st1 e1 fun w r h=>?_
 ·have hcons:s.drop k=s.getD k 0::s.drop (k+1):=by rw[List.drop_eq_getElem_cons (by omega)];simp[List.getD,show k<s.length by omega]
  rw[Ad (((k:Nat):Int)+1) (by omega) (by omega),show(((k:Nat):Int)+1).toNat=k+1 by omega]
  refine Aa (fun g3=>?_) fun g3=>Aa (fun g4=>⟨⟨by omega,by omega⟩,VW (by rw[List.length_drop];omega) fun c n hn hU=>?_⟩) fun g4=>⟨⟨by omega,g2⟩,?_⟩
  ·have h34:s.getD k 0=34:=(u8i (k:=34)).1 g3
   refine Ac (x:= .str o) (by rw[hown.rd.toBytes];rfl) (Aw ?_)
   rw[show((k:Nat):Int)+1=((k+1:Nat):Int) by omega]
   refine hk o st1 (k+1) e1 (by omega) (by omega) ?_
   intro w r h
   obtain⟨w2,rfl,hd2⟩:=hG w r h
   rw[hcons,h34]at hd2
   cases w2 with
   | nil=>
    refine⟨by rw[List.append_nil],?_⟩
    have l1:=congrArg List.length h
    have l2:=congrArg List.length hd2
    simp only[List.length_drop,List.length_append,List.length_cons,List.flatMap_nil,List.nil_append]at l1 l2
    rw[List.append_nil]at l1⊢
    omega
   | cons c w2=>
    rw[List.flatMap_cons,List.append_assoc]at hd2
    exact absurd hd2.symm (Kv c _ _)
  ·have h92:s.getD k 0=92:=(u8i (k:=92)).1 g4
   rw[List.length_drop]at hn
   have esc:∀w r,s=quB w++r->∃c0 w3 u,w=o++c0::w3/\c=c0/\n=u.length/\0<n/\s.drop (k+1)=u++(w3.flatMap BL++34::r):=fun w r h=>by
    obtain⟨w2,hw,hd2⟩:=hG w r h
    rw[hcons,h92]at hd2
    cases w2 with
    | nil=>injection hd2 with h0 _;exact absurd h0 (by decide)
    | cons c0 w3=>
     rw[List.flatMap_cons,List.append_assoc]at hd2
     rcases GL c0 with⟨x,q1,q2,q3⟩ | ⟨x,y,q1,q2⟩ | ⟨q1,q2,q3⟩
     ·rw[q1]at hd2
      injection hd2 with _ hd3
      obtain⟨r1,r2⟩:=hU c0 [x] _ q1 hd3
      exact⟨c0,w3,[x],hw,r1,r2,by rw[r2];simp,hd3⟩
     ·rw[q1]at hd2
      injection hd2 with _ hd3
      obtain⟨r1,r2⟩:=hU c0 [117,48,48,x,y] _ q1 hd3
      exact⟨c0,w3,[117,48,48,x,y],hw,r1,r2,by rw[r2];simp,hd3⟩
     ·rw[q1]at hd2
      injection hd2 with h0 _
      exact absurd h0.symm q2
   refine Aa (fun g5=>no st1 e1 fun w r h=>?_) fun g5=>?_
   ·obtain⟨_,_,_,_,_,_,h0,_⟩:=esc w r h
    omega
   ·refine Ey (ys:=[c]) e1 hown rfl rfl (by simp;omega) fun v' st2 e2 _ ho2=>?_
    rw[Ad (_+_) (by omega) (by omega)]
    refine⟨⟨rfl,e2,k+1+n,o++[c],by omega,ho2,by simp;omega,by omega,fun w r h=>?_⟩,by dsimp only;omega⟩
    obtain⟨c0,w3,u,rfl,rfl,hn',_,hd3⟩:=esc w r h
    exact⟨w3,by simp,by rw[<-List.drop_drop,hd3,hn',List.drop_left]⟩
  ·refine Ey (ys:=[s.getD k 0]) e1 hown rfl rfl (by simp;omega) fun v' st2 e2 _ ho2=>?_
   refine⟨⟨rfl,e2,k+1,o++[s.getD k 0],by omega,ho2,by simp;omega,by omega,fun w r h=>?_⟩,by dsimp only;omega⟩
   obtain⟨w2,rfl,hd2⟩:=hG w r h
   rw[hcons]at hd2
   cases w2 with
   | nil=>injection hd2 with h0 _;exact absurd ((u8i (k:=34)).2 h0) g3
   | cons c0 w2=>
    rw[List.flatMap_cons,List.append_assoc]at hd2
    rcases GL c0 with⟨x,q1,q2,q3⟩ | ⟨x,y,q1,q2⟩ | ⟨q1,q2,q3⟩
    ·rw[q1]at hd2;injection hd2 with h0 _;exact absurd ((u8i (k:=92)).2 h0) g4
    ·rw[q1]at hd2;injection hd2 with h0 _;exact absurd ((u8i (k:=92)).2 h0) g4
    ·rw[q1]at hd2
     injection hd2 with h0 hd3
     exact⟨w2,by rw[h0];simp,hd3⟩
 ·obtain⟨w2,_,hd2⟩:=hG w r h
  rw[List.drop_of_length_le (by omega)]at hd2
  have:=congrArg List.length hd2
  simp at this
theorem Gn {s w:B8} {st:St} {K:Bool->St->Prop} (hk:K (decide (s.take w.length=w)) st):CallT PR AR [.str s,.str w] [.one .bool] st K:=by
 refine Ib s w st K (Aa (fun g=>⟨⟨by omega,g⟩,?_⟩) fun g=>?_)
 ·rw[Int.toNat_natCast];exact hk
 ·rw[decide_eq_false fun e=>by have:=congrArg List.length e;rw[List.length_take]at this;omega]at hk;exact hk
theorem SS {s:B8} (hl:s.length<=1000000) {st:St} {K:Int->St->Prop} (hk:∀n:Nat,n<=s.length->Ta s=s.take n->K (n:Nat) st):CallT PR Da [.str s] [.one (.int .i64)] st K:=by
 refine Ia s st K ⟨fun n s' st'=>s=s'/\st=st'/\∃k:Nat,n=k/\k<=s.length/\∀j,j<k->nch (s.getD j 0),fun n _ _=>(s.length-n).toNat,⟨rfl,rfl,0,rfl,Nat.zero_le _,fun j h=>absurd h (Nat.not_lt_zero _)⟩,?_⟩
 rintro _ _ _ ⟨rfl,rfl,k,rfl,hk1,hd⟩
 rw[Int.toNat_natCast]
 have fin:¬nch (s.getD k 0)->K ((k:Nat):Int) st:=fun h=>hk k hk1 (Ry s k hd h)
 have cont:k<s.length->nch (s.getD k 0)->(s=s/\st=st/\∃k':Nat,i64.wrap (((k:Nat):Int)+1)=k'/\k'<=s.length/\∀j,j<k'->nch (s.getD j 0))/\((s.length:Int)-i64.wrap (((k:Nat):Int)+1)).toNat<((s.length:Int)-((k:Nat):Int)).toNat:=fun hlt h=>by
  rw[Ad _ (by omega) (by omega)]
  refine⟨⟨rfl,rfl,k+1,by omega,by omega,fun j hj=>?_⟩,by omega⟩
  by_cases hjk:j=k
  ·subst hjk;exact h
  ·exact hd j (by omega)
 refine Aa (fun g=>?_) fun g=>fin (by rw[show s.getD k 0=0 by simp[List.getD,show s.length<=k by omega]];exact S9)
 have hlt:k<s.length:=by omega
 refine⟨⟨by omega,g⟩,Aa (fun l1=>⟨⟨by omega,g⟩,Aa (fun l2=>cont hlt ((CA _).2 (by omega))) fun l2=>?_⟩) fun l1=>?_⟩
 iterate 2
  ·exact⟨⟨by omega,g⟩,Aa (fun l3=>cont hlt ((CA _).2 (by omega))) fun l3=>⟨⟨by omega,g⟩,Aa (fun l4=>cont hlt ((CA _).2 (by omega))) fun l4=>⟨⟨by omega,g⟩,Aa (fun l5=>cont hlt ((CA _).2 (by omega))) fun l5=>⟨⟨by omega,g⟩,Aa (fun l6=>cont hlt ((CA _).2 (by omega))) fun l6=>fin fun h=>by have:=(CA _).1 h;omega⟩⟩⟩⟩
abbrev K14:=Int->Bool->Bool->B8->Int->Int->Int->Int->Int->B8->TV->TV->TV->Int->St->Prop
def ScaG (s:B8) (v:Vl) (n:Nat):Prop:=∀w r,BR w->w.sc.kind<=5->s=AG w++r->¬nch (r.getD 0 0)->v=w/\n=(AG w).length
theorem Pe {s:B8} {w:Vl} {r:B8} (hw:BR w) (hd:s=AG w++r):w.sc.kind=kdT s:=by rw[hd];exact Oo hw r
theorem H4 {s t r:B8} (h:s=t++r):s.take t.length=t:=by rw[h,List.take_left]
theorem Pf {s t:B8} (h:s.take t.length=t) (h2:2<=t.length):kdT s=kdT t:=by
 have e:s=t++s.drop t.length:=by
  have:=List.take_append_drop t.length s
  rw[h]at this;exact this.symm
 have g:∀i,i<t.length->s.getD i 0=t.getD i 0:=fun i hi=>by
  rw[e];simp[List.getD,List.getElem?_append_left hi]
 unfold kdT
 rw[g 0 (by omega),g 1 (by omega)]
theorem Xs {s:B8} (hl:s.length<=100000) {st:St} {K:K14} (hk:∀sc ub st' v (n:Nat),Ar ub=true->Ah st st'->VlR st' v (AI sc ub .nilSlice .nilSlice)->n<=s.length->v.sz<=3*n+1->ScaG s v n->K sc.kind sc.b sc.neg sc.dg sc.ex sc.tk sc.td sc.tn sc.tz sc.text ub .nilSlice .nilSlice (n:Nat) st'):
  CallT PR C9 [.str s] [.agg [.int .i64,.bool,.bool,.str,.int .i64,.int .i64,.int .i64,.int .i64,.int .i64,.str,.tv,.tv,.tv],.one (.int .i64)] st K:=by
 have e0:=Ah.refl st
 have leaf:∀(sc:Sc) st' (n:Nat),sc.bytes=[]->Ah st st'->n<=s.length->sc.text.length+sc.dg.length<=3*n->ScaG s (.mk sc [] []) n->K sc.kind sc.b sc.neg sc.dg sc.ex sc.tk sc.td sc.tn sc.tz sc.text .nilSlice .nilSlice .nilSlice (n:Nat) st':=fun sc st' n hby e hn hlen hG=>
  hk sc .nilSlice st' (.mk sc [] []) n rfl e (Fg _ _ hby) hn (by rw[szl,hby,List.length_nil];omega) hG
 have no:∀st',Ah st st'->(∀w r,BR w->w.sc.kind<=5->s=AG w++r->¬nch (r.getD 0 0)->False)->K 0 false false [] 0 0 0 0 0 [] .nilSlice .nilSlice .nilSlice 0 st':=fun st' e hf=>leaf (scK 0) st' 0 rfl e (Nat.zero_le _) (by decide) fun w r hw hk5 hd hr=>(hf w r hw hk5 hd hr).elim
 have lenOf:∀t:B8,s.take t.length=t->t.length<=s.length:=fun t h=>by
  have:=congrArg List.length h
  rw[List.length_take]at this;omega
 refine H9 s st K (Gn (Aa (fun g0=>?_) fun g0=>Gn (Aa (fun g1=>?_) fun g1=>Gn (Aa (fun g2=>?_) fun g2=>Gn (Aa (fun g3=>?_) fun g3=>Gn (Aa (fun g4=>?_) fun g4=>Gn (Aa (fun g5=>?_) fun g5=>?_)))))))
 ·refine leaf (scK 0) st 4 rfl e0 (lenOf _ g0) (by decide) ?_
  intro w r hw hk5 hd hr
  have hk0:=Pe hw hd
  rw[Pf g0 (by decide)]at hk0
  have hw0:=enc0 hw hk0
  exact⟨hw0.symm,by rw[hw0];rfl⟩
 ·refine leaf {scK 1 with b:=true} st 4 rfl e0 (lenOf _ g1) (by decide) ?_
  intro w r hw hk5 hd hr
  have hk0:=Pe hw hd
  rw[Pf g1 (by decide)]at hk0
  have hw1:=Yo hw hk0
  have ht:AG w=if w.sc.b then [116,114,117,101]else [102,97,108,115,101]:=by
   conv=>lhs;rw[hw1]
   exact LI rfl
  cases hb:w.sc.b with
  | true=>
   rw[hb]at ht hw1
   exact⟨hw1.symm,by rw[ht];rfl⟩
  | false=>
   rw[hb]at ht
   rw[hd,ht]at g1
   injection g1 with h0 _
   exact absurd h0 (by decide)
 ·refine leaf (scK 1) st 5 rfl e0 (lenOf _ g2) (by decide) ?_
  intro w r hw hk5 hd hr
  have hk0:=Pe hw hd
  rw[Pf g2 (by decide)]at hk0
  have hw1:=Yo hw hk0
  have ht:AG w=if w.sc.b then [116,114,117,101]else [102,97,108,115,101]:=by
   conv=>lhs;rw[hw1]
   exact LI rfl
  cases hb:w.sc.b with
  | false=>
   rw[hb]at ht hw1
   exact⟨hw1.symm,by rw[ht];rfl⟩
  | true=>
   rw[hb]at ht
   rw[hd,ht]at g2
   injection g2 with h0 _
   exact absurd h0 (by decide)
 ·refine Iu (by omega) fun x st' n e' hn hx hU=>leaf {scK 4 with text:=x} st' n rfl e' hn (by show x.length+0<=_;omega) ?_
  intro w r hw hk5 hd hr
  have hk0:=Pe hw hd
  have h34:s.getD 0 0=34:=by
   have e:s=[34]++s.drop 1:=by
    have:=List.take_append_drop 1 s
    rw[show s.take 1=[34]from g3]at this;exact this.symm
   rw[e];rfl
  unfold kdT at hk0
  rw[h34]at hk0
  obtain⟨hw4,ht⟩:=enc4 hw hk0
  obtain⟨rfl,y2⟩:=hU w.sc.text r (by rw[hd,ht])
  exact⟨hw4.symm,by rw[ht];exact y2⟩
 ·have hlen:=lenOf _ g4
  have h2:(2:Nat)<=s.length:=hlen
  refine⟨⟨by omega,by omega⟩,Iu (by rw[List.length_drop];omega) fun x st' n e' hn hx hU=>rtP_ok (by rw[List.length_drop]at hn;omega) ?_⟩
  rw[List.length_drop]at hn
  have tm:∀w r,BR w->w.sc.kind<=5->s=AG w++r->¬nch (r.getD 0 0)->n=(AG w).length-1/\1<(AG w).length/\tmP x=(w.sc.tk,w.sc.td,w.sc.tn,w.sc.tz,0)/\w= .mk {scK 3 with tk:=w.sc.tk,td:=w.sc.td,tn:=w.sc.tn,tz:=w.sc.tz} [] []:=fun w r hw hk5 hd hr=>by
   have hk0:=Pe hw hd
   rw[Pf g4 (by decide)]at hk0
   obtain⟨hw3,ht,htx⟩:=enc3 hw hk0
   have hq:AG w=116::quB (FS w.sc.tk w.sc.td w.sc.tn w.sc.tz):=by rw[htx,(HM _ _ _ _).quB]
   have hd1:s.drop 1=quB (FS w.sc.tk w.sc.td w.sc.tn w.sc.tz)++r:=by rw[hd,hq];rfl
   obtain⟨rfl,y2⟩:=hU _ r hd1
   have htm:=LN ht fun _=>Mq (by obtain⟨_,_,q3,q4,_⟩:=ht;omega)
   refine⟨by rw[y2,hq];simp,by rw[hq];unfold quB;simp,htm,hw3⟩
  refine Aa (fun h0=>no st' e' fun w r hw hk5 hd hr=>?_) fun h0=>Aa (fun h1=>no st' e' fun w r hw hk5 hd hr=>?_) fun h1=>?_
  ·obtain⟨q1,q2,_⟩:=tm w r hw hk5 hd hr
   omega
  ·obtain⟨_,_,q3,_⟩:=tm w r hw hk5 hd hr
   rw[q3]at h1;exact h1 rfl
  ·rw[Ad _ (by omega) (by omega),show((n:Nat):Int)+1=((n+1:Nat):Int) by omega]
   refine leaf {scK 3 with tk:=(tmP x).1,td:=(tmP x).2.1,tn:=(tmP x).2.2.1,tz:=(tmP x).2.2.2.1} st' (n+1) rfl e' (by omega) (by show 0+0<=_;omega) ?_
   intro w r hw hk5 hd hr
   obtain⟨q1,q2,q3,q4⟩:=tm w r hw hk5 hd hr
   rw[q3]
   exact⟨q4.symm,by omega⟩
 ·have hlen:=lenOf _ g5
  have h2:(2:Nat)<=s.length:=hlen
  refine⟨⟨by omega,by omega⟩,Iu (by rw[List.length_drop];omega) fun x st' n e' hn hx hU=>rdec_ok (by rw[List.length_drop]at hn;omega) fun v st2 e2 hv=>?_⟩
  rw[List.length_drop]at hn
  have hdl:=Tt x true
  have E:=e'.trans e2
  have tm:∀w r,BR w->w.sc.kind<=5->s=AG w++r->¬nch (r.getD 0 0)->n=(AG w).length-1/\1<(AG w).length/\Cf x (Bh x) true=(w.sc.bytes,0)/\w= .mk {scK 5 with bytes:=w.sc.bytes} [] []:=fun w r hw hk5 hd hr=>by
   have hk0:=Pe hw hd
   rw[Pf g5 (by decide)]at hk0
   obtain⟨hw5,htx⟩:=enc5 hw hk0
   have hq:AG w=98::quB (Bt true w.sc.bytes):=by rw[htx,(HX _ _).quB]
   have hd1:s.drop 1=quB (Bt true w.sc.bytes)++r:=by rw[hd,hq];rfl
   obtain⟨rfl,y2⟩:=hU _ r hd1
   refine⟨by rw[y2,hq];simp,by rw[hq];unfold quB;simp,MD _ _,hw5⟩
  refine Aa (fun h0=>no st2 E fun w r hw hk5 hd hr=>?_) fun h0=>Aa (fun h1=>no st2 E fun w r hw hk5 hd hr=>?_) fun h1=>?_
  ·obtain⟨q1,q2,_⟩:=tm w r hw hk5 hd hr
   omega
  ·obtain⟨_,_,q3,_⟩:=tm w r hw hk5 hd hr
   rw[q3]at h1;exact h1 rfl
  ·have o1:Ar v=true:=hv.one
   refine Ab (by simp[o1]) (Ab (Bv o1 rfl rfl) ?_)
   rw[Ad _ (by omega) (by omega),show((n:Nat):Int)+1=((n+1:Nat):Int) by omega]
   refine hk {scK 5 with bytes:=(Cf x (Bh x) true).1} v st2 (.mk {scK 5 with bytes:=(Cf x (Bh x) true).1} [] []) (n+1) o1 E ?_ (by omega) ?_ ?_
   ·unfold VlR
    exact⟨_,_,_,[],[],rfl,hv,.of_rd (.inl ⟨rfl,rfl,rfl⟩),by unfold VsR;rfl,.of_rd (.inl ⟨rfl,rfl,rfl⟩),by unfold FsR;rfl⟩
   ·rw[szl];show 1+(Cf x (Bh x) true).1.length+0+0<=_;omega
   ·intro w r hw hk5 hd hr
    obtain⟨q1,q2,q3,q4⟩:=tm w r hw hk5 hd hr
    rw[q3]
    exact⟨q4.symm,by omega⟩
 ·refine SS (by omega) fun n hn hrun=>⟨⟨by omega,by omega⟩,?_⟩
  rw[Int.toNat_natCast]
  have hdl:=VL (s.take n)
  have htl:(s.take n).length=n:=by rw[List.length_take];omega
  refine rP_ok (by omega) ?_
  have tm:∀w r,BR w->w.sc.kind<=5->s=AG w++r->¬nch (r.getD 0 0)->n=(AG w).length/\dcP (s.take n)=(w.sc.neg,w.sc.dg,w.sc.ex,0)/\w= .mk {scK 2 with neg:=w.sc.neg,dg:=w.sc.dg,ex:=w.sc.ex} [] []:=fun w r hw hk5 hd hr=>by
   have own:w.sc.kind=0∨w.sc.kind=1∨w.sc.kind=2∨w.sc.kind=3∨w.sc.kind=4∨w.sc.kind=5:=by
    have:=Vt (s:=w.sc) (l:=w.list) (f:=w.flds) (by cases w;unfold BR at hw;exact hw.1)
    omega
   have k2:w.sc.kind=2:=by
    rcases own with h | h | h | h | h | h
    ·exfalso
     have hw0:=enc0 hw h
     rw[hw0]at hd
     exact g0 (H4 (t:=[110,117,108,108]) hd)
    ·exfalso
     have hw1:=Yo hw h
     have ht:AG w=if w.sc.b then [116,114,117,101]else [102,97,108,115,101]:=by
      conv=>lhs;rw[hw1]
      exact LI rfl
     rw[ht]at hd
     cases hb:w.sc.b with
     | true=>rw[hb]at hd;exact g1 (H4 (t:=[116,114,117,101]) hd)
     | false=>rw[hb]at hd;exact g2 (H4 (t:=[102,97,108,115,101]) hd)
    ·exact h
    ·exfalso
     rw[(enc3 hw h).2.2]at hd
     exact g4 (H4 (t:=[116,34]) hd)
    ·exfalso
     rw[(enc4 hw h).2]at hd
     exact g3 (H4 (t:=[34]) hd)
    ·exfalso
     rw[(enc5 hw h).2]at hd
     exact g5 (H4 (t:=[98,34]) hd)
   obtain⟨hw2,hD,ht⟩:=enc2 hw k2
   have h1:Ta s=AG w:=by rw[hd,ht];exact Mh (ME hD) hr
   rw[h1]at hrun
   refine⟨by rw[hrun,htl],?_,hw2⟩
   rw[<-hrun,ht];exact MF hD
  refine Aa (fun h1=>no st e0 fun w r hw hk5 hd hr=>?_) fun h1=>?_
  ·obtain⟨_,q2,_⟩:=tm w r hw hk5 hd hr
   rw[q2]at h1;exact h1 rfl
  ·refine leaf {scK 2 with neg:=(dcP (s.take n)).1,dg:=(dcP (s.take n)).2.1,ex:=(dcP (s.take n)).2.2.1} st n rfl e0 hn (by show 0+(dcP (s.take n)).2.1.length<=_;omega) ?_
   intro w r hw hk5 hd hr
   obtain⟨q1,q2,q3⟩:=tm w r hw hk5 hd hr
   rw[q2]
   exact⟨q3.symm,q1⟩
def RvG (d:Nat) (t:B8) (v:Vl) (n:Nat):Prop:=∀w r,BR w->lvV w<=d->t=AG w++r->¬nch (r.getD 0 0)->v=w/\n=(AG w).length
def PL (d:Nat):Prop:=∀(t:B8) (st:St) (K:K14),t.length<=100000->
 (∀sc ub ul uf st' v (n:Nat),Ar ub=true->Ar ul=true->Ar uf=true->Ah st st'->VlR st' v (AI sc ub ul uf)->n<=t.length->v.sz<=3*n+1->RvG d t v n->K sc.kind sc.b sc.neg sc.dg sc.ex sc.tk sc.td sc.tn sc.tz sc.text ub ul uf (n:Nat) st')->
 CallT PR BG [.str t,.int .i64 (49-(d:Nat))] [.agg [.int .i64,.bool,.bool,.str,.int .i64,.int .i64,.int .i64,.int .i64,.int .i64,.str,.tv,.tv,.tv],.one (.int .i64)] st K
theorem LJ {w:Vl} (h:BR w):0<(AG w).length:=by
 refine List.length_pos_iff.2 fun e=>?_
 have h1:=Q9 h [93]
 rw[e]at h1
 exact h1.1 rfl
theorem Wa {d:Nat} (hdd:d<=47) (ih:PL d) {t:B8} (hl:t.length<=100000) {st:St} {K:B8->K14}
  (hk:∀key sc ub ul uf st' v (n:Nat),Ar ub=true->Ar ul=true->Ar uf=true->Ah st st'->VlR st' v (AI sc ub ul uf)->n<=t.length->key.length+v.sz<=3*n+1->(∀k x r,BR x->lvV x<=d->t=quB k++(58::(AG x++r))->¬nch (r.getD 0 0)->key=k/\v=x/\n=(quB k).length+1+(AG x).length)->K key sc.kind sc.b sc.neg sc.dg sc.ex sc.tk sc.td sc.tn sc.tz sc.text ub ul uf (n:Nat) st'):
  CallT PR Du [.str t,.int .i64 (49-(d:Nat))] [.agg [.str,.int .i64,.bool,.bool,.str,.int .i64,.int .i64,.int .i64,.int .i64,.int .i64,.str,.tv,.tv,.tv],.one (.int .i64)] st K:=by
 have no:∀st',Ah st st'->(∀k x r,BR x->lvV x<=d->t=quB k++(58::(AG x++r))->¬nch (r.getD 0 0)->False)->K [] 0 false false [] 0 0 0 0 0 [] .nilSlice .nilSlice .nilSlice 0 st':=fun st' e hf=>hk [] (scK 0) .nilSlice .nilSlice .nilSlice st' (.mk (scK 0) [] []) 0 rfl rfl rfl e (Fg _ _ rfl) (Nat.zero_le _) (by rw[szl];decide) fun k x r h1 h2 h3 h4=>(hf k x r h1 h2 h3 h4).elim
 refine Jd t _ st K (Iu (by omega) fun key st1 n1 e1 hn1 hkey hU=>Aa (fun g=>no st1 e1 fun k x r _ _ hd _=>?_) fun g=>Aa (fun g1=>no st1 e1 fun k x r _ _ hd _=>?_) fun g1=>?_)
 ·have:=(hU k _ hd).2
  unfold quB at this
  simp at this;omega
 ·have h2:=(hU k _ hd).2
  have:=congrArg List.length hd
  rw[List.length_append,List.length_cons]at this
  omega
 ·refine⟨⟨by omega,by omega⟩,Aa (fun g2=>no st1 e1 fun k x r _ _ hd _=>?_) fun g2=>?_⟩
  ·obtain⟨_,h2⟩:=hU k _ hd
   rw[Int.toNat_natCast,h2,hd]at g2
   refine g2 ?_
   simp[List.getD]
  ·rw[Ad (((n1:Nat):Int)+1) (by omega) (by omega),show(((n1:Nat):Int)+1).toNat=n1+1 by omega]
   refine⟨⟨by omega,by omega⟩,ih (t.drop (n1+1)) st1 _ (by rw[List.length_drop];omega) fun sc ub ul uf st2 v n q1 q2 q3 e2 hv hn hz hG=>Ab (Bv q1 q2 q3) ?_⟩
   rw[List.length_drop]at hn
   have E:=e1.trans e2
   have rest:∀k x r,BR x->lvV x<=d->t=quB k++(58::(AG x++r))->¬nch (r.getD 0 0)->key=k/\n1=(quB k).length/\v=x/\n=(AG x).length:=fun k x r hx hlv hd hr=>by
    obtain⟨y1,y2⟩:=hU k _ hd
    have hd2:t.drop (n1+1)=AG x++r:=by rw[y2,<-List.drop_drop];rw[hd,List.drop_left];rfl
    obtain⟨y3,y4⟩:=hG x r hx hlv hd2 hr
    exact⟨y1,y2,y3,y4⟩
   refine Aa (fun g3=>no st2 E fun k x r hx hlv hd hr=>?_) fun g3=>Ab (Me q1 q2 q3) ?_
   ·have:=(rest k x r hx hlv hd hr).2.2.2
    have:=LJ hx
    omega
   ·rw[Ad _ (by omega) (by omega),show((n1:Nat):Int)+1+((n:Nat):Int)=((n1+1+n:Nat):Int) by omega]
    refine hk key sc ub ul uf st2 v (n1+1+n) q1 q2 q3 E hv (by omega) (by omega) ?_
    intro k x r hx hlv hd hr
    obtain⟨y1,y2,y3,y4⟩:=rest k x r hx hlv hd hr
    exact⟨y1,y3,by omega⟩
theorem rval_0:PL 0:=by
 intro t st K hl hk
 refine E8 t _ st K ⟨fun _ _ _ _ _ _ _ _ _ _ _ _ _ _ _ _=>False,Aa (fun _=>?_) fun g=>absurd (by decide) g,fun _ _ _ _ _ _ _ _ _ _ _ _ _ _ _ _ h=>h.elim⟩
 refine hk (scK 0) .nilSlice .nilSlice .nilSlice st (.mk (scK 0) [] []) 0 rfl rfl rfl (Ah.refl st) (Fg _ _ rfl) (Nat.zero_le _) (by rw[szl];decide) ?_
 intro w r _ hlv _ _
 have:=Vs w
 omega
end Go.TVF
