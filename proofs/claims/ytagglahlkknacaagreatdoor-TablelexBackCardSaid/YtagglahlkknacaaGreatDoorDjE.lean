/- What the laws below rest on: a framework for Go programs, and contracts of the functions that they reach. -/
import Derived.Test.YtagglahlkknacaaGreatDoorDjD
import Derived.Shelf.Strings.Search1
import Derived.Shelf.Small.Strs
import Derived.Shelf.Unicode.DecodeSlow
import Derived.Shelf.Unicode.DecodeAny
import Derived.Test.YtagglahlkknacaaGreatDoorProg
set_option maxRecDepth 20000
set_option linter.unusedVariables false
set_option linter.unusedSimpArgs false
namespace Go.TVF
open Go.IntKind(i64 u8)
open Go Go.Proofs
def OK (S:Option B8) (sg oh om:Nat) (T:Option B8):Prop:=match S with
 | none=>T=none
 | some s=>(T=some []->∃ls,JZ s=some (ls,oh,om)/\(ls=true↔sg=45))/\(T≠some []->JZ s=none)
theorem NZ {s:B8} {sg oh om:Nat} {c:Nat} {T1 T2 T3 T:Option B8} (hsg:sg=(b0 s 0).toNat) (h0:b0 s 0=43∨b0 s 0=45) (hT:T1=some (s.drop 1)) (s1:Gu 2 T1 oh T2) (s2:Jq [58] T2 c T3) (s3:Gu 2 T3 om T):OK (some s) sg oh om T:=by
 subst hT
 have nz:¬(s=[90]∨s=[122]):=by
  rintro(h | h)<;>rw[h]at h0<;>revert h0<;>decide
 have no:T=none->(dd s 1->b0 s 3=58->dd s 4->False)->OK (some s) sg oh om T:=fun ht hf=>by
  subst ht
  refine⟨fun h=>(by cases h),fun _=>?_⟩
  unfold JZ
  rw[if_neg nz,if_neg fun h=>hf h.2.2.1 h.2.2.2.1 h.2.2.2.2]
 by_cases f1:dd s 1
 ·obtain⟨rfl,rfl⟩:=(Ea (m:=3) rfl s1).1 f1
  by_cases f2:b0 s 3=58
  ·obtain rfl:=(Gx (m:=4) rfl s2).1 f2
   by_cases f3:dd s 4
   ·obtain⟨rfl,rfl⟩:=(Ea (m:=6) rfl s3).1 f3
    have hl:=RZ f3.2
    refine⟨fun h=>⟨decide (b0 s 0=45),?_,?_⟩,fun h=>?_⟩
    ·have h6:s.drop 6=[]:=Option.some.inj h
     have:=congrArg List.length h6
     rw[List.length_drop]at this
     simp at this
     unfold JZ
     rw[if_neg nz,if_pos ⟨by omega,h0,f1,f2,f3⟩]
    ·rw[decide_eq_true_eq,hsg]
     exact⟨fun h=>by rw[h];rfl,fun h=>UInt8.toNat_inj.1 h⟩
    ·unfold JZ
     rw[if_neg nz,if_neg]
     intro h'
     exact h (by rw[List.drop_of_length_le (by omega)])
   ·exact no ((Ea (m:=6) rfl s3).2 f3) fun _ _ h=>f3 h
  ·obtain rfl:=(Gx (m:=4) rfl s2).2 f2
   exact no s3 fun _ h _=>f2 h
 ·obtain rfl:=(Ea (m:=3) rfl s1).2 f1
  obtain rfl:T3=none:=s2
  exact no s3 fun h _ _=>f1 h
theorem OK.none {S T1 T:Option B8} {sg oh om:Nat} (h:Jq [90,122,43,45] S sg T1) (h1:T1=none) (ht:T=none):OK S sg oh om T:=by
 subst h1 ht
 cases S with
 | none=>rfl
 | some s=>
  refine⟨fun h=>(by cases h),fun _=>?_⟩
  have hn:s.getD 0 0∉ [90,122,43,45]:=fun hm=>by have:=(h.pos hm).1;cases this
  unfold JZ
  rw[if_neg,if_neg]
  ·rintro⟨_,h | h,_⟩
   ·exact hn (by rw[show s.getD 0 0=43 from h];decide)
   ·exact hn (by rw[show s.getD 0 0=45 from h];decide)
  ·rintro(h | h)<;>rw[h]at hn<;>revert hn<;>decide
theorem JD {r f:Nat} {st:St} {S:Option B8} {y mo d h mi sc nn:Nat} (hm:TM r f st S (fcT y mo d h mi sc nn 0 0 0)) {K:St->Prop}
  (hk:∀sg oh om st' T,sg<256->oh<100->om<100->StX (rfS r f) st st'->TM r f st' T (fcT y mo d h mi sc nn sg oh om)->OK S sg oh om T->K st'):CallT PR A2 [.box r 0,.box f 0] [] st K:=by
 refine Ex r f st K (D8 (of:=[90,122,43,45]) (by decide) (by decide) hm.1 fun sg st1 T1 b1 e1 h1 s1=>(hm.step e1 h1).put (by simp[fcT]) fun st2 e2 m2=>?_)
 have hld:Af st2 [] (.t (.box f 7)) 0=some (.int .u8 (sg:Nat)):=by simp[Af,m2.2.2.1,fcT]
 have E2:=(Fy e1).trans e2
 refine Ab hld (At (Aa (fun g=>?_) fun g=>Ab hld (At (Aa (fun g2=>?_) fun g2=>?_))))
 iterate 2
  ·refine D9 (w:=2) (by decide) m2.1 fun oh st3 T3 b3 e3 h3 s3=>(m2.step e3 h3).put (by simp[fcT]) fun st4 e4 m4=>?_
   refine D8 (of:=[58]) (by decide) (by decide) m4.1 fun c st5 T5 b5 e5 h5 s5=>D9 (w:=2) (by decide) h5 fun om st6 T6 b6 e6 h6 s6=>((m4.step e5 h5).step e6 h6).put (by simp[fcT]) fun st7 e7 m7=>?_
   refine hk sg oh om st7 T6 b1 b3 b6 (((((E2.trans (Fy e3)).trans e4).trans (Fy e5)).trans (Fy e6)).trans e7) m7 ?_
   cases T1 with
   | none=>
    obtain rfl:T3=none:=s3
    obtain rfl:T5=none:=s5
    exact OK.none s1 rfl s6
   | some x=>
    cases S with
    | none=>cases (show some x=none from s1)
    | some s=>
     by_cases hmem:s.getD 0 0∈ [90,122,43,45]
     ·obtain⟨hT,hs⟩:=s1.pos hmem
      refine NZ hs ?_ hT s3 s5 s6
      have hc:((b0 s 0).toNat:Int)=sg:=by rw[hs];rfl
      first
       | exact .inl (UInt8.toNat_inj.1 (by rw[show((43:UInt8).toNat)=43 from rfl];omega))
       | exact .inr (UInt8.toNat_inj.1 (by rw[show((45:UInt8).toNat)=45 from rfl];omega))
     ·cases s1.neg hmem
 ·refine hk sg 0 0 st2 T1 b1 (by decide) (by decide) E2 m2 ?_
  cases T1 with
  | none=>exact OK.none s1 rfl rfl
  | some x=>
   cases S with
   | none=>cases (show some x=none from s1)
   | some s=>
    by_cases hmem:s.getD 0 0∈ [90,122,43,45]
    ·obtain⟨hT,hs⟩:=s1.pos hmem
     rw[hT]
     have h43:b0 s 0≠43:=fun h=>g (by rw[hs,show s.getD 0 0=43 from h];rfl)
     have h45:b0 s 0≠45:=fun h=>g2 (by rw[hs,show s.getD 0 0=45 from h];rfl)
     refine⟨fun h=>⟨false,?_,⟨fun h=>(by cases h),fun h=>absurd (by omega) g2⟩⟩,fun h=>?_⟩
     ·have h1:s.drop 1=[]:=Option.some.inj h
      unfold JZ
      rw[if_pos]
      rcases s with _ | ⟨a,_ | ⟨b,s⟩⟩
      ·exact absurd hmem (by decide)
      ·have ha:a∈ [90,122,43,45]:=hmem
       simp only[List.mem_cons,List.not_mem_nil,or_false]at ha
       rcases ha with rfl | rfl | rfl | rfl
       ·exact .inl rfl
       ·exact .inr rfl
       ·exact absurd rfl h43
       ·exact absurd rfl h45
      ·cases h1
     ·unfold JZ
      rw[if_neg,if_neg]
      ·rintro⟨_,h | h,_⟩
       ·exact h43 h
       ·exact h45 h
      ·rintro(h' | h')<;>exact h (by rw[h'];rfl)
    ·cases s1.neg hmem
theorem cday_ok {y m d:Nat} (hy:y<=100000) (hm:m<=1000) (hd:d<=1000) {st:St} {K:Int->Int->St->Prop} (hk:K (if okD y m d then(HZ y m d:Nat)else 0) (if okD y m d then 0 else 2) st):
  CallT PR Dw [.int .i64 (y:Nat),.int .i64 (m:Nat),.int .i64 (d:Nat)] [.one (.int .i64),.one (.int .i64)] st K:=by
 refine Jm _ _ _ st K (Aa (fun g=>?_) fun g=>Ei (by omega) (Aa (fun g2=>?_) fun g2=>?_))
 ·have hn:¬okD y m d:=fun h=>by have:=h.2.2.2.2.1;omega
  rw[if_neg hn,if_neg hn]at hk;exact hk
 ·have hn:¬okD y m d:=fun h=>by
   obtain⟨a1,a2,a3,a4,a5,a6⟩:=h
   rw[HP a1 a2 a3 a4]at g2
   omega
  rw[if_neg hn,if_neg hn]at hk;exact hk
 ·have hr:1<=y/\y<=9999/\1<=m/\m<=12:=by
   by_cases h:1<=y/\y<=9999/\1<=m/\m<=12
   ·exact h
   ·rw[show monX y m=0 from if_neg h]at g2
    omega
  obtain⟨a1,a2,a3,a4⟩:=hr
  rw[HP a1 a2 a3 a4]at g2
  have ok:okD y m d:=⟨a1,a2,a3,a4,by omega,by omega⟩
  rw[if_pos ok,if_pos ok]at hk
  have hyr:yrS y<=4000000:=by unfold yrS;omega
  refine Eh a1 (by omega) ⟨fun n i y' m' st'=>((y:Nat):Int)=y'/\((m:Nat):Int)=m'/\st=st'/\∃j:Nat,i=j/\1<=j/\j<=m/\n=((yrS y+Do y j+(d-1):Nat):Int),fun _ i _ _ _=>(m-i).toNat,⟨rfl,rfl,rfl,1,rfl,by omega,by omega,?_⟩,?_⟩
  ·rw[Ae (((yrS y:Nat):Int)+((d:Nat):Int)) (by omega) (by omega),Ae _ (by omega) (by omega),show Do y 1=0 from rfl];omega
  ·rintro _ _ _ _ _ ⟨rfl,rfl,rfl,j,rfl,hj1,hj2,rfl⟩
   have hms:=OZ y j
   refine Aa (fun g3=>Ei (by omega) ?_) fun g3=>?_
   ·have hmd:=HQ y j
    rw[HP a1 a2 hj1 (by omega),Ae _ (by omega) (by omega),Ae _ (by omega) (by omega)]
    exact⟨⟨rfl,rfl,rfl,j+1,by omega,by omega,by omega,by rw[CZ y hj1];omega⟩,by dsimp only;omega⟩
   ·have:j=m:=by omega
    subst this
    exact hk
def Ke (n1 y mo d h mi sc nn sg oh om:Nat):TmR:=
 if (n1≠2->okD y mo d)/\okC h mi sc/\oh<=23/\om<=59 then((n1:Nat),(if n1=2 then 0 else(HZ y mo d:Nat)),(DW h mi sc nn:Nat),(if sg=45 then-((oh*60+om:Nat):Int)else((oh*60+om:Nat):Int)),0)else Fc
def FinS (s:B8) (n1:Nat) (T:Option B8) (y mo d h mi sc nn sg oh om:Nat):Prop:=(T=some []->tmP s=Ke n1 y mo d h mi sc nn sg oh om)/\(T≠some []->tmP s=Fe)
theorem Be {s:B8} {n1 y mo d h mi sc nn sg oh om:Nat} (e:tmP s=Fe):FinS s n1 none y mo d h mi sc nn sg oh om:=⟨fun h=>(by cases h),fun _=>e⟩
theorem Kd {s:B8} (n1:Nat) {y mo d h mi sc nn sg oh om:Nat} {r:B8} (hn:n1<=4) (e:tmP s=Ke n1 y mo d h mi sc nn sg oh om) (hr:r=[]):FinS s n1 (some r) y mo d h mi sc nn sg oh om:=⟨fun _=>e,fun h=>absurd (by rw[hr]) h⟩
theorem okC0:okC 0 0 0:=by decide
theorem fin1 (y mo d:Nat):(if okD y mo d then((1:Int),((HZ y mo d:Nat):Int),(0:Int),(0:Int),(0:Int))else Fc)=Ke 1 y mo d 0 0 0 0 0 0 0:=by
 unfold Ke
 by_cases h:okD y mo d
 ·rw[if_pos h,if_pos ⟨fun _=>h,okC0,by decide,by decide⟩];rfl
 ·rw[if_neg h,if_neg fun g=>h (g.1 (by decide))]
theorem fin2 (h mi sc nn:Nat):(if okC h mi sc then((2:Int),(0:Int),((DW h mi sc nn:Nat):Int),(0:Int),(0:Int))else Fc)=Ke 2 0 0 0 h mi sc nn 0 0 0:=by
 unfold Ke
 by_cases g:okC h mi sc
 ·rw[if_pos g,if_pos ⟨fun h=>absurd rfl h,g,by decide,by decide⟩];rfl
 ·rw[if_neg g,if_neg fun k=>g k.2.1]
theorem fin3 (y mo d h mi sc nn:Nat):(if okD y mo d/\okC h mi sc then((3:Int),((HZ y mo d:Nat):Int),((DW h mi sc nn:Nat):Int),(0:Int),(0:Int))else Fc)=Ke 3 y mo d h mi sc nn 0 0 0:=by
 unfold Ke
 by_cases g:okD y mo d/\okC h mi sc
 ·rw[if_pos g,if_pos ⟨fun _=>g.1,g.2,by decide,by decide⟩];rfl
 ·rw[if_neg g,if_neg fun k=>g ⟨k.1 (by decide),k.2.1⟩]
theorem fin4 (y mo d h mi sc nn sg oh om:Nat) (ls:Bool) (hl:ls=true↔sg=45):(if okD y mo d/\okC h mi sc/\oh<=23/\om<=59 then((4:Int),((HZ y mo d:Nat):Int),((DW h mi sc nn:Nat):Int),(if ls=true then-((oh*60+om:Nat):Int)else((oh*60+om:Nat):Int)),(0:Int))else Fc)=Ke 4 y mo d h mi sc nn sg oh om:=by
 unfold Ke
 by_cases g:okD y mo d/\okC h mi sc/\oh<=23/\om<=59
 ·have hp:(4≠2->okD y mo d)/\okC h mi sc/\oh<=23/\om<=59:=⟨fun _=>g.1,g.2⟩
  rw[if_pos g,if_pos hp]
  by_cases k:sg=45
  ·rw[if_pos k,if_pos (hl.2 k)];rfl
  ·rw[if_neg k,if_neg fun h=>k (hl.1 h)];rfl
 ·rw[if_neg g,if_neg fun k=>g ⟨k.1 (by decide),k.2⟩]
theorem Im {s:B8} (hc:b0 s 2≠58) (h:¬CF s):tmP s=Fe:=by
 unfold tmP
 rw[if_neg h]
 have:Gt s=none:=by unfold Gt;rw[if_neg fun g=>hc g.2.1]
 rw[this]
theorem Rv {s:B8}:s.getD 0 0∈ [84,116,32]↔(b0 s 0=84∨b0 s 0=116∨b0 s 0=32):=by
 simp only[List.mem_cons,List.not_mem_nil,or_false];rfl
theorem Lw {s:B8} (fd:CF s) (hne:s.drop 10≠ []) (fo:(s.drop 10).getD 0 0∈ [84,116,32]):tmP s=match Gt (s.drop (10+1))with
  | none=>Fe
  | some (h,m,sc,f,r')=>tmO (d2 s 0*100+d2 s 2) (d2 s 5) (d2 s 8) h m sc f r':=by
 unfold tmP tmD
 rw[if_pos fd,if_neg hne,if_pos (Rv.1 fo),List.drop_drop]<;>rfl
theorem Lv {s:B8} (fd:CF s) (hne:s.drop 10≠ []) (fo:(s.drop 10).getD 0 0∉ [84,116,32]):tmP s=Fe:=by
 unfold tmP tmD
 rw[if_pos fd,if_neg hne,if_neg fun h=>fo (Rv.2 h)]
theorem at_pos' {s:B8} {k:Nat} {c:UInt8} (hc:c≠0) (h:b0 s k=c):k<s.length:=by
 by_cases hk:k<s.length
 ·exact hk
 ·rw[show b0 s k=0 by simp[b0,List.getD,Nat.le_of_not_lt hk]]at h
  exact absurd h.symm hc
theorem Qz {r f:Nat} {st:St} {s:B8} (hm:TM r f st (some s) (fcT 0 0 0 0 0 0 0 0 0 0)) {K:Int->St->Prop}
  (hk:∀(n1 y mo d h mi sc nn sg oh om:Nat) st' T,n1<=4->y<10000->mo<100->d<100->h<100->mi<100->sc<100->nn<1000000000->sg<256->oh<100->om<100->StX (rfS r f) st st'->TM r f st' T (fcT y mo d h mi sc nn sg oh om)->FinS s n1 T y mo d h mi sc nn sg oh om->K (n1:Nat) st'):
  CallT PR BI [.box r 0,.box f 0] [.one (.int .i64)] st K:=by
 obtain⟨x,hx,hl,hsx⟩:=hm.1.src
 have hxs:x=s:=hsx s rfl
 rw[hxs]at hx hl
 clear hsx hxs
 refine Fn r f st K (Ab hx (Ay (Aa (fun g=>Ab hx (Ay ⟨⟨by omega,g⟩,Aa (fun g1=>?_) fun g1=>?_⟩)) fun g=>?_)))
 ·have h58:b0 s 2=58:=(u8i (k:=58)).1 g1
  have nfd:¬CF s:=fun h=>absurd h.2.1.1 (by rw[h58];decide)
  refine In hm fun h mi sc nn st1 T c1 c2 c3 c4 e1 m1 s1=>hk 2 0 0 0 h mi sc nn 0 0 0 st1 T (by omega) (by decide) (by decide) (by decide) c1 c2 c3 c4 (by decide) (by decide) (by decide) e1 m1 ?_
  unfold Nx at s1
  dsimp only at s1
  have e:tmP s=match Gt s with
   | none=>Fe
   | some (h,m,sc,f,r)=>if r=[]then(if okC h m sc then(2,0,(DW h m sc f:Nat),0,0)else Fc)else Fe:=by unfold tmP;rw[if_neg nfd]<;>rfl
  cases hc:Gt s with
  | none=>rw[hc]at s1 e;exact s1▸Be e
  | some p=>
   obtain⟨h',mi',sc',f',r'⟩:=p
   rw[hc]at s1 e
   dsimp only at s1 e
   obtain⟨rfl,rfl,rfl,rfl,rfl⟩:=s1
   by_cases hr:r'=[]
   ·rw[if_pos hr]at e
    exact Kd _ (by decide) (by rw[e];exact fin2 _ _ _ _) hr
   ·rw[if_neg hr]at e
    exact⟨fun h=>absurd (Option.some.inj h) hr,fun _=>e⟩
 ·have hnc:b0 s 2≠58:=fun h=>g1 ((u8i (k:=58)).2 h)
  refine Ms hm fun y mo d st2 T2 b1 b2 b3 e2 m2 s2=>?_
  obtain⟨x3,hx3,_,hs3⟩:=m2.1.src
  refine Ab hx3 (Ay (Aa (fun g=>?_) fun g=>D8 (of:=[84,116,32]) (by decide) (by decide) m2.1 fun c st3 T3 bc e3 h3 s3=>In (m2.step e3 h3) fun h mi sc nn st4 T4 c1 c2 c3 c4 e4 m4 s4=>?_))
  ·refine hk 1 y mo d 0 0 0 0 0 0 0 st2 T2 (by omega) b1 b2 b3 (by decide) (by decide) (by decide) (by decide) (by decide) (by decide) (by decide) e2 m2 ?_
   by_cases fd:CF s
   ·obtain⟨rfl,rfl,rfl,rfl⟩:=s2.1 fd
    have h10:s.drop 10=[]:=by rw[<-hs3 _ rfl];exact g
    have e:tmP s=if okD (d2 s 0*100+d2 s 2) (d2 s 5) (d2 s 8)then((1:Int),((HZ (d2 s 0*100+d2 s 2) (d2 s 5) (d2 s 8):Nat):Int),(0:Int),(0:Int),(0:Int))else Fc:=by unfold tmP tmD;rw[if_pos fd,if_pos h10]
    exact Kd _ (by decide) (by rw[e];exact fin1 _ _ _) h10
   ·obtain rfl:=s2.2 fd
    exact Be (by rw[Im hnc fd])
  ·obtain⟨x4,hx4,_,hs4⟩:=m4.1.src
   have nofd:¬CF s->T4=none:=fun fd=>by
    obtain rfl:=s2.2 fd
    obtain rfl:T3=none:=s3
    exact s4
   have E4:=(e2.trans (Fy e3)).trans e4
   refine Ab hx4 (Ay (Aa (fun g4=>?_) fun g4=>JD m4 fun sg oh om st5 T5 d1 d2 d3 e5 m5 s5=>?_))
   ·refine hk 3 y mo d h mi sc nn 0 0 0 st4 T4 (by omega) b1 b2 b3 c1 c2 c3 c4 (by decide) (by decide) (by decide) E4 m4 ?_
    by_cases fd:CF s
    ·obtain⟨rfl,rfl,rfl,rfl⟩:=s2.1 fd
     have hne:s.drop 10≠ []:=fun e=>g (by rw[hs3 _ rfl];exact e)
     by_cases fo:(s.drop 10).getD 0 0∈ [84,116,32]
     ·obtain⟨rfl,_⟩:=s3.pos fo
      have e:=Lw fd hne fo
      unfold Nx at s4
      dsimp only at s4
      rw[List.drop_drop]at s4
      cases hc:Gt (s.drop (10+1))with
      | none=>rw[hc]at s4 e;exact s4▸Be e
      | some p=>
       obtain⟨h',mi',sc',f',r'⟩:=p
       rw[hc]at s4 e
       dsimp only at s4 e
       obtain⟨rfl,rfl,rfl,rfl,rfl⟩:=s4
       have hr:r'=[]:=by rw[<-hs4 _ rfl];exact g4
       unfold tmO at e
       rw[if_pos hr]at e
       exact Kd _ (by decide) (by rw[e];exact fin3 _ _ _ _ _ _ _) hr
     ·obtain rfl:=s3.neg fo
      obtain rfl:T4=none:=s4
      exact Be (Lv fd hne fo)
    ·obtain rfl:=nofd fd
     exact Be (by rw[Im hnc fd])
   ·refine hk 4 y mo d h mi sc nn sg oh om st5 T5 (by omega) b1 b2 b3 c1 c2 c3 c4 d1 d2 d3 (E4.trans e5) m5 ?_
    by_cases fd:CF s
    ·obtain⟨rfl,rfl,rfl,rfl⟩:=s2.1 fd
     have hne:s.drop 10≠ []:=fun e=>g (by rw[hs3 _ rfl];exact e)
     by_cases fo:(s.drop 10).getD 0 0∈ [84,116,32]
     ·obtain⟨rfl,_⟩:=s3.pos fo
      have e:=Lw fd hne fo
      unfold Nx at s4
      dsimp only at s4
      rw[List.drop_drop]at s4
      cases hc:Gt (s.drop (10+1))with
      | none=>
       rw[hc]at s4 e
       dsimp only at s4
       subst s4
       obtain rfl:T5=none:=s5
       exact Be e
      | some p=>
       obtain⟨h',mi',sc',f',r'⟩:=p
       rw[hc]at s4 e
       dsimp only at s4 e
       obtain⟨rfl,rfl,rfl,rfl,rfl⟩:=s4
       have hr:r'≠ []:=fun e=>g4 (by rw[hs4 _ rfl];exact e)
       unfold tmO at e
       rw[if_neg hr]at e
       by_cases h5:T5=some []
       ·obtain⟨ls,ho,hl⟩:=s5.1 h5
        rw[ho]at e
        exact⟨fun _=>by rw[e];exact fin4 _ _ _ _ _ _ _ _ _ _ _ hl,fun h=>absurd h5 h⟩
       ·have ho:=s5.2 h5
        rw[ho]at e
        exact⟨fun h=>absurd h h5,fun _=>e⟩
     ·obtain rfl:=s3.neg fo
      obtain rfl:T4=none:=s4
      obtain rfl:T5=none:=s5
      exact Be (Lv fd hne fo)
    ·obtain rfl:=nofd fd
     obtain rfl:T5=none:=s5
     exact Be (by rw[Im hnc fd])
 ·have hnc:b0 s 2≠58:=fun h=>by have:=at_pos' (by decide) h;omega
  refine Ms hm fun y mo d st2 T2 b1 b2 b3 e2 m2 s2=>?_
  obtain⟨x3,hx3,_,hs3⟩:=m2.1.src
  refine Ab hx3 (Ay (Aa (fun g=>?_) fun g=>D8 (of:=[84,116,32]) (by decide) (by decide) m2.1 fun c st3 T3 bc e3 h3 s3=>In (m2.step e3 h3) fun h mi sc nn st4 T4 c1 c2 c3 c4 e4 m4 s4=>?_))
  ·refine hk 1 y mo d 0 0 0 0 0 0 0 st2 T2 (by omega) b1 b2 b3 (by decide) (by decide) (by decide) (by decide) (by decide) (by decide) (by decide) e2 m2 ?_
   by_cases fd:CF s
   ·obtain⟨rfl,rfl,rfl,rfl⟩:=s2.1 fd
    have h10:s.drop 10=[]:=by rw[<-hs3 _ rfl];exact g
    have e:tmP s=if okD (d2 s 0*100+d2 s 2) (d2 s 5) (d2 s 8)then((1:Int),((HZ (d2 s 0*100+d2 s 2) (d2 s 5) (d2 s 8):Nat):Int),(0:Int),(0:Int),(0:Int))else Fc:=by unfold tmP tmD;rw[if_pos fd,if_pos h10]
    exact Kd _ (by decide) (by rw[e];exact fin1 _ _ _) h10
   ·obtain rfl:=s2.2 fd
    exact Be (by rw[Im hnc fd])
  ·obtain⟨x4,hx4,_,hs4⟩:=m4.1.src
   have nofd:¬CF s->T4=none:=fun fd=>by
    obtain rfl:=s2.2 fd
    obtain rfl:T3=none:=s3
    exact s4
   have E4:=(e2.trans (Fy e3)).trans e4
   refine Ab hx4 (Ay (Aa (fun g4=>?_) fun g4=>JD m4 fun sg oh om st5 T5 d1 d2 d3 e5 m5 s5=>?_))
   ·refine hk 3 y mo d h mi sc nn 0 0 0 st4 T4 (by omega) b1 b2 b3 c1 c2 c3 c4 (by decide) (by decide) (by decide) E4 m4 ?_
    by_cases fd:CF s
    ·obtain⟨rfl,rfl,rfl,rfl⟩:=s2.1 fd
     have hne:s.drop 10≠ []:=fun e=>g (by rw[hs3 _ rfl];exact e)
     by_cases fo:(s.drop 10).getD 0 0∈ [84,116,32]
     ·obtain⟨rfl,_⟩:=s3.pos fo
      have e:=Lw fd hne fo
      unfold Nx at s4
      dsimp only at s4
      rw[List.drop_drop]at s4
      cases hc:Gt (s.drop (10+1))with
      | none=>rw[hc]at s4 e;exact s4▸Be e
      | some p=>
       obtain⟨h',mi',sc',f',r'⟩:=p
       rw[hc]at s4 e
       dsimp only at s4 e
       obtain⟨rfl,rfl,rfl,rfl,rfl⟩:=s4
       have hr:r'=[]:=by rw[<-hs4 _ rfl];exact g4
       unfold tmO at e
       rw[if_pos hr]at e
       exact Kd _ (by decide) (by rw[e];exact fin3 _ _ _ _ _ _ _) hr
     ·obtain rfl:=s3.neg fo
      obtain rfl:T4=none:=s4
      exact Be (Lv fd hne fo)
    ·obtain rfl:=nofd fd
     exact Be (by rw[Im hnc fd])
   ·refine hk 4 y mo d h mi sc nn sg oh om st5 T5 (by omega) b1 b2 b3 c1 c2 c3 c4 d1 d2 d3 (E4.trans e5) m5 ?_
    by_cases fd:CF s
    ·obtain⟨rfl,rfl,rfl,rfl⟩:=s2.1 fd
     have hne:s.drop 10≠ []:=fun e=>g (by rw[hs3 _ rfl];exact e)
     by_cases fo:(s.drop 10).getD 0 0∈ [84,116,32]
     ·obtain⟨rfl,_⟩:=s3.pos fo
      have e:=Lw fd hne fo
      unfold Nx at s4
      dsimp only at s4
      rw[List.drop_drop]at s4
      cases hc:Gt (s.drop (10+1))with
      | none=>
       rw[hc]at s4 e
       dsimp only at s4
       subst s4
       obtain rfl:T5=none:=s5
       exact Be e
      | some p=>
       obtain⟨h',mi',sc',f',r'⟩:=p
       rw[hc]at s4 e
       dsimp only at s4 e
       obtain⟨rfl,rfl,rfl,rfl,rfl⟩:=s4
       have hr:r'≠ []:=fun e=>g4 (by rw[hs4 _ rfl];exact e)
       unfold tmO at e
       rw[if_neg hr]at e
       by_cases h5:T5=some []
       ·obtain⟨ls,ho,hl⟩:=s5.1 h5
        rw[ho]at e
        exact⟨fun _=>by rw[e];exact fin4 _ _ _ _ _ _ _ _ _ _ _ hl,fun h=>absurd h5 h⟩
       ·have ho:=s5.2 h5
        rw[ho]at e
        exact⟨fun h=>absurd h h5,fun _=>e⟩
     ·obtain rfl:=s3.neg fo
      obtain rfl:T4=none:=s4
      obtain rfl:T5=none:=s5
      exact Be (Lv fd hne fo)
    ·obtain rfl:=nofd fd
     obtain rfl:T5=none:=s5
     exact Be (by rw[Im hnc fd])
abbrev KT (K:Int->Int->Int->Int->Int->St->Prop) (r:TmR) (st:St):Prop:=K r.1 r.2.1 r.2.2.1 r.2.2.2.1 r.2.2.2.2 st
theorem Q4 {h mi sc nn:Nat} (h1:h<100) (h2:mi<100) (h3:sc<100) (h4:nn<1000000000):
  i64.wrap ((i64.wrap ((i64.wrap ((i64.wrap ((i64.wrap ((i64.wrap (((h:Nat):Int)*60))+((mi:Nat):Int)))*60))+((sc:Nat):Int)))*1000000000))+((nn:Nat):Int))=((DW h mi sc nn:Nat):Int):=by
 rw[Ae (((h:Nat):Int)*60) (by omega) (by omega),Ae (((h:Nat):Int)*60+((mi:Nat):Int)) (by omega) (by omega),Ae ((((h:Nat):Int)*60+((mi:Nat):Int))*60) (by omega) (by omega),Ae ((((h:Nat):Int)*60+((mi:Nat):Int))*60+((sc:Nat):Int)) (by omega) (by omega),Ae (((((h:Nat):Int)*60+((mi:Nat):Int))*60+((sc:Nat):Int))*1000000000) (by omega) (by omega),Ae _ (by omega) (by omega)]
 unfold DW;omega
theorem off_w {oh om:Nat} (h1:oh<100) (h2:om<100):i64.wrap ((i64.wrap (((oh:Nat):Int)*60))+((om:Nat):Int))=((oh*60+om:Nat):Int):=by
 rw[Ae (((oh:Nat):Int)*60) (by omega) (by omega),Ae _ (by omega) (by omega)];omega
theorem tP_ok {s:B8} (hl:s.length<=1000000) {st:St} {K:Int->Int->Int->Int->Int->St->Prop} (hk:∀st',Ah st st'->KT K (tmP s) st'):CallT PR Cs [.str s] [.agg [.int .i64,.int .i64,.int .i64,.int .i64],.one (.int .i64)] st K:=by
 refine Jg s st K (Qz (r:=st.nb) (f:=st.nb+1) (s:=s) ?_ fun n1 y mo d h mi sc nn sg oh om st1 T a1 a2 a3 a4 a5 a6 a7 a8 a9 a10 a11 e1 m1 hF=>?_)
 ·refine⟨⟨?_,?_,hl⟩,?_,?_,?_⟩
  ·simp[St.push];omega
  ·simp[St.push]
  ·simp[St.push]
  ·simp[St.push,fcT]
  ·omega
 ·have E:Ah st st1:=StX.ext (((Ah.refl st).push _ _).push _ _) e1 (by
   rintro i (rfl | rfl)
   ·exact Nat.le_refl _
   ·exact Nat.le_succ _)
  obtain⟨hF1,hF2⟩:=hF
  have cell:∀i v,(fcT y mo d h mi sc nn sg oh om)[i]? =some v->Af st1 [] (.t (.box (st.nb+1) i)) 0=some v:=fun i v hv=>by
   simp only[Af,m1.2.2.1,Nat.add_zero];exact hv
  have c0:=cell 0 _ rfl
  have c1:=cell 1 _ rfl
  have c2:=cell 2 _ rfl
  have c3:=cell 3 _ rfl
  have c4:=cell 4 _ rfl
  have c5:=cell 5 _ rfl
  have c6:=cell 6 _ rfl
  have c7:=cell 7 _ rfl
  have c8:=cell 8 _ rfl
  have c9:=cell 9 _ rfl
  clear cell
  obtain⟨hr,t,hb,_,ht⟩:=m1.1.get
  have k0:Af st1 [] (.t (.box st.nb 0)) 0=some (.str t):=by simp[Af,hb]
  have k1:Af st1 [] (.t (.box st.nb 1)) 0=some (.bool T.isNone):=by simp[Af,hb]
  have bad:T≠some []->K 0 0 0 0 3 st1:=fun hT=>by
   have:=hk st1 E
   rw[hF2 hT]at this;exact this
  refine Ab k1 (P9 (Al (fun g=>bad fun e=>by rw[e]at g;cases g) fun g=>Ab k0 (Ay (Aa (fun g1=>bad fun e=>g1 (ht [] e)) fun g1=>?_))))
  have hT:T=some []:=by
   cases T with
   | none=>cases g
   | some x=>rw[<-ht x rfl,Decidable.not_not.1 g1]
  have hV:=hF1 hT
  have hk1:=hk st1 E
  rw[hV]at hk1
  clear hF1 hF2 hV hk bad
  unfold KT Ke at hk1
  have tail:(n1≠2->okD y mo d)->∀D:Int,D=(if n1=2 then 0 else((HZ y mo d:Nat):Int))->okC h mi sc/\oh<=23/\om<=59->K (n1:Nat) D (DW h mi sc nn:Nat) (if sg=45 then-((oh*60+om:Nat):Int)else((oh*60+om:Nat):Int)) 0 st1:=fun h0 D hD h1=>by
   subst hD
   rw[if_pos ⟨h0,h1⟩]at hk1;exact hk1
  have out:(¬(okC h mi sc/\oh<=23/\om<=59)∨¬(n1≠2->okD y mo d))->K 0 0 0 0 2 st1:=fun hn=>by
   rw[if_neg (fun g=>by
    rcases hn with hn | hn
    ·exact hn g.2
    ·exact hn g.1)]at hk1
   exact hk1
  have end_:(n1≠2->okD y mo d)->∀D:Int,D=(if n1=2 then 0 else((HZ y mo d:Nat):Int))->okC h mi sc/\oh<=23/\om<=59->BIf (decide (((sg:Nat):Int)=45)) (K (n1:Nat) D (DW h mi sc nn:Nat) (i64.wrap (0-((oh*60+om:Nat):Int))) 0 st1) (K (n1:Nat) D (DW h mi sc nn:Nat) ((oh*60+om:Nat):Int) 0 st1):=fun h0 D hD h1=>by
   have:=tail h0 D hD h1
   refine Aa (fun g=>?_) fun g=>?_
   ·rw[if_pos (by omega)]at this
    rw[Ae _ (by omega) (by omega),show(0:Int)-((oh*60+om:Nat):Int)= -((oh*60+om:Nat):Int) by omega];exact this
   ·rw[if_neg (by omega)]at this;exact this
  have okc:∀{a b c:Nat},¬(23:Int)<(a:Nat)->¬(59:Int)<(b:Nat)->¬(59:Int)<(c:Nat)->okC a b c:=fun x y z=>⟨by omega,by omega,by omega⟩
  refine Aa (fun g2=>?_) fun g2=>?_
  ·refine Ab c0 (At (Ab c1 (At (Ab c2 (At (cday_ok (by omega) (by omega) (by omega) ?_))))))
   by_cases hD:okD y mo d
   ·rw[if_pos hD,if_pos hD]
    refine Aa (fun g=>absurd rfl g) fun _=>Ab c3 (At (Aa (fun g=>out (.inl fun k=>by have:=k.1.1;omega)) fun k1=>Ab c4 (At (Aa (fun g=>out (.inl fun k=>by have:=k.1.2.1;omega)) fun k2=>Ab c5 (At (Aa (fun g=>out (.inl fun k=>by have:=k.1.2.2;omega)) fun k3=>Ab c8 (At (Aa (fun g=>out (.inl fun k=>by have:=k.2.1;omega)) fun k4=>Ab c9 (At (Aa (fun g=>out (.inl fun k=>by have:=k.2.2;omega)) fun k5=>?_))))))))))
    refine Ab c3 (At (Ab c4 (At (Ab c5 (At (Ab c6 (At (Ab c8 (At (Ab c9 (At (Ab c7 (At ?_)))))))))))))
    rw[Q4 a5 a6 a7 a8,off_w a10 a11]
    exact end_ (fun _=>hD) _ (by rw[if_neg (by omega)]) ⟨okc k1 k2 k3,by omega,by omega⟩
   ·rw[if_neg hD,if_neg hD]
    exact Aa (fun _=>out (.inr fun k=>hD (k (by omega)))) fun g=>absurd (by decide) g
  ·refine Ab c3 (At (Aa (fun g=>out (.inl fun k=>by have:=k.1.1;omega)) fun k1=>Ab c4 (At (Aa (fun g=>out (.inl fun k=>by have:=k.1.2.1;omega)) fun k2=>Ab c5 (At (Aa (fun g=>out (.inl fun k=>by have:=k.1.2.2;omega)) fun k3=>Ab c8 (At (Aa (fun g=>out (.inl fun k=>by have:=k.2.1;omega)) fun k4=>Ab c9 (At (Aa (fun g=>out (.inl fun k=>by have:=k.2.2;omega)) fun k5=>?_))))))))))
   refine Ab c3 (At (Ab c4 (At (Ab c5 (At (Ab c6 (At (Ab c8 (At (Ab c9 (At (Ab c7 (At ?_)))))))))))))
   rw[Q4 a5 a6 a7 a8,off_w a10 a11]
   exact end_ (fun h=>absurd (by omega) h) _ (by rw[if_pos (by omega)]) ⟨okc k1 k2 k3,by omega,by omega⟩
def likeF (form s:B8):Prop:=form.length<=s.length/\∀i,i<form.length->if form.getD i 0=100 then Av (s.getD i 0)else s.getD i 0=form.getD i 0
instance (form s:B8):Decidable (likeF form s):=inferInstanceAs (Decidable (_/\_))
end Go.TVF
section
namespace Go.Proofs
open Go.Shelf
def Tryz.lays137_ren:Go.Shelf.Ren:=⟨fun | 137=>138 | 217=>241 | 266=>300 | n=>n,fun | 9=>9 | 5=>5 | 3=>3 | n=>n,fun | n=>n⟩
theorem Tryz.lays137:Go.Proofs.Lays.n137 Tryz.prog Tryz.lays137_ren:={
 mixed:=by kernel_rfl
 f137:=Tryz.func138.trans (congrArg some (by kernel_rfl))
 f217:=Tryz.func241.trans (congrArg some (by kernel_rfl))
 f266:=Tryz.func300.trans (congrArg some (by kernel_rfl))
 t3:=Tryz.underlying3
 a3:=Tryz.isAgg3
 z3:=Tryz.sizeOf3
 v3:=Tryz.zeroValue3
 t5:=Tryz.underlying5
 a5:=Tryz.isAgg5
 z5:=Tryz.sizeOf5
 v5:=Tryz.zeroValue5
 t9:=Tryz.underlying9
 a9:=Tryz.isAgg9
 z9:=Tryz.sizeOf9
 v9:=Tryz.zeroValue9}
open Go.RowKit in
theorem Tryz.strings_IndexByte (s:ByteArray) (c:Int) (w:World):
  Calls Tryz.prog 138 #[.string s,.int .u8 c] w fun e w'=>e= .returned (.int .i64 (Lib.indexByte s.data.toList c.toNat.toUInt8))/\w'=w:=Any.strings_IndexByte Tryz.lays137 s c w
def Tryz.lays197_ren:Go.Shelf.Ren:=⟨fun | 197=>167 | 260=>260 | n=>n,fun | 9=>9 | 21=>21 | 3=>3 | 4=>4 | 5=>5 | 105=>213 | 119=>306 | 0=>0 | 46=>189 | 139=>309 | 138=>308 | n=>n,fun | 3=>0 | 4=>1 | n=>n⟩
theorem Tryz.lays197:Go.Proofs.Lays.n197 Tryz.prog Tryz.lays197_ren:={
 mixed:=by kernel_rfl
 f197:=Tryz.func167.trans (congrArg some (by kernel_rfl))
 f260:=Tryz.func260.trans (congrArg some (by kernel_rfl))
 t0:=Tryz.underlying0
 a0:=Tryz.isAgg0
 z0:=Tryz.sizeOf0
 v0:=Tryz.zeroValue0
 t3:=Tryz.underlying3
 a3:=Tryz.isAgg3
 z3:=Tryz.sizeOf3
 v3:=Tryz.zeroValue3
 t4:=Tryz.underlying4
 a4:=Tryz.isAgg4
 z4:=Tryz.sizeOf4
 v4:=Tryz.zeroValue4
 t5:=Tryz.underlying5
 a5:=Tryz.isAgg5
 z5:=Tryz.sizeOf5
 v5:=Tryz.zeroValue5
 t9:=Tryz.underlying9
 a9:=Tryz.isAgg9
 z9:=Tryz.sizeOf9
 v9:=Tryz.zeroValue9
 t21:=Tryz.underlying21
 a21:=Tryz.isAgg21
 z21:=Tryz.sizeOf21
 v21:=Tryz.zeroValue21
 t46:=Tryz.underlying189
 a46:=Tryz.isAgg189
 z46:=Tryz.sizeOf189
 v46:=Tryz.zeroValue189
 t105:=Tryz.underlying213
 a105:=Tryz.isAgg213
 z105:=Tryz.sizeOf213
 v105:=Tryz.zeroValue213
 t119:=Tryz.underlying306
 a119:=Tryz.isAgg306
 z119:=Tryz.sizeOf306
 t138:=Tryz.underlying308
 a138:=Tryz.isAgg308
 z138:=Tryz.sizeOf308
 v138:=Tryz.zeroValue308
 t139:=Tryz.underlying309
 a139:=Tryz.isAgg309
 z139:=Tryz.sizeOf309
 v139:=Tryz.zeroValue309
 g3:=by kernel_rfl
 g4:=by kernel_rfl}
open Go.RowKit Go.Lib in
theorem Tryz.utf8_DecodeRuneInString (s:ByteArray) (w:World) (hT:Lib.Utf8Tabs 0 1 w):
  Calls Tryz.prog 167 #[.string s] w fun e w'=>e= .returned (.tuple #[.int .i32 (Lib.decodeGo s).1,.int .i64 (Lib.decodeGo s).2])/\Below w.heap.size w w':=Any.utf8_DecodeRuneInString Tryz.lays197 s w hT
end Go.Proofs
end
section
namespace Go.TVF
open Go.IntKind(i64 u8)
open Go Go.Proofs
theorem GP (p:TV) (r:Int) (st:St) (K:TV->St->Prop) (h:BId ((IntKind.u32.wrap r)<=(127:Int)) (Bp 5 1 1 p 1 [(.int .u8 (u8.wrap r))] st (fun (v1:TV) b=>K v1 b)) (CallT PR BU [p,.int .i32 r] [.one .tv] st (fun (v2:TV) a=>K v2 a))):CallT PR Bz [p,.int .i32 r] [.one .tv] st K:=
 Ad (cfg:=⟨[],[],[]⟩) (h:= .none) mixed (fun _ _=>Tryz.call210 _ _) Tryz.func210 (by kernel_rfl) (by kernel_rfl) h
theorem DR (p:TV) (r:Int) (st:St) (K:TV->St->Prop) (h:BId ((IntKind.u32.wrap r)<=(2047:Int)) (Bp 5 1 1 p 2 [(.int .u8 (Ai .or .u8 (192:Int) (u8.wrap (Int.fdiv r (2^(min (Int.toNat (6:Int)) (IntKind.bits .i32))))))),(.int .u8 (Ai .or .u8 (128:Int) (Ai .and .u8 (u8.wrap r) (63:Int))))] st (fun (v1:TV) m=>K v1 m)) (BId ((IntKind.u32.wrap r)<(55296:Int)) (BId ((IntKind.u32.wrap r)<(55296:Int)) (Bp 5 1 1 p 3 [(.int .u8 (Ai .or .u8 (224:Int) (u8.wrap (Int.fdiv r (2^(min (Int.toNat (12:Int)) (IntKind.bits .i32))))))),(.int .u8 (Ai .or .u8 (128:Int) (Ai .and .u8 (u8.wrap (Int.fdiv r (2^(min (Int.toNat (6:Int)) (IntKind.bits .i32))))) (63:Int)))),(.int .u8 (Ai .or .u8 (128:Int) (Ai .and .u8 (u8.wrap r) (63:Int))))] st (fun (v2:TV) f=>K v2 f)) (BId ((65535:Int)<(IntKind.u32.wrap r)) (BId ((IntKind.u32.wrap r)<=(1114111:Int)) (Bp 5 1 1 p 4 [(.int .u8 (Ai .or .u8 (240:Int) (u8.wrap (Int.fdiv r (2^(min (Int.toNat (18:Int)) (IntKind.bits .i32))))))),(.int .u8 (Ai .or .u8 (128:Int) (Ai .and .u8 (u8.wrap (Int.fdiv r (2^(min (Int.toNat (12:Int)) (IntKind.bits .i32))))) (63:Int)))),(.int .u8 (Ai .or .u8 (128:Int) (Ai .and .u8 (u8.wrap (Int.fdiv r (2^(min (Int.toNat (6:Int)) (IntKind.bits .i32))))) (63:Int)))),(.int .u8 (Ai .or .u8 (128:Int) (Ai .and .u8 (u8.wrap r) (63:Int))))] st (fun (v3:TV) g=>K v3 g)) (Bp 5 1 1 p 3 [.int .u8 239,.int .u8 191,.int .u8 189] st (fun (v4:TV) d=>K v4 d))) (Bp 5 1 1 p 3 [.int .u8 239,.int .u8 191,.int .u8 189] st (fun (v5:TV) k=>K v5 k)))) (BId ((57343:Int)<(IntKind.u32.wrap r)) (BId ((IntKind.u32.wrap r)<=(65535:Int)) (Bp 5 1 1 p 3 [(.int .u8 (Ai .or .u8 (224:Int) (u8.wrap (Int.fdiv r (2^(min (Int.toNat (12:Int)) (IntKind.bits .i32))))))),(.int .u8 (Ai .or .u8 (128:Int) (Ai .and .u8 (u8.wrap (Int.fdiv r (2^(min (Int.toNat (6:Int)) (IntKind.bits .i32))))) (63:Int)))),(.int .u8 (Ai .or .u8 (128:Int) (Ai .and .u8 (u8.wrap r) (63:Int))))] st (fun (v6:TV) l=>K v6 l)) (BId ((65535:Int)<(IntKind.u32.wrap r)) (BId ((IntKind.u32.wrap r)<=(1114111:Int)) (Bp 5 1 1 p 4 [(.int .u8 (Ai .or .u8 (240:Int) (u8.wrap (Int.fdiv r (2^(min (Int.toNat (18:Int)) (IntKind.bits .i32))))))),(.int .u8 (Ai .or .u8 (128:Int) (Ai .and .u8 (u8.wrap (Int.fdiv r (2^(min (Int.toNat (12:Int)) (IntKind.bits .i32))))) (63:Int)))),(.int .u8 (Ai .or .u8 (128:Int) (Ai .and .u8 (u8.wrap (Int.fdiv r (2^(min (Int.toNat (6:Int)) (IntKind.bits .i32))))) (63:Int)))),(.int .u8 (Ai .or .u8 (128:Int) (Ai .and .u8 (u8.wrap r) (63:Int))))] st (fun (v7:TV) o=>K v7 o)) (Bp 5 1 1 p 3 [.int .u8 239,.int .u8 191,.int .u8 189] st (fun (v8:TV) e=>K v8 e))) (Bp 5 1 1 p 3 [.int .u8 239,.int .u8 191,.int .u8 189] st (fun (v9:TV) j=>K v9 j)))) (BId ((65535:Int)<(IntKind.u32.wrap r)) (BId ((IntKind.u32.wrap r)<=(1114111:Int)) (Bp 5 1 1 p 4 [(.int .u8 (Ai .or .u8 (240:Int) (u8.wrap (Int.fdiv r (2^(min (Int.toNat (18:Int)) (IntKind.bits .i32))))))),(.int .u8 (Ai .or .u8 (128:Int) (Ai .and .u8 (u8.wrap (Int.fdiv r (2^(min (Int.toNat (12:Int)) (IntKind.bits .i32))))) (63:Int)))),(.int .u8 (Ai .or .u8 (128:Int) (Ai .and .u8 (u8.wrap (Int.fdiv r (2^(min (Int.toNat (6:Int)) (IntKind.bits .i32))))) (63:Int)))),(.int .u8 (Ai .or .u8 (128:Int) (Ai .and .u8 (u8.wrap r) (63:Int))))] st (fun (n:TV) c=>K n c)) (Bp 5 1 1 p 3 [.int .u8 239,.int .u8 191,.int .u8 189] st (fun (i:TV) b=>K i b))) (Bp 5 1 1 p 3 [.int .u8 239,.int .u8 191,.int .u8 189] st (fun (q:TV) a=>K q a)))))):CallT PR BU [p,.int .i32 r] [.one .tv] st K:=
 Ad (cfg:=⟨[],[],[]⟩) (h:= .none) mixed (fun _ _=>Tryz.call281 _ _) Tryz.func281 (by kernel_rfl) (by kernel_rfl) h
end Go.TVF
end
section
namespace Go.TVF
open Go.IntKind(i64 u8)
open Go Go.Proofs Go.RowKit
theorem Sim.grown {g:Ghost} {st:St} {loc:List (Option (List TV))} {w w':World} (s:Sim g st loc w) (h:Below w.heap.size w w'):Sim g st loc w'/\Ext g w g w':=
 s.world h.size (s.below.trans (h.mono s.fits)) h.block
def dG (l:B8):Nat×Nat:=if l=[]then(65533,0)else dN l
theorem dG_eq (l:B8):Lib.decodeGo ⟨l.toArray⟩=dG l:=by
 unfold Lib.decodeGo dG
 by_cases h:l=[]
 ·subst h;rfl
 ·rw[if_neg h,if_neg (by simpa [ByteArray.size]using h),Lib.decode_at]
  unfold dN bt
  have hg:∀i,(ByteArray.get! ⟨l.toArray⟩ i)=l.getD i 0:=fun i=>by
   simp[ByteArray.get!,List.getD]
   rfl
  simp only[hg,Nat.zero_add,Nat.sub_zero]
  rfl
theorem P6 {l:B8} {st:St} {K:Int->Int->St->Prop} (hk:K ((dG l).1:Nat) ((dG l).2:Nat) st):CallT PR AG [.str l] [.one (.int .i32),.one (.int .i64)] st K:=by
 refine B5 (fun _ _=>by kernel_rfl) fun g w vargs s hr=>?_
 obtain⟨v,rfl,hv⟩:=QN hr
 rw[BR hv]
 refine Calls.mono (Tryz.utf8_DecodeRuneInString ⟨l.toArray⟩ w (s.glob w s.below)) ?_
 rintro e w' ⟨rfl,hb⟩
 obtain⟨s',e'⟩:=s.grown hb
 rw[dG_eq]
 exact⟨_,rfl,.tuple [.int .i32 ((dG l).1:Nat),.int .i64 ((dG l).2:Nat)],st,g,hk,s',Rel.tuple _ [_,_] rfl (Ax.cons (Rel.int _ _) (Ax.cons (Rel.int _ _) (Ax.nil _ _))).2,e'⟩
theorem EZ {l:B8} {c:Int} {st:St} {K:Int->St->Prop} (hk:K (Lib.indexByte l c.toNat.toUInt8) st):CallT PR AH [.str l,.int .u8 c] [.one (.int .i64)] st K:=by
 refine B5 (fun _ _=>by kernel_rfl) fun g w vargs s hr=>?_
 obtain⟨v,u,rfl,hv,hu⟩:=HK hr
 rw[BR hv,IU hu]
 refine Calls.mono (Tryz.strings_IndexByte ⟨l.toArray⟩ c w) ?_
 rintro e w' ⟨rfl,rfl⟩
 exact⟨_,rfl,.int .i64 _,st,g,hk,s,Rel.int _ _,Ext.refl _ _⟩
end Go.TVF
end
namespace Go.TVF
open Go.IntKind(i64 u8)
open Go Go.Proofs
def F8 (c:Int):Bool:=decide (97<=c/\c<=122∨65<=c/\c<=90∨48<=c/\c<=57∨c=95∨c=45)
def AQ (c:Int):Bool:=decide (97<=c/\c<=122∨65<=c/\c<=90∨48<=c/\c<=57∨c=95∨c=45∨c=43∨c=46∨c=58)
def Ip (c:Int):Bool:=decide (c=32∨c=9)
def Cls (st:St) (v:TV) (p:Int->Bool):Prop:=
 ∀st',Ah st st'->∀(c:Int) (K:Bool->St->Prop),K (p c) st'->Kt PR v [.int .u8 c] [.one (.bool)] st' K
theorem Nm {c:Int} {st:St} {K:Bool->St->Prop} (hk:K (F8 c) st):CallT PR Az [.int .u8 c] [.one (.bool)] st K:=by
 refine Fm c st K ?_
 unfold F8 at hk
 repeat' (refine Aa (fun _=>?_) fun _=>?_)
 all_goals first | exact Cb (decide_eq_true (by omega)).symm hk | exact Cb (decide_eq_false (by omega)).symm hk | exact Cb (decide_eq_decide.2 (by omega)) hk
theorem cls1 (st:St):Cls st (.func Az []) F8:=fun st' _ c K hk=>Nm hk
theorem cls2 {st:St} {b:Nat} (hb:st.box b= .cells [.func Az []]) (hlt:b<st.nb):Cls st (.func BH [.box b 0]) AQ:=by
 intro st' e c K hk
 refine Fl c _ st' K (Ab (x:= .func Az []) (by simp[Af,e.box b hlt,hb]) ?_)
 refine cls1 st' st' (Ah.refl _) c _ ?_
 unfold F8
 unfold AQ at hk
 refine Aa (fun _=>?_) fun _=>?_
 ·exact Cb (decide_eq_true (by omega)).symm hk
 ·repeat' (refine Aa (fun _=>?_) fun _=>?_)
  all_goals first | exact Cb (decide_eq_true (by omega)).symm hk | exact Cb (decide_eq_false (by omega)).symm hk | exact Cb (decide_eq_decide.2 (by omega)) hk
theorem Nl (st:St):Cls st (.func BO []) Ip:=fun st' _ c K hk=>by
 refine Hk c st' K ?_
 unfold Ip at hk
 refine Aa (fun _=>?_) fun _=>?_
 ·exact Cb (decide_eq_true (by omega)).symm hk
 ·exact Cb (decide_eq_decide.2 (by omega)) hk
theorem OS {st:St} {b:Nat} {l xs:List TV} {k:St->Prop} (hb:st.box b= .cells l) (hl:0+xs.length<=l.length) (hk:k (st.put b (.cells (setAll l 0 xs)))):stB st (.box b 0) xs k:=⟨l,hb,hl,hk⟩
theorem Hb {st:St} {K:TV->TV->St->Prop} (hk:∀v u st',Ah st st'->Cls st' v F8->Cls st' u AQ->K v u st'):CallT PR A6 [] [.one (.tv),.one (.tv)] st K:=by
 refine Gp st K (OS (Nr _ _ _) (by simp) ?_)
 refine Ab (x:= .func Az []) (by simp[Af,H3,setAll]) (Ac rfl ?_)
 refine OS (H3 _ _ _) (by simp[setAll]) ?_
 refine Ab (x:= .func Az []) (by simp[Af,H3,setAll]) ?_
 refine hk _ _ _ (((Ah.refl st).push _ _).put (Nat.le_refl _) _ |>.put (Nat.le_refl _) _) (cls1 _) (cls2 (by simp[H3,setAll]) (by simp[St.put,St.push]))
def twl (p:Int->Bool):B8->Nat
 | []=>0
 | c::r=>if p (c.toNat:Int)then twl p r+1 else 0
theorem JC (p:Int->Bool):∀l,twl p l<=l.length
 | []=>by simp[twl]
 | c::r=>by
  have:=JC p r
  simp only[twl,List.length_cons]
  split<;>omega
theorem Hv (p:Int->Bool) (s:B8) (i:Nat) (h:i<s.length):twl p (s.drop i)=if p (((s.getD i 0).toNat:Nat):Int)then twl p (s.drop (i+1))+1 else 0:=by
 rw[Gk s i 0 h];rfl
theorem twl_end (p:Int->Bool) (s:B8) (i:Nat) (h:s.length<=i):twl p (s.drop i)=0:=by
 rw[List.drop_of_length_le h];rfl
theorem Hw {s:B8} {I:Int} {i:Nat} {v:TV} {p:Int->Bool} {st:St} {K:Int->St->Prop} (hI:I=(i:Int)) (hl:s.length<=2000000) (hi:i<=s.length) (hc:Cls st v p) (hk:K ((i+twl p (s.drop i):Nat):Int) st):
  CallT PR A5 [.str s,.int .i64 I,v] [.one (.int .i64)] st K:=by
 refine Jb s I v st K ⟨fun j s' v' st'=>s=s'/\v=v'/\st=st'/\∃k:Nat,j=(k:Int)/\k<=s.length/\k+twl p (s.drop k)=i+twl p (s.drop i),fun j _ _ _=>(s.length-j).toNat,⟨rfl,rfl,rfl,i,hI,hi,rfl⟩,?_⟩
 rintro _ _ _ _ ⟨rfl,rfl,rfl,k,rfl,h1,h2⟩
 refine Aa (fun h3=>⟨⟨by omega,h3⟩,hc st (Ah.refl _) _ _ (Al (fun h4=>?_) fun h4=>?_)⟩) fun h3=>?_
 ·have hd:=Hv p s k (by omega)
  rw[show Int.toNat (k:Int)=k from rfl]at h4
  rw[if_pos h4]at hd
  rw[Ae _ (by omega) (by omega)]
  exact⟨⟨rfl,rfl,rfl,k+1,by omega,by omega,by omega⟩,by dsimp only;omega⟩
 ·have hd:=Hv p s k (by omega)
  rw[show Int.toNat (k:Int)=k from rfl]at h4
  rw[if_neg (by rw[h4];simp)]at hd
  have:k=i+twl p (s.drop i):=by omega
  rw[<-this]at hk;exact hk
 ·rw[twl_end p s k (by omega)]at h2
  have:k=i+twl p (s.drop i):=by omega
  rw[<-this]at hk;exact hk
def Kj (c:Int):Bool:=decide (48<=c/\c<=57)
def CP:List (Option UInt8)->B8->Bool
 | [],_=>true
 | _::_,[]=>false
 | none::ps,c::cs=>Kj (c.toNat:Int)&&CP ps cs
 | some a::ps,c::cs=>decide (c=a)&&CP ps cs
def DB (d:UInt8) (p:B8):List (Option UInt8):=p.map fun c=>if c=d then none else some c
theorem CY:∀(ps:List (Option UInt8)) (l:B8),l.length<ps.length->CP ps l=false
 | [],l,h=>by simp at h
 | _::_,[],_=>by cases ‹Option UInt8›<;>rfl
 | none::ps,c::cs,h=>by simp only[CP];rw[CY ps cs (by simpa using h)];simp
 | some a::ps,c::cs,h=>by simp only[CP];rw[CY ps cs (by simpa using h)];simp
theorem PM (d:UInt8) (p s:B8) (k:Nat) (hp:k<p.length) (hs:k<s.length):CP (DB d (p.drop k)) (s.drop k)=
  ((if p.getD k 0=d then Kj ((s.getD k 0).toNat:Int)else decide (s.getD k 0=p.getD k 0))&&CP (DB d (p.drop (k+1))) (s.drop (k+1))):=by
 rw[Gk p k 0 hp,Gk s k 0 hs]
 simp only[DB,List.map_cons]
 by_cases h:p.getD k 0=d
 ·rw[if_pos h,if_pos h];rfl
 ·rw[if_neg h,if_neg h];rfl
theorem QT (d:UInt8) (p s:B8) (k:Nat) (hp:p.length<=k):CP (DB d (p.drop k)) s=true:=by
 rw[List.drop_of_length_le hp];rfl
theorem FZ:∀(a b:List (Option UInt8)) (l:B8),CP (a++b) l=(CP a l&&CP b (l.drop a.length))
 | [],b,l=>by simp[CP]
 | _::_,b,[]=>by cases ‹Option UInt8›<;>simp[CP]
 | none::a,b,c::l=>by simp only[List.cons_append,CP,FZ a b l,List.length_cons,List.drop_succ_cons,Bool.and_assoc]
 | some x::a,b,c::l=>by simp only[List.cons_append,CP,FZ a b l,List.length_cons,List.drop_succ_cons,Bool.and_assoc]
theorem JV {s p:B8} {st:St} {K:Bool->St->Prop} (hp:p.length<=1000) (hk:K (CP (DB 48 p) s) st):CallT PR Bq [.str s,.str p] [.one (.bool)] st K:=by
 refine Gm s p st K (Aa (fun h=>?_) fun h0=>⟨fun j s' p' st'=>s=s'/\p=p'/\st=st'/\∃k:Nat,j=(k:Int)/\k<=p.length/\CP (DB 48 (p.drop k)) (s.drop k)=CP (DB 48 p) s,fun j _ _ _=>(p.length-j).toNat,⟨rfl,rfl,rfl,0,rfl,by omega,rfl⟩,?_⟩)
 ·rw[CY _ _ (by simp[DB];omega)]at hk;exact hk
 rintro _ _ _ _ ⟨rfl,rfl,rfl,k,rfl,h1,h2⟩
 have go:(I:Prop)->True:=fun _=>trivial
 refine Aa (fun h3=>?_) fun h3=>?_
 ·have hd:=PM 48 p s k (by omega) (by omega)
  have e48:∀x:UInt8,((x.toNat:Int)=48)↔x=48:=fun x=>Pn x 48
  rw[h2]at hd
  rw[show Int.toNat (k:Int)=k from rfl]
  refine⟨⟨by omega,by omega⟩,Aa (fun h4=>?_) fun h4=>?_⟩
  ·rw[if_pos ((e48 _).1 h4)]at hd
   refine⟨⟨by omega,by omega⟩,Aa (fun h5=>?_) fun h5=>⟨⟨by omega,by omega⟩,Aa (fun h6=>?_) fun h6=>⟨⟨by omega,by omega⟩,Aa (fun h7=>absurd h4 h7) fun _=>?_⟩⟩⟩
   ·have:Kj ((s.getD k 0).toNat:Int)=false:=decide_eq_false (by omega)
    rw[this]at hd;rw[hd]at hk;exact hk
   ·have:Kj ((s.getD k 0).toNat:Int)=false:=decide_eq_false (by omega)
    rw[this]at hd;rw[hd]at hk;exact hk
   ·have:Kj ((s.getD k 0).toNat:Int)=true:=decide_eq_true (by omega)
    rw[this,Bool.true_and]at hd
    rw[Ae _ (by omega) (by omega)]
    exact⟨⟨rfl,rfl,rfl,k+1,by omega,by omega,hd.symm⟩,by dsimp only;omega⟩
  ·rw[if_neg (fun h=>h4 ((e48 _).2 h))]at hd
   refine⟨⟨by omega,by omega⟩,Aa (fun _=>⟨⟨by omega,by omega⟩,⟨⟨by omega,by omega⟩,Aa (fun h5=>?_) fun h5=>?_⟩⟩) fun h7=>absurd h4 h7⟩
   ·have:decide (s.getD k 0=p.getD k 0)=false:=decide_eq_false (fun h=>h5 (by rw[h]))
    rw[this]at hd;rw[hd]at hk;exact hk
   ·have:decide (s.getD k 0=p.getD k 0)=true:=decide_eq_true ((Pn _ _).1 (Decidable.not_not.1 h5))
    rw[this,Bool.true_and]at hd
    rw[Ae _ (by omega) (by omega)]
    exact⟨⟨rfl,rfl,rfl,k+1,by omega,by omega,hd.symm⟩,by dsimp only;omega⟩
 ·rw[QT 48 p _ k (by omega)]at h2
  rw[<-h2]at hk;exact hk
theorem wrapU32 (x:Int) (h1:0<=x) (h2:x<=4294967295):IntKind.wrap .u32 x=x:=by
 unfold IntKind.wrap
 simp only[IntKind.signed,IntKind.bits]
 simp
 omega
theorem NB (x:Int) (h1: -2147483648<=x) (h2:x<=2147483647):IntKind.wrap .i32 x=x:=by
 unfold IntKind.wrap
 simp only[IntKind.signed,IntKind.bits]
 simp
 omega
theorem ON (n:Nat):IntKind.wrap .u8 (n:Int)=((n%256:Nat):Int):=by rw[Dn];simp
theorem or8N (a b m:Nat) (hb:b<2^m) (h:a*2^m+b<2^8) (x y:Int) (hx:x=((a*2^m:Nat):Int)) (hy:y=(b:Int)):Ai .or .u8 x y=((a*2^m+b:Nat):Int):=by
 have hb':b<2^8:=by omega
 rw[hx,hy,or_u8 _ _ (by omega) hb',Nat.mul_comm a,Nat.two_pow_add_eq_or_of_lt hb]
theorem low6 (x:Nat):Ai .and .u8 (u8.wrap (x:Int)) (63:Int)=((x%64:Nat):Int):=by
 rw[ON,show(63:Int)=((63:Nat):Int)from rfl,R0 _ _ (by omega) (by omega),show(63:Nat)=2^6-1 from rfl,Nat.and_two_pow_sub_one_eq_mod]
 congr 1;omega
theorem Pm (x:Nat):Ai .or .u8 (128:Int) (Ai .and .u8 (u8.wrap (x:Int)) (63:Int))=(((UInt8.ofNat (128+x%64)).toNat:Nat):Int):=by
 rw[low6,or8N 2 (x%64) 6 (by omega) (by omega) (128:Int) _ rfl rfl]
 simp
 omega
theorem Rc (a b m:Nat) (hb:b<2^m) (h:a*2^m+b<2^8) (x:Int) (hx:x=((a*2^m:Nat):Int)):Ai .or .u8 x (u8.wrap (b:Int))=(((UInt8.ofNat (a*2^m+b)).toNat:Nat):Int):=by
 have hb':b<256:=by omega
 rw[ON,Nat.mod_eq_of_lt hb',or8N a b m hb h _ _ hx rfl,UInt8.toNat_ofNat',Nat.mod_eq_of_lt (show a*2^m+b<2^8 from h)]
theorem Nb (r:Nat):1<=(CR r).length/\(CR r).length<=4:=by
 unfold CR
 repeat' split
 all_goals simp
theorem KL {R:Int} {r:Nat} {st0 st:St} {v:TV} {l:B8} {K:TV->St->Prop} (hR:R=(r:Int)) (hc:AE r) (e:Ah st0 st) (h:H5 st0.nt st v l) (hby:l.length<=140737488355320)
  (hk:∀v' st',Ah st0 st'->H5 st0.nt st' v' (l++CR r)->K v' st'):CallT PR Bz [v,.int .i32 R] [.one (.tv)] st K:=by
 have hr2:r<=1114111:=hc.1
 have hu:IntKind.u32.wrap R=R:=wrapU32 _ (by omega) (by omega)
 have hel:=Nb r
 have shr:∀m,m<=32->Int.fdiv R (2^(min m (IntKind.bits .i32)))=((r/2^m:Nat):Int):=fun m hm=>by
  rw[hR,show min m (IntKind.bits .i32)=m from Nat.min_eq_left hm,show(2:Int)^m=((2^m:Nat):Int) by simp,Int.fdiv_eq_ediv_of_nonneg _ (Int.natCast_nonneg _)]
  rfl
 have s6:=shr 6 (by decide)
 have s12:=shr 12 (by decide)
 have s18:=shr 18 (by decide)
 have cR:Ai .or .u8 (128:Int) (Ai .and .u8 (u8.wrap R) (63:Int))=(((UInt8.ofNat (128+r%64)).toNat:Nat):Int):=by rw[hR];exact Pm r
 have i6:Int.toNat (6:Int)=6:=rfl
 have i12:Int.toNat (12:Int)=12:=rfl
 have i18:Int.toNat (18:Int)=18:=rfl
 refine GP v R st K ?_
 rw[hu]
 refine Aa (fun h1=>?_) fun h1=>?_
 ·have hE:CR r=[UInt8.ofNat r]:=by unfold CR;rw[if_pos (by omega)]
  rw[hE]at hk hel
  exact Dg e h rfl (by simp only[Aq,List.map,CO];rw[hR,Dn]) (by simp;omega) fun v' st' e' _ ho=>hk v' st' e' ho
 ·refine DR v R st _ ?_
  rw[hu]
  refine Aa (fun h2=>?_) fun h2=>?_
  ·have hE:CR r=[UInt8.ofNat (192+r/64),UInt8.ofNat (128+r%64)]:=by unfold CR;rw[if_neg (by omega),if_pos (by omega)]
   rw[hE]at hk
   refine Dg e h rfl ?_ (by simp;omega) fun v' st' e' _ ho=>hk v' st' e' ho
   simp only[Aq,List.map,CO]
   rw[cR,i6,s6,Rc 6 (r/2^6) 5 (by omega) (by omega) (192:Int) rfl]
  ·have t3:r<65536->Bp 5 1 1 v 3 [(.int .u8 (Ai .or .u8 (224:Int) (u8.wrap (Int.fdiv R (2^(min (Int.toNat (12:Int)) (IntKind.bits .i32))))))),(.int .u8 (Ai .or .u8 (128:Int) (Ai .and .u8 (u8.wrap (Int.fdiv R (2^(min (Int.toNat (6:Int)) (IntKind.bits .i32))))) (63:Int)))),(.int .u8 (Ai .or .u8 (128:Int) (Ai .and .u8 (u8.wrap R) (63:Int))))] st K:=by
    intro h3
    have hE:CR r=[UInt8.ofNat (224+r/4096),UInt8.ofNat (128+r/64%64),UInt8.ofNat (128+r%64)]:=by unfold CR;rw[if_neg (by omega),if_neg (by omega),if_pos (by omega)]
    rw[hE]at hk
    refine Dg e h rfl ?_ (by simp;omega) fun v' st' e' _ ho=>hk v' st' e' ho
    simp only[Aq,List.map,CO]
    rw[cR,i6,i12,s6,s12,Rc 14 (r/2^12) 4 (by omega) (by omega) (224:Int) rfl,Pm]
   have t4:¬r<65536->Bp 5 1 1 v 4 [(.int .u8 (Ai .or .u8 (240:Int) (u8.wrap (Int.fdiv R (2^(min (Int.toNat (18:Int)) (IntKind.bits .i32))))))),(.int .u8 (Ai .or .u8 (128:Int) (Ai .and .u8 (u8.wrap (Int.fdiv R (2^(min (Int.toNat (12:Int)) (IntKind.bits .i32))))) (63:Int)))),(.int .u8 (Ai .or .u8 (128:Int) (Ai .and .u8 (u8.wrap (Int.fdiv R (2^(min (Int.toNat (6:Int)) (IntKind.bits .i32))))) (63:Int)))),(.int .u8 (Ai .or .u8 (128:Int) (Ai .and .u8 (u8.wrap R) (63:Int))))] st K:=by
    intro h3
    have hE:CR r=[UInt8.ofNat (240+r/262144),UInt8.ofNat (128+r/4096%64),UInt8.ofNat (128+r/64%64),UInt8.ofNat (128+r%64)]:=by unfold CR;rw[if_neg (by omega),if_neg (by omega),if_neg (by omega)]
    rw[hE]at hk
    refine Dg e h rfl ?_ (by simp;omega) fun v' st' e' _ ho=>hk v' st' e' ho
    simp only[Aq,List.map,CO]
    rw[cR,i6,i12,i18,s6,s12,s18,Rc 30 (r/2^18) 3 (by omega) (by omega) (240:Int) rfl,Pm,Pm]
   unfold AE at hc
   refine Aa (fun h3=>Aa (fun _=>t3 (by omega)) fun h4=>absurd h3 h4) fun h3=>Aa (fun h4=>Aa (fun h5=>t3 (by omega)) fun h5=>Aa (fun h6=>Aa (fun _=>t4 (by omega)) fun h7=>by omega) fun h6=>by omega) fun h4=>by omega
def KE (c:Nat):Option Nat:=if 48<=c/\c<=57 then some (c-48)else if 97<=c/\c<=102 then some (c-87)else if 65<=c/\c<=70 then some (c-55)else none
theorem O6 {c d:Nat} (h:KE c=some d):d<16:=by
 unfold KE at h
 repeat' split at h
 all_goals first | (cases h;done) | (simp only[Option.some.injEq]at h;omega)
def Dp:Nat->B8->Nat->Except Int Nat
 | 0,_,acc=> .ok acc
 | k+1,[],acc=> .error 4
 | k+1,c::cs,acc=>match KE c.toNat with
  | none=> .error 3
  | some d=>Dp k cs (acc*16+d)
def eN:Except Int Nat->Int | .ok n=>n | .error _=>0
def eE {α:Type}:Except Int α->Int | .ok _=>0 | .error e=>e
def N9 (n:Nat):Int:=match KE n with | none=> -1 | some d=>if 97<=n∨n<=57 then(d:Int)else d+6
theorem Rm:∀n,n<256->Lib.indexByte QB (UInt8.ofNat n)=N9 n:=by decide+kernel
theorem idx_hex (c:UInt8):Lib.indexByte QB c=N9 c.toNat:=by
 have:=Rm c.toNat c.toNat_lt
 rwa [UInt8.ofNat_toNat]at this
theorem N8 (n:Nat):(KE n=none/\N9 n= -1)∨∃d,KE n=some d/\d<16/\(N9 n=d∨(N9 n=d+6/\10<=d)):=by
 unfold N9
 cases hd:KE n with
 | none=>exact .inl ⟨rfl,rfl⟩
 | some d=>
  right
  refine⟨d,rfl,O6 hd,?_⟩
  simp only
  by_cases hc:97<=n∨n<=57
  ·rw[if_pos hc];exact .inl rfl
  ·rw[if_neg hc]
   right
   refine⟨rfl,?_⟩
   unfold KE at hd
   rw[if_neg (by omega),if_neg (by omega)]at hd
   split at hd
   ·simp only[Option.some.injEq]at hd;omega
   ·cases hd
theorem hex_ok {s:B8} {I:Int} {i:Nat} {st:St} {K:Int->Int->St->Prop} (hI:I=(i:Int)) (hl:s.length<=2000000) (hi:i<=s.length) (hk:K (eN (Dp 4 (s.drop i) 0)) (eE (Dp 4 (s.drop i) 0)) st):
  CallT PR Bl [.str s,.int .i64 I] [.one (.int .i64),.one (.int .i64)] st K:=by
 refine Jc s I st K ⟨fun n k s' i' st'=>s=s'/\I=i'/\st=st'/\∃j a:Nat,k=((i+j:Nat):Int)/\n=(a:Int)/\j<=4/\i+j<=s.length/\a<16^j/\Dp (4-j) (s.drop (i+j)) a=Dp 4 (s.drop i) 0,fun _ k _ i' _=>(i'+4-k).toNat,⟨rfl,rfl,rfl,0,0,by omega,rfl,by omega,by omega,by omega,rfl⟩,?_⟩
 rintro _ _ _ _ _ ⟨rfl,rfl,rfl,j,a,rfl,rfl,h1,h2,h3,h4⟩
 rw[Ae (I+4) (by omega) (by omega)]
 have h16:16^j<=16^4:=Nat.pow_le_pow_right (by decide) h1
 refine Aa (fun g1=>Aa (fun g2=>?_) fun g2=>⟨⟨by omega,by omega⟩,EZ ?_⟩) fun g1=>?_
 ·have:s.drop (i+j)=[]:=List.drop_of_length_le (by omega)
  rw[this,show 4-j=(3-j)+1 by omega]at h4
  rw[<-h4]at hk;exact hk
 ·rw[Gk s (i+j) 0 (by omega),show 4-j=(3-j)+1 by omega]at h4
  simp only[Dp]at h4
  rw[show Int.toNat ((i+j:Nat):Int)=i+j from rfl,Int.toNat_natCast,show((s.getD (i+j) 0).toNat).toUInt8=s.getD (i+j) 0 by simp,idx_hex]
  have hix:=N8 (s.getD (i+j) 0).toNat
  generalize N9 (s.getD (i+j) 0).toNat=X at*
  have mes:(I+4-(i64.wrap (((i+j:Nat):Int)+(1:Int)))).toNat<(I+4-((i+j:Nat):Int)).toNat:=by
   rw[Ae _ (by omega) (by omega)];omega
  rcases hix with⟨hd,hX⟩ | ⟨d,hd,hd16,hX⟩
  ·rw[hd]at h4
   simp only at h4
   refine Aa (fun _=>?_) fun g3=>by omega
   rw[<-h4]at hk;exact hk
  ·rw[hd]at h4
   simp only at h4
   have hstep:∀x:Int,x=(d:Int)->(i64.wrap ((i64.wrap ((a:Int)*(16:Int)))+x))=((a*16+d:Nat):Int):=fun x hx=>by
    rw[hx,Ae ((a:Int)*16) (by omega) (by omega),Ae _ (by omega) (by omega)];omega
   have fin:∀x:Int,x=(d:Int)->(s=s/\I=I/\st=st/\∃j' a':Nat,(i64.wrap (((i+j:Nat):Int)+(1:Int)))=((i+j':Nat):Int)/\(i64.wrap ((i64.wrap ((a:Int)*(16:Int)))+x))=(a':Int)/\j'<=4/\i+j'<=s.length/\a'<16^j'/\Dp (4-j') (s.drop (i+j')) a'=Dp 4 (s.drop i) 0):=fun x hx=>by
    refine⟨rfl,rfl,rfl,j+1,a*16+d,by rw[Ae _ (by omega) (by omega)];omega,hstep x hx,by omega,by omega,by rw[Nat.pow_succ];omega,?_⟩
    rw[show 4-(j+1)=3-j by omega,<-Nat.add_assoc];exact h4
   refine Aa (fun g3=>by omega) fun _=>Aa (fun g4=>⟨fin _ (by rw[Ae _ (by omega) (by omega)];omega),mes⟩) fun g4=>⟨fin _ (by omega),mes⟩
 ·have:j=4:=by omega
  subst this
  rw[<-h4]at hk;exact hk
theorem HU:∀(k:Nat) (l:B8) (acc n:Nat),Dp k l acc= .ok n->n<(acc+1)*16^k/\k<=l.length
 | 0,l,acc,n,h=>by simp only[Dp,Except.ok.injEq]at h;omega
 | k+1,[],acc,n,h=>by cases h
 | k+1,c::cs,acc,n,h=>by
  simp only[Dp]at h
  split at h
  ·cases h
  ·rename_i d hd
   have hd16:=O6 hd
   obtain⟨h1,h2⟩:=HU k cs _ n h
   refine⟨Nat.lt_of_lt_of_le h1 ?_,by simp;omega⟩
   rw[Nat.pow_succ,Nat.mul_comm (16^k) 16,<-Nat.mul_assoc]
   exact Nat.mul_le_mul_right _ (by omega)
theorem HV:∀(k:Nat) (l:B8) (acc:Nat),Dp k l acc≠.error 0
 | 0,l,acc=>by simp[Dp]
 | k+1,[],acc=>by simp[Dp]
 | k+1,c::cs,acc=>by
  simp only[Dp]
  split
  ·simp
  ·exact HV k cs _
def IK (l:B8):Except Int (Nat×Nat):=
 match Dp 4 l 0 with
 | .error e=> .error e
 | .ok n=>
  if 56320<=n/\n<=57343 then .error 5
  else if n<55296∨57343<n then .ok (n,4)
  else if l.length<=4 then .error 4
  else if bt l 4≠92 then .error 5
  else if l.length<=5 then .error 4
  else if bt l 5≠117 then .error 5
  else match Dp 4 (l.drop 6) 0 with
   | .error e=> .error e
   | .ok m=>if m<56320∨57343<m then .error 5 else .ok (65536+(n-55296)*1024+(m-56320),10)
def eR:Except Int (Nat×Nat)->Int | .ok p=>p.1 | .error _=>0
def eK (i:Nat):Except Int (Nat×Nat)->Int | .ok p=>((i+p.2:Nat):Int) | .error _=>0
theorem O9 {l:B8} {r k:Nat} (h:IK l= .ok (r,k)):AE r/\k<=l.length/\4<=k/\k<=10:=by
 unfold IK at h
 cases hn:Dp 4 l 0 with
 | error e=>rw[hn]at h;cases h
 | ok n=>
  rw[hn]at h
  obtain⟨hn1,hn2⟩:=HU _ _ _ _ hn
  simp only at h
  split at h
  ·cases h
  ·split at h
   ·simp only[Except.ok.injEq,Prod.mk.injEq]at h
    unfold AE;omega
   ·split at h
    ·cases h
    ·split at h
     ·cases h
     ·split at h
      ·cases h
      ·split at h
       ·cases h
       ·cases hm:Dp 4 (l.drop 6) 0 with
        | error e=>rw[hm]at h;cases h
        | ok m=>
         rw[hm]at h
         obtain⟨hm1,hm2⟩:=HU _ _ _ _ hm
         simp only at h
         split at h
         ·cases h
         ·simp only[Except.ok.injEq,Prod.mk.injEq]at h
          simp only[List.length_drop]at hm2
          unfold AE;omega
theorem O5 {s:B8} {I:Int} {i:Nat} {st:St} {K:Int->Int->St->Prop} (hI:I=(i:Int)) (hl:s.length<=2000000) (hi:i<=s.length)
  (h1:∀e,e≠0->Dp 4 (s.drop i) 0= .error e->K 0 e st) (h2:∀(n:Nat) (N:Int),N=(n:Int)->Dp 4 (s.drop i) 0= .ok n->K N 0 st):
  CallT PR Bl [.str s,.int .i64 I] [.one (.int .i64),.one (.int .i64)] st K:=by
 refine hex_ok hI hl hi ?_
 cases hn:Dp 4 (s.drop i) 0 with
 | error e=>exact h1 e (fun h0=>by subst h0;exact HV _ _ _ hn) hn
 | ok n=>exact h2 n _ rfl hn
theorem P1 {s:B8} {I:Int} {i:Nat} {st:St} {K:Int->Int->Int->St->Prop} (hI:I=(i:Int)) (hl:s.length<=2000000) (hi:i<=s.length)
  (hk:K (eR (IK (s.drop i))) (eK i (IK (s.drop i))) (eE (IK (s.drop i))) st):CallT PR BA [.str s,.int .i64 I] [.one (.int .i32),.one (.int .i64),.one (.int .i64)] st K:=by
 have hlen:(s.drop i).length=s.length-i:=by simp
 have hb:∀j,bt (s.drop i) j=(s.getD (i+j) 0).toNat:=fun j=>Df s i j
 unfold IK at hk
 refine GR s I st K (O5 hI hl hi (fun e he hn=>?_) fun n N hN hn=>?_)
 ·rw[hn]at hk
  exact Aa (fun _=>hk) fun h=>absurd he h
 ·rw[hn]at hk
  obtain⟨hn1,hn2⟩:=HU _ _ _ _ hn
  simp only at hk
  refine Aa (fun h=>absurd rfl h) fun _=>?_
  refine Aa (fun h1=>Aa (fun h2=>?_) fun h2=>?_) fun h1=>?_
  ·rw[if_pos (by omega)]at hk;exact hk
  ·rw[if_neg (by omega),if_pos (by omega)]at hk
   refine Aa (fun h3=>by omega) fun h3=>Aa (fun _=>?_) fun h4=>by omega
   rw[NB _ (by omega) (by omega),Ae _ (by omega) (by omega),hN,hI]
   exact hk
  ·refine Aa (fun h3=>?_) fun h3=>Aa (fun h4=>by omega) fun h4=>?_
   ·rw[if_neg (by omega),if_pos (by omega)]at hk
    rw[NB _ (by omega) (by omega),Ae _ (by omega) (by omega),hN,hI]
    exact hk
   ·rw[if_neg (by omega),if_neg (by omega)]at hk
    refine⟨fun q s' i' n' v m st'=>s=s'/\I=i'/\N=n'/\TV.list 1 .full 2 [.int .u8 (92:Int),.int .u8 (117:Int)]=v/\2=m/\st=st'/\(q=0∨(q=1/\4<(s.drop i).length/\bt (s.drop i) 4=92)∨(q=2/\5<(s.drop i).length/\bt (s.drop i) 4=92/\bt (s.drop i) 5=117)),fun q _ _ _ _ _ _=>(2-q).toNat,⟨rfl,rfl,rfl,rfl,rfl,rfl,.inl rfl⟩,?_⟩
    rintro q _ _ _ _ _ _ ⟨rfl,rfl,rfl,rfl,rfl,rfl,hq⟩
    rw[hlen,hb,hb]at hq
    rw[hlen,hb,hb]at hk
    rw[Ae (I+4) (by omega) (by omega)]
    refine Aa (fun g1=>?_) fun g1=>?_
    ·have hld:∀x:Int,(x=92/\q=0∨x=117/\q=1)->Af st [] (.t (ixT 1 (TV.list 1 .full 2 [.int .u8 (92:Int),.int .u8 (117:Int)]) (Int.toNat q))) 0=some (.int .u8 x):=by
      rintro x (⟨rfl,rfl⟩ | ⟨rfl,rfl⟩)<;>rfl
     rcases hq with rfl | ⟨rfl,q1,q2⟩ | ⟨rfl,_⟩
     ·refine⟨⟨by omega,by decide⟩,Ab (hld 92 (.inl ⟨rfl,rfl⟩)) ?_⟩
      rw[Ae (I+4+0) (by omega) (by omega)]
      refine Aa (fun g2=>?_) fun g2=>⟨⟨by omega,by omega⟩,Aa (fun g3=>?_) fun g3=>⟨⟨rfl,rfl,rfl,rfl,rfl,rfl,.inr (.inl ⟨rfl,?_,?_⟩)⟩,by dsimp only;decide⟩⟩
      ·rw[if_pos (by omega)]at hk;exact hk
      ·rw[show Int.toNat (I+4+0)=i+4 by omega]at g3
       rw[if_neg (by omega),if_pos (by omega)]at hk;exact hk
      ·rw[hlen];omega
      ·rw[show Int.toNat (I+4+0)=i+4 by omega]at g3
       rw[hb];omega
     ·refine⟨⟨by omega,by decide⟩,Ab (hld 117 (.inr ⟨rfl,rfl⟩)) ?_⟩
      rw[Ae (I+4+1) (by omega) (by omega)]
      refine Aa (fun g2=>?_) fun g2=>⟨⟨by omega,by omega⟩,Aa (fun g3=>?_) fun g3=>⟨⟨rfl,rfl,rfl,rfl,rfl,rfl,.inr (.inr ⟨rfl,?_,?_,?_⟩)⟩,by dsimp only;decide⟩⟩
      ·rw[if_neg (by omega),if_neg (by omega),if_pos (by omega)]at hk;exact hk
      ·rw[show Int.toNat (I+4+1)=i+5 by omega]at g3
       rw[if_neg (by omega),if_neg (by omega),if_neg (by omega),if_pos (by omega)]at hk;exact hk
      ·rw[hlen];omega
      ·rw[hb];exact q2
      ·rw[show Int.toNat (I+4+1)=i+5 by omega]at g3
       rw[hb];omega
     ·omega
    ·rcases hq with rfl | ⟨rfl,_⟩ | ⟨rfl,q1,q2,q3⟩
     ·omega
     ·omega
     ·rw[if_neg (by omega),if_neg (by omega),if_neg (by omega),if_neg (by omega),List.drop_drop]at hk
      rw[Ae (I+6) (by omega) (by omega)]
      refine O5 (i:=i+6) (by omega) hl (by omega) (fun e he hm=>?_) fun m M hM hm=>?_
      ·rw[hm]at hk
       exact Aa (fun _=>hk) fun h=>absurd he h
      ·rw[hm]at hk
       obtain⟨hm1,hm2⟩:=HU _ _ _ _ hm
       simp only at hk
       refine Aa (fun h=>absurd rfl h) fun _=>?_
       refine Aa (fun h5=>?_) fun h5=>Aa (fun h6=>?_) fun h6=>?_
       ·rw[if_pos (by omega)]at hk;exact hk
       ·rw[if_pos (by omega)]at hk;exact hk
       ·rw[if_neg (by omega)]at hk
        rw[show(2:Int)^(min (Int.toNat (10:Int)) (IntKind.bits .i64))=1024 by decide,Ae (N-55296) (by omega) (by omega),Ae ((N-55296)*1024) (by omega) (by omega),Ae (65536+(N-55296)*1024) (by omega) (by omega),
         Ae (65536+(N-55296)*1024+M) (by omega) (by omega),Ae (65536+(N-55296)*1024+M-56320) (by omega) (by omega),NB _ (by omega) (by omega),Ae _ (by omega) (by omega)]
        have e1:(65536+(N-55296)*1024+M-56320)=((65536+(n-55296)*1024+(m-56320):Nat):Int):=by omega
        have e2:I+10=((i+10:Nat):Int):=by omega
        rw[e1,e2]
        exact hk
theorem M8 (l:B8):IK l≠.error 0:=by
 unfold IK
 cases hn:Dp 4 l 0 with
 | error e=>intro h;simp only[Except.error.injEq]at h;subst h;exact HV _ _ _ hn
 | ok n=>
  simp only
  repeat' split
  all_goals first | (simp;done) | skip
  rename_i e hm
  intro h;simp only[Except.error.injEq]at h;subst h;exact HV _ _ _ hm
def Jn (c:Nat):Option UInt8:=if c=34 then some 34 else if c=92 then some 92 else if c=47 then some 47 else if c=98 then some 8 else if c=102 then some 12 else if c=110 then some 10 else if c=114 then some 13 else if c=116 then some 9 else none
def simT (n:Nat):Bool:=match Jn n with
 | none=>decide (Lib.indexByte FP (UInt8.ofNat n)= -1)
 | some d=>decide (0<=Lib.indexByte FP (UInt8.ofNat n))&&decide (Lib.indexByte FP (UInt8.ofNat n)<8)&&decide (KU.getD (Lib.indexByte FP (UInt8.ofNat n)).toNat 0=d)
theorem QI:∀n,n<256->simT n=true:=by decide+kernel
theorem sim_idx (c:UInt8):(Jn c.toNat=none/\Lib.indexByte FP c= -1)∨∃d,Jn c.toNat=some d/\0<=Lib.indexByte FP c/\Lib.indexByte FP c<8/\KU.getD (Lib.indexByte FP c).toNat 0=d:=by
 have h:=QI c.toNat c.toNat_lt
 unfold simT at h
 rw[UInt8.ofNat_toNat]at h
 cases hd:Jn c.toNat with
 | none=>rw[hd]at h;exact .inl ⟨rfl,by simpa using h⟩
 | some d=>rw[hd]at h;simp only[Bool.and_eq_true,decide_eq_true_eq]at h;exact .inr ⟨d,rfl,h.1.1,h.1.2,h.2⟩
def qF:Nat->Nat->B8->B8->Nat->Except Int (B8×Nat)
 | 0,_,_,_,_=> .error 4
 | f+1,m,l,acc,n=>
  if l.length=0 then .error 4
  else if bt l 0=m then .ok (acc,n+1)
  else if ul l=0∨bt l 0<32 then .error 5
  else if bt l 0≠92∨m=39 then qF f m (l.drop (ul l)) (acc++l.take (ul l)) (n+ul l)
  else if l.length<=1 then .error 4
  else if bt l 1=117 then match IK (l.drop 2)with
   | .error e=> .error e
   | .ok p=>qF f m (l.drop (2+p.2)) (acc++CR p.1) (n+(2+p.2))
  else match Jn (bt l 1)with
   | none=> .error 3
   | some c=>qF f m (l.drop 2) (acc++[c]) (n+2)
def qL:Except Int (B8×Nat)->B8 | .ok p=>p.1 | .error _=>[]
def qN:Except Int (B8×Nat)->Int | .ok p=>p.2 | .error _=>0
theorem G8 {l:B8} {st:St} {K:Int->Int->St->Prop} (hne:l≠ []) (hk:∀R N:Int,((ul l=0/\R=65533/\N=1)∨(ul l≠0/\R=(ur l:Nat)/\N=(ul l:Nat)/\¬(R=65533/\N=1)/\ul l<=l.length/\ul l<=4))->K R N st):CallT PR AG [.str l] [.one (.int .i32),.one (.int .i64)] st K:=by
 refine P6 (hk _ _ ?_)
 have hd:dG l=dN l:=by unfold dG;rw[if_neg hne]
 rw[hd]
 by_cases h:ul l=0
 ·rw[(Js l hne).1 h];exact .inl ⟨h,rfl,rfl⟩
 ·rw[Ok l h]
  have h1:=Qu l h
  have h2:=Lu l h
  exact .inr ⟨h,rfl,rfl,by simp only;omega,h2.2.2.1,h2.2.2.2⟩
theorem Iz {s:B8} {I:Int} {i:Nat} {st:St} {K:B8->Int->Int->St->Prop} (hI:I=(i:Int)) (hl:s.length<=2000000) (hi:i<s.length)
  (hk:∀st',Ah st st'->K (qL (qF (s.length+1) (bt (s.drop i) 0) (s.drop (i+1)) [] (i+1))) (qN (qF (s.length+1) (bt (s.drop i) 0) (s.drop (i+1)) [] (i+1))) (eE (qF (s.length+1) (bt (s.drop i) 0) (s.drop (i+1)) [] (i+1))) st'):
  CallT PR AU [.str s,.int .i64 I] [.one (.str),.one (.int .i64),.one (.int .i64)] st K:=by
 have hm0:((List.getD s (Int.toNat I) 0).toNat:Int)=((bt (s.drop i) 0:Nat):Int):=by rw[Df,hI];rfl
 refine GQ s I st K ⟨⟨by omega,by omega⟩,?_⟩
 rw[hm0]
 generalize bt (s.drop i) 0=m at*
 generalize hX:qF (s.length+1) m (s.drop (i+1)) [] (i+1)=X at*
 refine⟨fun j out s' mk st'=>s=s'/\(m:Int)=mk/\Ah st st'/\∃(k f:Nat) (acc:B8),j=(k:Int)/\k<=s.length/\s.length<k+f/\acc.length<=4*k/\H5 st.nt st' out acc/\qF f m (s.drop k) acc k=X,fun j _ _ _ _=>(s.length-j).toNat,⟨rfl,rfl,Ah.refl _,i+1,s.length+1,[],by rw[Ae _ (by omega) (by omega)];omega,by omega,by omega,by simp,H5.nil _ _,hX⟩,?_⟩
 rintro _ out _ _ st1 ⟨rfl,rfl,e,k,f,acc,rfl,h1,h2,h3,h4,h5⟩
 cases f with
 | zero=>omega
 | succ f=>
 simp only[qF]at h5
 have hlen:(s.drop k).length=s.length-k:=by simp
 have hb:∀j,bt (s.drop k) j=(s.getD (k+j) 0).toNat:=Df s k
 have e0:Int.toNat (k:Int)=k:=rfl
 rw[hb,hb]at h5
 rw[hlen]at h5
 refine Aa (fun g1=>?_) fun g1=>?_
 ·have hne:s.drop k≠ []:=by
   intro h0
   have:=congrArg List.length h0
   rw[hlen]at this;simp at this;omega
  rw[if_neg (by omega)]at h5
  refine⟨⟨by omega,by omega⟩,G8 hne fun R N hD=>⟨⟨by omega,by omega⟩,?_⟩⟩
  rw[e0]at hD
  rw[hlen]at hD
  rw[e0,show(k:Nat)+0=k from rfl]at*
  generalize hc0:(s.getD k 0).toNat=c0 at*
  refine Aa (fun g2=>?_) fun g2=>⟨⟨by omega,by omega⟩,Aa (fun g3=>?_) fun g3=>?_⟩
  ·rw[if_pos (by omega)]at h5
   rw[<-h5]at hk
   rw[Ae _ (by omega) (by omega)]
   refine Ab (show _=some (TV.str acc) by rw[h4.rd.toBytes];rfl) ?_
   exact hk st1 e
  ·rw[if_neg (by omega),if_pos (by omega)]at h5
   rw[<-h5]at hk
   exact hk st1 e
  ·rw[if_neg (by omega)]at h5
   refine Aa (fun g4=>Aa (fun g5=>?_) fun g5=>?_) fun g4=>?_
   ·rw[if_pos (by omega)]at h5
    rw[<-h5]at hk
    exact hk st1 e
   all_goals
    obtain⟨d0,_,d2,d3,d4,d5⟩:(ul (s.drop k)≠0/\R=(ur (s.drop k):Nat)/\N=(ul (s.drop k):Nat)/\¬(R=65533/\N=1)/\ul (s.drop k)<=s.length-k/\ul (s.drop k)<=4):=by
     rcases hD with⟨_,x1,x2⟩ | hD
     ·first | exact absurd x2 g5 | exact absurd x1 g4
     ·exact hD
    rw[if_neg (by omega)]at h5
    refine⟨⟨by omega,by omega⟩,Aa (fun g6=>?_) fun g6=>Aa (fun g6=>?_) fun g7=>Aa (fun g8=>?_) fun g8=>?_⟩
    iterate 2
     ·rw[if_pos (by omega)]at h5
      rw[Ae ((k:Int)+N) (by omega) (by omega)]
      refine⟨⟨by omega,by omega,by omega⟩,Ab rfl (Ac (NW _) ?_)⟩
      rw[Dd,show Int.toNat ((k:Int)+N)-k=ul (s.drop k) by omega]
      refine Dg e h4 rfl rfl ?_ fun v' st' e' _ ho=>⟨⟨rfl,rfl,e',k+ul (s.drop k),f,_,by omega,by omega,by omega,?_,ho,?_⟩,by dsimp only;omega⟩
      ·rw[List.length_take,hlen];omega
      ·rw[List.length_append,List.length_take,hlen];omega
      ·rw[<-h5,List.drop_drop]
    ·rw[Ae ((k:Int)+1) (by omega) (by omega)]at g8
     rw[if_neg (by omega),if_pos (by omega)]at h5
     rw[<-h5]at hk
     exact hk st1 e
    ·rw[Ae ((k:Int)+1) (by omega) (by omega)]at g8
     rw[Ae ((k:Int)+1) (by omega) (by omega)]
     rw[if_neg (by omega),if_neg (by omega)]at h5
     refine⟨⟨by omega,by omega⟩,?_⟩
     rw[show Int.toNat ((k:Int)+1)=k+1 from rfl]
     refine Aa (fun g9=>?_) fun g9=>⟨⟨by omega,by omega⟩,EZ ?_⟩
     ·rw[if_pos (by omega),List.drop_drop]at h5
      rw[Ae ((k:Int)+2) (by omega) (by omega)]
      refine P1 (i:=k+2) (by omega) hl (by omega) ?_
      cases hes:IK (s.drop (k+2))with
      | error e1=>
       rw[hes]at h5
       rw[<-h5]at hk
       exact Aa (fun _=>hk st1 e) fun h=>absurd hes (by rw[show e1=0 from Decidable.not_not.1 h];exact M8 _)
      | ok p=>
       rw[hes]at h5
       simp only at h5
       obtain⟨q1,q2,q3,q4⟩:=O9 hes
       rw[List.length_drop]at q2
       refine Aa (fun h=>absurd rfl h) fun _=>KL rfl q1 e h4 (by omega) fun v' st' e' ho=>⟨⟨rfl,rfl,e',k+(2+p.2),f,_,?_,by omega,by omega,?_,ho,?_⟩,?_⟩
       ·show((k+2+p.2:Nat):Int)=_;omega
       ·have:=Nb p.1;rw[List.length_append];omega
       ·rw[<-h5,List.drop_drop]
       ·show((s.length:Int)-((k+2+p.2:Nat):Int)).toNat<((s.length:Int)-(k:Int)).toNat
        omega
     ·rw[if_neg (by omega)]at h5
      rw[Int.toNat_natCast,show((s.getD (k+1) 0).toNat).toUInt8=s.getD (k+1) 0 by simp]
      rcases sim_idx (s.getD (k+1) 0)with⟨hd,hx⟩ | ⟨d,hd,hx1,hx2,hx3⟩
      ·rw[hd]at h5
       rw[hx]
       rw[<-h5]at hk
       exact Aa (fun _=>hk st1 e) fun h=>absurd (by decide) h
      ·rw[hd]at h5
       generalize Lib.indexByte FP (s.getD (k+1) 0)=X1 at*
       refine Aa (fun h=>by omega) fun _=>⟨⟨by omega,by show X1<8;omega⟩,?_⟩
       rw[hx3,Ae ((k:Int)+2) (by omega) (by omega)]
       refine Dg (ys:=[d]) e h4 rfl rfl (by simp;omega) fun v' st' e' _ ho=>⟨⟨rfl,rfl,e',k+2,f,_,by omega,by omega,by omega,?_,ho,?_⟩,by dsimp only;omega⟩
       ·simp;omega
       ·rw[<-h5,List.drop_drop]
 ·rw[if_pos (by omega)]at h5
  rw[<-h5]at hk
  exact hk st1 e
theorem IA:∀(ps:List (Option UInt8)) (l:B8) (n:Nat),ps.length<=n->CP ps (l.take n)=CP ps l
 | [],l,n,h=>by simp[CP]
 | _::_,[],n,h=>by simp
 | none::ps,c::cs,0,h=>by simp at h
 | some a::ps,c::cs,0,h=>by simp at h
 | none::ps,c::cs,n+1,h=>by simp only[List.take_succ_cons,CP];rw[IA ps cs n (by simpa using h)]
 | some a::ps,c::cs,n+1,h=>by simp only[List.take_succ_cons,CP];rw[IA ps cs n (by simpa using h)]
theorem pat11:DB 100 [100,100,100,100,45,100,100,45,100,100,32,100,100,58]=DB 48 QD++DB 48 QC:=by decide
theorem MQ (l:B8):CP (DB 100 [100,100,100,100,45,100,100,45,100,100,32,100,100,58]) l=(CP (DB 48 QD) (l.take 10)&&CP (DB 48 QC) (l.drop 10)):=by
 rw[pat11,FZ,IA _ _ _ (by decide)]
 rfl
def Lr (l:B8):Nat:=if twl AQ l=10/\CP (DB 100 [100,100,100,100,45,100,100,45,100,100,32,100,100,58]) l=true then 11+twl AQ (l.drop 11)else twl AQ l
theorem wlen_le (l:B8):Lr l<=l.length:=by
 unfold Lr
 split
 ·rename_i h
  have h1:=JC AQ (l.drop 11)
  have h2:14<=l.length:=by
   apply Decidable.byContradiction
   intro hh
   rw[CY _ _ (by show l.length<14;omega)]at h
   exact absurd h.2 (by decide)
  rw[List.length_drop]at h1
  omega
 ·exact JC _ _
theorem Qn {s:B8} {I:Int} {i:Nat} {st:St} {K:Int->St->Prop} (hI:I=(i:Int)) (hl:s.length<=2000000) (hi:i<=s.length) (hk:∀st',Ah st st'->K ((i+Lr (s.drop i):Nat):Int) st'):
  CallT PR CG [.str s,.int .i64 I] [.one (.int .i64)] st K:=by
 have htl:=JC AQ (s.drop i)
 rw[List.length_drop]at htl
 refine Hj s I st K (Hb fun v u st1 e c1 c2=>Hw hI hl hi c2 ?_)
 have hsp:=MQ (s.drop i)
 rw[List.drop_drop]at hsp
 have hw:∀x,(if twl AQ (s.drop i)=10/\CP (DB 100 [100,100,100,100,45,100,100,45,100,100,32,100,100,58]) (s.drop i)=true then 11+twl AQ (s.drop (i+11))else twl AQ (s.drop i))=x->K ((i+x:Nat):Int) st1:=by
  intro x hx
  have:=hk st1 e
  unfold Lr at this
  rw[List.drop_drop,hx]at this
  exact this
 generalize hN:((i+twl AQ (s.drop i):Nat):Int)=N
 refine Aa (fun h1=>?_) fun h1=>?_
 ·rw[Ae _ (by omega) (by omega)]at h1
  have h10:twl AQ (s.drop i)=10:=by omega
  refine⟨⟨by omega,by omega,by omega⟩,JV (by decide) ?_⟩
  rw[Dd,show Int.toNat N-Int.toNat I=10 by omega,show Int.toNat I=i by omega]
  refine Al (fun h2=>⟨⟨by omega,by omega⟩,JV (by decide) ?_⟩) fun h2=>?_
  ·rw[show Int.toNat N=i+10 by omega]
   refine Al (fun h3=>?_) fun h3=>?_
   ·have h14:4<=(s.drop (i+10)).length:=by
     apply Decidable.byContradiction
     intro hh
     rw[CY _ _ (by show _<4;omega)]at h3
     exact absurd h3 (by decide)
    rw[List.length_drop]at h14
    rw[Ae _ (by omega) (by omega)]
    refine Hw (i:=i+11) (by omega) hl (by omega) c2 ?_
    have:=hw _ (if_pos ⟨h10,by rw[hsp,h2,h3];rfl⟩)
    rw[show i+(11+twl AQ (s.drop (i+11)))=i+11+twl AQ (s.drop (i+11)) by omega]at this
    exact this
   ·rw[<-hN]
    refine hw _ (if_neg fun h=>absurd h3 ?_)
    have:=h.2
    rw[hsp,Bool.and_eq_true]at this
    rw[this.2];decide
  ·rw[<-hN]
   refine hw _ (if_neg fun h=>absurd h2 ?_)
   have:=h.2
   rw[hsp,Bool.and_eq_true]at this
   rw[this.1];decide
 ·rw[Ae _ (by omega) (by omega)]at h1
  rw[<-hN]
  exact hw _ (if_neg fun h=>h1 (by omega))
theorem crlf (l:B8):l.take KR.length=KR↔1<l.length/\bt l 0=13/\bt l 1=10:=by
 have e:∀(a b:UInt8),a=b↔a.toNat=b.toNat:=fun a b=>UInt8.toNat_inj.symm
 rcases l with _ | ⟨a,_ | ⟨b,l⟩⟩
 ·simp[KR]
 ·simp[KR]
 ·simp[KR,bt,e]
def cF:Nat->B8->Nat->Option Nat
 | 0,_,_=>none
 | f+1,l,k=>if l.length=0 then some k else if bt l 0=10 then some k else if 1<l.length/\bt l 0=13/\bt l 1=10 then some k
  else if ul l=0 then none else cF f (l.drop (ul l)) (k+ul l)
theorem cF_le:∀(f:Nat) (l:B8) (k n:Nat),cF f l k=some n->k<=n/\n<=k+l.length
 | 0,l,k,n,h=>by cases h
 | f+1,l,k,n,h=>by
  simp only[cF]at h
  repeat' split at h
  all_goals first | (cases h;done) | (simp only[Option.some.injEq]at h;omega) | skip
  have h1:=cF_le f _ _ _ h
  have h2:=IQ l
  rw[List.length_drop]at h1
  omega
theorem On {s:B8} {I:Int} {i:Nat} {st:St} {K:Int->Int->St->Prop} (hI:I=(i:Int)) (hl:s.length<=2000000) (hi:i<=s.length)
  (h1:∀(k:Nat),cF (s.length+1) (s.drop i) i=some k->K (k:Int) 0 st) (h2:cF (s.length+1) (s.drop i) i=none->K 0 5 st):
  CallT PR Cf [.str s,.int .i64 I] [.one (.int .i64),.one (.int .i64)] st K:=by
 refine Gn s I st K ⟨fun j s' st'=>s=s'/\st=st'/\∃k f:Nat,j=(k:Int)/\k<=s.length/\s.length<k+f/\cF f (s.drop k) k=cF (s.length+1) (s.drop i) i,fun j _ _=>(s.length-j).toNat,⟨rfl,rfl,i,s.length+1,hI,hi,by omega,rfl⟩,?_⟩
 rintro _ _ _ ⟨rfl,rfl,k,f,rfl,h3,h4,h5⟩
 cases f with
 | zero=>omega
 | succ f=>
 have hlen:(s.drop k).length=s.length-k:=by simp
 have hb:bt (s.drop k) 0=(s.getD k 0).toNat:=Df s k 0
 have e0:Int.toNat (k:Int)=k:=rfl
 simp only[cF]at h5
 rw[e0]
 refine Aa (fun g1=>⟨⟨by omega,by omega⟩,?_⟩) fun g1=>?_
 ·rw[if_neg (by omega)]at h5
  have hne:s.drop k≠ []:=by
   intro h0
   have:=congrArg List.length h0
   rw[hlen]at this;simp at this;omega
  refine Aa (fun g2=>⟨⟨by omega,by omega⟩,HW (Al (fun g3=>?_) fun g3=>?_)⟩) fun g2=>?_
  ·have g3:¬(1<(s.drop k).length/\bt (s.drop k) 0=13/\bt (s.drop k) 1=10):=fun h=>by
    rw[decide_eq_true ((crlf _).2 h)]at g3;exact absurd g3 (by decide)
   rw[if_neg (by omega),if_neg g3]at h5
   refine⟨⟨by omega,by omega⟩,G8 hne fun R N hD=>?_⟩
   refine Aa (fun g4=>Aa (fun g5=>?_) fun g5=>?_) fun g4=>?_
   ·rw[if_pos (by omega)]at h5
    exact h2 h5.symm
   all_goals
    obtain⟨d0,d2,d3⟩:(ul (s.drop k)≠0/\N=(ul (s.drop k):Nat)/\ul (s.drop k)<=(s.drop k).length):=by
     rcases hD with⟨_,x1,x2⟩ | hD
     ·first | exact absurd x2 g5 | exact absurd x1 g4
     ·exact⟨hD.1,hD.2.2.1,hD.2.2.2.2.1⟩
    rw[if_neg (by omega),List.drop_drop]at h5
    rw[Ae _ (by omega) (by omega)]
    exact⟨⟨rfl,rfl,k+ul (s.drop k),f,by omega,by omega,by omega,h5⟩,by dsimp only;omega⟩
  ·have g3:1<(s.drop k).length/\bt (s.drop k) 0=13/\bt (s.drop k) 1=10:=by
    refine(crlf _).1 (Decidable.byContradiction fun h=>absurd g3 ?_)
    rw[decide_eq_false h];decide
   rw[if_neg (by omega),if_pos g3]at h5
   exact h1 k h5.symm
  ·rw[if_pos (by omega)]at h5
   exact h1 k h5.symm
 ·rw[if_pos (by omega)]at h5
  exact h1 k h5.symm
theorem NS:∀(f m:Nat) (l acc:B8) (n:Nat),qF f m l acc n≠.error 0
 | 0,m,l,acc,n=>by simp[qF]
 | f+1,m,l,acc,n=>by
  simp only[qF]
  repeat' split
  all_goals first | (simp;done) | exact NS f _ _ _ _ | skip
  rename_i e he
  intro h;simp only[Except.error.injEq]at h;subst h;exact M8 _ he
theorem OX:∀(f m:Nat) (l acc:B8) (n:Nat) (p:B8×Nat),qF f m l acc n= .ok p->n<p.2/\p.2<=n+l.length
 | 0,m,l,acc,n,p,h=>by simp[qF]at h
 | f+1,m,l,acc,n,p,h=>by
  simp only[qF]at h
  by_cases g1:l.length=0
  ·rw[if_pos g1]at h;cases h
  rw[if_neg g1]at h
  by_cases g2:bt l 0=m
  ·rw[if_pos g2]at h
   simp only[Except.ok.injEq]at h
   subst h
   exact⟨by simp only;omega,by simp only;omega⟩
  rw[if_neg g2]at h
  by_cases g3:ul l=0∨bt l 0<32
  ·rw[if_pos g3]at h;cases h
  rw[if_neg g3]at h
  by_cases g4:bt l 0≠92∨m=39
  ·rw[if_pos g4]at h
   have h1:=OX f _ _ _ _ _ h
   have h2:=IQ l
   rw[List.length_drop]at h1
   omega
  rw[if_neg g4]at h
  by_cases g5:l.length<=1
  ·rw[if_pos g5]at h;cases h
  rw[if_neg g5]at h
  by_cases g6:bt l 1=117
  ·rw[if_pos g6]at h
   cases hes:IK (l.drop 2)with
   | error e=>rw[hes]at h;cases h
   | ok q=>
    rw[hes]at h
    have h1:=OX f _ _ _ _ _ h
    have h2:=(O9 (r:=q.1) (k:=q.2) hes).2.1
    rw[List.length_drop]at h1 h2
    omega
  rw[if_neg g6]at h
  cases hd:Jn (bt l 1)with
  | none=>rw[hd]at h;cases h
  | some c=>
   rw[hd]at h
   have h1:=OX f _ _ _ _ _ h
   rw[List.length_drop]at h1
   omega
def QR (c:Nat):Bool:=decide (c=91∨c=93∨c=123∨c=125∨c=44∨c=61)
theorem PK:∀n,n<256->decide (0<=Lib.indexByte QE (UInt8.ofNat n))=QR n:=by decide+kernel
theorem PJ (c:UInt8):0<=Lib.indexByte QE c↔QR c.toNat=true:=by
 have h:=PK c.toNat c.toNat_lt
 rw[UInt8.ofNat_toNat]at h
 rw[<-h,decide_eq_true_eq]
theorem GF {l:B8} {C:Int} {c:UInt8} {st:St} {K:Int->St->Prop} (hC:C=(c.toNat:Int)) (hk:K (Lib.indexByte l c) st):CallT PR AH [.str l,.int .u8 C] [.one (.int .i64)] st K:=by
 refine EZ ?_
 rw[hC,Int.toNat_natCast,show(c.toNat).toUInt8=c by simp]
 exact hk
theorem O1 {s:B8} {I:Int} {i:Nat} {st:St} {K:Int->Int->St->Prop} (hI:I=(i:Int)) (hl:s.length<=2000000) (hi:i<s.length)
  (h1:(s.getD i 0).toNat=10->K ((i+1:Nat):Int) 0 st) (h2:(s.getD i 0).toNat≠10->s.length=i+1->K 0 4 st) (h3:(s.getD i 0).toNat≠10->s.length≠i+1->(s.getD (i+1) 0).toNat=10->K ((i+2:Nat):Int) 0 st)
  (h4:(s.getD i 0).toNat≠10->s.length≠i+1->(s.getD (i+1) 0).toNat≠10->K 0 3 st):CallT PR B6 [.str s,.int .i64 I] [.one (.int .i64),.one (.int .i64)] st K:=by
 refine H8 s I st K ⟨⟨by omega,by omega⟩,?_⟩
 rw[Ae (I+1) (by omega) (by omega),Ae (I+2) (by omega) (by omega),show Int.toNat I=i by omega,show Int.toNat (I+1)=i+1 by omega]
 rw[show((i+1:Nat):Int)=I+1 by omega]at h1
 rw[show((i+2:Nat):Int)=I+2 by omega]at h3
 refine Aa (fun g1=>h1 (by omega)) fun g1=>Aa (fun g2=>h2 (by omega) (by omega)) fun g2=>⟨⟨by omega,by omega⟩,Aa (fun g3=>h3 (by omega) (by omega) (by omega)) fun g3=>h4 (by omega) (by omega) (by omega)⟩
def Pz (c c1:Nat) (s:B8) (i:Nat):Except Int (Int×Nat):=
 if c=32∨c=9 then .ok (1,i+twl Ip (s.drop i))
 else if c=10 then .ok (2,i+1)
 else if c=13 then(if s.length=i+1 then .error 4 else if c1=10 then .ok (2,i+2)else .error 3)
 else if c=35 then(match cF (s.length+1) (s.drop i) i with | none=> .error 5 | some k=> .ok (3,k))
 else if c=91∨c=93∨c=123∨c=125∨c=44∨c=61 then .ok (4,i+1)
 else if c=34∨c=39 then(match qF (s.length+1) c (s.drop (i+1)) [] (i+1)with | .error e=> .error e | .ok p=> .ok (5,p.2))
 else if AQ (c:Int)=true then .ok (6,i+Lr (s.drop i))else .error 3
def Hz (s:B8) (i:Nat):Except Int (Int×Nat):=Pz (bt (s.drop i) 0) (bt (s.drop i) 1) s i
theorem tend_ok {s:B8} {I:Int} {i:Nat} {st:St} {K:Int->Int->Int->St->Prop} (hI:I=(i:Int)) (hl:s.length<=2000000) (hi:i<s.length)
  (h1:∀p st',Ah st st'->Hz s i= .ok p->K p.1 (p.2:Nat) 0 st') (h2:∀e kd k st',Ah st st'->Hz s i= .error e->K kd k e st'):
  CallT PR Dq [.str s,.int .i64 I] [.one (.int .i64),.one (.int .i64),.one (.int .i64)] st K:=by
 refine Jd s I st K (Hb fun v u st1 e c1 c2=>⟨⟨by omega,by omega⟩,?_⟩)
 rw[show Int.toNat I=i by omega]
 unfold Hz at h1 h2
 have hb:bt (s.drop i) 0=(s.getD i 0).toNat:=Df s i 0
 have hb1:bt (s.drop i) 1=(s.getD (i+1) 0).toNat:=Df s i 1
 have hpi:=PJ (s.getD i 0)
 rw[hb]at h1 h2
 rw[hb1]at h1 h2
 generalize hc:(s.getD i 0).toNat=c at*
 unfold Pz at h1 h2
 refine Aa (fun g1=>?_) fun g1=>Aa (fun g2=>?_) fun g2=>Aa (fun g3=>?_) fun g3=>Aa (fun g4=>?_) fun g4=>Aa (fun g5=>?_) fun g5=>GF (c:=s.getD i 0) (by rw[hc]) (Aa (fun g6=>?_) fun g6=>Aa (fun g7=>?_) fun g7=>Aa (fun g8=>?_) fun g8=>?_)
 ·refine Hw hI hl (by omega) (Nl st1) ?_
  rw[if_pos (by omega)]at h1
  exact h1 _ _ e rfl
 ·refine Hw hI hl (by omega) (Nl st1) ?_
  rw[if_pos (by omega)]at h1
  exact h1 _ _ e rfl
 ·refine O1 hI hl hi (fun q=>?_) (fun q=>?_) (fun q=>?_) fun q=>?_
  ·rw[if_neg (by omega),if_pos (by omega)]at h1;exact h1 _ _ e rfl
  all_goals omega
 ·refine O1 hI hl hi (fun q=>?_) (fun q q2=>?_) (fun q q2 q3=>?_) fun q q2 q3=>?_
  ·omega
  ·rw[if_neg (by omega),if_neg (by omega),if_pos (by omega),if_pos q2]at h2;exact h2 _ _ _ _ e rfl
  ·rw[if_neg (by omega),if_neg (by omega),if_pos (by omega),if_neg q2,if_pos q3]at h1;exact h1 _ _ e rfl
  ·rw[if_neg (by omega),if_neg (by omega),if_pos (by omega),if_neg q2,if_neg q3]at h2;exact h2 _ _ _ _ e rfl
 ·rw[if_neg (by omega),if_neg (by omega),if_neg (by omega),if_pos (by omega)]at h1 h2
  refine On hI hl (by omega) (fun k hk=>?_) fun hk=>?_
  ·rw[hk]at h1;exact h1 _ _ e rfl
  ·rw[hk]at h2;exact h2 _ _ _ _ e rfl
 ·have g6:=of_decide_eq_true (hpi.1 g6)
  rw[if_neg (by omega),if_neg (by omega),if_neg (by omega),if_neg (by omega),if_pos (by omega)]at h1
  rw[Ae _ (by omega) (by omega),show I+1=((i+1:Nat):Int) by omega]
  exact h1 _ _ e rfl
 ·have g6:=of_decide_eq_false (Bool.eq_false_iff.2 fun h=>g6 (hpi.2 h))
  rw[if_neg (by omega),if_neg (by omega),if_neg (by omega),if_neg (by omega),if_neg (by omega),if_pos (by omega)]at h1 h2
  refine Iz hI hl hi fun st2 e2=>?_
  rw[hb]
  cases hq:qF (s.length+1) c (s.drop (i+1)) [] (i+1)with
  | error er=>rw[hq]at h2;exact h2 _ _ _ _ (e.trans e2) rfl
  | ok p=>rw[hq]at h1;exact h1 _ _ (e.trans e2) rfl
 ·have g6:=of_decide_eq_false (Bool.eq_false_iff.2 fun h=>g6 (hpi.2 h))
  rw[if_neg (by omega),if_neg (by omega),if_neg (by omega),if_neg (by omega),if_neg (by omega),if_pos (by omega)]at h1 h2
  refine Iz hI hl hi fun st2 e2=>?_
  rw[hb]
  cases hq:qF (s.length+1) c (s.drop (i+1)) [] (i+1)with
  | error er=>rw[hq]at h2;exact h2 _ _ _ _ (e.trans e2) rfl
  | ok p=>rw[hq]at h1;exact h1 _ _ (e.trans e2) rfl
 ·have g6:=of_decide_eq_false (Bool.eq_false_iff.2 fun h=>g6 (hpi.2 h))
  rw[if_neg (by omega),if_neg (by omega),if_neg (by omega),if_neg (by omega),if_neg (by omega),if_neg (by omega)]at h1 h2
  refine c2 _ (Ah.refl _) _ _ (Al (fun g9=>?_) fun g9=>?_)
  ·rw[if_pos g9]at h1
   refine Qn hI hl (by omega) fun st2 e2=>h1 _ _ (e.trans e2) rfl
  ·rw[if_neg (by rw[g9];decide)]at h2
   exact h2 _ _ _ _ e rfl
theorem Mq (s:B8) (i:Nat):Hz s i≠.error 0:=by
 unfold Hz Pz
 repeat' split
 all_goals first | (simp;done) | skip
 rename_i e he
 intro h;simp only[Except.error.injEq]at h;subst h;exact NS _ _ _ _ _ he
theorem OQ {s:B8} {i:Nat} {p:Int×Nat} (hi:i<s.length) (h:Hz s i= .ok p):i<p.2/\p.2<=s.length/\1<=p.1/\p.1<=6:=by
 have hb:bt (s.drop i) 0=(s.getD i 0).toNat:=Df s i 0
 have hb1:bt (s.drop i) 1=(s.getD (i+1) 0).toNat:=Df s i 1
 have hlen:(s.drop i).length=s.length-i:=by simp
 have hlen1:(s.drop (i+1)).length=s.length-(i+1):=by simp
 have hne:s.drop i≠ []:=by
  intro h0
  have:=congrArg List.length h0
  rw[hlen]at this;simp at this;omega
 unfold Hz at h
 rw[hb]at h
 rw[hb1]at h
 have hsp:=Hv Ip s i hi
 have hwd:=Hv AQ s i hi
 have hcf:(s.getD i 0).toNat=35->∀k,cF (s.length+1) (s.drop i) i=some k->i<k/\k<=s.length:=fun hc k hk=>by
  have hu:=(FJ _ hne (by omega)).1
  simp only[cF]at hk
  rw[if_neg (by omega),if_neg (by omega),if_neg (by omega),if_neg (by omega)]at hk
  have h1:=cF_le _ _ _ _ hk
  rw[List.length_drop,hu]at h1
  omega
 generalize (s.getD i 0).toNat=c at*
 unfold Pz at h
 by_cases g1:c=32∨c=9
 ·rw[if_pos g1]at h
  simp only[Except.ok.injEq]at h
  subst h
  have h1:=JC Ip (s.drop i)
  rw[if_pos (by unfold Ip;exact decide_eq_true (by omega))]at hsp
  exact⟨by simp only;omega,by simp only;omega,by simp only;decide,by simp only;decide⟩
 rw[if_neg g1]at h
 by_cases g2:c=10
 ·rw[if_pos g2]at h
  simp only[Except.ok.injEq]at h
  subst h
  exact⟨by simp only;omega,by simp only;omega,by simp only;decide,by simp only;decide⟩
 rw[if_neg g2]at h
 by_cases g3:c=13
 ·rw[if_pos g3]at h
  split at h
  ·cases h
  ·split at h
   ·simp only[Except.ok.injEq]at h
    subst h
    exact⟨by simp only;omega,by simp only;omega,by simp only;decide,by simp only;decide⟩
   ·cases h
 rw[if_neg g3]at h
 by_cases g4:c=35
 ·rw[if_pos g4]at h
  cases hk:cF (s.length+1) (s.drop i) i with
  | none=>rw[hk]at h;cases h
  | some k=>
   rw[hk]at h
   simp only[Except.ok.injEq]at h
   subst h
   have:=hcf g4 k hk
   exact⟨by simp only;omega,by simp only;omega,by simp only;decide,by simp only;decide⟩
 rw[if_neg g4]at h
 by_cases g5:c=91∨c=93∨c=123∨c=125∨c=44∨c=61
 ·rw[if_pos g5]at h
  simp only[Except.ok.injEq]at h
  subst h
  exact⟨by simp only;omega,by simp only;omega,by simp only;decide,by simp only;decide⟩
 rw[if_neg g5]at h
 by_cases g6:c=34∨c=39
 ·rw[if_pos g6]at h
  cases hq:qF (s.length+1) c (s.drop (i+1)) [] (i+1)with
  | error e=>rw[hq]at h;cases h
  | ok q=>
   rw[hq]at h
   simp only[Except.ok.injEq]at h
   subst h
   have:=OX _ _ _ _ _ _ hq
   rw[hlen1]at this
   exact⟨by simp only;omega,by simp only;omega,by simp only;decide,by simp only;decide⟩
 rw[if_neg g6]at h
 by_cases g7:AQ (c:Int)=true
 ·rw[if_pos g7]at h
  simp only[Except.ok.injEq]at h
  subst h
  rw[if_pos g7]at hwd
  have h1:=wlen_le (s.drop i)
  have h2:0<Lr (s.drop i):=by
   unfold Lr
   split<;>omega
  exact⟨by simp only;omega,by simp only;omega,by simp only;decide,by simp only;decide⟩
 ·rw[if_neg g7]at h;cases h
def nxt (s:B8) (at':Int):Except Int (Int×B8×Int):=
 if at'<0∨(s.length:Int)<at' then .error 1 else if at'=(s.length:Int)then .error 7
 else match Hz s at'.toNat with | .error e=> .error e | .ok p=> .ok (p.1,(s.drop at'.toNat).take (p.2-at'.toNat),at')
def nK:Except Int (Int×B8×Int)->Int | .ok p=>p.1 | .error _=>0
def nT:Except Int (Int×B8×Int)->B8 | .ok p=>p.2.1 | .error _=>[]
def nA:Except Int (Int×B8×Int)->Int | .ok p=>p.2.2 | .error _=>0
theorem LL {s:B8} {I:Int} {st:St} {K:Int->B8->Int->Int->St->Prop} (hl:s.length<=2000000)
  (hk:∀st',Ah st st'->K (nK (nxt s I)) (nT (nxt s I)) (nA (nxt s I)) (eE (nxt s I)) st'):
  CallT PR Bu [.str s,.int .i64 I] [.agg [.int .i64,.str,.int .i64],.one (.int .i64)] st K:=by
 unfold nxt at hk
 refine Ia s I st K (Aa (fun g1=>?_) fun g1=>Aa (fun g2=>?_) fun g2=>Aa (fun g3=>?_) fun g3=>?_)
 ·rw[if_pos (by omega)]at hk;exact hk _ (Ah.refl _)
 ·rw[if_pos (by omega)]at hk;exact hk _ (Ah.refl _)
 ·rw[if_neg (by omega),if_pos g3]at hk;exact hk _ (Ah.refl _)
 ·rw[if_neg (by omega),if_neg g3]at hk
  refine tend_ok (i:=I.toNat) (by omega) hl (by omega) (fun p st' e hp=>Aa (fun h=>absurd rfl h) fun _=>?_) fun er kd k st' e hp=>Aa (fun _=>?_) fun h=>absurd hp (by rw[show er=0 from Decidable.not_not.1 h];exact Mq _ _)
  ·rw[hp]at hk
   have:=OQ (by omega) hp
   refine⟨⟨by omega,by omega,by omega⟩,?_⟩
   rw[Dd,Int.toNat_natCast]
   exact hk _ e
  ·rw[hp]at hk;exact hk _ e
def unq (s:B8):Except Int B8:=
 if s=[]then .error 4 else if bt s 0≠34/\bt s 0≠39 then .error 3
 else match qF (s.length+1) (bt s 0) (s.drop 1) [] 1 with
  | .error e=> .error e
  | .ok p=>if p.2=s.length then .ok p.1 else .error 3
def uL:Except Int B8->B8 | .ok l=>l | .error _=>[]
theorem OP {s:B8} {st:St} {K:B8->Int->St->Prop} (hl:s.length<=2000000) (hk:∀st',Ah st st'->K (uL (unq s)) (eE (unq s)) st'):
  CallT PR A7 [.str s] [.one (.str),.one (.int .i64)] st K:=by
 unfold unq at hk
 have hb:bt s 0=(s.getD 0 0).toNat:=rfl
 refine Gq s st K (Aa (fun g1=>?_) fun g1=>?_)
 ·rw[if_pos g1]at hk;exact hk _ (Ah.refl _)
 rw[if_neg g1]at hk
 have hlen:0<s.length:=List.length_pos_iff.2 g1
 rw[show Int.toNat (0:Int)=0 from rfl]
 refine⟨⟨by omega,by omega⟩,Aa (fun g2=>⟨⟨by omega,by omega⟩,Aa (fun g3=>?_) fun g3=>?_⟩) fun g2=>?_⟩
 ·rw[if_pos (by omega)]at hk;exact hk _ (Ah.refl _)
 all_goals
  rw[if_neg (by omega)]at hk
  refine Iz (i:=0) rfl hl hlen fun st' e=>?_
  rw[show qF (s.length+1) (bt (s.drop 0) 0) (s.drop (0+1)) [] (0+1)=qF (s.length+1) (bt s 0) (s.drop 1) [] 1 from rfl]
  cases hq:qF (s.length+1) (bt s 0) (s.drop 1) [] 1 with
  | error er=>
   rw[hq]at hk
   exact Aa (fun _=>hk _ e) fun h=>absurd hq (by rw[show er=0 from Decidable.not_not.1 h];exact NS _ _ _ _ _)
  | ok p=>
   rw[hq]at hk
   simp only at hk
   refine Aa (fun h=>absurd rfl h) fun _=>Aa (fun g4=>?_) fun g4=>?_
   ·rw[if_neg (fun h=>g4 (by show(p.2:Int)=_;omega))]at hk;exact hk _ e
   ·rw[if_pos (by have:(p.2:Int)=(s.length:Int):=Decidable.not_not.1 g4
                  omega)]at hk;exact hk _ e
theorem Pp {s:B8} {st:St} {K:Bool->St->Prop} (hl:s.length<=2000000) (hk:∀st',Ah st st'->K (decide (s≠ [])&&decide (twl F8 s=s.length)) st'):
  CallT PR B7 [.str s] [.one (.bool)] st K:=by
 refine Ib s st K (Hb fun v u st1 e c1 c2=>Aa (fun g1=>Hw (i:=0) rfl hl (by omega) c1 ?_) fun g1=>?_)
 ·have:=hk st1 e
  rw[decide_eq_true g1,Bool.true_and]at this
  refine Cb (decide_eq_decide.2 ?_) this
  show((0+twl F8 s:Nat):Int)=_↔_
  omega
 ·have:=hk st1 e
  rw[decide_eq_false g1,Bool.false_and]at this
  exact this
theorem nxt0:nK (nxt QH 0)=6/\nT (nxt QH 0)=str3/\nA (nxt QH 0)=0/\eE (nxt QH 0)=0:=by decide+kernel
theorem nxt1:nT (nxt str1 0)=str4/\eE (nxt str1 0)=0:=by decide+kernel
theorem unq2:uL (unq str2)=str5/\eE (unq str2)=0:=by decide+kernel
theorem F9 {st:St} {K:Bool->St->Prop} (hk:∀st',Ah st st'->K true st'):CallT PR AD [] [.one (.bool)] st K:=by
 refine Fx st K (LL (by decide) fun st1 e1=>LL (by decide) fun st2 e2=>OP (by decide) fun st3 e3=>?_)
 rw[nxt0.1,nxt0.2.1,nxt0.2.2.1,nxt0.2.2.2,nxt1.1,nxt1.2,unq2.1,unq2.2]
 refine Al (fun _=>?_) fun h=>absurd h (by decide)
 refine Aa (fun _=>?_) fun h=>absurd rfl h
 refine Aa (fun _=>?_) fun h=>absurd rfl h
 refine Aa (fun _=>?_) fun h=>absurd rfl h
 refine Aa (fun _=>?_) fun h=>absurd rfl h
 refine Aa (fun _=>?_) fun h=>absurd rfl h
 refine Pp (by decide) fun st4 e4=>?_
 rw[show(decide (str6≠ [])&&decide (twl F8 str6=str6.length))=true by decide+kernel]
 exact hk _ (((e1.trans e2).trans e3).trans e4)
theorem RY {s:B8} {st:St} {K:Int->St->Prop} (hl:s.length<=2000000) (hk:K (if vlen s=s.length then-1 else((vlen s:Nat):Int)) st):CallT PR Cr [.str s] [.one (.int .i64)] st K:=by
 have hv:=Jx s
 refine Je s st K ⟨fun i s' st'=>s=s'/\st=st'/\∃k:Nat,i=(k:Int)/\k<=s.length/\k+vlen (s.drop k)=vlen s,fun i _ _=>(s.length-i).toNat,⟨rfl,rfl,0,rfl,by omega,by simp⟩,?_⟩
 rintro _ _ _ ⟨rfl,rfl,k,rfl,h1,h2⟩
 refine Aa (fun g1=>?_) fun g1=>?_
 ·have hlen:(s.drop k).length=s.length-k:=by simp
  have hne:s.drop k≠ []:=by
   intro h0
   have:=congrArg List.length h0
   rw[hlen]at this;simp at this;omega
  refine⟨⟨by omega,by omega⟩,?_⟩
  rw[show Int.toNat (k:Int)=k from rfl]
  refine G8 hne fun R N hD=>?_
  rcases hD with⟨h0,rfl,rfl⟩ | ⟨h0,_,hN,hn,hle,h4⟩
  ·rw[Cy _ h0]at h2
   rw[if_neg (by omega)]at hk
   refine Aa (fun _=>Aa (fun _=>?_) fun h=>absurd rfl h) fun h=>absurd rfl h
   rw[show k=vlen s by omega];exact hk
  ·rw[Cz _ h0,List.drop_drop]at h2
   rw[hlen]at hle
   have w:i64.wrap ((k:Int)+N)=((k+ul (s.drop k):Nat):Int):=by rw[Ae _ (by omega) (by omega)];omega
   rw[w]
   refine Aa (fun q1=>Aa (fun q2=>absurd ⟨q1,q2⟩ hn) fun _=>⟨⟨rfl,rfl,_,rfl,by omega,by omega⟩,by dsimp only;omega⟩) fun _=>⟨⟨rfl,rfl,_,rfl,by omega,by omega⟩,by dsimp only;omega⟩
 ·rw[show s.drop k=[]from List.drop_of_length_le (by omega),Ml]at h2
  rw[if_pos (by omega)]at hk;exact hk
abbrev Tok:=Int×B8×Int
def DT:List Tok->List TV
 | []=>[]
 | t::r=> .int .i64 t.1:: .str t.2.1:: .int .i64 t.2.2::DT r
theorem Fb:∀a b:List Tok,DT (a++b)=DT a++DT b
 | [],b=>rfl
 | t::r,b=>by simp[DT,Fb r b]
def tkS:Nat->B8->Nat->Except (Int×Int) (List Tok)
 | 0,_,_=> .ok []
 | f+1,s,k=>if s.length<=k then .ok []else match nxt s k with
  | .error e=> .error (if e=4 then(s.length:Int)else(k:Int),e)
  | .ok t=>match tkS f s (k+t.2.1.length)with
   | .error e=> .error e
   | .ok l=> .ok (t::l)
def tkX (acc:List Tok):Except (Int×Int) (List Tok)->Except (Int×Int) (List Tok)
 | .error e=> .error e
 | .ok l=> .ok (acc++l)
def Il (s:B8):Except (Int×Int) (List Tok):=if vlen s=s.length then tkS (s.length+1) s 0 else .error (((vlen s:Nat):Int),5)
def tL:Except (Int×Int) (List Tok)->List Tok | .ok l=>l | .error _=>[]
def tA:Except (Int×Int) (List Tok)->Int | .ok _=>0 | .error e=>e.1
def tE:Except (Int×Int) (List Tok)->Int | .ok _=>0 | .error e=>e.2
theorem PS {s:B8} {k:Nat} (hk:k<s.length):(∃e,nxt s k= .error e/\Hz s k= .error e/\e≠0)∨
  ∃kd n,nxt s k= .ok (kd,(s.drop k).take n,(k:Int))/\0<n/\k+n<=s.length/\1<=kd/\kd<=6/\Hz s k= .ok (kd,k+n):=by
 unfold nxt
 rw[if_neg (by omega),if_neg (by omega),show Int.toNat (k:Int)=k from rfl]
 cases h:Hz s k with
 | error e=>exact .inl ⟨e,rfl,rfl,fun h0=>Mq s k (by rw[h,h0])⟩
 | ok p=>
  have:=OQ hk h
  exact .inr ⟨p.1,p.2-k,rfl,by omega,by omega,this.2.2.1,this.2.2.2,by rw[show k+(p.2-k)=p.2 by omega]⟩
theorem tok_len {s:B8} {k n:Nat} (h:k+n<=s.length):((s.drop k).take n).length=n:=by
 rw[List.length_take,List.length_drop];omega
theorem KP {s:B8} {st:St} {K:TV->Int->Int->St->Prop} (hl:s.length<=1000000)
  (hk:∀v st',Ah st st'->Own st.nt 3 st' v (tL (Il s)).length (DT (tL (Il s)))->K v (tA (Il s)) (tE (Il s)) st'):
  CallT PR BB [.str s] [.one (.tv),.one (.int .i64),.one (.int .i64)] st K:=by
 have hv:=Jx s
 refine GS s st K (Aa (fun h=>by omega) fun _=>RY (by omega) ?_)
 by_cases hb:vlen s=s.length
 ·rw[if_pos hb]
  refine Aa (fun h=>absurd h (by decide)) fun _=>?_
  generalize hX:Il s=X at*
  unfold Il at hX
  rw[if_pos hb]at hX
  refine⟨fun v i s' st'=>s=s'/\Ah st st'/\∃(k f:Nat) (acc:List Tok),i=(k:Int)/\k<=s.length/\s.length<k+f/\acc.length<=k/\Own st.nt 3 st' v acc.length (DT acc)/\tkX acc (tkS f s k)=X,fun _ i _ _=>(s.length-i).toNat,
   ⟨rfl,Ah.refl _,0,s.length+1,[],rfl,by omega,by omega,by simp,Own.nil _ _ _,by rw[hX];cases X<;>rfl⟩,?_⟩
  rintro v _ _ st1 ⟨rfl,e,k,f,acc,rfl,h1,h2,h3,h4,h5⟩
  cases f with
  | zero=>omega
  | succ f=>
  simp only[tkS]at h5
  refine Aa (fun g1=>LL (by omega) fun st2 e2=>?_) fun g1=>?_
  ·rw[if_neg (by omega)]at h5
   rcases PS (s:=s) (k:=k) (by omega)with⟨er,hn,_,he⟩ | ⟨kd,n,hn,n1,n2,_⟩
   ·rw[hn]at h5⊢
    simp only[nK,nT,nA,eE,tkX]at h5⊢
    subst h5
    refine Aa (fun q=>?_) fun q=>Aa (fun _=>?_) fun h=>absurd he h
    all_goals
     have:=hk .nilSlice st2 (e.trans e2) (Own.nil _ _ _)
     simp only[tA,tE]at this
    ·rw[if_pos q]at this;exact this
    ·rw[if_neg q]at this;exact this
   ·rw[hn]at h5⊢
    simp only at h5
    dsimp only[nK,nT,nA,eE]
    have htl:=tok_len n2
    refine Aa (fun q=>absurd q (by decide)) fun _=>Aa (fun h=>absurd rfl h) fun _=>?_
    rw[htl]at h5⊢
    have w:i64.wrap ((k:Int)+(n:Nat))=((k+n:Nat):Int):=by rw[Ae _ (by omega) (by omega)];omega
    rw[w]
    refine H4 (e.trans e2) rfl (h4.ext e2) (by omega) (fun h=>by cases h) fun v' st' e' _ ho=>⟨⟨rfl,e',k+n,f,acc++[(kd,(s.drop k).take n,(k:Int))],rfl,by omega,by omega,by simp;omega,?_,?_⟩,by omega⟩
    ·rw[List.length_append,Fb];exact ho
    ·rw[<-h5]
     cases tkS f s (k+n)<;>simp[tkX]
  ·rw[if_pos (by omega)]at h5
   simp only[tkX,List.append_nil]at h5
   subst h5
   exact hk v st1 e h4
 ·rw[if_neg hb]
  have hX:Il s= .error (((vlen s:Nat):Int),5):=by unfold Il;rw[if_neg hb]
  rw[hX]at hk
  exact Aa (fun _=>hk .nilSlice st (Ah.refl _) (Own.nil _ _ _)) fun h=>by omega
theorem tkF_end {f:Nat} {s:B8} {k:Nat} (hk:s.length<=k):tkS f s k= .ok []:=by
 cases f with
 | zero=>rfl
 | succ f=>simp only[tkS];rw[if_pos hk]
def Fz (n:Nat):UInt8:=FQ.getD n 0
def FA (n:Nat):B8:=if n=34 then [92,34]else if n=92 then [92,92]else if n=8 then [92,98]else if n=12 then [92,102]else if n=10 then [92,110]else if n=13 then [92,114]else if n=9 then [92,116]
 else if n<32 then [92,117,48,48,Fz (n/16),Fz (n%16)]else [UInt8.ofNat n]
def BZ (s:B8):B8:=s.flatMap fun c=>FA c.toNat
def quo (s:B8):B8:=34::(BZ s++[34])
def escT (n:Nat):Bool:=if 0<=Lib.indexByte Gv (UInt8.ofNat n)then decide (Lib.indexByte Gv (UInt8.ofNat n)<7)&&decide (FA n=[92,Mv.getD (Lib.indexByte Gv (UInt8.ofNat n)).toNat 0])
 else if n<32 then decide (FA n=[92,117,48,48,FQ.getD (n/16) 0,FQ.getD (n%16) 0])else decide (FA n=[UInt8.ofNat n])
theorem Rz:∀n,n<256->escT n=true:=by decide+kernel
theorem esc_idx (c:UInt8):(0<=Lib.indexByte Gv c/\Lib.indexByte Gv c<7/\FA c.toNat=[92,Mv.getD (Lib.indexByte Gv c).toNat 0])∨
  (¬0<=Lib.indexByte Gv c/\c.toNat<32/\FA c.toNat=[92,117,48,48,FQ.getD (c.toNat/16) 0,FQ.getD (c.toNat%16) 0])∨(¬0<=Lib.indexByte Gv c/\¬c.toNat<32/\FA c.toNat=[c]):=by
 have h:=Rz c.toNat c.toNat_lt
 unfold escT at h
 rw[UInt8.ofNat_toNat]at h
 split at h
 ·rename_i h0
  simp only[Bool.and_eq_true,decide_eq_true_eq]at h
  exact .inl ⟨h0,h.1,h.2⟩
 ·rename_i h0
  split at h
  ·rename_i h1
   exact .inr (.inl ⟨h0,h1,by simpa using h⟩)
  ·rename_i h1
   exact .inr (.inr ⟨h0,h1,by simpa using h⟩)
theorem RA (n:Nat):(FA n).length<=6:=by
 unfold FA
 repeat' split
 all_goals simp
theorem Kg:∀s:B8,(BZ s).length<=6*s.length
 | []=>by simp[BZ]
 | c::r=>by
  have h1:=RA c.toNat
  have h2:=Kg r
  simp only[BZ,List.flatMap_cons,List.length_append,List.length_cons]at h2⊢
  omega
theorem P2 (s:B8) (k:Nat) (h:k<s.length):BZ (s.take (k+1))=BZ (s.take k)++FA (s.getD k 0).toNat:=by
 rw[C7 s k 0 h];simp[BZ]
theorem shr_u8 (x:Nat):Int.fdiv ((x:Nat):Int) (2^(min (Int.toNat (4:Int)) (IntKind.bits .u8)))=((x/16:Nat):Int):=by
 rw[show(2:Int)^(min (Int.toNat (4:Int)) (IntKind.bits .u8))=((16:Nat):Int) by decide,Int.fdiv_eq_ediv_of_nonneg _ (Int.natCast_nonneg _)]
 rfl
theorem and15n (x:Nat) (h:x<256):Ai .and .u8 (x:Int) (15:Int)=((x%16:Nat):Int):=by
 rw[show(15:Int)=((15:Nat):Int)from rfl,R0 _ _ (by omega) (by omega),show(15:Nat)=2^4-1 from rfl,Nat.and_two_pow_sub_one_eq_mod]
theorem Py {s:B8} {st:St} {K:B8->Int->St->Prop} (hl:s.length<=2000000) (hk:∀st',Ah st st'->K (if vlen s=s.length then quo s else []) (if vlen s=s.length then 0 else 5) st'):
  CallT PR CH [.str s] [.one (.str),.one (.int .i64)] st K:=by
 refine Hl s st K (RY hl ?_)
 by_cases hb:vlen s=s.length
 ·rw[if_pos hb]
  rw[if_pos hb,if_pos hb]at hk
  refine Aa (fun h=>absurd h (by decide)) fun _=>?_
  refine⟨fun v i s' st'=>s=s'/\Ah st st'/\∃k:Nat,i=(k:Int)/\k<=s.length/\H5 st.nt st' v (34::BZ (s.take k)),fun _ i _ _=>(s.length-i).toNat,⟨rfl,Ah.refl _,0,rfl,by omega,Own.full _ _ _ _ _⟩,?_⟩
  rintro v _ _ st1 ⟨rfl,e,k,rfl,h1,h4⟩
  have hle:=Kg (s.take k)
  rw[List.length_take]at hle
  have hl4:(34::BZ (s.take k)).length<=12000001:=by simp only[List.length_cons];omega
  rw[show Int.toNat (k:Int)=k from rfl]
  refine Aa (fun g1=>⟨⟨by omega,by omega⟩,GF (c:=s.getD k 0) rfl ?_⟩) fun g1=>?_
  ·have w:i64.wrap ((k:Int)+1)=((k+1:Nat):Int):=by rw[Ae _ (by omega) (by omega)];omega
   rw[w,shr_u8,and15n _ (s.getD k 0).toNat_lt]
   have hsn:=P2 s k (by omega)
   have hc:=(s.getD k 0).toNat_lt
   have hcase:=esc_idx (s.getD k 0)
   generalize Lib.indexByte Gv (s.getD k 0)=X at hcase
   rcases hcase with⟨q1,q2,q3⟩ | ⟨q1,q2,q3⟩ | ⟨q1,q2,q3⟩
   ·rw[q3]at hsn
    refine Aa (fun _=>⟨⟨q1,q2⟩,Dg (ys:=[92,Mv.getD X.toNat 0]) e h4 rfl rfl (by simp only[List.length_cons]at hl4⊢;simp;omega) fun v' st' e' _ ho=>⟨⟨rfl,e',k+1,rfl,by omega,?_⟩,by dsimp only;omega⟩⟩) fun h=>absurd q1 h
    rw[hsn];exact ho
   ·rw[q3]at hsn
    refine Aa (fun h=>absurd h q1) fun _=>Aa (fun _=>⟨⟨by omega,by show _<((16:Nat):Int);omega⟩,⟨by omega,by show _<((16:Nat):Int);omega⟩,?_⟩) fun h=>by omega
    rw[Int.toNat_natCast,Int.toNat_natCast]
    refine Dg (ys:=[92,117,48,48,FQ.getD ((s.getD k 0).toNat/16) 0,FQ.getD ((s.getD k 0).toNat%16) 0]) e h4 rfl rfl (by simp only[List.length_cons]at hl4⊢;simp;omega) fun v' st' e' _ ho=>⟨⟨rfl,e',k+1,rfl,by omega,?_⟩,by dsimp only;omega⟩
    rw[hsn];exact ho
   ·rw[q3]at hsn
    refine Aa (fun h=>absurd h q1) fun _=>Aa (fun h=>by omega) fun _=>?_
    refine Dg (ys:=[s.getD k 0]) e h4 rfl rfl (by simp only[List.length_cons]at hl4⊢;simp;omega) fun v' st' e' _ ho=>⟨⟨rfl,e',k+1,rfl,by omega,?_⟩,by dsimp only;omega⟩
    rw[hsn];exact ho
  ·refine Dg (ys:=[34]) e h4 rfl rfl (by simp only[List.length_cons]at hl4⊢;simp;omega) fun v' st' e' _ ho=>?_
   rw[List.take_of_length_le (show s.length<=k by omega)]at ho
   exact Ab (show _=some (TV.str (quo s)) by rw[ho.rd.toBytes];rfl) (hk st' e')
 ·rw[if_neg hb]
  rw[if_neg hb,if_neg hb]at hk
  exact Aa (fun _=>hk st (Ah.refl _)) fun h=>by omega
def isX (r:B8):Prop:=r≠ []/\(As r).length=r.length
def isE (r:B8):Prop:=r=[]∨((r.getD 0 0=101∨r.getD 0 0=69)/\(if (r.drop 1).getD 0 0=45∨(r.drop 1).getD 0 0=43 then isX (r.drop 2)else isX (r.drop 1)))
def isF (r:B8):Prop:=if r.getD 0 0=46 then As (r.drop 1)≠ []/\isE (r.drop (1+(As (r.drop 1)).length))else isE r
def isQ (t:B8):Prop:=As t≠ []/\¬(1<(As t).length/\t.getD 0 0=48)/\isF (t.drop (As t).length)
instance (r:B8):Decidable (isX r):=inferInstanceAs (Decidable (_/\_))
instance (r:B8):Decidable (isE r):=by unfold isE;infer_instance
instance (r:B8):Decidable (isF r):=by unfold isF;infer_instance
instance (r:B8):Decidable (isQ r):=by unfold isQ;infer_instance
theorem Pg (neg:Bool) (s:B8) (ex:Int):(dcN neg s ex).2.2.2=0∨(dcN neg s ex).2.2.2=2:=by
 unfold dcN;split
 ·exact .inl rfl
 ·split
  ·exact .inr rfl
  ·exact .inl rfl
def okE (e:Int):Prop:=e=0∨e=2
theorem LW (neg:Bool) (all:B8) (ex:Int) (less:Bool) (r:B8):(isX r->okE (dcX neg all ex less r).2.2.2)/\(¬isX r->(dcX neg all ex less r).2.2.2=3):=by
 unfold dcX isX
 by_cases h:r=[]∨(As r).length≠r.length
 ·rw[if_pos h]
  refine⟨fun g=>?_,fun _=>rfl⟩
  rcases h with h | h
  ·exact absurd h g.1
  ·exact absurd g.2 h
 ·rw[if_neg h]
  have h':r≠ []/\(As r).length=r.length:=⟨fun e=>h (.inl e),Decidable.not_not.1 fun e=>h (.inr e)⟩
  exact⟨fun _=>Pg _ _ _,fun g=>absurd h' g⟩
theorem Pi (neg:Bool) (all:B8) (ex:Int) (r:B8):(isE r->okE (dcE neg all ex r).2.2.2)/\(¬isE r->(dcE neg all ex r).2.2.2=3):=by
 unfold dcE isE
 by_cases h:r=[]
 ·rw[if_pos h];exact⟨fun _=>Pg _ _ _,fun g=>absurd (.inl h) g⟩
 rw[if_neg h]
 by_cases h2:r.getD 0 0=101∨r.getD 0 0=69
 ·rw[if_pos h2]
  by_cases h3:(r.drop 1).getD 0 0=45
  ·rw[if_pos h3,if_pos (.inl h3)]
   have:=LW neg all ex true (r.drop 2)
   exact⟨fun g=>this.1 (by rcases g with g | g;exact absurd g h;exact g.2),fun g=>this.2 fun g2=>g (.inr ⟨h2,g2⟩)⟩
  ·rw[if_neg h3]
   by_cases h4:(r.drop 1).getD 0 0=43
   ·rw[if_pos h4,if_pos (.inr h4)]
    have:=LW neg all ex false (r.drop 2)
    exact⟨fun g=>this.1 (by rcases g with g | g;exact absurd g h;exact g.2),fun g=>this.2 fun g2=>g (.inr ⟨h2,g2⟩)⟩
   ·rw[if_neg h4,if_neg (by rintro(g | g);exact h3 g;exact h4 g)]
    have:=LW neg all ex false (r.drop 1)
    exact⟨fun g=>this.1 (by rcases g with g | g;exact absurd g h;exact g.2),fun g=>this.2 fun g2=>g (.inr ⟨h2,g2⟩)⟩
 ·rw[if_neg h2]
  exact⟨fun g=>by rcases g with g | g;exact absurd g h;exact absurd g.1 h2,fun _=>rfl⟩
theorem dcF_err (neg:Bool) (a r:B8):(isF r->okE (dcF neg a r).2.2.2)/\(¬isF r->(dcF neg a r).2.2.2=3):=by
 unfold dcF isF
 by_cases h:r.getD 0 0=46
 ·rw[if_pos h,if_pos h]
  by_cases h2:As (r.drop 1)=[]
  ·rw[if_pos h2];exact⟨fun g=>absurd h2 g.1,fun _=>rfl⟩
  ·rw[if_neg h2]
   have:=Pi neg (a++As (r.drop 1)) (-(As (r.drop 1)).length) (r.drop (1+(As (r.drop 1)).length))
   exact⟨fun g=>this.1 g.2,fun g=>this.2 fun g2=>g ⟨h2,g2⟩⟩
 ·rw[if_neg h,if_neg h];exact Pi _ _ _ _
theorem Pf (neg:Bool) (t:B8):(isQ t->okE (dcQ neg t).2.2.2)/\(¬isQ t->(dcQ neg t).2.2.2=3):=by
 unfold dcQ isQ
 by_cases h:As t=[]∨(1<(As t).length/\t.getD 0 0=48)
 ·rw[if_pos h]
  refine⟨fun g=>?_,fun _=>rfl⟩
  rcases h with h | h
  ·exact absurd h g.1
  ·exact absurd h g.2.1
 ·rw[if_neg h]
  have:=dcF_err neg (As t) (t.drop (As t).length)
  exact⟨fun g=>this.1 g.2.2,fun g=>this.2 fun g2=>g ⟨fun e=>h (.inl e),fun e=>h (.inr e),g2⟩⟩
def LA (s:B8):Nat:=if s.getD 0 0=45 then 1 else 0
theorem dcP_err (s:B8):(isQ (s.drop (LA s))->okE (dcP s).2.2.2)/\(¬isQ (s.drop (LA s))->(dcP s).2.2.2=3):=by
 unfold dcP LA
 by_cases h:s.getD 0 0=45
 ·rw[if_pos h,if_pos h];exact Pf _ _
 ·rw[if_neg h,if_neg h,List.drop_zero];exact Pf _ _
def scK (k:Nat):Sc:=⟨(k:Nat),false,false,[],0,0,0,0,0,[],[]⟩
theorem vlLeaf (st:St) (s:Sc) (h:s.bytes=[]):VlR st (.mk s [] []) (A1 s .nilSlice .nilSlice .nilSlice):=by
 unfold VlR
 refine⟨_,_,_,[],[],rfl,?_,.of_rd (.inl ⟨rfl,rfl,rfl⟩),by unfold VsR;rfl,.of_rd (.inl ⟨rfl,rfl,rfl⟩),by unfold FsR;rfl⟩
 rw[h];exact .of_rd (.inl ⟨rfl,rfl,rfl⟩)
theorem Bv {n w:Nat} (hw:w<=100) (hn:n<=1000000000000000000) {st:St} {K:B8->St->Prop} (hk:∀st',Ah st st'->K (AS w n) st'):CallT PR Au [.int .i64 (n:Int),.int .i64 (w:Int)] [.one .str] st K:=by
 refine Ic _ _ st K ⟨⟨by omega,by omega,by rw[Int.toNat_natCast];omega⟩,?_⟩
 rw[Int.toNat_natCast,Ae _ (by omega) (by omega)]
 refine⟨fun n1 i b st'=>TV.ms 1 st.nb 0 w w=b/\∃(j m:Nat) (t:B8),i=(j:Int)-1/\n1=m/\m<=n/\j+t.length=w/\AS w n=AS j m++t/\BxB st st' b (List.replicate j 0++t),fun _ i _ _=>(i+1).toNat,⟨rfl,w,n,[],rfl,rfl,Nat.le_refl _,rfl,by simp,by simpa using BxB.make (Ah.refl st) w⟩,?_⟩
 rintro _ _ _ st1 ⟨rfl,j,m,t,rfl,rfl,hm,hj,he,hb⟩
 have hlen:(List.replicate j (0:UInt8)++t).length=w:=by simp;omega
 refine Aa (fun g=>?_) fun g=>?_
 ·obtain⟨i,rfl⟩:∃i,j=i+1:=⟨j-1,by omega⟩
  have hi:(((i+1:Nat):Int)-1)=(i:Int):=by omega
  rw[hi,hb.rd.lenZ,Int.toNat_natCast]
  refine⟨⟨by omega,by omega⟩,hb.set (c:=(48+m%10).toUInt8) (by rw[dg_w8 _ rfl];rfl) (by omega) fun st2 hb2=>?_⟩
  have hd:i64.wrap ((m:Int).tdiv 10)=((m/10:Nat):Int):=by rw[Int.tdiv_eq_ediv_of_nonneg (by omega),Ae _ (by omega) (by omega)];omega
  rw[hd,Ae _ (by omega) (by omega)]
  refine⟨⟨rfl,i,m/10,(48+m%10).toUInt8::t,rfl,rfl,by omega,by rw[List.length_cons];omega,by rw[he,AS,List.append_assoc];rfl,?_⟩,by dsimp only;omega⟩
  have:(List.replicate (i+1) (0:UInt8)++t).set i (48+m%10).toUInt8=List.replicate i 0++(48+m%10).toUInt8::t:=by
   rw[List.replicate_succ',List.append_assoc,List.set_append_right _ _ (by simp),List.length_replicate,Nat.sub_self];rfl
  rw[<-this];exact hb2
 ·have:j=0:=by omega
  subst this
  rw[List.replicate_zero,List.nil_append]at hb
  rw[AS,List.nil_append]at he
  rw[<-he]at hb
  exact hb.str (hk _ hb.ext)
theorem Nj {n:Nat} (hn:n<=3652058) {st:St} {K:B8->St->Prop} (hk:∀st',Ah st st'->K (G9 n) st'):CallT PR AV [.int .i64 (n:Int)] [.one .str] st K:=by
 refine GU _ st K (date_ok hn fun y m d hd=>?_)
 have he:=Pk hd
 obtain⟨a1,a2,a3,a4,a5,a6,a7⟩:=hd
 have hm:=HQ y m
 have l4:=AR 4 y
 have l2:=AR 2 m
 have l3:=AR 2 d
 refine Bv (w:=4) (by omega) (by omega) fun st1 e1=>⟨by rw[l4];show 4+1<=_;omega,Bv (w:=2) (by omega) (by omega) fun st2 e2=>⟨by rw[List.length_append,l4,l2];show 4+1+2<=_;omega,by rw[List.length_append,List.length_append,l4,l2];show 4+1+2+1<=_;omega,Bv (w:=2) (by omega) (by omega) fun st3 e3=>⟨by simp only[List.length_append,l4,l2,l3];show 4+1+2+1+2<=_;omega,?_⟩⟩⟩
 have:=hk st3 ((e1.trans e2).trans e3)
 rw[he,List.append_cons,List.append_cons,List.append_assoc (AS 4 y++[45]),<-List.append_assoc,<-List.append_assoc]at this
 exact this
theorem N5 {f:B8} (h:f≠ []):f=f.take (f.length-1)++[f.getD (f.length-1) 0]:=by
 have hp:=List.length_pos_iff.2 h
 have:=C7 f (f.length-1) 0 (by omega)
 rw[show f.length-1+1=f.length by omega,List.take_length]at this
 exact this
theorem L0 {n:Nat} (hn:n<=86399999999999) {st:St} {K:B8->St->Prop} (hk:∀st',Ah st st'->K (Ha n) st'):CallT PR AP [.int .i64 (n:Int)] [.one .str] st K:=by
 refine Gr _ st K ?_
 have e1:i64.wrap ((n:Int).tdiv 1000000000)=((n/1000000000:Nat):Int):=by rw[Int.tdiv_eq_ediv_of_nonneg (by omega),Ae _ (by omega) (by omega)];omega
 have e2:i64.wrap (((n/1000000000:Nat):Int).tdiv 3600)=((n/1000000000/3600:Nat):Int):=by rw[Int.tdiv_eq_ediv_of_nonneg (by omega),Ae _ (by omega) (by omega)];omega
 have e3:(i64.wrap (((n/1000000000:Nat):Int).tdiv 60)).tmod 60=((n/1000000000/60%60:Nat):Int):=by
  rw[Int.tdiv_eq_ediv_of_nonneg (by omega),Ae _ (by omega) (by omega),Int.tmod_eq_emod_of_nonneg (by omega)];omega
 have e4:((n/1000000000:Nat):Int).tmod 60=((n/1000000000%60:Nat):Int):=by rw[Int.tmod_eq_emod_of_nonneg (by omega)];omega
 have e5:(n:Int).tmod 1000000000=((n%1000000000:Nat):Int):=by rw[Int.tmod_eq_emod_of_nonneg (by omega)];omega
 rw[e1,e2,e3,e4,e5]
 have l1:=AR 2 (n/1000000000/3600)
 have l2:=AR 2 (n/1000000000/60%60)
 have l3:=AR 2 (n/1000000000%60)
 refine Bv (w:=2) (by omega) (by omega) fun st1 x1=>⟨by rw[l1];show 2+1<=_;omega,Bv (w:=2) (by omega) (by omega) fun st2 x2=>⟨by rw[List.length_append,l1,l2];show 2+1+2<=_;omega,by rw[List.length_append,List.length_append,l1,l2];show 2+1+2+1<=_;omega,Bv (w:=2) (by omega) (by omega) fun st3 x3=>⟨by simp only[List.length_append,l1,l2,l3];show 2+1+2+1+2<=_;omega,?_⟩⟩⟩
 have e0:=(x1.trans x2).trans x3
 have hpre:∀(f:B8),AS 2 (n/1000000000/3600)++58::(AS 2 (n/1000000000/60%60)++58::(AS 2 (n/1000000000%60)++f))=((((AS 2 (n/1000000000/3600)++[58])++AS 2 (n/1000000000/60%60))++[58])++AS 2 (n/1000000000%60))++f:=fun f=>by
  simp only[List.append_assoc,List.cons_append,List.nil_append]
 unfold Ha at hk
 rw[hpre]at hk
 generalize hP:((((AS 2 (n/1000000000/3600)++[58])++AS 2 (n/1000000000/60%60))++[58])++AS 2 (n/1000000000%60))=P at hk
 have hPl:P.length=8:=by rw[<-hP];simp only[List.length_append,l1,l2,l3];rfl
 have hP2:((((AS 2 (n/1000000000/3600)++Cd)++AS 2 (n/1000000000/60%60))++Cd)++AS 2 (n/1000000000%60))=P:=hP
 rw[hP2]
 refine Aa (fun g=>?_) fun g=>?_
 ·have:=hk st3 e0
  rw[if_pos (by omega),List.append_nil]at this
  exact this
 ·rw[if_neg (by omega)]at hk
  have hr0:n%1000000000≠0:=by omega
  have hcne:=Pl (n:=n%1000000000) (by omega) hr0
  refine Bv (w:=9) (by omega) (by omega) fun st4 x4=>⟨fun f s st'=>P=s/\st4=st'/\E6 f=E6 (AS 9 (n%1000000000))/\f.length<=9,fun f _ _=>f.length,⟨rfl,rfl,rfl,by rw[AR];omega⟩,?_⟩
  rintro f _ _ ⟨rfl,rfl,hf,hfl⟩
  have hfne:f≠ []:=fun e=>by
   rw[e]at hf
   exact hcne (hf.symm.trans rfl)
  have hp:=List.length_pos_iff.2 hfne
  rw[Ae _ (by omega) (by omega),show Int.toNat ((f.length:Int)-1)=f.length-1 by omega]
  have hsp:=N5 hfne
  have hsn:=Li (f.take (f.length-1)) (f.getD (f.length-1) 0)
  rw[<-hsp]at hsn
  refine⟨⟨by omega,by omega⟩,Aa (fun g2=>⟨⟨by omega,by omega⟩,⟨rfl,rfl,?_,by rw[List.length_take];omega⟩,by dsimp only;rw[List.length_take];omega⟩) fun g2=>⟨by rw[hPl];show 8+1<=_;omega,by rw[List.length_append,hPl];show 8+1+_<=_;omega,?_⟩⟩
  ·rw[if_pos (UInt8.toNat_inj.1 (by show _=48;omega))]at hsn
   rw[<-hsn];exact hf
  ·rw[if_neg (fun e=>g2 (by rw[e];rfl))]at hsn
   have:=hk st4 (e0.trans x4)
   rw[<-hf,hsn,List.append_cons]at this
   exact this
theorem Kz {z:Int} (h1: -1439<=z) (h2:z<=1439) {st:St} {K:B8->St->Prop} (hk:∀st',Ah st st'->K (F0 z) st'):CallT PR BW [.int .i64 z] [.one .str] st K:=by
 unfold F0 at hk
 refine FF _ st K (Aa (fun g=>?_) fun g=>?_)
 ·have:=hk st (Ah.refl _)
  rw[if_pos g]at this;exact this
 ·rw[if_neg g]at hk
  have l1:=AR 2 (z.natAbs/60)
  have l2:=AR 2 (z.natAbs%60)
  refine Aa (fun g2=>?_) fun g2=>?_
  ·rw[if_pos g2]at hk
   have e1:i64.wrap ((i64.wrap (0-z)).tdiv 60)=((z.natAbs/60:Nat):Int):=by rw[Ae (0-z) (by omega) (by omega),Int.tdiv_eq_ediv_of_nonneg (by omega),Ae _ (by omega) (by omega)];omega
   have e2:(i64.wrap (0-z)).tmod 60=((z.natAbs%60:Nat):Int):=by rw[Ae (0-z) (by omega) (by omega),Int.tmod_eq_emod_of_nonneg (by omega)];omega
   rw[e1,e2]
   refine Bv (w:=2) (by omega) (by omega) fun st1 x1=>⟨by rw[l1];show 1+2<=_;omega,by rw[List.length_append,l1];show 1+2+1<=_;omega,Bv (w:=2) (by omega) (by omega) fun st2 x2=>⟨by simp only[List.length_append,l1,l2];show 1+2+1+2<=_;omega,?_⟩⟩
   have:=hk st2 (x1.trans x2)
   rw[<-List.cons_append,List.append_cons]at this
   exact this
  ·rw[if_neg g2]at hk
   have e1:i64.wrap (z.tdiv 60)=((z.natAbs/60:Nat):Int):=by rw[Int.tdiv_eq_ediv_of_nonneg (by omega),Ae _ (by omega) (by omega)];omega
   have e2:z.tmod 60=((z.natAbs%60:Nat):Int):=by rw[Int.tmod_eq_emod_of_nonneg (by omega)];omega
   rw[e1,e2]
   refine Bv (w:=2) (by omega) (by omega) fun st1 x1=>⟨by rw[l1];show 1+2<=_;omega,by rw[List.length_append,l1];show 1+2+1<=_;omega,Bv (w:=2) (by omega) (by omega) fun st2 x2=>⟨by simp only[List.length_append,l1,l2];show 1+2+1+2<=_;omega,?_⟩⟩
   have:=hk st2 (x1.trans x2)
   rw[<-List.cons_append,List.append_cons]at this
   exact this
theorem JF (k td tn tz:Int):(FL k td tn tz).length<=40:=by
 have h1:∀n,(G9 n).length=10:=fun n=>by unfold G9;simp only[List.length_append,List.length_cons,AR]
 have h2:∀n,(Ha n).length<=18:=fun n=>by
  unfold Ha
  have:(if n%1000000000=0 then([]:B8)else 46::E6 (AS 9 (n%1000000000))).length<=10:=by
   split
   ·simp
   ·have:=Nk (AS 9 (n%1000000000))
    rw[AR]at this
    rw[List.length_cons];omega
  simp only[List.length_append,List.length_cons,AR];omega
 have h3:∀z,(F0 z).length<=6:=fun z=>by
  unfold F0;split
  ·decide
  ·simp only[List.length_append,List.length_cons,AR];omega
 unfold FL
 have e1:=h1 td.toNat
 have e2:=h2 tn.toNat
 have e3:=h3 tz
 split
 ·omega
 split
 ·omega
 split
 ·rw[List.length_append,List.length_cons];omega
 ·rw[List.length_append,List.length_cons,List.length_append];omega
theorem Q7 {k d n z:Int} (h:BD k d n z) {st:St} {K:B8->St->Prop} (hk:∀st',Ah st st'->K (FL k d n z) st'):CallT PR DX [.agg [.int .i64 k,.int .i64 d,.int .i64 n,.int .i64 z]] [.one .str] st K:=by
 have h0:=h
 obtain⟨a1,a2,a3,a4,a5,a6,a7,a8,a9,a10,a11⟩:=h
 have ed:d=((d.toNat:Nat):Int):=by omega
 have en:n=((n.toNat:Nat):Int):=by omega
 have l1:∀m,(G9 m).length=10:=fun n=>by unfold G9;simp only[List.length_append,List.length_cons,AR]
 unfold FL at hk
 have hdt:∀{st:St} {K:B8->St->Prop},(∀st',Ah st st'->K (G9 d.toNat) st')->CallT PR AV [.int .i64 d] [.one .str] st K:=fun {st K} hk=>by
  rw[ed];exact Nj (by omega) hk
 have hct:∀{st:St} {K:B8->St->Prop},(∀st',Ah st st'->K (Ha n.toNat) st')->CallT PR AP [.int .i64 n] [.one .str] st K:=fun {st K} hk=>by
  rw[en];exact L0 (by omega) hk
 have l2:(Ha n.toNat).length<=40:=by have:=JF 2 d n z;unfold FL at this;rw[if_neg (by omega),if_pos rfl]at this;exact this
 have l3:(F0 z).length<=40:=by have:=JF 4 d n z;unfold FL at this;rw[if_neg (by omega),if_neg (by omega),if_neg (by omega),List.length_append,List.length_cons,List.length_append]at this;omega
 have l1':=l1 d.toNat
 refine Jy _ _ _ _ st K (Lx ?_)
 rw[decide_eq_true h0]
 refine Aa (p:=False) (fun h=>h.elim) fun _=>Aa (fun g=>?_) fun g1=>Aa (fun g=>?_) fun g2=>Aa (fun g=>?_) fun g3=>?_
 ·rw[if_pos g]at hk;exact hdt hk
 ·rw[if_neg g1,if_pos g]at hk;exact hct hk
 ·rw[if_neg g1,if_neg g2,if_pos g]at hk
  refine hdt fun st1 e1=>⟨by rw[l1'];show 10+1<=_;omega,hct fun st2 e2=>⟨by rw[List.length_append,l1'];show 10+1+_<=_;omega,?_⟩⟩
  have:=hk st2 (e1.trans e2)
  rw[List.append_cons]at this
  exact this
 ·rw[if_neg g1,if_neg g2,if_neg g3]at hk
  refine hdt fun st1 e1=>⟨by rw[l1'];show 10+1<=_;omega,hct fun st2 e2=>⟨by rw[List.length_append,l1'];show 10+1+_<=_;omega,Kz a7 a8 fun st3 e3=>⟨by rw[List.length_append,List.length_append,l1'];show 10+1+_+_<=_;omega,?_⟩⟩⟩
  have:=hk st3 ((e1.trans e2).trans e3)
  rw[List.append_cons,<-List.append_assoc]at this
  exact this
theorem szl' (s:Sc):(Vl.mk s [] []).sz=1+s.bytes.length+s.text.length+s.dg.length:=by rw[szs];rfl
abbrev K14':=Int->Bool->Bool->B8->Int->Int->Int->Int->Int->B8->TV->TV->TV->Int->St->Prop
def tkT (s:B8):Sc:=⟨4,false,false,[],0,0,0,0,0,s,[]⟩
def tkB (b:Bool):Sc:=⟨1,b,false,[],0,0,0,0,0,[],[]⟩
def tkN (neg:Bool) (dg:B8) (ex:Int):Sc:=⟨2,false,neg,dg,ex,0,0,0,0,[],[]⟩
def tkM (k d n z:Int):Sc:=⟨3,false,false,[],0,k,d,n,z,[],[]⟩
def scS (s:B8):Sc×Int:=
 if s.getD 0 0=34∨s.getD 0 0=39 then
  (if eE (unq s)≠0 then(scK 0,eE (unq s))else if 65536<(uL (unq s)).length then(scK 0,10)else(tkT (uL (unq s)),0))
 else if s=Io then(tkB true,0)else if s=Ly then(tkB false,0)
 else if (dcP s).2.2.2=0 then(tkN (dcP s).1 (dcP s).2.1 (dcP s).2.2.1,0)
 else if (dcP s).2.2.2≠3 then(scK 0,(dcP s).2.2.2)
 else if (tmP s).2.2.2.2≠0 then(scK 0,(tmP s).2.2.2.2)
 else(tkM (tmP s).1 (tmP s).2.1 (tmP s).2.2.1 (tmP s).2.2.2.1,0)
def KS (K:K14') (x:Sc×Int) (st:St):Prop:=K x.1.kind x.1.b x.1.neg x.1.dg x.1.ex x.1.tk x.1.td x.1.tn x.1.tz x.1.text .nilSlice .nilSlice .nilSlice x.2 st
theorem NF {s:B8} (hl:s.length<=1000000) {st:St} {K:K14'} (hk:∀st',Ah st st'->KS K (scS s) st'):
  CallT PR Cv [.str s] [.agg [.int .i64,.bool,.bool,.str,.int .i64,.int .i64,.int .i64,.int .i64,.int .i64,.str,.tv,.tv,.tv],.one (.int .i64)] st K:=by
 refine GT s st K (Aa (fun g=>⟨⟨by omega,by have:=List.length_pos_iff.2 g;omega⟩,Aa (fun g1=>?q1) fun g1=>⟨⟨by omega,by have:=List.length_pos_iff.2 g;omega⟩,Aa (fun g2=>?q2) fun g2=>?r1⟩⟩) fun g=>?r2)
 case q1 | q2=>
  have hq:s.getD 0 0=34∨s.getD 0 0=39:=by first | exact .inl ((u8i (k:=34)).1 g1) | exact .inr ((u8i (k:=39)).1 g2)
  unfold scS at hk
  rw[if_pos hq]at hk
  refine OP (by omega) fun st1 e1=>?_
  replace hk:=hk st1 e1
  generalize unq s=u at*
  refine Aa (fun h1=>Aa (fun h2=>Aa (fun _=>?_) fun h=>absurd (by omega) h) fun h2=>Aa (fun h=>absurd h1 h) fun _=>?_) fun h1=>Aa (fun _=>?_) fun h=>absurd h1 h
  ·rw[if_neg (by omega),if_pos (by omega)]at hk;exact hk
  ·rw[if_neg (by omega),if_neg (by omega)]at hk;exact hk
  ·rw[if_pos h1]at hk;exact hk
 case r1 | r2=>
  have hq:¬(s.getD 0 0=34∨s.getD 0 0=39):=by
   first
    | exact fun h=>h.elim (fun h=>g1 ((u8i (k:=34)).2 h)) fun h=>g2 ((u8i (k:=39)).2 h)
    | (have:s=[]:=Decidable.not_not.1 g;rw[this];decide)
  unfold scS at hk
  rw[if_neg hq]at hk
  refine Aa (fun h1=>?_) fun h1=>Aa (fun h2=>?_) fun h2=>dP_ok hl ?_
  ·rw[decide_eq_true h1]
   have:=hk st (Ah.refl _)
   rw[if_pos h1]at this;exact this
  ·rw[decide_eq_false h1]
   have:=hk st (Ah.refl _)
   rw[if_neg h1,if_pos h2]at this;exact this
  rw[if_neg h1,if_neg h2]at hk
  unfold KD
  generalize dcP s=d at*
  refine Aa (fun h3=>?_) fun h3=>Aa (fun h4=>?_) fun h4=>tP_ok hl fun st4 e4=>?_
  ·have:=hk st (Ah.refl _)
   rw[if_pos h3]at this;exact this
  ·have:=hk st (Ah.refl _)
   rw[if_neg h3,if_pos h4]at this;exact this
  ·replace hk:=hk st4 e4
   rw[if_neg h3,if_neg h4]at hk
   unfold KT
   generalize tmP s=t at*
   refine Aa (fun h5=>?_) fun h5=>?_
   ·rw[if_pos h5]at hk;exact hk
   ·rw[if_neg h5]at hk;exact hk
theorem QP {neg:Bool} {l:B8} {ex:Int} {st:St} {K:Bool->St->Prop} (hk:K (decide (Ce neg l ex)) st):CallT PR Bi [.agg [.bool neg,.str l,.int .i64 ex]] [.one .bool] st K:=by
 have no:¬Ce neg l ex->K false st:=fun h=>by rw[decide_eq_false h]at hk;exact hk
 refine CT _ _ _ st K (Aa (fun g=>?_) fun g=>?_)
 ·subst g
  cases neg
  ·exact Cb (by rw[Bool.eq_iff_iff];simp[EJ]) hk
  ·exact Cb (by rw[Bool.eq_iff_iff];simp[EJ]) hk
 ·refine Aa (fun g3=>OV (by omega) (Aa (fun g2=>KV (by omega) (Aa (fun g4=>Aa (fun g5=>?_) fun g5=>?_) fun g4=>?_)) fun g2=>?_)) fun g3=>?_
  ·exact Cb (decide_eq_decide.2 (by rw[AL g];exact⟨fun h=>⟨g2,by omega,by omega,g5,h⟩,fun h=>h.2.2.2.2⟩)) hk
  ·exact no fun h=>g5 ((AL g).1 h).2.2.2.1
  ·exact no fun h=>g4 (by have:=((AL g).1 h).2.2.1;omega)
  ·exact no fun h=>g2 ((AL g).1 h).1
  ·exact no fun h=>g3 (by have:=((AL g).1 h).2.1;omega)
theorem one1_ok {s:Sc} {l:List Vl} {f:List Fd} (hT:s.text.length<=2000000) (hF:D7 f<=2000000) {st0 st:St} {ub ul uf:TV} {K:Int->St->Prop} (h:VlR st0 (.mk s l f) (A1 s ub ul uf)) (hke:Bw st0 st) (hk:∀st',Ah st st'->K (CQ s l f:Nat) st'):
  CallT PR Br [.agg (A1 s ub ul uf)] [.one (.int .i64)] st K:=by
 unfold VlR at h
 obtain⟨ub',ul',uf',xl,xf,hcs,h1,h2,h3,h4,h5⟩:=h
 simp only[A1,List.cons.injEq,and_true,true_and]at hcs
 obtain⟨rfl,rfl,rfl⟩:=hcs
 refine Dy _ _ _ _ _ _ _ _ _ _ _ _ _ st K (QV h1.isSl h2.isSl h4.isSl h1.lenS h2.lenS h4.lenS ?_)
 have kk:∀(c:Nat) (st':St),CQ s l f=c->Ah st st'->K (c:Int) st':=fun c st' hc e=>by rw[<-hc];exact hk st' e
 by_cases ho:GM s l f
 case neg=>exact Al (fun _=>kk 6 st (by unfold CQ;rw[if_neg ho]) (Ah.refl _)) fun h=>by rw[decide_eq_false ho]at h;cases h
 refine Al (fun h=>by rw[decide_eq_true ho]at h;cases h) fun _=>QP ?_
 by_cases hq:Ce s.neg s.dg s.ex
 case neg=>exact Al (fun _=>kk 2 st (by unfold CQ;rw[if_pos ho,if_neg hq]) (Ah.refl _)) fun h=>by rw[decide_eq_false hq]at h;cases h
 refine Al (fun h=>by rw[decide_eq_true hq]at h;cases h) fun _=>?_
 have rest:(s.kind=3->BD s.tk s.td s.tn s.tz)->CallT PR AC [.str s.text] [.one (.bool)] st (fun (b4:Bool) (st4:St)=>BIf (!b4) (K 5 st4) (BIf (decide (65536<(s.text.length:Int))) (K 10 st4) (need (isSl ub) (BIf (decide (65536<(lenS ub:Int))) (K 10 st4) (
   CallT PR AK [uf] [.one (.int .i64)] st4 fun (n1:Int) (st5:St)=>K n1 st5))))):=by
  intro hq2
  refine Iu (by omega) fun st1 e1=>?_
  by_cases hu:U8 s.text
  case neg=>exact Al (fun _=>kk 5 st1 (by unfold CQ;rw[if_pos ho,if_pos hq,if_pos hq2,if_neg hu]) e1) fun h=>absurd (by unfold U8;simpa using h) hu
  have h6:CQ s l f=if 65536<s.text.length then 10 else if 65536<s.bytes.length then 10 else Fg [] f:=by unfold CQ;rw[if_pos ho,if_pos hq,if_pos hq2,if_pos hu]
  refine Al (fun h=>absurd hu (by unfold U8;simpa using h)) fun _=>Aa (fun g5=>?_) fun g5=>Ac h1.isSl (Aa (fun g6=>?_) fun g6=>?_)
  ·exact kk 10 st1 (by rw[h6,if_pos (by omega)]) e1
  ·rw[h1.lenS]at g6
   exact kk 10 st1 (by rw[h6,if_neg (by omega),if_pos (by omega)]) e1
  ·rw[h1.lenS]at g6
   exact Pq (hke.trans e1.keeps) h4 h5 (by omega) fun st2 e2=>kk _ st2 (by rw[h6,if_neg (by omega),if_neg (by omega)]) (e1.trans e2)
 refine Aa (fun g3=>MO ?_) fun g3=>rest fun h=>absurd h g3
 by_cases hq2:BD s.tk s.td s.tn s.tz
 ·exact Al (fun h=>by rw[decide_eq_true hq2]at h;cases h) fun _=>rest fun _=>hq2
 ·exact Al (fun _=>kk 2 st (by unfold CQ;rw[if_pos ho,if_pos hq,if_neg fun h=>hq2 (h g3)]) (Ah.refl _)) fun h=>by rw[decide_eq_false hq2]at h;cases h
def Nw (v:Vl):Prop:=match v with | .mk s l f=>0<=s.kind/\s.kind<6/\s.text.length<=2000/\s.bytes.length<=2000/\l=[]/\f=[]/\CQ s [] []=0
theorem Nw.sz {s:Sc} {l:List Vl} {f:List Fd} (h:Nw (.mk s l f)):(Vl.mk s l f).sz<=10000:=by
 obtain⟨h1,h2,h3,h4,rfl,rfl,h5⟩:=h
 have hd:=(ED.1 h5).dec
 rw[szl']
 by_cases hn:s.dg=[]
 ·rw[hn];simp;omega
 ·have:=((AL hn).1 hd).2.1;omega
theorem NR {s:Sc} (hT:s.text.length<=2000) (hB:s.bytes.length<=2000) {st0 st:St} {ub ul uf:TV} {K:Int->St->Prop} (h:VlR st0 (.mk s [] []) (A1 s ub ul uf)) (hke:Bw st0 st) (hk:∀st' n,Ah st st'->(n=0↔CQ s [] []=0)->K n st'):
  CallT PR Bh [.agg (A1 s ub ul uf)] [.one (.int .i64)] st K:=by
 by_cases ho:CQ s [] []=0
 ·have hd:=(ED.1 ho).dec
  have hz:(Vl.mk s [] []).sz<=2000000:=by
   rw[szl']
   by_cases hn:s.dg=[]
   ·rw[hn];simp;omega
   ·have:=((AL hn).1 hd).2.1;omega
  have hc:Ot (.mk s [] [])=0:=by
   unfold Ot Es
   rw[if_neg (by omega),if_neg (by omega),if_neg (by omega)]
   unfold Dz Cp DC
   rfl
  refine PI hz h hke fun st' e=>hk st' _ e ?_
  rw[hc];exact⟨fun _=>ho,fun _=>rfl⟩
 ·refine CS _ _ _ _ _ _ _ _ _ _ _ _ _ st K (Dh _ _ _ _ _ _ _ _ _ _ _ _ _ _ _ st _ (Aa (fun g=>absurd g (by omega)) fun g=>Aa (fun g2=>absurd g2 (by omega)) fun g2=>?_))
  refine one1_ok (l:=[]) (f:=[]) (by omega) (by unfold D7;omega) h hke fun st1 e1=>Aa (fun g3=>?_) fun g3=>absurd (by omega) g3
  exact hk st1 _ e1 ⟨fun g=>by omega,fun g=>absurd g ho⟩
theorem PU {s:Sc} {l:List Vl} {f:List Fd} {st0 st:St} {ub ul uf:TV} {K:Bool->St->Prop} (h:VlR st0 (.mk s l f) (A1 s ub ul uf)) (hke:Bw st0 st) (hk:∀st' b,Ah st st'->(b=true↔Nw (.mk s l f))->K b st'):
  CallT PR BN [.agg (A1 s ub ul uf)] [.one .bool] st K:=by
 obtain⟨ub',ul',uf',xl,xf,hcs,h1,h2,h3,h4,h5⟩:=h.cells
 simp only[A1,List.cons.injEq,and_true,true_and]at hcs
 obtain⟨rfl,rfl,rfl⟩:=hcs
 have no:¬Nw (.mk s l f)->K false st:=fun hn=>hk st false (Ah.refl _) ⟨fun h=>(by cases h),fun h=>absurd h hn⟩
 refine Fv _ _ _ _ _ _ _ _ _ _ _ _ _ st K (Aa (fun g1=>Aa (fun g2=>Aa (fun g3=>Ac h1.isSl (Aa (fun g4=>Ac h2.isSl (Aa (fun g5=>Ac h4.isSl (Aa (fun g6=>?_) fun g6=>no fun h=>?_)) fun g5=>no fun h=>?_)) fun g4=>no fun h=>?_)) fun g3=>no fun h=>?_) fun g2=>no fun h=>?_) fun g1=>no fun h=>?_)
 ·rw[h1.lenS]at g4
  rw[h2.lenS]at g5
  rw[h4.lenS]at g6
  have hl:l=[]:=List.length_eq_zero_iff.1 (by omega)
  have hf:f=[]:=List.length_eq_zero_iff.1 (by omega)
  subst hl hf
  refine NR (by omega) (by omega) h hke fun st' n e hn=>hk st' _ e ?_
  rw[decide_eq_true_eq,hn]
  exact⟨fun h=>⟨g1,g2,by omega,by omega,rfl,rfl,h⟩,fun h=>h.2.2.2.2.2.2⟩
 ·rw[h4.lenS]at g6
  exact g6 (by rw[h.2.2.2.2.2.1];rfl)
 ·rw[h2.lenS]at g5
  exact g5 (by rw[h.2.2.2.2.1];rfl)
 ·rw[h1.lenS]at g4
  have:=h.2.2.2.1;omega
 ·have:=h.2.2.1;omega
 ·have:=h.2.1;omega
 ·have:=h.1;omega
noncomputable def shS (s:Sc):B8×Int:=
 if s.kind=1 then(if s.b then Io else Ly,0)else if s.kind=2 then(dcT s.neg s.dg s.ex,0)else if s.kind=3 then(FL s.tk s.td s.tn s.tz,0)
 else if s.kind=4 then(if vlen s.text=s.text.length then quo s.text else [],if vlen s.text=s.text.length then 0 else 5)
 else if s.kind=0∨s.kind=5 then([],27)else([],6)
theorem QA {s:Sc} {ub ul uf:TV} (h2:s.kind=2->Ce s.neg s.dg s.ex) (h3:s.kind=3->BD s.tk s.td s.tn s.tz) (h4:s.kind=4->s.text.length<=2000000) {st:St} {K:B8->Int->St->Prop} (hk:∀st',Ah st st'->K (shS s).1 (shS s).2 st'):
  CallT PR C8 [.agg (A1 s ub ul uf)] [.one .str,.one (.int .i64)] st K:=by
 have e0:=Ah.refl st
 unfold shS at hk
 refine H9 _ _ _ _ _ _ _ _ _ _ _ _ _ st K (Aa (fun g1=>?_) fun g1=>Aa (fun g2=>?_) fun g2=>Aa (fun g3=>?_) fun g3=>Aa (fun g4=>?_) fun g4=>Aa (fun g5=>Aa (fun _=>?_) fun h=>absurd g5 h) fun g5=>Aa (fun g6=>?_) fun g6=>?_)
 ·rw[if_pos g1]at hk
  refine Al (fun hb=>?_) fun hb=>?_
  ·rw[if_pos hb]at hk;exact hk st e0
  ·rw[if_neg (by simp[hb])]at hk;exact hk st e0
 ·rw[if_neg g1,if_pos g2]at hk
  exact RK (h2 g2) fun st1 e1=>hk st1 e1
 ·rw[if_neg g1,if_neg g2,if_pos g3]at hk
  exact Q7 (h3 g3) fun st1 e1=>hk st1 e1
 ·rw[if_neg g1,if_neg g2,if_neg g3,if_pos g4]at hk
  exact Py (h4 g4) fun st1 e1=>hk st1 e1
 ·rw[if_neg g1,if_neg g2,if_neg g3,if_neg g4,if_pos (.inl g5)]at hk;exact hk st e0
 ·rw[if_neg g1,if_neg g2,if_neg g3,if_neg g4,if_pos (.inr g6)]at hk;exact hk st e0
 ·rw[if_neg g1,if_neg g2,if_neg g3,if_neg g4,if_neg (fun h=>h.elim g5 g6)]at hk;exact hk st e0
theorem Gc:vlen []=0:=Cy _ (by simp[ul])
theorem L6 (l:B8) (m j:Nat):bt (l.take m) j=if j<m then bt l j else 0:=by
 unfold bt
 by_cases h:j<m
 ·rw[if_pos h];simp[List.getD,List.getElem?_take,h]
 ·rw[if_neg h];simp[List.getD,List.getElem?_take,h]
def contB (n:Nat):Prop:=128<=n/\n<192
theorem ul_cont (l:B8) (j:Nat) (h1:0<j) (h2:j<ul l):contB (bt l j):=by
 have h:ul l≠0:=by omega
 have hne:l≠ []:=fun h0=>h (by simp[ul,h0])
 have hv:=Ok l h
 have h4:=(Lu l h).2.2.2
 unfold dN Lib.decodeN at hv
 have hz:=(Js l hne).2
 unfold contB
 have hj:j=1∨j=2∨j=3:=by omega
 repeat' split at hv
 all_goals simp only[Prod.mk.injEq]at hv
 all_goals first
  | omega
  | (rcases hj with rfl | rfl | rfl<;>omega)
  | (exfalso;have:=Qu l h;omega)
theorem Iy (l:B8) (m r0:Nat):∀j,j<m->FY (l.take m) r0 j=FY l r0 j
 | 0,_=>rfl
 | j+1,h=>by
  simp only[FY]
  rw[Iy l m r0 j (by omega),L6,if_pos h]
theorem ul_take {l:B8} {m:Nat} (h:ul l≠0) (hm:ul l<=m):ul (l.take m)=ul l/\ur (l.take m)=ur l:=by
 have hne:l≠ []:=fun h0=>h (by simp[ul,h0])
 have hle:=IQ l
 have hne2:l.take m≠ []:=by
  intro h0
  have:=congrArg List.length h0
  rw[List.length_take]at this
  simp only[List.length_nil]at this
  have:0<l.length:=List.length_pos_iff.2 hne
  omega
 have e1:=Gg l hne
 have e2:=Gg (l.take m) hne2
 rw[if_neg h]at e1
 have hs:=LE (bt l 0)
 unfold ML at e1
 simp only at e1
 by_cases g1:l.length<rsz (bt l 0)
 ·rw[if_pos g1]at e1
  simp only[Prod.mk.injEq]at e1;omega
 rw[if_neg g1]at e1
 split at e1
 ·rename_i hc
  simp only[Prod.mk.injEq]at e1
  unfold ML at e2
  simp only at e2
  rw[L6,if_pos (show 0<m by omega),Iy _ _ _ _ (by omega),if_neg (by rw[List.length_take];omega),List.take_take,Nat.min_eq_left (by omega),if_pos hc]at e2
  split at e2
  ·simp only[Prod.mk.injEq]at e2;omega
  ·simp only[Prod.mk.injEq]at e2;omega
 ·simp only[Prod.mk.injEq]at e1;omega
theorem JA {l:B8} {m:Nat} (h:ul (l.take m)≠0):ul l=ul (l.take m):=by
 have hne2:l.take m≠ []:=fun h0=>h (by simp[ul,h0])
 have hne:l≠ []:=by rintro rfl;simp at hne2
 have hm:0<m:=by rcases Nat.eq_zero_or_pos m with h0 | h0;(rw[h0]at hne2;simp at hne2);exact h0
 have e1:=Gg l hne
 have e2:=Gg (l.take m) hne2
 rw[if_neg h]at e2
 have hs:=LE (bt l 0)
 have hb:bt (l.take m) 0=bt l 0:=by rw[L6,if_pos hm]
 unfold ML at e2
 simp only[hb]at e2
 split at e2
 ·simp only[Prod.mk.injEq]at e2;omega
 rename_i g1
 rw[List.length_take]at g1
 split at e2
 ·rename_i hc
  simp only[Prod.mk.injEq]at e2
  rw[Iy _ _ _ _ (by omega),List.take_take,Nat.min_eq_left (by omega)]at hc
  unfold ML at e1
  simp only at e1
  rw[if_neg (by omega),if_pos hc]at e1
  split at e1
  ·simp only[Prod.mk.injEq]at e1;omega
  ·simp only[Prod.mk.injEq]at e1;omega
 ·simp only[Prod.mk.injEq]at e2;omega
theorem Qq:∀(n:Nat) (a b:B8),a.length<=n->vlen a=a.length->vlen (a++b)=a.length+vlen b:=by
 intro n
 induction n with
 | zero=>intro a b h hv;have:a=[]:=List.eq_nil_of_length_eq_zero (by omega);subst this;simp
 | succ n ih=>
  intro a b h hv
  by_cases ha:a=[]
  ·subst ha;simp
  have hpos:0<a.length:=List.length_pos_iff.2 ha
  have h0:ul a≠0:=fun h0=>by rw[Cy a h0]at hv;omega
  have hle:=IQ a
  have hu:ul (a++b)=ul a:=by
   have:=JA (l:=a++b) (m:=a.length) (by rw[List.take_left];exact h0)
   rw[List.take_left]at this;exact this
  rw[Cz _ h0]at hv
  rw[Cz _ (by rw[hu];exact h0),hu,List.drop_append_of_le_length hle,ih _ b (by rw[List.length_drop];omega) (by rw[List.length_drop];omega),List.length_drop]
  omega
theorem IO {a b:B8} (ha:vlen a=a.length) (hb:vlen b=b.length):vlen (a++b)=(a++b).length:=by
 rw[Qq _ a b (Nat.le_refl _) ha,List.length_append,hb]
theorem KM {c:UInt8} {l:B8} (hc:c.toNat<128) (hl:vlen l=l.length):vlen (c::l)=(c::l).length:=by
 have h:=FJ (c::l) (by simp) hc
 rw[Cz _ (by omega),h.1]
 simp only[List.drop_succ_cons,List.drop_zero,List.length_cons];omega
theorem EM:∀l:B8,(l.all fun c=>decide (c.toNat<128))=true->vlen l=l.length
 | [],_=>Gc
 | c::l,h=>by
  simp only[List.all_cons,Bool.and_eq_true,decide_eq_true_eq]at h
  exact KM h.1 (EM l h.2)
theorem Mn (p:Int->Bool):∀l:B8,(∀c,c∈l->p (c.toNat:Int)=true)->twl p l=l.length
 | [],_=>rfl
 | c::r,h=>by
  simp only[twl]
  rw[if_pos (h c (by simp)),Mn p r fun d hd=>h d (by simp[hd]),List.length_cons]
def BE (s:B8):Prop:=∀c,c∈s->AQ (c.toNat:Int)=true
theorem BE.app {a b:B8} (h:BE a) (k:BE b):BE (a++b):=fun c hc=>(List.mem_append.1 hc).elim (h c) (k c)
theorem BE.cons {c:UInt8} {b:B8} (h:AQ (c.toNat:Int)=true) (k:BE b):BE (c::b):=fun d hd=>by
 rcases List.mem_cons.1 hd with rfl | hd
 ·exact h
 ·exact k d hd
theorem BE.nil:BE []:=fun c hc=>by cases hc
theorem BE.one {c:UInt8} (h:AQ (c.toNat:Int)=true):BE [c]:= .cons h .nil
theorem Av.word {c:UInt8} (h:Av c):AQ (c.toNat:Int)=true:=by
 unfold Av at h;unfold AQ;rw[decide_eq_true_eq];omega
theorem BE.dg {s:B8} (h:∀c,c∈s->Av c):BE s:=fun c hc=>(h c hc).word
theorem Mi {c:UInt8} (h:AQ (c.toNat:Int)=true):c.toNat<128:=by
 unfold AQ at h;rw[decide_eq_true_eq]at h;omega
theorem BE.vlen {s:B8} (h:BE s):vlen s=s.length:=EM s (by
 rw[List.all_eq_true];exact fun c hc=>decide_eq_true (Mi (h c hc)))
theorem Pu {s:B8} (h:BE s):Lr s=s.length:=by
 unfold Lr
 rw[Mn AQ s h,if_neg]
 rintro⟨h1,h2⟩
 rw[CY _ _ (by show s.length<14;omega)]at h2
 cases h2
theorem Mp {s:B8} {k:Int} (hv:vlen s=s.length) (hne:s≠ []) (ht:Hz s 0= .ok (k,s.length)):Il s= .ok [(k,s,0)]:=by
 have hp:=List.length_pos_iff.2 hne
 have hn:nxt s ((0:Nat):Int)= .ok (k,s,0):=by
  unfold nxt
  rw[if_neg (by omega),if_neg (by omega),show((0:Nat):Int).toNat=0 from rfl,ht]
  simp
 unfold Il
 rw[if_pos hv]
 simp only[tkS]
 rw[if_neg (by omega),hn]
 simp only[Nat.zero_add]
 rw[tkF_end (Nat.le_refl _)]
theorem Hy {s:B8} (hne:s≠ []) (h:BE s):Il s= .ok [(6,s,0)]:=by
 refine Mp h.vlen hne ?_
 obtain⟨c,r,rfl⟩:=List.exists_cons_of_ne_nil hne
 have hc:=h c (by simp)
 have hw:=hc
 unfold AQ at hw
 rw[decide_eq_true_eq]at hw
 unfold Hz Pz
 rw[List.drop_zero,show bt (c::r) 0=c.toNat from rfl,if_neg (by omega),if_neg (by omega),if_neg (by omega),if_neg (by omega),if_neg (by omega),if_neg (by omega),if_pos hc,Pu h,Nat.zero_add]
theorem Ry (c:UInt8):(∃x:UInt8,FA c.toNat=[92,x]/\x.toNat≠117/\Jn x.toNat=some c)∨(c.toNat<32/\FA c.toNat=[92,117,48,48,Fz (c.toNat/16),Fz (c.toNat%16)])∨(32<=c.toNat/\c.toNat≠34/\c.toNat≠92/\FA c.toNat=[c]):=by
 have hc:c=UInt8.ofNat c.toNat:=by simp
 unfold FA
 by_cases h1:c.toNat=34
 ·exact .inl ⟨34,by rw[if_pos h1],by decide,by rw[hc,h1];decide⟩
 by_cases h2:c.toNat=92
 ·exact .inl ⟨92,by rw[if_neg h1,if_pos h2],by decide,by rw[hc,h2];decide⟩
 by_cases h3:c.toNat=8
 ·exact .inl ⟨98,by rw[if_neg h1,if_neg h2,if_pos h3],by decide,by rw[hc,h3];decide⟩
 by_cases h4:c.toNat=12
 ·exact .inl ⟨102,by rw[if_neg h1,if_neg h2,if_neg h3,if_pos h4],by decide,by rw[hc,h4];decide⟩
 by_cases h5:c.toNat=10
 ·exact .inl ⟨110,by rw[if_neg h1,if_neg h2,if_neg h3,if_neg h4,if_pos h5],by decide,by rw[hc,h5];decide⟩
 by_cases h6:c.toNat=13
 ·exact .inl ⟨114,by rw[if_neg h1,if_neg h2,if_neg h3,if_neg h4,if_neg h5,if_pos h6],by decide,by rw[hc,h6];decide⟩
 by_cases h7:c.toNat=9
 ·exact .inl ⟨116,by rw[if_neg h1,if_neg h2,if_neg h3,if_neg h4,if_neg h5,if_neg h6,if_pos h7],by decide,by rw[hc,h7];decide⟩
 rw[if_neg h1,if_neg h2,if_neg h3,if_neg h4,if_neg h5,if_neg h6,if_neg h7]
 by_cases h8:c.toNat<32
 ·exact .inr (.inl ⟨h8,by rw[if_pos h8]⟩)
 ·exact .inr (.inr ⟨by omega,h1,h2,by rw[if_neg h8,<-hc]⟩)
theorem Lb:∀n,n<16->KE (Fz n).toNat=some n:=by decide+kernel
theorem ul_pre {a b:B8} (h:ul a=a.length) (hne:a≠ []):ul (a++b)=a.length:=by
 have h0:ul a≠0:=by rw[h];exact fun h=>hne (List.length_eq_zero_iff.1 h)
 have:=JA (l:=a++b) (m:=a.length) (by rw[List.take_left];exact h0)
 rw[this,List.take_left,h]
theorem QQ {f:Nat} {acc:B8} {k:Nat}:qF (f+1) 34 [34] acc k= .ok (acc,k+1):=by
 simp only[qF]
 rw[if_neg (by decide),if_pos (by decide)]
theorem qF_sp {f k:Nat} {x d:UInt8} {t acc:B8} (hx:x.toNat≠117) (hs:Jn x.toNat=some d):qF (f+1) 34 (92::x::t) acc k=qF f 34 t (acc++[d]) (k+2):=by
 have hu:=(FJ (92::x::t) (by simp) (by show(92:UInt8).toNat<128;decide)).1
 have b0:bt (92::x::t) 0=92:=rfl
 have b1:bt (92::x::t) 1=x.toNat:=rfl
 simp only[qF]
 rw[if_neg (by simp),if_neg (by rw[b0];decide),if_neg (by rw[hu,b0];decide),if_neg (by rw[b0];decide),if_neg (by simp),if_neg (by rw[b1];exact hx),b1,hs]
 rfl
theorem qF_hex {f k:Nat} {c:UInt8} {t acc:B8} (hc:c.toNat<32):qF (f+1) 34 (92::117::48::48::Fz (c.toNat/16)::Fz (c.toNat%16)::t) acc k=qF f 34 t (acc++[c]) (k+6):=by
 have hu:=(FJ (92::117::48::48::Fz (c.toNat/16)::Fz (c.toNat%16)::t) (by simp) (by show(92:UInt8).toNat<128;decide)).1
 have b0:bt (92::117::48::48::Fz (c.toNat/16)::Fz (c.toNat%16)::t) 0=92:=rfl
 have b1:bt (92::117::48::48::Fz (c.toNat/16)::Fz (c.toNat%16)::t) 1=117:=rfl
 have he:IK (48::48::Fz (c.toNat/16)::Fz (c.toNat%16)::t)= .ok (c.toNat,4):=by
  have h48:KE (48:UInt8).toNat=some 0:=by decide
  have:Dp 4 (48::48::Fz (c.toNat/16)::Fz (c.toNat%16)::t) 0= .ok c.toNat:=by
   simp only[Dp,h48,Lb _ (show c.toNat/16<16 by omega),Lb _ (show c.toNat%16<16 by omega)]
   congr 1;omega
  unfold IK
  rw[this]
  simp only
  rw[if_neg (by omega),if_pos (by omega)]
 have hen:CR c.toNat=[c]:=by unfold CR;rw[if_pos (by omega)];simp
 simp only[qF]
 rw[if_neg (by simp),if_neg (by rw[b0];decide),if_neg (by rw[hu,b0];decide),if_neg (by rw[b0];decide),if_neg (by simp),if_pos b1]
 simp only[List.drop_succ_cons,List.drop_zero]
 rw[he]
 simp only[hen]
 rfl
theorem qF_char {f k:Nat} {a t acc:B8} (h:ul a=a.length) (hne:a≠ []) (h0:bt a 0≠34) (h1:32<=bt a 0) (h2:bt a 0≠92):qF (f+1) 34 (a++t) acc k=qF f 34 t (acc++a) (k+a.length):=by
 have hu:=ul_pre (b:=t) h hne
 have hl:=List.length_pos_iff.2 hne
 have hb:bt (a++t) 0=bt a 0:=by
  obtain⟨c,r,rfl⟩:=List.exists_cons_of_ne_nil hne
  rfl
 simp only[qF]
 rw[if_neg (by rw[List.length_append];omega),if_neg (by rw[hb];exact h0),if_neg (by rw[hu,hb];omega),if_pos (by rw[hb];exact .inl h2),hu,List.drop_left,List.take_left]
theorem M9 (a b:B8):BZ (a++b)=BZ a++BZ b:=by unfold BZ;rw[List.flatMap_append]
theorem Pa:∀a:B8,(∀c,c∈a->32<=c.toNat/\c.toNat≠34/\c.toNat≠92)->BZ a=a
 | [],_=>rfl
 | c::r,h=>by
  have hc:=h c (by simp)
  have:=Pa r fun d hd=>h d (by simp[hd])
  rcases Ry c with⟨x,hx,_,hs⟩ | ⟨h1,_⟩ | ⟨_,_,_,he⟩
  ·exfalso
   have:∀x:Nat,x<256->∀d,Jn x=some d->d.toNat=34∨d.toNat=92∨d.toNat=47∨d.toNat<32:=by
    intro x _ d hd
    unfold Jn at hd
    repeat' split at hd
    all_goals first | (cases hd;done) | (simp only[Option.some.injEq]at hd;subst hd;decide)
   have h47:=this x.toNat (UInt8.toNat_lt _) c hs
   rcases h47 with h | h | h | h
   ·exact hc.2.1 h
   ·exact hc.2.2 h
   ·unfold FA at hx
    rw[h]at hx
    revert hx
    simp
   ·omega
  ·omega
  ·show FA c.toNat++BZ r=c::r
   rw[he,this];rfl
theorem Ou {s:B8} (hne:s≠ []) (hv:vlen s=s.length):∃a b,s=a++b/\ul a=a.length/\a≠ []/\vlen b=b.length/\(a.length=1∨∀c,c∈a->128<=c.toNat):=by
 have hp:=List.length_pos_iff.2 hne
 have h0:ul s≠0:=fun h0=>by rw[Cy s h0]at hv;omega
 have hle:=IQ s
 have ht:=ul_take h0 (Nat.le_refl _)
 rw[Cz _ h0]at hv
 refine⟨s.take (ul s),s.drop (ul s),(List.take_append_drop _ _).symm,?_,fun h=>?_,by rw[List.length_drop];omega,?_⟩
 ·rw[ht.1,List.length_take];omega
 ·have:=congrArg List.length h
  rw[List.length_take,List.length_nil]at this;omega
 ·by_cases h1:ul s=1
  ·left;rw[List.length_take];omega
  ·right
   intro c hc
   obtain⟨i,hi,rfl⟩:=List.mem_iff_getElem.1 hc
   rw[List.length_take]at hi
   have hb:bt s i=((s.take (ul s))[i]).toNat:=by
    unfold bt
    rw[List.getElem_take,List.getD_eq_getElem?_getD,List.getElem?_eq_getElem (by omega)]
    rfl
   rw[<-hb]
   by_cases hi0:i=0
   ·subst hi0
    apply Decidable.byContradiction
    intro hn
    exact h1 (FJ s hne (by omega)).1
   ·exact(ul_cont s i (by omega) (by omega)).1
theorem Kh {s:B8} (hne:s≠ []) (hv:vlen s=s.length):∃a b,s=a++b/\a≠ []/\vlen b=b.length/\vlen (BZ a)=(BZ a).length/\0<(BZ a).length/\
  ∀f t acc k,qF (f+1) 34 (BZ a++t) acc k=qF f 34 t (acc++a) (k+(BZ a).length):=by
 obtain⟨a,b,rfl,h1,h2,h3,h4⟩:=Ou hne hv
 refine⟨a,b,rfl,h2,h3,?_⟩
 have asc:∀l:B8,(l.all fun c=>decide (c.toNat<128))=true->vlen l=l.length:=EM
 have plain:(∀c,c∈a->32<=c.toNat/\c.toNat≠34/\c.toNat≠92)->vlen (BZ a)=(BZ a).length/\0<(BZ a).length/\∀f t acc k,qF (f+1) 34 (BZ a++t) acc k=qF f 34 t (acc++a) (k+(BZ a).length):=by
  intro h
  rw[Pa a h]
  have hb:bt a 0∈a.map UInt8.toNat:=by
   obtain⟨c,r,rfl⟩:=List.exists_cons_of_ne_nil h2
   simp[bt]
  obtain⟨c,hc,hcb⟩:=List.mem_map.1 hb
  have:=h c hc
  have h0:ul a≠0:=by rw[h1];exact fun h=>h2 (List.length_eq_zero_iff.1 h)
  refine⟨?_,List.length_pos_iff.2 h2,fun f t acc k=>qF_char h1 h2 (by omega) (by omega) (by omega)⟩
  rw[Cz _ h0,h1,List.drop_length,Gc];rfl
 rcases h4 with h4 | h4
 ·obtain⟨c,rfl⟩:=List.length_eq_one_iff.1 h4
  have e1:BZ [c]=FA c.toNat:=by show FA c.toNat++[]=_;rw[List.append_nil]
  rcases Ry c with⟨x,hx,hx2,hs⟩ | ⟨g1,g2⟩ | ⟨g1,g2,g3,_⟩
  ·rw[e1,hx]
   refine⟨asc _ ?_,by simp,fun f t acc k=>qF_sp hx2 hs⟩
   have:∀x:Nat,x<256->∀d,Jn x=some d->x<128:=by
    intro x _ d hd
    unfold Jn at hd
    repeat' split at hd
    all_goals first | (cases hd;done) | omega
   simp[this x.toNat (UInt8.toNat_lt _) c hs]
  ·rw[e1,g2]
   have hx:∀n,n<16->(Fz n).toNat<128:=by decide+kernel
   refine⟨asc _ ?_,by simp,fun f t acc k=>qF_hex g1⟩
   simp[hx _ (show c.toNat/16<16 by omega),hx _ (show c.toNat%16<16 by omega)]
  ·exact plain fun d hd=>by rw[List.mem_singleton.1 hd];exact⟨g1,g2,g3⟩
 ·exact plain fun d hd=>by have:=h4 d hd;omega
theorem qF_quo:∀(n:Nat) (s acc:B8) (f k:Nat),s.length<=n->vlen s=s.length->(BZ s).length<f->qF f 34 (BZ s++[34]) acc k= .ok (acc++s,k+(BZ s).length+1):=by
 intro n
 induction n with
 | zero=>
  intro s acc f k hn hv hf
  have:s=[]:=List.eq_nil_of_length_eq_zero (by omega)
  subst this
  obtain⟨f,rfl⟩:∃g,f=g+1:=⟨f-1,by omega⟩
  rw[show BZ []=[]from rfl,List.nil_append,QQ,List.append_nil];rfl
 | succ n ih=>
  intro s acc f k hn hv hf
  obtain⟨f,rfl⟩:∃g,f=g+1:=⟨f-1,by omega⟩
  by_cases hs:s=[]
  ·subst hs
   rw[show BZ []=[]from rfl,List.nil_append,QQ,List.append_nil];rfl
  obtain⟨a,b,rfl,h2,h3,_,h5,h4⟩:=Kh hs hv
  have hl:=List.length_pos_iff.2 h2
  rw[List.length_append]at hn
  rw[M9,List.length_append]at hf⊢
  rw[List.append_assoc,h4,ih b _ f _ (by omega) h3 (by omega)]
  congr 2
  ·rw[List.append_assoc]
  ·omega
theorem Pv:∀(n:Nat) (s:B8),s.length<=n->vlen s=s.length->vlen (BZ s)=(BZ s).length:=by
 intro n
 induction n with
 | zero=>
  intro s hn hv
  have:s=[]:=List.eq_nil_of_length_eq_zero (by omega)
  subst this
  exact Gc
 | succ n ih=>
  intro s hn hv
  by_cases hs:s=[]
  ·subst hs;exact Gc
  obtain⟨a,b,rfl,h2,h3,h4,_,_⟩:=Kh hs hv
  have hl:=List.length_pos_iff.2 h2
  rw[List.length_append]at hn
  rw[M9]
  exact IO h4 (ih b (by omega) h3)
theorem LH (s:B8):(quo s).length=(BZ s).length+2:=by unfold quo;simp
theorem OW {s:B8} (hv:vlen s=s.length):qF ((quo s).length+1) 34 ((quo s).drop 1) [] 1= .ok (s,(quo s).length):=by
 show qF _ 34 (BZ s++[34]) [] 1=_
 rw[qF_quo _ s [] _ _ (Nat.le_refl _) hv (by rw[LH];omega),LH,List.nil_append]
 congr 2;omega
theorem unq_quo {s:B8} (hv:vlen s=s.length):unq (quo s)= .ok s:=by
 have hb:bt (quo s) 0=34:=rfl
 unfold unq
 rw[if_neg (by unfold quo;simp),if_neg (by rw[hb];decide),hb,OW hv]
 exact if_pos rfl
theorem tok_quo {s:B8} (hv:vlen s=s.length):Il (quo s)= .ok [(5,quo s,0)]:=by
 refine Mp ?_ (by unfold quo;simp) ?_
 ·exact KM (by decide) (IO (Pv _ s (Nat.le_refl _) hv) (EM [34] rfl))
 ·have hb:bt ((quo s).drop 0) 0=34:=rfl
  unfold Hz Pz
  rw[hb,if_neg (by decide),if_neg (by decide),if_neg (by decide),if_neg (by decide),if_neg (by decide),if_pos (by decide),Nat.zero_add,OW hv]
theorem dcT_len {neg:Bool} {dg:B8} {ex:Int} (h:Ce neg dg ex):(dcT neg dg ex).length<=dg.length+40:=by
 by_cases hne:dg=[]
 ·unfold dcT;rw[if_pos hne];simp
 ·obtain⟨h1,h2,h3,h4,h5,h6⟩:=h.2 hne
  have hpos:=List.length_pos_iff.2 hne
  have hs:=ME neg
  unfold dcT
  rw[if_neg hne,List.length_append,show(if neg=true then [45]else [])=JO neg from rfl]
  split
  ·rw[List.length_append,List.length_replicate];omega
  split
  ·rw[List.length_append,List.length_cons,List.length_take,List.length_drop];omega
  split
  ·rw[List.length_cons,List.length_cons,List.length_append,List.length_replicate];omega
  ·rw[List.length_append,List.length_append,List.length_take]
   have e1:(if 1<dg.length then 46::dg.drop 1 else []).length<=dg.length:=by
    split
    ·rw[List.length_cons,List.length_drop];omega
    ·simp
   have e2:(Kf (dg.length+ex)).length<=20:=by
    rw[O8]
    split
    ·have:=Jr (n:=(1-((dg.length:Int)+ex)).toNat) (by omega)
     rw[List.length_cons,List.length_cons];omega
    ·have:=Jr (n:=((dg.length:Int)+ex-1).toNat) (by omega)
     rw[List.length_cons];omega
   omega
theorem Rp {a b:B8} (ha:∀c,c∈a->Av c) (hne:a≠ []):Av ((a++b).getD 0 0):=by
 obtain⟨c,r,rfl⟩:=List.exists_cons_of_ne_nil hne
 exact ha c (by simp)
theorem w45:AQ ((45:UInt8).toNat:Int)=true:=by decide
theorem w46:AQ ((46:UInt8).toNat:Int)=true:=by decide
theorem w58:AQ ((58:UInt8).toNat:Int)=true:=by decide
theorem w101:AQ ((101:UInt8).toNat:Int)=true:=by decide
theorem w84:AQ ((84:UInt8).toNat:Int)=true:=by decide
theorem w90:AQ ((90:UInt8).toNat:Int)=true:=by decide
theorem w43:AQ ((43:UInt8).toNat:Int)=true:=by decide
theorem w48:AQ ((48:UInt8).toNat:Int)=true:=by decide
theorem P0 (p:Int):BE (Kf p):=by
 unfold Kf
 refine .cons w101 ?_
 split
 ·exact .cons w45 (.dg (Ls _))
 ·exact .dg (Ls _)
theorem MJ (n:Nat):BE (List.replicate n 48):=fun c hc=>by rw[(List.mem_replicate.1 hc).2];exact w48
theorem Ni {neg:Bool} {dg:B8} {ex:Int} (h:Ce neg dg ex):BE (dcT neg dg ex)/\dcT neg dg ex≠ []/\((dcT neg dg ex).getD 0 0=45∨Av ((dcT neg dg ex).getD 0 0)):=by
 by_cases hn:dg=[]
 ·unfold dcT
  rw[if_pos hn]
  exact⟨.one w48,by simp,.inr (by decide)⟩
 obtain⟨_,hd,_⟩:=h.2 hn
 have hw:BE dg:= .dg hd
 have key:∀X:B8,(∃a b,X=a++b/\(∀c,c∈a->Av c)/\a≠ []/\BE b)->
   BE ((if neg then [45]else [])++X)/\(if neg then [45]else [])++X≠ []/\(((if neg then [45]else [])++X).getD 0 0=45∨Av (((if neg then [45]else [])++X).getD 0 0)):=by
  rintro X ⟨a,b,rfl,h1,h2,h3⟩
  have hX:BE (a++b):=(BE.dg h1).app h3
  cases neg
  ·exact⟨hX,by simp[h2],.inr (Rp (a:=a) (b:=b) h1 h2)⟩
  ·exact⟨BE.app (.one w45) hX,by simp,.inl rfl⟩
 have hl:=List.length_pos_iff.2 hn
 have tk:∀n:Nat,1<=n->dg.take n≠ []:=fun n h0 h1=>by
  have:=congrArg List.length h1
  rw[List.length_take,List.length_nil]at this;omega
 have tm:∀n:Nat,∀c,c∈dg.take n->Av c:=fun n c hc=>hd c (List.mem_of_mem_take hc)
 have dm:∀n:Nat,BE (dg.drop n):=fun n c hc=>hw c (List.mem_of_mem_drop hc)
 unfold dcT
 rw[if_neg hn]
 refine key _ ?_
 split
 ·exact⟨dg,_,rfl,hd,hn,MJ _⟩
 ·split
  ·rename_i h2
   exact⟨dg.take (dg.length+ex).toNat,_,rfl,tm _,tk _ (by omega),.cons w46 (dm _)⟩
  ·split
   ·exact⟨[48],_,rfl,fun c hc=>by rw[List.mem_singleton.1 hc];decide,by simp,.cons w46 ((MJ _).app hw)⟩
   ·refine⟨dg.take 1,_,rfl,tm _,tk _ (Nat.le_refl _),BE.app ?_ (P0 _)⟩
    split
    ·exact .cons w46 (dm _)
    ·exact .nil
theorem IM (n:Nat):BE (Ha n):=by
 unfold Ha
 refine(BE.dg (Cq _ _)).app (.cons w58 ((BE.dg (Cq _ _)).app (.cons w58 ((BE.dg (Cq _ _)).app ?_))))
 split
 ·exact .nil
 ·exact .cons w46 (.dg (H1 _))
theorem PP (z:Int):BE (F0 z):=by
 unfold F0
 split
 ·exact .one w90
 ·refine .cons ?_ ((BE.dg (Cq _ _)).app (.cons w58 (.dg (Cq _ _))))
  split
  ·exact w45
  ·exact w43
theorem IL (n:Nat):BE (G9 n):=(BE.dg (Cq _ _)).app (.cons w45 ((BE.dg (Cq _ _)).app (.cons w45 (.dg (Cq _ _)))))
theorem KQ {k td tn tz:Int}:BE (FL k td tn tz)/\∃a c r,FL k td tn tz=a++c::r/\a≠ []/\(∀d,d∈a->Av d)/\(c=45∨c=58):=by
 have ne:∀w n,0<w->AS w n≠ []:=fun w n hw h=>by have:=AR w n;rw[h]at this;simp at this;omega
 have hd:∀n r,∃a c q,G9 n++r=a++c::q/\a≠ []/\(∀d,d∈a->Av d)/\(c=45∨c=58):=fun n r=>
  ⟨AS 4 (F6 n).1,45,(AS 2 (F6 n).2.1++45::AS 2 (F6 n).2.2)++r,by unfold G9;rw[List.append_assoc];rfl,ne _ _ (by decide),Cq _ _,.inl rfl⟩
 unfold FL
 split
 ·refine⟨IL _,?_⟩
  have:=hd td.toNat []
  rwa [List.append_nil]at this
 ·split
  ·exact⟨IM _,_,58,_,rfl,ne _ _ (by decide),Cq _ _,.inr rfl⟩
  ·split
   ·exact⟨(IL _).app (.cons w84 (IM _)),hd _ _⟩
   ·exact⟨(IL _).app (.cons w84 ((IM _).app (PP _))),hd _ _⟩
theorem not_isQ {a r:B8} {c:UInt8} (ha:∀d,d∈a->Av d) (hc:c=45∨c=58):¬isQ (a++c::r):=by
 rintro⟨_,_,h⟩
 have h0:(c::r).getD 0 0=c:=rfl
 have hn:¬Av c:=by rcases hc with rfl | rfl<;>decide
 rw[EI ha (by rw[h0];exact hn),List.drop_left]at h
 unfold isF at h
 rw[h0,if_neg (by rcases hc with rfl | rfl<;>decide)]at h
 unfold isE at h
 rw[h0]at h
 rcases h with h | ⟨h | h,_⟩
 ·cases h
 ·rcases hc with rfl | rfl<;>revert h<;>decide
 ·rcases hc with rfl | rfl<;>revert h<;>decide
theorem scS_num {neg:Bool} {dg:B8} {ex:Int} (h:Ce neg dg ex):scS (dcT neg dg ex)=(tkN neg dg ex,0):=by
 obtain⟨_,_,hh⟩:=Ni h
 unfold scS
 rw[RH h,if_neg,if_neg,if_neg,if_pos rfl]
 ·intro e;rw[e]at hh;revert hh;decide
 ·intro e;rw[e]at hh;revert hh;decide
 ·intro e
  rcases e with e | e<;>rw[e]at hh<;>revert hh<;>decide
theorem scS_tim {k td tn tz:Int} (h:BD k td tn tz):scS (FL k td tn tz)=(tkM k td tn tz,0):=by
 obtain⟨_,a,c,r,he,h1,h2,h3⟩:=KQ (k:=k) (td:=td) (tn:=tn) (tz:=tz)
 have hh:Av ((FL k td tn tz).getD 0 0):=by rw[he];exact Rp h2 h1
 have h4:(dcP (FL k td tn tz)).2.2.2=3:=by
  refine(dcP_err _).2 ?_
  rw[show LA (FL k td tn tz)=0 from if_neg fun e=>by rw[e]at hh;revert hh;decide,List.drop_zero,he]
  exact not_isQ h2 h3
 unfold scS
 rw[Qw h fun _=>Rr (by obtain⟨_,_,h5,h6,_⟩:=h;omega),h4,if_neg,if_neg,if_neg,if_neg (by decide),if_neg (by decide),if_neg (by simp)]
 ·intro e;rw[e]at hh;revert hh;decide
 ·intro e;rw[e]at hh;revert hh;decide
 ·intro e
  rcases e with e | e<;>rw[e]at hh<;>revert hh<;>decide
theorem scS_quo {s:B8} (hv:vlen s=s.length) (hl:s.length<=65536):scS (quo s)=(tkT s,0):=by
 unfold scS
 rw[if_pos (.inl rfl),unq_quo hv,if_neg (show ¬eE (Except.ok s)≠0 from fun h=>h rfl),if_neg (show ¬65536<(uL (Except.ok s)).length by show ¬65536<s.length;omega)]
 rfl
theorem QJ (b:Bool):scS (if b then Io else Ly)=(tkB b,0):=by
 cases b
 ·show scS Ly=_
  unfold scS
  rw[if_neg (by decide),if_neg (by decide),if_pos rfl]
 ·show scS Io=_
  unfold scS
  rw[if_neg (by decide),if_pos rfl]
theorem sc_back {s:Sc} (h:Nw (.mk s [] [])) (h0:s.kind≠0) (h5:s.kind≠5):(shS s).2=0/\scS (shS s).1=(s,0)/\(∃k,Il (shS s).1= .ok [(k,(shS s).1,0)])/\(shS s).1.length<=100000:=by
 have ho:=ED.1 h.2.2.2.2.2.2
 have hw:=ho.own
 have hdec:=ho.dec
 have htim:=ho.time
 have htx:=ho.text
 obtain⟨hk0,hk6,hl1,hl2,_,_,_⟩:=h
 obtain⟨w0,w7,wb,wn,wt,wx,wy,_,_⟩:=hw
 clear ho
 obtain⟨kd,b,neg,dg,ex,tk,td,tn,tz,text,bytes⟩:=s
 dsimp only at*
 have hkd:kd=1∨kd=2∨kd=3∨kd=4:=by omega
 rcases hkd with rfl | rfl | rfl | rfl
 ·obtain⟨rfl,rfl,rfl⟩:=wn (by decide)
  obtain⟨rfl,rfl,rfl,rfl⟩:=wt (by decide)
  obtain rfl:=wx (by decide)
  obtain rfl:=wy (by decide)
  have e:shS ⟨1,b,false,[],0,0,0,0,0,[],[]⟩=(if b then Io else Ly,0):=if_pos rfl
  rw[e]
  refine⟨rfl,QJ b,⟨6,Hy ?_ ?_⟩,?_⟩
  ·cases b<;>decide
  ·cases b
   ·exact fun c hc=>(by decide:∀c,c∈Ly->AQ (c.toNat:Int)=true) c hc
   ·exact fun c hc=>(by decide:∀c,c∈Io->AQ (c.toNat:Int)=true) c hc
  ·cases b<;>decide
 ·obtain rfl:=wb (by decide)
  obtain⟨rfl,rfl,rfl,rfl⟩:=wt (by decide)
  obtain rfl:=wx (by decide)
  obtain rfl:=wy (by decide)
  have e:shS ⟨2,false,neg,dg,ex,0,0,0,0,[],[]⟩=(dcT neg dg ex,0):=(if_neg (by dsimp only;decide)).trans (if_pos rfl)
  rw[e]
  have hf:=Ni hdec
  exact⟨rfl,scS_num hdec,⟨6,Hy hf.2.1 hf.1⟩,by
   have:=dcT_len hdec
   have:dg.length<=120:=by
    by_cases hn:dg=[]
    ·rw[hn];simp
    ·exact(hdec.2 hn).1
   dsimp only;omega⟩
 ·obtain rfl:=wb (by decide)
  obtain⟨rfl,rfl,rfl⟩:=wn (by decide)
  obtain rfl:=wx (by decide)
  obtain rfl:=wy (by decide)
  have e:shS ⟨3,false,false,[],0,tk,td,tn,tz,[],[]⟩=(FL tk td tn tz,0):=(if_neg (by dsimp only;decide)).trans ((if_neg (by dsimp only;decide)).trans (if_pos rfl))
  rw[e]
  obtain⟨hf,a,c,r,he,_⟩:=KQ (k:=tk) (td:=td) (tn:=tn) (tz:=tz)
  exact⟨rfl,scS_tim (htim rfl),⟨6,Hy (by rw[he];simp) hf⟩,by have:=JF tk td tn tz;dsimp only;omega⟩
 ·obtain rfl:=wb (by decide)
  obtain⟨rfl,rfl,rfl⟩:=wn (by decide)
  obtain⟨rfl,rfl,rfl,rfl⟩:=wt (by decide)
  obtain rfl:=wy (by decide)
  have e:shS ⟨4,false,false,[],0,0,0,0,0,text,[]⟩=(quo text,0):=by
   refine(if_neg (by dsimp only;decide)).trans ((if_neg (by dsimp only;decide)).trans ((if_neg (by dsimp only;decide)).trans ((if_pos rfl).trans ?_)))
   have htx':vlen text=text.length:=htx
   show(if vlen text=text.length then quo text else [],if vlen text=text.length then(0:Int)else 5)=_
   rw[if_pos htx',if_pos htx']
  rw[e]
  exact⟨rfl,scS_quo htx (by omega),⟨5,tok_quo htx⟩,by have:=Kg text;have:=LH text;dsimp only;omega⟩
theorem OO (p:Int->Bool):∀l:B8,twl p l=l.length->∀c,c∈l->p (c.toNat:Int)=true
 | [],_,c,hc=>by cases hc
 | d::r,h,c,hc=>by
  simp only[twl]at h
  split at h
  ·rename_i hd
   rcases List.mem_cons.1 hc with rfl | hc
   ·exact hd
   ·exact OO p r (by simpa using h) c hc
  ·simp at h
theorem Qg {s:B8} (h:twl F8 s=s.length):BE s:=fun c hc=>by
 have:=OO F8 s h c hc
 unfold F8 at this;unfold AQ
 rw[decide_eq_true_eq]at this⊢;omega
theorem tback_ok {v:Vl} {st:St} {cs:List TV} {K:Bool->St->Prop} (h:VlR st v cs) (hk:∀st',K true st'):CallT PR fn_datakitlaw24_TablelexBack [.agg cs] [.one .bool] st K:=by
 obtain⟨s,l,f⟩:=v
 have hcs:∃ub ul uf,cs=A1 s ub ul uf:=by
  have h0:=h
  unfold VlR at h0
  obtain⟨ub,ul,uf,xl,xf,rfl,_⟩:=h0
  exact⟨ub,ul,uf,rfl⟩
 obtain⟨ub,ul,uf,rfl⟩:=hcs
 refine Dm _ _ _ _ _ _ _ _ _ _ _ _ _ st K (PU h (Bw.refl _) fun st1 b e1 hb=>Al (fun _=>F9 fun _ _=>hk _) fun g3=>?_)
 have hS:=hb.1 (by simpa using g3)
 have ho:=ED.1 hS.2.2.2.2.2.2
 have ht:=hS.2.2.1
 have hl:=hS.2.2.2.2.1
 have hf:=hS.2.2.2.2.2.1
 subst hl hf
 refine QA (fun _=>ho.dec) ho.time (fun _=>by omega) fun st2 e2=>?_
 by_cases h05:s.kind=0∨s.kind=5
 ·have e:shS s=([],27):=by
   unfold shS
   rw[if_neg (by omega),if_neg (by omega),if_neg (by omega),if_neg (by omega),if_pos h05]
  rw[e]
  refine Aa (fun _=>Aa (fun _=>Aa (fun _=>F9 fun _ _=>hk _) fun g0=>Aa (fun _=>F9 fun _ _=>hk _) fun g5=>absurd h05 fun h=>h.elim g0 g5) fun g=>absurd rfl g) fun g=>absurd (by decide) g
 obtain⟨he,hsc,⟨k,htk⟩,hln⟩:=sc_back hS (fun e=>h05 (.inl e)) (fun e=>h05 (.inr e))
 rw[he]
 generalize hT:(shS s).1=T at*
 refine Aa (fun g=>absurd rfl g) fun _=>NF (s:=T) (by omega) fun st3 e3=>?_
 rw[hsc]
 unfold KS
 refine Ac (QY rfl rfl rfl) (KP (s:=T) (by omega) fun v4 st4 e4 o4=>?_)
 rw[htk]at o4⊢
 have hr:=o4.rd
 have hz:=hS.sz
 have hby:s.bytes=[]:=ho.own.by_ fun e=>h05 (.inr e)
 refine Same_ok 2000000 (.mk s [] []) (.mk s [] []) (by omega) (by omega) (Nat.le_refl _) h (vlLeaf st s hby) (e1.trans (e2.trans (e3.trans e4))).keeps fun r hr1=>?_
 rw[hr1.2 rfl]
 have hld:∀st,Af st [] (.t (AX (ixT 3 v4 0) 1)) 0=some (.str T):=fun st=>hr.ldfx st 0 1 rfl
 have hp:isPtr (ixT 3 v4 0)=true:=(SlR.of_rd (st:=st) hr).isPtr (i:=0) (by show 0<1;decide)
 refine Al (fun g=>by cases g) fun _=>Aa (fun g=>absurd rfl g) fun _=>Aa (fun g=>absurd rfl g) fun _=>Ac hr.isSl (Aa (fun g=>absurd (by rw[hr.lenS];rfl) g) fun _=>?_)
 refine⟨⟨by decide,by rw[hr.lenZ];show(0:Int)<((1:Nat):Int);decide⟩,Ac hp (Ab (hld _) (Ay (Aa (fun g=>absurd rfl g) fun _=>Pp (by omega) fun st9 e9=>Al (fun g=>?_) fun _=>F9 fun _ _=>hk _)))⟩
 rw[Bool.and_eq_true,decide_eq_true_eq,decide_eq_true_eq]at g
 refine KP (by omega) fun v5 st10 e10 o5=>?_
 rw[Hy g.1 (Qg g.2)]at o5⊢
 have hr5:=o5.rd
 have hld5:∀st,Af st [] (.t (AX (ixT 3 v5 0) 0)) 0=some (.int .i64 6):=fun st=>hr5.ldfx st 0 0 rfl
 have hp5:isPtr (ixT 3 v5 0)=true:=(SlR.of_rd (st:=st) hr5).isPtr (i:=0) (by show 0<1;decide)
 refine Aa (fun _=>Ac hr5.isSl (Aa (fun _=>⟨⟨by decide,by rw[hr5.lenZ];show(0:Int)<((1:Nat):Int);decide⟩,Ac hp5 (Ab (hld5 _) (At (Aa (fun _=>F9 fun _ _=>hk _) fun g=>absurd rfl g)))⟩) fun g=>absurd (by rw[hr5.lenS];rfl) g)) fun g=>absurd rfl g
end Go.TVF
