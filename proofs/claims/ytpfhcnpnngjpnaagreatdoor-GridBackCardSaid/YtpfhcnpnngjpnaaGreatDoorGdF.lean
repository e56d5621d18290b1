/- What the laws below rest on: a framework for Go programs, and contracts of the functions that they reach. -/
import Derived.Test.YtpfhcnpnngjpnaaGreatDoorGdE
import Derived.WideShapes
import Derived.Shelf.Strings.Builder2
import Derived.Shelf.Strings.Replace
import Derived.Test.YtpfhcnpnngjpnaaGreatDoorProg
set_option maxRecDepth 20000
set_option linter.unusedVariables false
set_option linter.unusedSimpArgs false
namespace Go.TVF
open Go.IntKind(i64 u8)
open Go Go.Proofs
def Ue (S:Option B8) (sg oh om:Nat) (T:Option B8):Prop:=match S with
 | none=>T=none
 | some s=>(T=some []->∃ls,Na s=some (ls,oh,om)/\(ls=true↔sg=45))/\(T≠some []->Na s=none)
theorem S9 {s:B8} {sg oh om:Nat} {c:Nat} {T1 T2 T3 T:Option B8} (hsg:sg=(b0 s 0).toNat) (h0:b0 s 0=43∨b0 s 0=45) (hT:T1=some (s.drop 1)) (s1:Iy 2 T1 oh T2) (s2:L3 [58] T2 c T3) (s3:Iy 2 T3 om T):Ue (some s) sg oh om T:=by
 subst hT
 have nz:¬(s=[90]∨s=[122]):=by
  rintro(h | h)<;>rw[h]at h0<;>revert h0<;>decide
 have no:T=none->(dd s 1->b0 s 3=58->dd s 4->False)->Ue (some s) sg oh om T:=fun ht hf=>by
  subst ht
  refine⟨fun h=>(by cases h),fun _=>?_⟩
  unfold Na
  rw[if_neg nz,if_neg fun h=>hf h.2.2.1 h.2.2.2.1 h.2.2.2.2]
 by_cases f1:dd s 1
 ·obtain⟨rfl,rfl⟩:=(FE (m:=3) rfl s1).1 f1
  by_cases f2:b0 s 3=58
  ·obtain rfl:=(ID (m:=4) rfl s2).1 f2
   by_cases f3:dd s 4
   ·obtain⟨rfl,rfl⟩:=(FE (m:=6) rfl s3).1 f3
    have hl:=XU f3.2
    refine⟨fun h=>⟨decide (b0 s 0=45),?_,?_⟩,fun h=>?_⟩
    ·have h6:s.drop 6=[]:=Option.some.inj h
     have:=congrArg List.length h6
     rw[List.length_drop]at this
     simp at this
     unfold Na
     rw[if_neg nz,if_pos ⟨by omega,h0,f1,f2,f3⟩]
    ·rw[decide_eq_true_eq,hsg]
     exact⟨fun h=>by rw[h];rfl,fun h=>UInt8.toNat_inj.1 h⟩
    ·unfold Na
     rw[if_neg nz,if_neg]
     intro h'
     exact h (by rw[List.drop_of_length_le (by omega)])
   ·exact no ((FE (m:=6) rfl s3).2 f3) fun _ _ h=>f3 h
  ·obtain rfl:=(ID (m:=4) rfl s2).2 f2
   exact no s3 fun _ h _=>f2 h
 ·obtain rfl:=(FE (m:=3) rfl s1).2 f1
  obtain rfl:T3=none:=s2
  exact no s3 fun h _ _=>f1 h
theorem Ue.none {S T1 T:Option B8} {sg oh om:Nat} (h:L3 [90,122,43,45] S sg T1) (h1:T1=none) (ht:T=none):Ue S sg oh om T:=by
 subst h1 ht
 cases S with
 | none=>rfl
 | some s=>
  refine⟨fun h=>(by cases h),fun _=>?_⟩
  have hn:s.getD 0 0∉ [90,122,43,45]:=fun hm=>by have:=(h.pos hm).1;cases this
  unfold Na
  rw[if_neg,if_neg]
  ·rintro⟨_,h | h,_⟩
   ·exact hn (by rw[show s.getD 0 0=43 from h];decide)
   ·exact hn (by rw[show s.getD 0 0=45 from h];decide)
  ·rintro(h | h)<;>rw[h]at hn<;>revert hn<;>decide
theorem Mz {r f:Nat} {st:St} {S:Option B8} {y mo d h mi sc nn:Nat} (hm:TM r f st S (fcT y mo d h mi sc nn 0 0 0)) {K:St->Prop}
  (hk:∀sg oh om st' T,sg<256->oh<100->om<100->StX (rfS r f) st st'->TM r f st' T (fcT y mo d h mi sc nn sg oh om)->Ue S sg oh om T->K st'):CallT PR Bp [.box r 0,.box f 0] [] st K:=by
 refine Gp r f st K (FC (of:=[90,122,43,45]) (by decide) (by decide) hm.1 fun sg st1 T1 b1 e1 h1 s1=>(hm.step e1 h1).put (by simp[fcT]) fun st2 e2 m2=>?_)
 have hld:Ac st2 [] (.t (.box f 7)) 0=some (.int .u8 (sg:Nat)):=by simp[Ac,m2.2.2.1,fcT]
 have E2:=(HB e1).trans e2
 refine Ad hld (Az (Aa (fun g=>?_) fun g=>Ad hld (Az (Aa (fun g2=>?_) fun g2=>?_))))
 iterate 2
  ·refine FD (w:=2) (by decide) m2.1 fun oh st3 T3 b3 e3 h3 s3=>(m2.step e3 h3).put (by simp[fcT]) fun st4 e4 m4=>?_
   refine FC (of:=[58]) (by decide) (by decide) m4.1 fun c st5 T5 b5 e5 h5 s5=>FD (w:=2) (by decide) h5 fun om st6 T6 b6 e6 h6 s6=>((m4.step e5 h5).step e6 h6).put (by simp[fcT]) fun st7 e7 m7=>?_
   refine hk sg oh om st7 T6 b1 b3 b6 (((((E2.trans (HB e3)).trans e4).trans (HB e5)).trans (HB e6)).trans e7) m7 ?_
   cases T1 with
   | none=>
    obtain rfl:T3=none:=s3
    obtain rfl:T5=none:=s5
    exact Ue.none s1 rfl s6
   | some x=>
    cases S with
    | none=>cases (show some x=none from s1)
    | some s=>
     by_cases hmem:s.getD 0 0∈ [90,122,43,45]
     ·obtain⟨hT,hs⟩:=s1.pos hmem
      refine S9 hs ?_ hT s3 s5 s6
      have hc:((b0 s 0).toNat:Int)=sg:=by rw[hs];rfl
      first
       | exact .inl (UInt8.toNat_inj.1 (by rw[show((43:UInt8).toNat)=43 from rfl];omega))
       | exact .inr (UInt8.toNat_inj.1 (by rw[show((45:UInt8).toNat)=45 from rfl];omega))
     ·cases s1.neg hmem
 ·refine hk sg 0 0 st2 T1 b1 (by decide) (by decide) E2 m2 ?_
  cases T1 with
  | none=>exact Ue.none s1 rfl rfl
  | some x=>
   cases S with
   | none=>cases (show some x=none from s1)
   | some s=>
    by_cases hmem:s.getD 0 0∈ [90,122,43,45]
    ·obtain⟨hT,hs⟩:=s1.pos hmem
     rw[hT]
     have h43:b0 s 0≠43:=fun h=>g (by rw[hs,show s.getD 0 0=43 from h];rfl)
     have h45:b0 s 0≠45:=fun h=>g2 (by rw[hs,show s.getD 0 0=45 from h];rfl)
     refine⟨fun h=>⟨false,?_,⟨fun h=>(by cases h),fun h=>absurd (by omega) g2⟩⟩,fun h=>?_⟩
     ·have h1:s.drop 1=[]:=Option.some.inj h
      unfold Na
      rw[if_pos]
      rcases s with _ | ⟨a,_ | ⟨b,s⟩⟩
      ·exact absurd hmem (by decide)
      ·have ha:a∈ [90,122,43,45]:=hmem
       simp only[List.mem_cons,List.not_mem_nil,or_false]at ha
       rcases ha with rfl | rfl | rfl | rfl
       ·exact .inl rfl
       ·exact .inr rfl
       ·exact absurd rfl h43
       ·exact absurd rfl h45
      ·cases h1
     ·unfold Na
      rw[if_neg,if_neg]
      ·rintro⟨_,h | h,_⟩
       ·exact h43 h
       ·exact h45 h
      ·rintro(h' | h')<;>exact h (by rw[h'];rfl)
    ·cases s1.neg hmem
theorem cday_ok {y m d:Nat} (hy:y<=100000) (hm:m<=1000) (hd:d<=1000) {st:St} {K:Int->Int->St->Prop} (hk:K (if okD y m d then(Kg y m d:Nat)else 0) (if okD y m d then 0 else 2) st):
  CallT PR EE [.int .i64 (y:Nat),.int .i64 (m:Nat),.int .i64 (d:Nat)] [.one (.int .i64),.one (.int .i64)] st K:=by
 refine LX _ _ _ st K (Aa (fun g=>?_) fun g=>FT (by omega) (Aa (fun g2=>?_) fun g2=>?_))
 ·have hn:¬okD y m d:=fun h=>by have:=h.2.2.2.2.1;omega
  rw[if_neg hn,if_neg hn]at hk;exact hk
 ·have hn:¬okD y m d:=fun h=>by
   obtain⟨a1,a2,a3,a4,a5,a6⟩:=h
   rw[J0 a1 a2 a3 a4]at g2
   omega
  rw[if_neg hn,if_neg hn]at hk;exact hk
 ·have hr:1<=y/\y<=9999/\1<=m/\m<=12:=by
   by_cases h:1<=y/\y<=9999/\1<=m/\m<=12
   ·exact h
   ·rw[show monX y m=0 from if_neg h]at g2
    omega
  obtain⟨a1,a2,a3,a4⟩:=hr
  rw[J0 a1 a2 a3 a4]at g2
  have ok:okD y m d:=⟨a1,a2,a3,a4,by omega,by omega⟩
  rw[if_pos ok,if_pos ok]at hk
  have hyr:yrS y<=4000000:=by unfold yrS;omega
  refine FS a1 (by omega) ⟨fun n i y' m' st'=>((y:Nat):Int)=y'/\((m:Nat):Int)=m'/\st=st'/\∃j:Nat,i=j/\1<=j/\j<=m/\n=((yrS y+Ey y j+(d-1):Nat):Int),fun _ i _ _ _=>(m-i).toNat,⟨rfl,rfl,rfl,1,rfl,by omega,by omega,?_⟩,?_⟩
  ·rw[Ai (((yrS y:Nat):Int)+((d:Nat):Int)) (by omega) (by omega),Ai _ (by omega) (by omega),show Ey y 1=0 from rfl];omega
  ·rintro _ _ _ _ _ ⟨rfl,rfl,rfl,j,rfl,hj1,hj2,rfl⟩
   have hms:=Uv y j
   refine Aa (fun g3=>FT (by omega) ?_) fun g3=>?_
   ·have hmd:=J1 y j
    rw[J0 a1 a2 hj1 (by omega),Ai _ (by omega) (by omega),Ai _ (by omega) (by omega)]
    exact⟨⟨rfl,rfl,rfl,j+1,by omega,by omega,by omega,by rw[D3 y hj1];omega⟩,by dsimp only;omega⟩
   ·have:j=m:=by omega
    subst this
    exact hk
def Nx (n1 y mo d h mi sc nn sg oh om:Nat):TmR:=
 if (n1≠2->okD y mo d)/\okC h mi sc/\oh<=23/\om<=59 then((n1:Nat),(if n1=2 then 0 else(Kg y mo d:Nat)),(Ff h mi sc nn:Nat),(if sg=45 then-((oh*60+om:Nat):Int)else((oh*60+om:Nat):Int)),0)else Hm
def FinS (s:B8) (n1:Nat) (T:Option B8) (y mo d h mi sc nn sg oh om:Nat):Prop:=(T=some []->tmP s=Nx n1 y mo d h mi sc nn sg oh om)/\(T≠some []->tmP s=Hn)
theorem BB {s:B8} {n1 y mo d h mi sc nn sg oh om:Nat} (e:tmP s=Hn):FinS s n1 none y mo d h mi sc nn sg oh om:=⟨fun h=>(by cases h),fun _=>e⟩
theorem Nw {s:B8} (n1:Nat) {y mo d h mi sc nn sg oh om:Nat} {r:B8} (hn:n1<=4) (e:tmP s=Nx n1 y mo d h mi sc nn sg oh om) (hr:r=[]):FinS s n1 (some r) y mo d h mi sc nn sg oh om:=⟨fun _=>e,fun h=>absurd (by rw[hr]) h⟩
theorem okC0:okC 0 0 0:=by decide
theorem fin1 (y mo d:Nat):(if okD y mo d then((1:Int),((Kg y mo d:Nat):Int),(0:Int),(0:Int),(0:Int))else Hm)=Nx 1 y mo d 0 0 0 0 0 0 0:=by
 unfold Nx
 by_cases h:okD y mo d
 ·rw[if_pos h,if_pos ⟨fun _=>h,okC0,by decide,by decide⟩];rfl
 ·rw[if_neg h,if_neg fun g=>h (g.1 (by decide))]
theorem fin2 (h mi sc nn:Nat):(if okC h mi sc then((2:Int),(0:Int),((Ff h mi sc nn:Nat):Int),(0:Int),(0:Int))else Hm)=Nx 2 0 0 0 h mi sc nn 0 0 0:=by
 unfold Nx
 by_cases g:okC h mi sc
 ·rw[if_pos g,if_pos ⟨fun h=>absurd rfl h,g,by decide,by decide⟩];rfl
 ·rw[if_neg g,if_neg fun k=>g k.2.1]
theorem fin3 (y mo d h mi sc nn:Nat):(if okD y mo d/\okC h mi sc then((3:Int),((Kg y mo d:Nat):Int),((Ff h mi sc nn:Nat):Int),(0:Int),(0:Int))else Hm)=Nx 3 y mo d h mi sc nn 0 0 0:=by
 unfold Nx
 by_cases g:okD y mo d/\okC h mi sc
 ·rw[if_pos g,if_pos ⟨fun _=>g.1,g.2,by decide,by decide⟩];rfl
 ·rw[if_neg g,if_neg fun k=>g ⟨k.1 (by decide),k.2.1⟩]
theorem fin4 (y mo d h mi sc nn sg oh om:Nat) (ls:Bool) (hl:ls=true↔sg=45):(if okD y mo d/\okC h mi sc/\oh<=23/\om<=59 then((4:Int),((Kg y mo d:Nat):Int),((Ff h mi sc nn:Nat):Int),(if ls=true then-((oh*60+om:Nat):Int)else((oh*60+om:Nat):Int)),(0:Int))else Hm)=Nx 4 y mo d h mi sc nn sg oh om:=by
 unfold Nx
 by_cases g:okD y mo d/\okC h mi sc/\oh<=23/\om<=59
 ·have hp:(4≠2->okD y mo d)/\okC h mi sc/\oh<=23/\om<=59:=⟨fun _=>g.1,g.2⟩
  rw[if_pos g,if_pos hp]
  by_cases k:sg=45
  ·rw[if_pos k,if_pos (hl.2 k)];rfl
  ·rw[if_neg k,if_neg fun h=>k (hl.1 h)];rfl
 ·rw[if_neg g,if_neg fun k=>g ⟨k.1 (by decide),k.2⟩]
theorem KG {s:B8} (hc:b0 s 2≠58) (h:¬Dx s):tmP s=Hn:=by
 unfold tmP
 rw[if_neg h]
 have:HD s=none:=by unfold HD;rw[if_neg fun g=>hc g.2.1]
 rw[this]
theorem Xl {s:B8}:s.getD 0 0∈ [84,116,32]↔(b0 s 0=84∨b0 s 0=116∨b0 s 0=32):=by
 simp only[List.mem_cons,List.not_mem_nil,or_false];rfl
theorem PI {s:B8} (fd:Dx s) (hne:s.drop 10≠ []) (fo:(s.drop 10).getD 0 0∈ [84,116,32]):tmP s=match HD (s.drop (10+1))with
  | none=>Hn
  | some (h,m,sc,f,r')=>tmO (d2 s 0*100+d2 s 2) (d2 s 5) (d2 s 8) h m sc f r':=by
 unfold tmP tmD
 rw[if_pos fd,if_neg hne,if_pos (Xl.1 fo),List.drop_drop]<;>rfl
theorem PH {s:B8} (fd:Dx s) (hne:s.drop 10≠ []) (fo:(s.drop 10).getD 0 0∉ [84,116,32]):tmP s=Hn:=by
 unfold tmP tmD
 rw[if_pos fd,if_neg hne,if_neg fun h=>fo (Xl.2 h)]
theorem Me {s:B8} {k:Nat} {c:UInt8} (hc:c≠0) (h:b0 s k=c):k<s.length:=by
 by_cases hk:k<s.length
 ·exact hk
 ·rw[show b0 s k=0 by simp[b0,List.getD,Nat.le_of_not_lt hk]]at h
  exact absurd h.symm hc
theorem Wm {r f:Nat} {st:St} {s:B8} (hm:TM r f st (some s) (fcT 0 0 0 0 0 0 0 0 0 0)) {K:Int->St->Prop}
  (hk:∀(n1 y mo d h mi sc nn sg oh om:Nat) st' T,n1<=4->y<10000->mo<100->d<100->h<100->mi<100->sc<100->nn<1000000000->sg<256->oh<100->om<100->StX (rfS r f) st st'->TM r f st' T (fcT y mo d h mi sc nn sg oh om)->FinS s n1 T y mo d h mi sc nn sg oh om->K (n1:Nat) st'):
  CallT PR Cm [.box r 0,.box f 0] [.one (.int .i64)] st K:=by
 obtain⟨x,hx,hl,hsx⟩:=hm.1.src
 have hxs:x=s:=hsx s rfl
 rw[hxs]at hx hl
 clear hsx hxs
 refine Hs r f st K (Ad hx (Al (Aa (fun g=>Ad hx (Al ⟨⟨by omega,g⟩,Aa (fun g1=>?_) fun g1=>?_⟩)) fun g=>?_)))
 ·have h58:b0 s 2=58:=(u8i (k:=58)).1 g1
  have nfd:¬Dx s:=fun h=>absurd h.2.1.1 (by rw[h58];decide)
  refine KI hm fun h mi sc nn st1 T c1 c2 c3 c4 e1 m1 s1=>hk 2 0 0 0 h mi sc nn 0 0 0 st1 T (by omega) (by decide) (by decide) (by decide) c1 c2 c3 c4 (by decide) (by decide) (by decide) e1 m1 ?_
  unfold So at s1
  dsimp only at s1
  have e:tmP s=match HD s with
   | none=>Hn
   | some (h,m,sc,f,r)=>if r=[]then(if okC h m sc then(2,0,(Ff h m sc f:Nat),0,0)else Hm)else Hn:=by unfold tmP;rw[if_neg nfd]<;>rfl
  cases hc:HD s with
  | none=>rw[hc]at s1 e;exact s1▸BB e
  | some p=>
   obtain⟨h',mi',sc',f',r'⟩:=p
   rw[hc]at s1 e
   dsimp only at s1 e
   obtain⟨rfl,rfl,rfl,rfl,rfl⟩:=s1
   by_cases hr:r'=[]
   ·rw[if_pos hr]at e
    exact Nw _ (by decide) (by rw[e];exact fin2 _ _ _ _) hr
   ·rw[if_neg hr]at e
    exact⟨fun h=>absurd (Option.some.inj h) hr,fun _=>e⟩
 ·have hnc:b0 s 2≠58:=fun h=>g1 ((u8i (k:=58)).2 h)
  refine Q3 hm fun y mo d st2 T2 b1 b2 b3 e2 m2 s2=>?_
  obtain⟨x3,hx3,_,hs3⟩:=m2.1.src
  refine Ad hx3 (Al (Aa (fun g=>?_) fun g=>FC (of:=[84,116,32]) (by decide) (by decide) m2.1 fun c st3 T3 bc e3 h3 s3=>KI (m2.step e3 h3) fun h mi sc nn st4 T4 c1 c2 c3 c4 e4 m4 s4=>?_))
  ·refine hk 1 y mo d 0 0 0 0 0 0 0 st2 T2 (by omega) b1 b2 b3 (by decide) (by decide) (by decide) (by decide) (by decide) (by decide) (by decide) e2 m2 ?_
   by_cases fd:Dx s
   ·obtain⟨rfl,rfl,rfl,rfl⟩:=s2.1 fd
    have h10:s.drop 10=[]:=by rw[<-hs3 _ rfl];exact g
    have e:tmP s=if okD (d2 s 0*100+d2 s 2) (d2 s 5) (d2 s 8)then((1:Int),((Kg (d2 s 0*100+d2 s 2) (d2 s 5) (d2 s 8):Nat):Int),(0:Int),(0:Int),(0:Int))else Hm:=by unfold tmP tmD;rw[if_pos fd,if_pos h10]
    exact Nw _ (by decide) (by rw[e];exact fin1 _ _ _) h10
   ·obtain rfl:=s2.2 fd
    exact BB (by rw[KG hnc fd])
  ·obtain⟨x4,hx4,_,hs4⟩:=m4.1.src
   have nofd:¬Dx s->T4=none:=fun fd=>by
    obtain rfl:=s2.2 fd
    obtain rfl:T3=none:=s3
    exact s4
   have E4:=(e2.trans (HB e3)).trans e4
   refine Ad hx4 (Al (Aa (fun g4=>?_) fun g4=>Mz m4 fun sg oh om st5 T5 d1 d2 d3 e5 m5 s5=>?_))
   ·refine hk 3 y mo d h mi sc nn 0 0 0 st4 T4 (by omega) b1 b2 b3 c1 c2 c3 c4 (by decide) (by decide) (by decide) E4 m4 ?_
    by_cases fd:Dx s
    ·obtain⟨rfl,rfl,rfl,rfl⟩:=s2.1 fd
     have hne:s.drop 10≠ []:=fun e=>g (by rw[hs3 _ rfl];exact e)
     by_cases fo:(s.drop 10).getD 0 0∈ [84,116,32]
     ·obtain⟨rfl,_⟩:=s3.pos fo
      have e:=PI fd hne fo
      unfold So at s4
      dsimp only at s4
      rw[List.drop_drop]at s4
      cases hc:HD (s.drop (10+1))with
      | none=>rw[hc]at s4 e;exact s4▸BB e
      | some p=>
       obtain⟨h',mi',sc',f',r'⟩:=p
       rw[hc]at s4 e
       dsimp only at s4 e
       obtain⟨rfl,rfl,rfl,rfl,rfl⟩:=s4
       have hr:r'=[]:=by rw[<-hs4 _ rfl];exact g4
       unfold tmO at e
       rw[if_pos hr]at e
       exact Nw _ (by decide) (by rw[e];exact fin3 _ _ _ _ _ _ _) hr
     ·obtain rfl:=s3.neg fo
      obtain rfl:T4=none:=s4
      exact BB (PH fd hne fo)
    ·obtain rfl:=nofd fd
     exact BB (by rw[KG hnc fd])
   ·refine hk 4 y mo d h mi sc nn sg oh om st5 T5 (by omega) b1 b2 b3 c1 c2 c3 c4 d1 d2 d3 (E4.trans e5) m5 ?_
    by_cases fd:Dx s
    ·obtain⟨rfl,rfl,rfl,rfl⟩:=s2.1 fd
     have hne:s.drop 10≠ []:=fun e=>g (by rw[hs3 _ rfl];exact e)
     by_cases fo:(s.drop 10).getD 0 0∈ [84,116,32]
     ·obtain⟨rfl,_⟩:=s3.pos fo
      have e:=PI fd hne fo
      unfold So at s4
      dsimp only at s4
      rw[List.drop_drop]at s4
      cases hc:HD (s.drop (10+1))with
      | none=>
       rw[hc]at s4 e
       dsimp only at s4
       subst s4
       obtain rfl:T5=none:=s5
       exact BB e
      | some p=>
       obtain⟨h',mi',sc',f',r'⟩:=p
       rw[hc]at s4 e
       dsimp only at s4 e
       obtain⟨rfl,rfl,rfl,rfl,rfl⟩:=s4
       have hr:r'≠ []:=fun e=>g4 (by rw[hs4 _ rfl];exact e)
       unfold tmO at e
       rw[if_neg hr]at e
       by_cases h5:T5=some []
       ·obtain⟨ls,ho,hl⟩:=s5.1 h5
        rw[ho]at e
        exact⟨fun _=>by rw[e];exact fin4 _ _ _ _ _ _ _ _ _ _ _ hl,fun h=>absurd h5 h⟩
       ·have ho:=s5.2 h5
        rw[ho]at e
        exact⟨fun h=>absurd h h5,fun _=>e⟩
     ·obtain rfl:=s3.neg fo
      obtain rfl:T4=none:=s4
      obtain rfl:T5=none:=s5
      exact BB (PH fd hne fo)
    ·obtain rfl:=nofd fd
     obtain rfl:T5=none:=s5
     exact BB (by rw[KG hnc fd])
 ·have hnc:b0 s 2≠58:=fun h=>by have:=Me (by decide) h;omega
  refine Q3 hm fun y mo d st2 T2 b1 b2 b3 e2 m2 s2=>?_
  obtain⟨x3,hx3,_,hs3⟩:=m2.1.src
  refine Ad hx3 (Al (Aa (fun g=>?_) fun g=>FC (of:=[84,116,32]) (by decide) (by decide) m2.1 fun c st3 T3 bc e3 h3 s3=>KI (m2.step e3 h3) fun h mi sc nn st4 T4 c1 c2 c3 c4 e4 m4 s4=>?_))
  ·refine hk 1 y mo d 0 0 0 0 0 0 0 st2 T2 (by omega) b1 b2 b3 (by decide) (by decide) (by decide) (by decide) (by decide) (by decide) (by decide) e2 m2 ?_
   by_cases fd:Dx s
   ·obtain⟨rfl,rfl,rfl,rfl⟩:=s2.1 fd
    have h10:s.drop 10=[]:=by rw[<-hs3 _ rfl];exact g
    have e:tmP s=if okD (d2 s 0*100+d2 s 2) (d2 s 5) (d2 s 8)then((1:Int),((Kg (d2 s 0*100+d2 s 2) (d2 s 5) (d2 s 8):Nat):Int),(0:Int),(0:Int),(0:Int))else Hm:=by unfold tmP tmD;rw[if_pos fd,if_pos h10]
    exact Nw _ (by decide) (by rw[e];exact fin1 _ _ _) h10
   ·obtain rfl:=s2.2 fd
    exact BB (by rw[KG hnc fd])
  ·obtain⟨x4,hx4,_,hs4⟩:=m4.1.src
   have nofd:¬Dx s->T4=none:=fun fd=>by
    obtain rfl:=s2.2 fd
    obtain rfl:T3=none:=s3
    exact s4
   have E4:=(e2.trans (HB e3)).trans e4
   refine Ad hx4 (Al (Aa (fun g4=>?_) fun g4=>Mz m4 fun sg oh om st5 T5 d1 d2 d3 e5 m5 s5=>?_))
   ·refine hk 3 y mo d h mi sc nn 0 0 0 st4 T4 (by omega) b1 b2 b3 c1 c2 c3 c4 (by decide) (by decide) (by decide) E4 m4 ?_
    by_cases fd:Dx s
    ·obtain⟨rfl,rfl,rfl,rfl⟩:=s2.1 fd
     have hne:s.drop 10≠ []:=fun e=>g (by rw[hs3 _ rfl];exact e)
     by_cases fo:(s.drop 10).getD 0 0∈ [84,116,32]
     ·obtain⟨rfl,_⟩:=s3.pos fo
      have e:=PI fd hne fo
      unfold So at s4
      dsimp only at s4
      rw[List.drop_drop]at s4
      cases hc:HD (s.drop (10+1))with
      | none=>rw[hc]at s4 e;exact s4▸BB e
      | some p=>
       obtain⟨h',mi',sc',f',r'⟩:=p
       rw[hc]at s4 e
       dsimp only at s4 e
       obtain⟨rfl,rfl,rfl,rfl,rfl⟩:=s4
       have hr:r'=[]:=by rw[<-hs4 _ rfl];exact g4
       unfold tmO at e
       rw[if_pos hr]at e
       exact Nw _ (by decide) (by rw[e];exact fin3 _ _ _ _ _ _ _) hr
     ·obtain rfl:=s3.neg fo
      obtain rfl:T4=none:=s4
      exact BB (PH fd hne fo)
    ·obtain rfl:=nofd fd
     exact BB (by rw[KG hnc fd])
   ·refine hk 4 y mo d h mi sc nn sg oh om st5 T5 (by omega) b1 b2 b3 c1 c2 c3 c4 d1 d2 d3 (E4.trans e5) m5 ?_
    by_cases fd:Dx s
    ·obtain⟨rfl,rfl,rfl,rfl⟩:=s2.1 fd
     have hne:s.drop 10≠ []:=fun e=>g (by rw[hs3 _ rfl];exact e)
     by_cases fo:(s.drop 10).getD 0 0∈ [84,116,32]
     ·obtain⟨rfl,_⟩:=s3.pos fo
      have e:=PI fd hne fo
      unfold So at s4
      dsimp only at s4
      rw[List.drop_drop]at s4
      cases hc:HD (s.drop (10+1))with
      | none=>
       rw[hc]at s4 e
       dsimp only at s4
       subst s4
       obtain rfl:T5=none:=s5
       exact BB e
      | some p=>
       obtain⟨h',mi',sc',f',r'⟩:=p
       rw[hc]at s4 e
       dsimp only at s4 e
       obtain⟨rfl,rfl,rfl,rfl,rfl⟩:=s4
       have hr:r'≠ []:=fun e=>g4 (by rw[hs4 _ rfl];exact e)
       unfold tmO at e
       rw[if_neg hr]at e
       by_cases h5:T5=some []
       ·obtain⟨ls,ho,hl⟩:=s5.1 h5
        rw[ho]at e
        exact⟨fun _=>by rw[e];exact fin4 _ _ _ _ _ _ _ _ _ _ _ hl,fun h=>absurd h5 h⟩
       ·have ho:=s5.2 h5
        rw[ho]at e
        exact⟨fun h=>absurd h h5,fun _=>e⟩
     ·obtain rfl:=s3.neg fo
      obtain rfl:T4=none:=s4
      obtain rfl:T5=none:=s5
      exact BB (PH fd hne fo)
    ·obtain rfl:=nofd fd
     obtain rfl:T5=none:=s5
     exact BB (by rw[KG hnc fd])
abbrev KT (K:Int->Int->Int->Int->Int->St->Prop) (r:TmR) (st:St):Prop:=K r.1 r.2.1 r.2.2.1 r.2.2.2.1 r.2.2.2.2 st
theorem WV {h mi sc nn:Nat} (h1:h<100) (h2:mi<100) (h3:sc<100) (h4:nn<1000000000):
  i64.wrap ((i64.wrap ((i64.wrap ((i64.wrap ((i64.wrap ((i64.wrap (((h:Nat):Int)*60))+((mi:Nat):Int)))*60))+((sc:Nat):Int)))*1000000000))+((nn:Nat):Int))=((Ff h mi sc nn:Nat):Int):=by
 rw[Ai (((h:Nat):Int)*60) (by omega) (by omega),Ai (((h:Nat):Int)*60+((mi:Nat):Int)) (by omega) (by omega),Ai ((((h:Nat):Int)*60+((mi:Nat):Int))*60) (by omega) (by omega),Ai ((((h:Nat):Int)*60+((mi:Nat):Int))*60+((sc:Nat):Int)) (by omega) (by omega),Ai (((((h:Nat):Int)*60+((mi:Nat):Int))*60+((sc:Nat):Int))*1000000000) (by omega) (by omega),Ai _ (by omega) (by omega)]
 unfold Ff;omega
theorem off_w {oh om:Nat} (h1:oh<100) (h2:om<100):i64.wrap ((i64.wrap (((oh:Nat):Int)*60))+((om:Nat):Int))=((oh*60+om:Nat):Int):=by
 rw[Ai (((oh:Nat):Int)*60) (by omega) (by omega),Ai _ (by omega) (by omega)];omega
theorem tP_ok {s:B8} (hl:s.length<=1000000) {st:St} {K:Int->Int->Int->Int->Int->St->Prop} (hk:∀st',Ap st st'->KT K (tmP s) st'):CallT PR Cf [.str s] [.agg [.int .i64,.int .i64,.int .i64,.int .i64],.one (.int .i64)] st K:=by
 refine LP s st K (Wm (r:=st.nb) (f:=st.nb+1) (s:=s) ?_ fun n1 y mo d h mi sc nn sg oh om st1 T a1 a2 a3 a4 a5 a6 a7 a8 a9 a10 a11 e1 m1 hF=>?_)
 ·refine⟨⟨?_,?_,hl⟩,?_,?_,?_⟩
  ·simp[St.push];omega
  ·simp[St.push]
  ·simp[St.push]
  ·simp[St.push,fcT]
  ·omega
 ·have E:Ap st st1:=StX.ext (((Ap.refl st).push _ _).push _ _) e1 (by
   rintro i (rfl | rfl)
   ·exact Nat.le_refl _
   ·exact Nat.le_succ _)
  obtain⟨hF1,hF2⟩:=hF
  have cell:∀i v,(fcT y mo d h mi sc nn sg oh om)[i]? =some v->Ac st1 [] (.t (.box (st.nb+1) i)) 0=some v:=fun i v hv=>by
   simp only[Ac,m1.2.2.1,Nat.add_zero];exact hv
  have c0:=cell 0 _ rfl
  have c1:=cell 1 _ rfl
  have c2:=cell 2 _ rfl
  have c3:=cell 3 _ rfl
  have c4:=cell 4 _ rfl
  have c5:=cell 5 _ rfl
  have c6:=cell 6 _ rfl
  have c7:=cell 7 _ rfl
  have c8:=cell 8 _ rfl
  have c9:=cell 9 _ rfl
  clear cell
  obtain⟨hr,t,hb,_,ht⟩:=m1.1.get
  have k0:Ac st1 [] (.t (.box st.nb 0)) 0=some (.str t):=by simp[Ac,hb]
  have k1:Ac st1 [] (.t (.box st.nb 1)) 0=some (.bool T.isNone):=by simp[Ac,hb]
  have bad:T≠some []->K 0 0 0 0 3 st1:=fun hT=>by
   have:=hk st1 E
   rw[hF2 hT]at this;exact this
  refine Ad k1 (Ao (Ar (fun g=>bad fun e=>by rw[e]at g;cases g) fun g=>Ad k0 (Al (Aa (fun g1=>bad fun e=>g1 (ht [] e)) fun g1=>?_))))
  have hT:T=some []:=by
   cases T with
   | none=>cases g
   | some x=>rw[<-ht x rfl,Decidable.not_not.1 g1]
  have hV:=hF1 hT
  have hk1:=hk st1 E
  rw[hV]at hk1
  clear hF1 hF2 hV hk bad
  unfold KT Nx at hk1
  have tail:(n1≠2->okD y mo d)->∀D:Int,D=(if n1=2 then 0 else((Kg y mo d:Nat):Int))->okC h mi sc/\oh<=23/\om<=59->K (n1:Nat) D (Ff h mi sc nn:Nat) (if sg=45 then-((oh*60+om:Nat):Int)else((oh*60+om:Nat):Int)) 0 st1:=fun h0 D hD h1=>by
   subst hD
   rw[if_pos ⟨h0,h1⟩]at hk1;exact hk1
  have out:(¬(okC h mi sc/\oh<=23/\om<=59)∨¬(n1≠2->okD y mo d))->K 0 0 0 0 2 st1:=fun hn=>by
   rw[if_neg (fun g=>by
    rcases hn with hn | hn
    ·exact hn g.2
    ·exact hn g.1)]at hk1
   exact hk1
  have end_:(n1≠2->okD y mo d)->∀D:Int,D=(if n1=2 then 0 else((Kg y mo d:Nat):Int))->okC h mi sc/\oh<=23/\om<=59->BIf (decide (((sg:Nat):Int)=45)) (K (n1:Nat) D (Ff h mi sc nn:Nat) (i64.wrap (0-((oh*60+om:Nat):Int))) 0 st1) (K (n1:Nat) D (Ff h mi sc nn:Nat) ((oh*60+om:Nat):Int) 0 st1):=fun h0 D hD h1=>by
   have:=tail h0 D hD h1
   refine Aa (fun g=>?_) fun g=>?_
   ·rw[if_pos (by omega)]at this
    rw[Ai _ (by omega) (by omega),show(0:Int)-((oh*60+om:Nat):Int)= -((oh*60+om:Nat):Int) by omega];exact this
   ·rw[if_neg (by omega)]at this;exact this
  have okc:∀{a b c:Nat},¬(23:Int)<(a:Nat)->¬(59:Int)<(b:Nat)->¬(59:Int)<(c:Nat)->okC a b c:=fun x y z=>⟨by omega,by omega,by omega⟩
  refine Aa (fun g2=>?_) fun g2=>?_
  ·refine Ad c0 (Az (Ad c1 (Az (Ad c2 (Az (cday_ok (by omega) (by omega) (by omega) ?_))))))
   by_cases hD:okD y mo d
   ·rw[if_pos hD,if_pos hD]
    refine Aa (fun g=>absurd rfl g) fun _=>Ad c3 (Az (Aa (fun g=>out (.inl fun k=>by have:=k.1.1;omega)) fun k1=>Ad c4 (Az (Aa (fun g=>out (.inl fun k=>by have:=k.1.2.1;omega)) fun k2=>Ad c5 (Az (Aa (fun g=>out (.inl fun k=>by have:=k.1.2.2;omega)) fun k3=>Ad c8 (Az (Aa (fun g=>out (.inl fun k=>by have:=k.2.1;omega)) fun k4=>Ad c9 (Az (Aa (fun g=>out (.inl fun k=>by have:=k.2.2;omega)) fun k5=>?_))))))))))
    refine Ad c3 (Az (Ad c4 (Az (Ad c5 (Az (Ad c6 (Az (Ad c8 (Az (Ad c9 (Az (Ad c7 (Az ?_)))))))))))))
    rw[WV a5 a6 a7 a8,off_w a10 a11]
    exact end_ (fun _=>hD) _ (by rw[if_neg (by omega)]) ⟨okc k1 k2 k3,by omega,by omega⟩
   ·rw[if_neg hD,if_neg hD]
    exact Aa (fun _=>out (.inr fun k=>hD (k (by omega)))) fun g=>absurd (by decide) g
  ·refine Ad c3 (Az (Aa (fun g=>out (.inl fun k=>by have:=k.1.1;omega)) fun k1=>Ad c4 (Az (Aa (fun g=>out (.inl fun k=>by have:=k.1.2.1;omega)) fun k2=>Ad c5 (Az (Aa (fun g=>out (.inl fun k=>by have:=k.1.2.2;omega)) fun k3=>Ad c8 (Az (Aa (fun g=>out (.inl fun k=>by have:=k.2.1;omega)) fun k4=>Ad c9 (Az (Aa (fun g=>out (.inl fun k=>by have:=k.2.2;omega)) fun k5=>?_))))))))))
   refine Ad c3 (Az (Ad c4 (Az (Ad c5 (Az (Ad c6 (Az (Ad c8 (Az (Ad c9 (Az (Ad c7 (Az ?_)))))))))))))
   rw[WV a5 a6 a7 a8,off_w a10 a11]
   exact end_ (fun h=>absurd (by omega) h) _ (by rw[if_pos (by omega)]) ⟨okc k1 k2 k3,by omega,by omega⟩
def likeF (form s:B8):Prop:=form.length<=s.length/\∀i,i<form.length->if form.getD i 0=100 then AF (s.getD i 0)else s.getD i 0=form.getD i 0
instance (form s:B8):Decidable (likeF form s):=inferInstanceAs (Decidable (_/\_))
end Go.TVF
section
namespace Go.TVF
open Go.IntKind(i64 u8)
open Go Go.Proofs Go.RowKit
theorem Sim.grown {g:Ghost} {st:St} {loc:List (Option (List TV))} {w w':World} (s:Sim g st loc w) (h:Below w.heap.size w w'):Sim g st loc w'/\Ext g w g w':=
 s.world h.size (s.below.trans (h.mono s.fits)) h.block
end Go.TVF
end
namespace Go.TVF
open Go.IntKind(i64 u8)
open Go Go.Proofs
def EI (c:Int):Bool:=decide (97<=c/\c<=122∨65<=c/\c<=90∨48<=c/\c<=57∨c=95∨c=45∨c=43∨c=46∨c=58)
theorem Un {st:St} {b:Nat} {l xs:List TV} {k:St->Prop} (hb:st.box b= .cells l) (hl:0+xs.length<=l.length) (hk:k (st.put b (.cells (setAll l 0 xs)))):stB st (.box b 0) xs k:=⟨l,hb,hl,hk⟩
def twl (p:Int->Bool):B8->Nat
 | []=>0
 | c::r=>if p (c.toNat:Int)then twl p r+1 else 0
def digitB (c:Int):Bool:=decide (48<=c/\c<=57)
def patB:List (Option UInt8)->B8->Bool
 | [],_=>true
 | _::_,[]=>false
 | none::ps,c::cs=>digitB (c.toNat:Int)&&patB ps cs
 | some a::ps,c::cs=>decide (c=a)&&patB ps cs
def mkPat (d:UInt8) (p:B8):List (Option UInt8):=p.map fun c=>if c=d then none else some c
def hexD (c:Nat):Option Nat:=if 48<=c/\c<=57 then some (c-48)else if 97<=c/\c<=102 then some (c-87)else if 65<=c/\c<=70 then some (c-55)else none
def hexS:Nat->B8->Nat->Except Int Nat
 | 0,_,acc=> .ok acc
 | k+1,[],acc=> .error 4
 | k+1,c::cs,acc=>match hexD c.toNat with
  | none=> .error 3
  | some d=>hexS k cs (acc*16+d)
def escS (l:B8):Except Int (Nat×Nat):=
 match hexS 4 l 0 with
 | .error e=> .error e
 | .ok n=>
  if 56320<=n/\n<=57343 then .error 5
  else if n<55296∨57343<n then .ok (n,4)
  else if l.length<=4 then .error 4
  else if bt l 4≠92 then .error 5
  else if l.length<=5 then .error 4
  else if bt l 5≠117 then .error 5
  else match hexS 4 (l.drop 6) 0 with
   | .error e=> .error e
   | .ok m=>if m<56320∨57343<m then .error 5 else .ok (65536+(n-55296)*1024+(m-56320),10)
def simE (c:Nat):Option UInt8:=if c=34 then some 34 else if c=92 then some 92 else if c=47 then some 47 else if c=98 then some 8 else if c=102 then some 12 else if c=110 then some 10 else if c=114 then some 13 else if c=116 then some 9 else none
def qF:Nat->Nat->B8->B8->Nat->Except Int (B8×Nat)
 | 0,_,_,_,_=> .error 4
 | f+1,m,l,acc,n=>
  if l.length=0 then .error 4
  else if bt l 0=m then .ok (acc,n+1)
  else if ul l=0∨bt l 0<32 then .error 5
  else if bt l 0≠92∨m=39 then qF f m (l.drop (ul l)) (acc++l.take (ul l)) (n+ul l)
  else if l.length<=1 then .error 4
  else if bt l 1=117 then match escS (l.drop 2)with
   | .error e=> .error e
   | .ok p=>qF f m (l.drop (2+p.2)) (acc++Gi p.1) (n+(2+p.2))
  else match simE (bt l 1)with
   | none=> .error 3
   | some c=>qF f m (l.drop 2) (acc++[c]) (n+2)
def wlen (l:B8):Nat:=if twl EI l=10/\patB (mkPat 100 [100,100,100,100,45,100,100,45,100,100,32,100,100,58]) l=true then 11+twl EI (l.drop 11)else twl EI l
def isX (r:B8):Prop:=r≠ []/\(AC r).length=r.length
def isE (r:B8):Prop:=r=[]∨((r.getD 0 0=101∨r.getD 0 0=69)/\(if (r.drop 1).getD 0 0=45∨(r.drop 1).getD 0 0=43 then isX (r.drop 2)else isX (r.drop 1)))
def isF (r:B8):Prop:=if r.getD 0 0=46 then AC (r.drop 1)≠ []/\isE (r.drop (1+(AC (r.drop 1)).length))else isE r
def isQ (t:B8):Prop:=AC t≠ []/\¬(1<(AC t).length/\t.getD 0 0=48)/\isF (t.drop (AC t).length)
instance (r:B8):Decidable (isX r):=inferInstanceAs (Decidable (_/\_))
instance (r:B8):Decidable (isE r):=by unfold isE;infer_instance
instance (r:B8):Decidable (isF r):=by unfold isF;infer_instance
instance (r:B8):Decidable (isQ r):=by unfold isQ;infer_instance
theorem UM (neg:Bool) (s:B8) (ex:Int):(dcN neg s ex).2.2.2=0∨(dcN neg s ex).2.2.2=2:=by
 unfold dcN;split
 ·exact .inl rfl
 ·split
  ·exact .inr rfl
  ·exact .inl rfl
def okE (e:Int):Prop:=e=0∨e=2
theorem Qh (neg:Bool) (all:B8) (ex:Int) (less:Bool) (r:B8):(isX r->okE (dcX neg all ex less r).2.2.2)/\(¬isX r->(dcX neg all ex less r).2.2.2=3):=by
 unfold dcX isX
 by_cases h:r=[]∨(AC r).length≠r.length
 ·rw[if_pos h]
  refine⟨fun g=>?_,fun _=>rfl⟩
  rcases h with h | h
  ·exact absurd h g.1
  ·exact absurd g.2 h
 ·rw[if_neg h]
  have h':r≠ []/\(AC r).length=r.length:=⟨fun e=>h (.inl e),Decidable.not_not.1 fun e=>h (.inr e)⟩
  exact⟨fun _=>UM _ _ _,fun g=>absurd h' g⟩
theorem UO (neg:Bool) (all:B8) (ex:Int) (r:B8):(isE r->okE (dcE neg all ex r).2.2.2)/\(¬isE r->(dcE neg all ex r).2.2.2=3):=by
 unfold dcE isE
 by_cases h:r=[]
 ·rw[if_pos h];exact⟨fun _=>UM _ _ _,fun g=>absurd (.inl h) g⟩
 rw[if_neg h]
 by_cases h2:r.getD 0 0=101∨r.getD 0 0=69
 ·rw[if_pos h2]
  by_cases h3:(r.drop 1).getD 0 0=45
  ·rw[if_pos h3,if_pos (.inl h3)]
   have:=Qh neg all ex true (r.drop 2)
   exact⟨fun g=>this.1 (by rcases g with g | g;exact absurd g h;exact g.2),fun g=>this.2 fun g2=>g (.inr ⟨h2,g2⟩)⟩
  ·rw[if_neg h3]
   by_cases h4:(r.drop 1).getD 0 0=43
   ·rw[if_pos h4,if_pos (.inr h4)]
    have:=Qh neg all ex false (r.drop 2)
    exact⟨fun g=>this.1 (by rcases g with g | g;exact absurd g h;exact g.2),fun g=>this.2 fun g2=>g (.inr ⟨h2,g2⟩)⟩
   ·rw[if_neg h4,if_neg (by rintro(g | g);exact h3 g;exact h4 g)]
    have:=Qh neg all ex false (r.drop 1)
    exact⟨fun g=>this.1 (by rcases g with g | g;exact absurd g h;exact g.2),fun g=>this.2 fun g2=>g (.inr ⟨h2,g2⟩)⟩
 ·rw[if_neg h2]
  exact⟨fun g=>by rcases g with g | g;exact absurd g h;exact absurd g.1 h2,fun _=>rfl⟩
theorem dcF_err (neg:Bool) (a r:B8):(isF r->okE (dcF neg a r).2.2.2)/\(¬isF r->(dcF neg a r).2.2.2=3):=by
 unfold dcF isF
 by_cases h:r.getD 0 0=46
 ·rw[if_pos h,if_pos h]
  by_cases h2:AC (r.drop 1)=[]
  ·rw[if_pos h2];exact⟨fun g=>absurd h2 g.1,fun _=>rfl⟩
  ·rw[if_neg h2]
   have:=UO neg (a++AC (r.drop 1)) (-(AC (r.drop 1)).length) (r.drop (1+(AC (r.drop 1)).length))
   exact⟨fun g=>this.1 g.2,fun g=>this.2 fun g2=>g ⟨h2,g2⟩⟩
 ·rw[if_neg h,if_neg h];exact UO _ _ _ _
theorem UL (neg:Bool) (t:B8):(isQ t->okE (dcQ neg t).2.2.2)/\(¬isQ t->(dcQ neg t).2.2.2=3):=by
 unfold dcQ isQ
 by_cases h:AC t=[]∨(1<(AC t).length/\t.getD 0 0=48)
 ·rw[if_pos h]
  refine⟨fun g=>?_,fun _=>rfl⟩
  rcases h with h | h
  ·exact absurd h g.1
  ·exact absurd h g.2.1
 ·rw[if_neg h]
  have:=dcF_err neg (AC t) (t.drop (AC t).length)
  exact⟨fun g=>this.1 g.2.2,fun g=>this.2 fun g2=>g ⟨fun e=>h (.inl e),fun e=>h (.inr e),g2⟩⟩
def PQ (s:B8):Nat:=if s.getD 0 0=45 then 1 else 0
theorem dcP_err (s:B8):(isQ (s.drop (PQ s))->okE (dcP s).2.2.2)/\(¬isQ (s.drop (PQ s))->(dcP s).2.2.2=3):=by
 unfold dcP PQ
 by_cases h:s.getD 0 0=45
 ·rw[if_pos h,if_pos h];exact UL _ _
 ·rw[if_neg h,if_neg h,List.drop_zero];exact UL _ _
def scK (k:Nat):Sc:=⟨(k:Nat),false,false,[],0,0,0,0,0,[],[]⟩
theorem vlLeaf (st:St) (s:Sc) (h:s.bytes=[]):VlR st (.mk s [] []) (Bh s .nilSlice .nilSlice .nilSlice):=by
 unfold VlR
 refine⟨_,_,_,[],[],rfl,?_,.of_rd (.inl ⟨rfl,rfl,rfl⟩),by unfold VsR;rfl,.of_rd (.inl ⟨rfl,rfl,rfl⟩),by unfold FsR;rfl⟩
 rw[h];exact .of_rd (.inl ⟨rfl,rfl,rfl⟩)
theorem FsR.snoc0 {st:St} {d:Fd} {cd:List TV} {l:List Fd} {xs:List TV} (h:FsR st l xs) (hd:FdR st d cd):FsR st (l++[d]) (xs++cd):=by
 obtain⟨cks,rfl,hall⟩:=h.chunks
 have:=FsR.of_chunks (hall.snoc hd)
 simpa using this
theorem BY {n w:Nat} (hw:w<=100) (hn:n<=1000000000000000000) {st:St} {K:B8->St->Prop} (hk:∀st',Ap st st'->K (Bd w n) st'):CallT PR AG [.int .i64 (n:Int),.int .i64 (w:Int)] [.one .str] st K:=by
 refine Kp _ _ st K ⟨⟨by omega,by omega,by rw[Int.toNat_natCast];omega⟩,?_⟩
 rw[Int.toNat_natCast,Ai _ (by omega) (by omega)]
 refine⟨fun n1 i b st'=>TV.ms 1 st.nb 0 w w=b/\∃(j m:Nat) (t:B8),i=(j:Int)-1/\n1=m/\m<=n/\j+t.length=w/\Bd w n=Bd j m++t/\BxB st st' b (List.replicate j 0++t),fun _ i _ _=>(i+1).toNat,⟨rfl,w,n,[],rfl,rfl,Nat.le_refl _,rfl,by simp,by simpa using BxB.make (Ap.refl st) w⟩,?_⟩
 rintro _ _ _ st1 ⟨rfl,j,m,t,rfl,rfl,hm,hj,he,hb⟩
 have hlen:(List.replicate j (0:UInt8)++t).length=w:=by simp;omega
 refine Aa (fun g=>?_) fun g=>?_
 ·obtain⟨i,rfl⟩:∃i,j=i+1:=⟨j-1,by omega⟩
  have hi:(((i+1:Nat):Int)-1)=(i:Int):=by omega
  rw[hi,hb.rd.lenZ,Int.toNat_natCast]
  refine⟨⟨by omega,by omega⟩,hb.set (c:=(48+m%10).toUInt8) (by rw[dg_w8 _ rfl];rfl) (by omega) fun st2 hb2=>?_⟩
  have hd:i64.wrap ((m:Int).tdiv 10)=((m/10:Nat):Int):=by rw[Int.tdiv_eq_ediv_of_nonneg (by omega),Ai _ (by omega) (by omega)];omega
  rw[hd,Ai _ (by omega) (by omega)]
  refine⟨⟨rfl,i,m/10,(48+m%10).toUInt8::t,rfl,rfl,by omega,by rw[List.length_cons];omega,by rw[he,Bd,List.append_assoc];rfl,?_⟩,by dsimp only;omega⟩
  have:(List.replicate (i+1) (0:UInt8)++t).set i (48+m%10).toUInt8=List.replicate i 0++(48+m%10).toUInt8::t:=by
   rw[List.replicate_succ',List.append_assoc,List.set_append_right _ _ (by simp),List.length_replicate,Nat.sub_self];rfl
  rw[<-this];exact hb2
 ·have:j=0:=by omega
  subst this
  rw[List.replicate_zero,List.nil_append]at hb
  rw[Bd,List.nil_append]at he
  rw[<-he]at hb
  exact hb.str (hk _ hb.ext)
theorem R7 {n:Nat} (hn:n<=3652058) {st:St} {K:B8->St->Prop} (hk:∀st',Ap st st'->K (Ix n) st'):CallT PR Bg [.int .i64 (n:Int)] [.one .str] st K:=by
 refine IY _ st K (date_ok hn fun y m d hd=>?_)
 have he:=UR hd
 obtain⟨a1,a2,a3,a4,a5,a6,a7⟩:=hd
 have hm:=J1 y m
 have l4:=Bc 4 y
 have l2:=Bc 2 m
 have l3:=Bc 2 d
 refine BY (w:=4) (by omega) (by omega) fun st1 e1=>⟨by rw[l4];show 4+1<=_;omega,BY (w:=2) (by omega) (by omega) fun st2 e2=>⟨by rw[List.length_append,l4,l2];show 4+1+2<=_;omega,by rw[List.length_append,List.length_append,l4,l2];show 4+1+2+1<=_;omega,BY (w:=2) (by omega) (by omega) fun st3 e3=>⟨by simp only[List.length_append,l4,l2,l3];show 4+1+2+1+2<=_;omega,?_⟩⟩⟩
 have:=hk st3 ((e1.trans e2).trans e3)
 rw[he,List.append_cons,List.append_cons,List.append_assoc (Bd 4 y++[45]),<-List.append_assoc,<-List.append_assoc]at this
 exact this
theorem Th {f:B8} (h:f≠ []):f=f.take (f.length-1)++[f.getD (f.length-1) 0]:=by
 have hp:=List.length_pos_iff.2 h
 have:=D5 f (f.length-1) 0 (by omega)
 rw[show f.length-1+1=f.length by omega,List.take_length]at this
 exact this
theorem Qp {n:Nat} (hn:n<=86399999999999) {st:St} {K:B8->St->Prop} (hk:∀st',Ap st st'->K (Ic n) st'):CallT PR A9 [.int .i64 (n:Int)] [.one .str] st K:=by
 refine Iu _ st K ?_
 have e1:i64.wrap ((n:Int).tdiv 1000000000)=((n/1000000000:Nat):Int):=by rw[Int.tdiv_eq_ediv_of_nonneg (by omega),Ai _ (by omega) (by omega)];omega
 have e2:i64.wrap (((n/1000000000:Nat):Int).tdiv 3600)=((n/1000000000/3600:Nat):Int):=by rw[Int.tdiv_eq_ediv_of_nonneg (by omega),Ai _ (by omega) (by omega)];omega
 have e3:(i64.wrap (((n/1000000000:Nat):Int).tdiv 60)).tmod 60=((n/1000000000/60%60:Nat):Int):=by
  rw[Int.tdiv_eq_ediv_of_nonneg (by omega),Ai _ (by omega) (by omega),Int.tmod_eq_emod_of_nonneg (by omega)];omega
 have e4:((n/1000000000:Nat):Int).tmod 60=((n/1000000000%60:Nat):Int):=by rw[Int.tmod_eq_emod_of_nonneg (by omega)];omega
 have e5:(n:Int).tmod 1000000000=((n%1000000000:Nat):Int):=by rw[Int.tmod_eq_emod_of_nonneg (by omega)];omega
 rw[e1,e2,e3,e4,e5]
 have l1:=Bc 2 (n/1000000000/3600)
 have l2:=Bc 2 (n/1000000000/60%60)
 have l3:=Bc 2 (n/1000000000%60)
 refine BY (w:=2) (by omega) (by omega) fun st1 x1=>⟨by rw[l1];show 2+1<=_;omega,BY (w:=2) (by omega) (by omega) fun st2 x2=>⟨by rw[List.length_append,l1,l2];show 2+1+2<=_;omega,by rw[List.length_append,List.length_append,l1,l2];show 2+1+2+1<=_;omega,BY (w:=2) (by omega) (by omega) fun st3 x3=>⟨by simp only[List.length_append,l1,l2,l3];show 2+1+2+1+2<=_;omega,?_⟩⟩⟩
 have e0:=(x1.trans x2).trans x3
 have hpre:∀(f:B8),Bd 2 (n/1000000000/3600)++58::(Bd 2 (n/1000000000/60%60)++58::(Bd 2 (n/1000000000%60)++f))=((((Bd 2 (n/1000000000/3600)++[58])++Bd 2 (n/1000000000/60%60))++[58])++Bd 2 (n/1000000000%60))++f:=fun f=>by
  simp only[List.append_assoc,List.cons_append,List.nil_append]
 unfold Ic at hk
 rw[hpre]at hk
 generalize hP:((((Bd 2 (n/1000000000/3600)++[58])++Bd 2 (n/1000000000/60%60))++[58])++Bd 2 (n/1000000000%60))=P at hk
 have hPl:P.length=8:=by rw[<-hP];simp only[List.length_append,l1,l2,l3];rfl
 have hP2:((((Bd 2 (n/1000000000/3600)++CT)++Bd 2 (n/1000000000/60%60))++CT)++Bd 2 (n/1000000000%60))=P:=hP
 rw[hP2]
 refine Aa (fun g=>?_) fun g=>?_
 ·have:=hk st3 e0
  rw[if_pos (by omega),List.append_nil]at this
  exact this
 ·rw[if_neg (by omega)]at hk
  have hr0:n%1000000000≠0:=by omega
  have hcne:=US (n:=n%1000000000) (by omega) hr0
  refine BY (w:=9) (by omega) (by omega) fun st4 x4=>⟨fun f s st'=>P=s/\st4=st'/\Hc f=Hc (Bd 9 (n%1000000000))/\f.length<=9,fun f _ _=>f.length,⟨rfl,rfl,rfl,by rw[Bc];omega⟩,?_⟩
  rintro f _ _ ⟨rfl,rfl,hf,hfl⟩
  have hfne:f≠ []:=fun e=>by
   rw[e]at hf
   exact hcne (hf.symm.trans rfl)
  have hp:=List.length_pos_iff.2 hfne
  rw[Ai _ (by omega) (by omega),show Int.toNat ((f.length:Int)-1)=f.length-1 by omega]
  have hsp:=Th hfne
  have hsn:=Ph (f.take (f.length-1)) (f.getD (f.length-1) 0)
  rw[<-hsp]at hsn
  refine⟨⟨by omega,by omega⟩,Aa (fun g2=>⟨⟨by omega,by omega⟩,⟨rfl,rfl,?_,by rw[List.length_take];omega⟩,by dsimp only;rw[List.length_take];omega⟩) fun g2=>⟨by rw[hPl];show 8+1<=_;omega,by rw[List.length_append,hPl];show 8+1+_<=_;omega,?_⟩⟩
  ·rw[if_pos (UInt8.toNat_inj.1 (by show _=48;omega))]at hsn
   rw[<-hsn];exact hf
  ·rw[if_neg (fun e=>g2 (by rw[e];rfl))]at hsn
   have:=hk st4 (e0.trans x4)
   rw[<-hf,hsn,List.append_cons]at this
   exact this
theorem Of {z:Int} (h1: -1439<=z) (h2:z<=1439) {st:St} {K:B8->St->Prop} (hk:∀st',Ap st st'->K (GZ z) st'):CallT PR CB [.int .i64 z] [.one .str] st K:=by
 unfold GZ at hk
 refine HL _ st K (Aa (fun g=>?_) fun g=>?_)
 ·have:=hk st (Ap.refl _)
  rw[if_pos g]at this;exact this
 ·rw[if_neg g]at hk
  have l1:=Bc 2 (z.natAbs/60)
  have l2:=Bc 2 (z.natAbs%60)
  refine Aa (fun g2=>?_) fun g2=>?_
  ·rw[if_pos g2]at hk
   have e1:i64.wrap ((i64.wrap (0-z)).tdiv 60)=((z.natAbs/60:Nat):Int):=by rw[Ai (0-z) (by omega) (by omega),Int.tdiv_eq_ediv_of_nonneg (by omega),Ai _ (by omega) (by omega)];omega
   have e2:(i64.wrap (0-z)).tmod 60=((z.natAbs%60:Nat):Int):=by rw[Ai (0-z) (by omega) (by omega),Int.tmod_eq_emod_of_nonneg (by omega)];omega
   rw[e1,e2]
   refine BY (w:=2) (by omega) (by omega) fun st1 x1=>⟨by rw[l1];show 1+2<=_;omega,by rw[List.length_append,l1];show 1+2+1<=_;omega,BY (w:=2) (by omega) (by omega) fun st2 x2=>⟨by simp only[List.length_append,l1,l2];show 1+2+1+2<=_;omega,?_⟩⟩
   have:=hk st2 (x1.trans x2)
   rw[<-List.cons_append,List.append_cons]at this
   exact this
  ·rw[if_neg g2]at hk
   have e1:i64.wrap (z.tdiv 60)=((z.natAbs/60:Nat):Int):=by rw[Int.tdiv_eq_ediv_of_nonneg (by omega),Ai _ (by omega) (by omega)];omega
   have e2:z.tmod 60=((z.natAbs%60:Nat):Int):=by rw[Int.tmod_eq_emod_of_nonneg (by omega)];omega
   rw[e1,e2]
   refine BY (w:=2) (by omega) (by omega) fun st1 x1=>⟨by rw[l1];show 1+2<=_;omega,by rw[List.length_append,l1];show 1+2+1<=_;omega,BY (w:=2) (by omega) (by omega) fun st2 x2=>⟨by simp only[List.length_append,l1,l2];show 1+2+1+2<=_;omega,?_⟩⟩
   have:=hk st2 (x1.trans x2)
   rw[<-List.cons_append,List.append_cons]at this
   exact this
def b64A:B8:=[65,66,67,68,69,70,71,72,73,74,75,76,77,78,79,80,81,82,83,84,85,86,87,88,89,90,97,98,99,100,101,102,103,104,105,106,107,108,109,110,111,112,113,114,115,116,117,118,119,120,121,122,48,49,50,51,52,53,54,55,56,57,43,47]
def fnd:B8->UInt8->Int
 | [],_=> -1
 | a::al,c=>if a=c then 0 else if fnd al c<0 then-1 else fnd al c+1
theorem MB (k td tn tz:Int):(HQ k td tn tz).length<=40:=by
 have h1:∀n,(Ix n).length=10:=fun n=>by unfold Ix;simp only[List.length_append,List.length_cons,Bc]
 have h2:∀n,(Ic n).length<=18:=fun n=>by
  unfold Ic
  have:(if n%1000000000=0 then([]:B8)else 46::Hc (Bd 9 (n%1000000000))).length<=10:=by
   split
   ·simp
   ·have:=R8 (Bd 9 (n%1000000000))
    rw[Bc]at this
    rw[List.length_cons];omega
  simp only[List.length_append,List.length_cons,Bc];omega
 have h3:∀z,(GZ z).length<=6:=fun z=>by
  unfold GZ;split
  ·decide
  ·simp only[List.length_append,List.length_cons,Bc];omega
 unfold HQ
 have e1:=h1 td.toNat
 have e2:=h2 tn.toNat
 have e3:=h3 tz
 split
 ·omega
 split
 ·omega
 split
 ·rw[List.length_append,List.length_cons];omega
 ·rw[List.length_append,List.length_cons,List.length_append];omega
theorem WY {k d n z:Int} (h:DS k d n z) {st:St} {K:B8->St->Prop} (hk:∀st',Ap st st'->K (HQ k d n z) st'):CallT PR DF [.agg [.int .i64 k,.int .i64 d,.int .i64 n,.int .i64 z]] [.one .str] st K:=by
 have h0:=h
 obtain⟨a1,a2,a3,a4,a5,a6,a7,a8,a9,a10,a11⟩:=h
 have ed:d=((d.toNat:Nat):Int):=by omega
 have en:n=((n.toNat:Nat):Int):=by omega
 have l1:∀m,(Ix m).length=10:=fun n=>by unfold Ix;simp only[List.length_append,List.length_cons,Bc]
 unfold HQ at hk
 have hdt:∀{st:St} {K:B8->St->Prop},(∀st',Ap st st'->K (Ix d.toNat) st')->CallT PR Bg [.int .i64 d] [.one .str] st K:=fun {st K} hk=>by
  rw[ed];exact R7 (by omega) hk
 have hct:∀{st:St} {K:B8->St->Prop},(∀st',Ap st st'->K (Ic n.toNat) st')->CallT PR A9 [.int .i64 n] [.one .str] st K:=fun {st K} hk=>by
  rw[en];exact Qp (by omega) hk
 have l2:(Ic n.toNat).length<=40:=by have:=MB 2 d n z;unfold HQ at this;rw[if_neg (by omega),if_pos rfl]at this;exact this
 have l3:(GZ z).length<=40:=by have:=MB 4 d n z;unfold HQ at this;rw[if_neg (by omega),if_neg (by omega),if_neg (by omega),List.length_append,List.length_cons,List.length_append]at this;omega
 have l1':=l1 d.toNat
 refine Mp _ _ _ _ st K (JJ ?_)
 rw[decide_eq_true h0]
 refine Aa (p:=False) (fun h=>h.elim) fun _=>Aa (fun g=>?_) fun g1=>Aa (fun g=>?_) fun g2=>Aa (fun g=>?_) fun g3=>?_
 ·rw[if_pos g]at hk;exact hdt hk
 ·rw[if_neg g1,if_pos g]at hk;exact hct hk
 ·rw[if_neg g1,if_neg g2,if_pos g]at hk
  refine hdt fun st1 e1=>⟨by rw[l1'];show 10+1<=_;omega,hct fun st2 e2=>⟨by rw[List.length_append,l1'];show 10+1+_<=_;omega,?_⟩⟩
  have:=hk st2 (e1.trans e2)
  rw[List.append_cons]at this
  exact this
 ·rw[if_neg g1,if_neg g2,if_neg g3]at hk
  refine hdt fun st1 e1=>⟨by rw[l1'];show 10+1<=_;omega,hct fun st2 e2=>⟨by rw[List.length_append,l1'];show 10+1+_<=_;omega,Of a7 a8 fun st3 e3=>⟨by rw[List.length_append,List.length_append,l1'];show 10+1+_+_<=_;omega,?_⟩⟩⟩
  have:=hk st3 ((e1.trans e2).trans e3)
  rw[List.append_cons,<-List.append_assoc]at this
  exact this
theorem szl' (s:Sc):(Vl.mk s [] []).sz=1+s.bytes.length+s.text.length+s.dg.length:=by rw[szs];rfl
def tkT (s:B8):Sc:=⟨4,false,false,[],0,0,0,0,0,s,[]⟩
def tkB (b:Bool):Sc:=⟨1,b,false,[],0,0,0,0,0,[],[]⟩
def tkN (neg:Bool) (dg:B8) (ex:Int):Sc:=⟨2,false,neg,dg,ex,0,0,0,0,[],[]⟩
def tkM (k d n z:Int):Sc:=⟨3,false,false,[],0,k,d,n,z,[],[]⟩
theorem M0 {s:Sc} {l:List Vl} {f:List Fd} (hN:(Vl.mk s l f).sz<=2000000) (hkn:Jv f) {st0 st:St} {ub ul uf:TV} {K:TV->St->Prop} (h:VlR st0 (.mk s l f) (Bh s ub ul uf)) (hke:B1 st0 st)
  (hk:∀v st' xl,Ap st st'->SlR st' 14 v (Ew f).length xl->FsR st' (Ew f) xl->K v st'):CallT PR Cd [.agg (Bh s ub ul uf)] [.one .tv] st K:=by
 have hsz:=szs s l f
 have hfl:=Fl f
 obtain⟨ub',ul',uf',xl,xf,hcs,h1,h2,h3,h4,h5⟩:=h.cells
 simp only[Bh,List.cons.injEq,and_true,true_and]at hcs
 obtain⟨rfl,rfl,rfl⟩:=hcs
 obtain⟨cks,rfl,hall⟩:=(FsR.keep hke h5).chunks
 refine SH (α:=Fd) (g:=id) (R:=FdR st) (fun a c hr=>hr) hall (s:=s) (f:=f) (by simp) rfl (h4.keep hke) (by omega) fun v st' la' cks' bs hp hs e ho hR hnd hlo=>?_
 rw[List.map_id]at hs
 have hE:la'=Ew f:=Vj hkn hp hs
 subst hE
 exact hk v st' _ e ho.rd (FsR.keep e.keeps (FsR.of_chunks hR))
theorem Rf {f:List Fd} {d:Fd} (h:d∈Ew f):d∈f:=(FF f).mem_iff.1 h
theorem FdR.val {st:St} {d:Fd} {cs:List TV} (h:FdR st d cs):∃c,cs= .str d.key::c/\VlR st d.val c:=by
 cases d;unfold FdR at h;exact h
theorem V1 {a b:B8} {u v:TV} {st:St} {K:Bool->St->Prop} (ha:SlR st 1 u a.length (AJ a)) (hb:SlR st 1 v b.length (AJ b)) (hl:a.length<=2000000) (hm:b.length<=2000000) (hk:∀r,(r=true↔a=b)->K r st):
  CallT PR Bs [u,v] [.one .bool] st K:=by
 have no:a≠b->K false st:=fun hne=>hk false ⟨fun h=>(by cases h),fun h=>absurd h hne⟩
 refine Ev _ _ st K (Ab ha.isSl (Ab hb.isSl ?_))
 rw[ha.lenS,hb.lenS]
 refine Aa (fun e=>no fun h=>e (by rw[h])) fun e=>Ab ha.isSl ⟨fun i u1 v1 n st'=>u=u1/\v=v1/\n=(a.length:Int)/\st=st'/\∃k:Nat,i=k/\k<=a.length/\a.take k=b.take k,fun i _ _ _ _=>(a.length-i).toNat,
  ⟨rfl,rfl,rfl,rfl,0,rfl,Nat.zero_le _,rfl⟩,?_⟩
 have el:a.length=b.length:=by omega
 rintro _ _ _ _ _ ⟨rfl,rfl,rfl,rfl,k,rfl,hka,hE⟩
 refine Aa (fun g=>?_) fun g=>?_
 ·rw[ha.lenZ,hb.lenZ,Int.toNat_natCast]
  refine⟨⟨by omega,by omega⟩,Ad (ha.ldb (by omega)) (Az ⟨⟨by omega,by omega⟩,Ad (hb.ldb (by omega)) (Az (Aa (fun g3=>no fun h=>?_) fun g3=>?_))⟩)⟩
  ·subst h;exact g3 rfl
  ·rw[Ai _ (by omega) (by omega)]
   refine⟨⟨rfl,rfl,rfl,rfl,k+1,by omega,by omega,?_⟩,by dsimp only;omega⟩
   refine GT hE (List.getElem?_eq_getElem (by omega)) (List.getElem?_eq_getElem (by omega)) ?_
   have:=Decidable.not_not.1 g3
   exact UInt8.toNat.inj (by omega)
 ·have hkk:k=a.length:=by omega
  rw[hkk,List.take_length,el,List.take_length]at hE
  exact hk true ⟨fun _=>hE,fun _=>rfl⟩
theorem VN {γ:Type} {g:Vl->γ} {st0 st:St} {u v one:TV} {l m:List Vl} {xl xm:List TV} (hke:B1 st0 st) (hu:SlR st0 13 u l.length xl) (hl:VsR st0 l xl) (hv:SlR st0 13 v m.length xm) (hm:VsR st0 m xm)
  (hll:l.length<=2000000) (hlm:m.length<=2000000) (hone:∀(a b:Vl) (ca cb:List TV) (st1:St) (K1:Bool->St->Prop),a∈l->b∈m->VlR st0 a ca->VlR st0 b cb->Ap st st1->(∀r st2,Ap st1 st2->(r=true↔g a=g b)->K1 r st2)->FR PR one [.agg ca,.agg cb] [.one .bool] st1 K1)
  {K:Bool->St->Prop} (hk:∀r st',Ap st st'->(r=true↔l.map g=m.map g)->K r st'):CallT PR Au [u,v,one] [.one .bool] st K:=by
 have no:∀st',Ap st st'->l.map g≠m.map g->K false st':=fun st' e hne=>hk false st' e ⟨fun h=>(by cases h),fun h=>absurd h hne⟩
 refine A3 _ _ _ st K (Ab hu.isSl (Ab hv.isSl ?_))
 rw[hu.lenS,hv.lenS]
 refine Aa (fun e=>no st (Ap.refl _) fun h=>e (by have:=congrArg List.length h;simp only[List.length_map]at this;rw[this])) fun e=>Ab hu.isSl ⟨fun i v1 o1 u1 n st'=>v=v1/\one=o1/\u=u1/\n=(l.length:Int)/\∃k:Nat,i=k/\k<=l.length/\Ap st st'/\(l.map g).take k=(m.map g).take k,fun i _ _ _ _ _=>(l.length-i).toNat,
  ⟨rfl,rfl,rfl,rfl,0,rfl,Nat.zero_le _,Ap.refl _,rfl⟩,?_⟩
 have el:l.length=m.length:=by omega
 rintro _ _ _ _ _ st1 ⟨rfl,rfl,rfl,rfl,k,rfl,hkl,e1,hE⟩
 have hke1:=hke.trans e1.keeps
 refine Aa (fun q=>?_) fun q=>?_
 ·refine Xt hke1 hu hl rfl (by omega) fun s1 l1 f1 ub1 ul1 uf1 gw hw on=>Ab on (Xt hke1 hv hm rfl (by omega) fun s2 l2 f2 ub2 ul2 uf2 gw2 hw2 on2=>Ab on2 ?_)
  refine hone _ _ _ _ st1 _ (Fh gw) (Fh gw2) hw hw2 e1 fun r st2 e2 hr=>Ar (fun hb=>no st2 (e1.trans e2) fun h=>?_) fun hb=>?_
  ·have h1:=congrArg (fun z=>z[k]?) h
   simp only[List.getElem?_map,gw,gw2,Option.map_some,Option.some.injEq]at h1
   rw[hr.2 h1]at hb;cases hb
  ·rw[Ai _ (by omega) (by omega)]
   refine⟨⟨rfl,rfl,rfl,rfl,k+1,by omega,by omega,e1.trans e2,?_⟩,by dsimp only;omega⟩
   exact GT hE (by rw[List.getElem?_map,gw];rfl) (by rw[List.getElem?_map,gw2];rfl) (hr.1 (by simpa using hb))
 ·refine hk true st1 e1 ⟨fun _=>?_,fun _=>rfl⟩
  have:k=l.length:=by omega
  rw[List.take_of_length_le (by simp;omega),List.take_of_length_le (by simp;omega)]at hE
  exact hE
theorem VO {γ:Type} {g:Fd->γ} {st0 st:St} {u v one:TV} {l m:List Fd} {xl xm:List TV} (hke:B1 st0 st) (hu:SlR st0 14 u l.length xl) (hl:FsR st0 l xl) (hv:SlR st0 14 v m.length xm) (hm:FsR st0 m xm)
  (hll:l.length<=2000000) (hlm:m.length<=2000000) (hone:∀(a b:Fd) (ca cb:List TV) (st1:St) (K1:Bool->St->Prop),a∈l->b∈m->FdR st0 a ca->FdR st0 b cb->Ap st st1->(∀r st2,Ap st1 st2->(r=true↔g a=g b)->K1 r st2)->FR PR one [.agg ca,.agg cb] [.one .bool] st1 K1)
  {K:Bool->St->Prop} (hk:∀r st',Ap st st'->(r=true↔l.map g=m.map g)->K r st'):CallT PR Av [u,v,one] [.one .bool] st K:=by
 have no:∀st',Ap st st'->l.map g≠m.map g->K false st':=fun st' e hne=>hk false st' e ⟨fun h=>(by cases h),fun h=>absurd h hne⟩
 refine A4 _ _ _ st K (Ab hu.isSl (Ab hv.isSl ?_))
 rw[hu.lenS,hv.lenS]
 refine Aa (fun e=>no st (Ap.refl _) fun h=>e (by have:=congrArg List.length h;simp only[List.length_map]at this;rw[this])) fun e=>Ab hu.isSl ⟨fun i v1 o1 u1 n st'=>v=v1/\one=o1/\u=u1/\n=(l.length:Int)/\∃k:Nat,i=k/\k<=l.length/\Ap st st'/\(l.map g).take k=(m.map g).take k,fun i _ _ _ _ _=>(l.length-i).toNat,
  ⟨rfl,rfl,rfl,rfl,0,rfl,Nat.zero_le _,Ap.refl _,rfl⟩,?_⟩
 have el:l.length=m.length:=by omega
 rintro _ _ _ _ _ st1 ⟨rfl,rfl,rfl,rfl,k,rfl,hkl,e1,hE⟩
 have hke1:=hke.trans e1.keeps
 refine Aa (fun q=>?_) fun q=>?_
 ·refine el14 hke1 hu hl rfl (by omega) fun k1 s1 l1 f1 ub1 ul1 uf1 gw hw on=>Ab on (el14 hke1 hv hm rfl (by omega) fun k2 s2 l2 f2 ub2 ul2 uf2 gw2 hw2 on2=>Ab on2 ?_)
  refine hone _ _ _ _ st1 _ (Fh gw) (Fh gw2) (by unfold FdR;exact⟨_,rfl,hw⟩) (by unfold FdR;exact⟨_,rfl,hw2⟩) e1 fun r st2 e2 hr=>Ar (fun hb=>no st2 (e1.trans e2) fun h=>?_) fun hb=>?_
  ·have h1:=congrArg (fun z=>z[k]?) h
   simp only[List.getElem?_map,gw,gw2,Option.map_some,Option.some.injEq]at h1
   rw[hr.2 h1]at hb;cases hb
  ·rw[Ai _ (by omega) (by omega)]
   refine⟨⟨rfl,rfl,rfl,rfl,k+1,by omega,by omega,e1.trans e2,?_⟩,by dsimp only;omega⟩
   exact GT hE (by rw[List.getElem?_map,gw];rfl) (by rw[List.getElem?_map,gw2];rfl) (hr.1 (by simpa using hb))
 ·refine hk true st1 e1 ⟨fun _=>?_,fun _=>rfl⟩
  have:k=l.length:=by omega
  rw[List.take_of_length_le (by simp;omega),List.take_of_length_le (by simp;omega)]at hE
  exact hE
def nrm (ex:Bool) (v:Vl):Vl:=if ex then v else OC v
def KW (ex:Bool):Fd->B8×Vl
 | .mk k v=>(k,nrm ex v)
def flds (ex:Bool) (f:List Fd):List Fd:=if ex then f else Ew f
theorem nrmD_id (f:List Fd):∀g:List Fd,f.map (KW true)=g.map (KW true)->f=g:=by
 induction f with
 | nil=>intro g h;cases g with | nil=>rfl | cons b g=>simp at h
 | cons a f ih=>
  intro g h
  cases g with
  | nil=>simp at h
  | cons b g=>
   simp only[List.map_cons,List.cons.injEq]at h
   rw[ih g h.2]
   cases a;cases b
   have:=h.1
   simp only[KW,nrm,if_true,Prod.mk.injEq]at this
   rw[this.1,this.2]
theorem VE (f:List Fd):∀g:List Fd,f.map (KW false)=g.map (KW false)↔f.map OE=g.map OE:=by
 induction f with
 | nil=>intro g;cases g<;>simp
 | cons a f ih=>
  intro g
  cases g with
  | nil=>simp
  | cons b g=>
   simp only[List.map_cons,List.cons.injEq,ih g]
   cases a;cases b
   simp[KW,nrm,OE]
theorem nrm_mk (ex:Bool) (s t:Sc) (l m:List Vl) (f g:List Fd):nrm ex (.mk s l f)=nrm ex (.mk t m g)↔s=t/\l.map (nrm ex)=m.map (nrm ex)/\(flds ex f).map (KW ex)=(flds ex g).map (KW ex):=by
 cases ex
 ·have e1:nrm false=OC:=funext fun v=>rfl
  rw[e1]
  unfold OC
  rw[I8,I8,I9,I9,MK OD,MK OD]
  simp only[flds,Bool.false_eq_true,if_false,VE,Vl.mk.injEq]
 ·have e1:nrm true=id:=funext fun v=>rfl
  rw[e1]
  simp only[flds,if_true,List.map_id,id]
  constructor
  ·intro h;simp only[Vl.mk.injEq]at h;obtain⟨rfl,rfl,rfl⟩:=h;exact⟨rfl,rfl,rfl⟩
  ·rintro⟨rfl,rfl,h⟩;rw[nrmD_id _ _ h]
theorem stB_new {st:St} {o:Iz} {T:Option Nat} {x y:TV} {k:St->Prop} (ho:o= .cells [x]) (hk:∀st',Ap st st'->st'.box st.nb= .cells [y]->st.nb<st'.nb->k st'):stB (st.push o T) (.box st.nb 0) [y] k:=by
 subst ho
 refine⟨[x],by simp[St.push],by simp,?_⟩
 refine hk _ (((Ap.refl st).push _ _).put (Nat.le_refl _) _) (by simp[St.put,setAll]) (by simp[St.put,St.push])
theorem WG (ex:Bool):∀(N:Nat) (v w:Vl),v.sz<=N->w.sz<=2000000->N<=2000000->(ex=false->KNd v/\KNd w)->∀{st0 st:St} {cs ds:List TV} {L:Int} {K:Bool->St->Prop},VlR st0 v cs->VlR st0 w ds->B1 st0 st->(v.cnt:Int)<=L->L<=100000000->
  (∀r st',Ap st st'->(r=true↔nrm ex v=nrm ex w)->K r st')->CallT PR Ed [.agg cs,.agg ds,.bool ex,.int .i64 L] [.one .bool] st K:=by
 intro N
 induction N with
 | zero=>intro v w h;have:=v.sz_pos;omega
 | succ N ih=>
 intro v w hN hW hN2 hV st0 st cs ds L K h h' hke hL hL2 hk
 cases v with
 | mk s l f=>
 cases w with
 | mk t m g=>
 have hsz:=szs s l f
 have hll:=HH l
 have hfl:=Fl f
 have hsz':=szs t m g
 have hll':=HH m
 have hfl':=Fl g
 have hpos:=(Vl.mk s l f).cnt_pos
 have hcnt:(Vl.mk s l f).cnt=1+Bx l+BR f:=by unfold Vl.cnt;rfl
 have ha:=h
 have hb:=h'
 obtain⟨ub,ul,uf,xl,xf,rfl,h1,h2,h3,h4,h5⟩:=h.cells
 obtain⟨wb,wl,wf,yl,yf,rfl,k1,k2,k3,k4,k5⟩:=h'.cells
 rw[nrm_mk]at hk
 obtain⟨st1,hst1⟩:∃st1,st1=(st.push (.cells [.bool ex]) (some 4)).push (.cells [.int .i64 L]) (some 3):=⟨_,rfl⟩
 have e1:Ap st st1:=hst1▸((Ap.refl st).push _ _).push _ _
 have hb1:st1.box st.nb= .cells [.bool ex]:=by rw[hst1];simp[St.push]
 have hb2:st1.box (st.nb+1)= .cells [.int .i64 L]:=by rw[hst1];simp[St.push]
 have hn1:st.nb+1<st1.nb:=by rw[hst1];simp[St.push]
 have hke1:=hke.trans e1.keeps
 have hldx:∀st',Ap st1 st'->Ac st' [] (.t (.box st.nb 0)) 0=some (.bool ex):=fun st' e=>by simp[Ac,(e.box st.nb (by omega)).trans hb1]
 have hldl:∀st',Ap st1 st'->Ac st' [] (.t (.box (st.nb+1) 0)) 0=some (.int .i64 L):=fun st' e=>by simp[Ac,(e.box (st.nb+1) hn1).trans hb2]
 have no:∀st',Ap st1 st'->¬(s=t/\l.map (nrm ex)=m.map (nrm ex)/\(flds ex f).map (KW ex)=(flds ex g).map (KW ex))->K false st':=fun st' e hne=>hk false st' (e1.trans e) ⟨fun h=>(by cases h),fun h=>absurd h hne⟩
 refine NV _ _ _ _ _ _ _ _ _ _ _ _ _ _ _ _ _ _ _ _ _ _ _ _ _ _ ex L st K ?_
 rw[show(st.push (.cells [.bool ex]) (some 4)).nb=st.nb+1 from rfl,<-hst1]
 have r1:=Ap.refl st1
 refine Aa (fun e=>no st1 r1 fun h=>e (by rw[h.1])) fun q1=>Ar (fun e=>no st1 r1 fun h=>?_) fun q2=>Ar (fun e=>no st1 r1 fun h=>?_) fun q3=>Ar (fun e=>no st1 r1 fun h=>?_) fun q4=>Aa (fun e=>no st1 r1 fun h=>e (by rw[h.1])) fun q5=>?_
 ·rw[h.1]at e;simp at e
 ·rw[h.1]at e;simp at e
 ·rw[h.1]at e;simp at e
 refine V1 (h1.keep hke1) (k1.keep hke1) (by omega) (by omega) fun r hr=>Ar (fun e=>no st1 r1 fun h=>?_) fun q6=>?_
 ·rw[hr.2 (by rw[h.1])]at e;cases e
 have hst:s=t:=by
  simp only[Bool.not_eq_false',Bool.and_eq_true,beq_iff_eq,decide_eq_true_eq,and_true]at q2 q3 q4
  exact sc_eq (Decidable.not_not.1 q1) q2 q3.1 q3.2.1 q3.2.2 q4.1 q4.2.1 q4.2.2.1 q4.2.2.2 (Decidable.not_not.1 q5) (hr.1 (by simpa using q6))
 subst hst
 refine Ad (hldl st1 r1) (Az (Aa (fun g=>by omega) fun _=>Ad (hldx st1 r1) (Ao ?_)))
 --The closure and both comparisons,from fields that are as asked for.
 have rest:∀(st2:St) (v1 v2:TV) (x1 x2:List TV),Ap st1 st2->SlR st2 14 v1 (flds ex f).length x1->FsR st2 (flds ex f) x1->SlR st2 14 v2 (flds ex g).length x2->FsR st2 (flds ex g) x2->
   stB (st2.push (.cells [.nilFunc]) (some 69)) (.box st2.nb 0) [.func BI [.box st.nb 0,.box (st.nb+1) 0]] fun (st4:St)=>
    Ae (Ac st4 [] (.t (.box st2.nb 0)) 0) fun (v3:TV)=>CallT PR Au [ul,wl,v3] [.one (.bool)] st4 fun (b3:Bool) (st5:St)=>
     BIf b3 (CallT PR Av [v1,v2,(.func Dj [(.box st2.nb 0)])] [.one (.bool)] st5 fun (b4:Bool) (st6:St)=>K (b4) st6) (K (false) st5):=by
  intro st2 v1 v2 x1 x2 e2 p1 p2 p3 p4
  refine stB_new (x:= .nilFunc) rfl fun st4 e4 hbx hnx=>?_
  have hldc:∀st',Ap st4 st'->Ac st' [] (.t (.box st2.nb 0)) 0=some (.func BI [.box st.nb 0,.box (st.nb+1) 0]):=fun st' e=>by simp[Ac,(e.box st2.nb hnx).trans hbx]
  have e14:=e2.trans e4
  have hke4:=hke1.trans e14.keeps
  --the closure
  have clo:∀(a b:Vl) (ca cb:List TV) (st5:St) (K1:Bool->St->Prop) (st0':St),a.sz<=N->b.sz<=2000000->(ex=false->KNd a/\KNd b)->(a.cnt:Int)<=L-1->VlR st0' a ca->VlR st0' b cb->B1 st0' st5->Ap st4 st5->(∀r st6,Ap st5 st6->(r=true↔nrm ex a=nrm ex b)->K1 r st6)->
    CallT PR BI ([.agg ca,.agg cb]++[.box st.nb 0,.box (st.nb+1) 0]) [.one .bool] st5 K1:=by
   intro a b ca cb st5 K1 st0' hz1 hz2 hkn hc hra hrb hk5 e5 hK1
   have hra0:=hra
   have hrb0:=hrb
   obtain⟨s1,l1,f1⟩:=a
   obtain⟨s2,l2,f2⟩:=b
   obtain⟨_,_,_,_,_,rfl,_⟩:=hra.cells
   obtain⟨_,_,_,_,_,rfl,_⟩:=hrb.cells
   refine LN _ _ _ _ _ _ _ _ _ _ _ _ _ _ _ _ _ _ _ _ _ _ _ _ _ _ _ _ st5 K1 (Ad (hldx st5 (e14.trans e5)) (Ao (Ad (hldl st5 (e14.trans e5)) (Az ?_))))
   rw[Ai _ (by omega) (by omega)]
   exact ih _ _ hz1 hz2 (by omega) hkn hra0 hrb0 hk5 hc (by omega) hK1
  refine Ad (hldc st4 (Ap.refl _)) (VN (g:=nrm ex) hke4 h2 h3 k2 k3 (by omega) (by omega) (fun a b ca cb st5 K1 hma hmb hra hrb e5 hK1=>?_) fun r st5 e5 hr=>?_)
  ·have hsa:=QN hma
   have hsb:=QN hmb
   have hca:a.cnt<=Bx l:=by
    obtain⟨i,hi⟩:=List.getElem?_of_mem hma
    exact Ov hi
   refine clo a b ca cb st5 K1 st0 (by omega) (by omega) (fun e=>?_) (by omega) hra hrb (hke4.trans e5.keeps) e5 hK1
   have:=hV e
   unfold KNd at this
   exact⟨this.1.1.mem hma,this.2.1.mem hmb⟩
  ·refine Ar (fun hb=>?_) fun hb=>no st5 (e14.trans e5) fun h=>?_
   ·have e25:=e4.trans e5
    refine VO (g:=KW ex) e25.keeps p1 p2 p3 p4 ?_ ?_ (fun a b ca cb st6 K1 hma hmb hra hrb e6 hK1=>?_) fun r2 st6 e6 hr2=>hk r2 st6 (((e1.trans e14).trans e5).trans e6) ⟨fun h=>⟨rfl,hr.1 hb,hr2.1 h⟩,fun h=>hr2.2 h.2.2⟩
    ·unfold flds;split
     ·omega
     ·have:=(FF f).length_eq;omega
    ·unfold flds;split
     ·omega
     ·have:=(FF g).length_eq;omega
    ·have hma':a∈f:=by
      unfold flds at hma;split at hma
      ·exact hma
      ·exact Rf hma
     have hmb':b∈g:=by
      unfold flds at hmb;split at hmb
      ·exact hmb
      ·exact Rf hmb
     have hsa:=Nq hma'
     have hsb:=Nq hmb'
     have hca:a.cnt<=BR f:=by
      obtain⟨i,hi⟩:=List.getElem?_of_mem hma'
      exact O5 hi
     obtain⟨ka,a⟩:=a
     obtain⟨kb,b⟩:=b
     have hz1:=szd ka a
     have hz2:=szd kb b
     have hc1:(Fd.mk ka a).cnt=a.cnt:=by unfold Fd.cnt;rfl
     obtain⟨ca',rfl,hra2⟩:=hra.val
     obtain⟨cb',rfl,hrb2⟩:=hrb.val
     have hra0:VlR st2 a ca':=hra2
     have hrb0:VlR st2 b cb':=hrb2
     have hcl:=clo a b ca' cb' st6 (fun r st7=>K1 r st7) st2 (by omega) (by omega) (fun e=>by
      have:=hV e
      unfold KNd at this
      have q1:=this.1.2.2.mem hma'
      have q2:=this.2.2.2.mem hmb'
      unfold KNdD at q1 q2
      exact⟨q1,q2⟩) (by omega) hra0 hrb0 (e25.trans e6).keeps (e5.trans e6)
     obtain⟨s1,l1,f1⟩:=a
     obtain⟨s2,l2,f2⟩:=b
     obtain⟨_,_,_,_,_,rfl,_⟩:=hra0.cells
     obtain⟨_,_,_,_,_,rfl,_⟩:=hrb0.cells
     refine LM _ _ _ _ _ _ _ _ _ _ _ _ _ _ _ _ _ _ _ _ _ _ _ _ _ _ _ _ _ st6 K1 (Aa (fun ek=>Ad (hldc st6 (e5.trans e6)) (hcl fun r st7 e7 hr7=>hK1 r st7 e7 ?_)) fun ek=>hK1 false st6 (Ap.refl _) ⟨fun h=>(by cases h),fun h=>?_⟩)
     ·simp only[KW,Prod.mk.injEq]
      exact⟨fun h=>⟨ek,hr7.1 h⟩,fun h=>hr7.2 h.2⟩
     ·simp only[KW,Prod.mk.injEq]at h
      exact absurd h.1 ek
   ·rw[hr.2 h.2.1]at hb;cases hb
 refine Ar (fun hex=>?_) fun hex=>?_
 ·have hex':ex=false:=by simpa using hex
  have hkn:=hV hex'
  unfold KNd at hkn
  have hfx:∀z,flds ex z=Ew z:=fun z=>by rw[hex'];rfl
  refine M0 (by omega) hkn.1.2.1 ha hke1 fun v1 st2 x1 e2 hs1 hr1=>?_
  refine M0 (by omega) hkn.2.2.1 hb (hke1.trans e2.keeps) fun v2 st3 x2 e3 hs2 hr2=>?_
  exact rest st3 v1 v2 x1 x2 (e2.trans e3) (by rw[hfx];exact hs1.keep e3.keeps) (by rw[hfx];exact FsR.keep e3.keeps hr1) (by rw[hfx];exact hs2) (by rw[hfx];exact hr2)
 ·have hex':ex=true:=by simpa using hex
  have hfx:∀z,flds ex z=z:=fun z=>by rw[hex'];rfl
  exact rest st1 uf wf xf yf r1 (by rw[hfx];exact h4.keep hke1) (by rw[hfx];exact FsR.keep hke1 h5) (by rw[hfx];exact k4.keep hke1) (by rw[hfx];exact FsR.keep hke1 k5)
theorem WL {v w:Vl} (hN:v.sz<=2000000) (hW:w.sz<=2000000) (hC:v.cnt<=65536) {st0 st:St} {cs ds:List TV} {K:Bool->St->Prop} (h:VlR st0 v cs) (h':VlR st0 w ds) (hke:B1 st0 st) (hk:∀r st',Ap st st'->(r=true↔v=w)->K r st'):
  CallT PR Ga [.agg cs,.agg ds] [.one .bool] st K:=by
 have ha:=h
 have hb:=h'
 cases v;cases w
 obtain⟨_,_,_,_,_,rfl,_⟩:=h.cells
 obtain⟨_,_,_,_,_,rfl,_⟩:=h'.cells
 exact NZ _ _ _ _ _ _ _ _ _ _ _ _ _ _ _ _ _ _ _ _ _ _ _ _ _ _ st K (WG true 2000000 _ _ hN hW (by omega) (fun h=>by cases h) ha hb hke (by omega) (by omega) hk)
theorem Ko:vlen []=0:=Dr _ (by simp[ul])
theorem Qv (l:B8) (m j:Nat):bt (l.take m) j=if j<m then bt l j else 0:=by
 unfold bt
 by_cases h:j<m
 ·rw[if_pos h];simp[List.getD,List.getElem?_take,h]
 ·rw[if_neg h];simp[List.getD,List.getElem?_take,h]
def contB (n:Nat):Prop:=128<=n/\n<192
theorem ul_cont (l:B8) (j:Nat) (h1:0<j) (h2:j<ul l):contB (bt l j):=by
 have h:ul l≠0:=by omega
 have hne:l≠ []:=fun h0=>h (by simp[ul,h0])
 have hv:=XF l h
 have h4:=(Ui l h).2.2.2
 unfold dN Lib.decodeN at hv
 have hz:=(PG l hne).2
 unfold contB
 have hj:j=1∨j=2∨j=3:=by omega
 repeat' split at hv
 all_goals simp only[Prod.mk.injEq]at hv
 all_goals first
  | omega
  | (rcases hj with rfl | rfl | rfl<;>omega)
  | (exfalso;have:=ul_not l h;omega)
theorem KS (l:B8) (m r0:Nat):∀j,j<m->BT (l.take m) r0 j=BT l r0 j
 | 0,_=>rfl
 | j+1,h=>by
  simp only[BT]
  rw[KS l m r0 j (by omega),Qv,if_pos h]
theorem ul_take {l:B8} {m:Nat} (h:ul l≠0) (hm:ul l<=m):ul (l.take m)=ul l/\ur (l.take m)=ur l:=by
 have hne:l≠ []:=fun h0=>h (by simp[ul,h0])
 have hle:=My l
 have hne2:l.take m≠ []:=by
  intro h0
  have:=congrArg List.length h0
  rw[List.length_take]at this
  simp only[List.length_nil]at this
  have:0<l.length:=List.length_pos_iff.2 hne
  omega
 have e1:=GW l hne
 have e2:=GW (l.take m) hne2
 rw[if_neg h]at e1
 have hs:=SU (bt l 0)
 unfold PX at e1
 simp only at e1
 by_cases g1:l.length<rsz (bt l 0)
 ·rw[if_pos g1]at e1
  simp only[Prod.mk.injEq]at e1;omega
 rw[if_neg g1]at e1
 split at e1
 ·rename_i hc
  simp only[Prod.mk.injEq]at e1
  unfold PX at e2
  simp only at e2
  rw[Qv,if_pos (show 0<m by omega),KS _ _ _ _ (by omega),if_neg (by rw[List.length_take];omega),List.take_take,Nat.min_eq_left (by omega),if_pos hc]at e2
  split at e2
  ·simp only[Prod.mk.injEq]at e2;omega
  ·simp only[Prod.mk.injEq]at e2;omega
 ·simp only[Prod.mk.injEq]at e1;omega
theorem SC {l:B8} {m:Nat} (h:ul (l.take m)≠0):ul l=ul (l.take m):=by
 have hne2:l.take m≠ []:=fun h0=>h (by simp[ul,h0])
 have hne:l≠ []:=by rintro rfl;simp at hne2
 have hm:0<m:=by rcases Nat.eq_zero_or_pos m with h0 | h0;(rw[h0]at hne2;simp at hne2);exact h0
 have e1:=GW l hne
 have e2:=GW (l.take m) hne2
 rw[if_neg h]at e2
 have hs:=SU (bt l 0)
 have hb:bt (l.take m) 0=bt l 0:=by rw[Qv,if_pos hm]
 unfold PX at e2
 simp only[hb]at e2
 split at e2
 ·simp only[Prod.mk.injEq]at e2;omega
 rename_i g1
 rw[List.length_take]at g1
 split at e2
 ·rename_i hc
  simp only[Prod.mk.injEq]at e2
  rw[KS _ _ _ _ (by omega),List.take_take,Nat.min_eq_left (by omega)]at hc
  unfold PX at e1
  simp only at e1
  rw[if_neg (by omega),if_pos hc]at e1
  split at e1
  ·simp only[Prod.mk.injEq]at e1;omega
  ·simp only[Prod.mk.injEq]at e1;omega
 ·simp only[Prod.mk.injEq]at e2;omega
theorem Wd:∀(n:Nat) (a b:B8),a.length<=n->vlen a=a.length->vlen (a++b)=a.length+vlen b:=by
 intro n
 induction n with
 | zero=>intro a b h hv;have:a=[]:=List.eq_nil_of_length_eq_zero (by omega);subst this;simp
 | succ n ih=>
  intro a b h hv
  by_cases ha:a=[]
  ·subst ha;simp
  have hpos:0<a.length:=List.length_pos_iff.2 ha
  have h0:ul a≠0:=fun h0=>by rw[Dr a h0]at hv;omega
  have hle:=My a
  have hu:ul (a++b)=ul a:=by
   have:=SC (l:=a++b) (m:=a.length) (by rw[List.take_left];exact h0)
   rw[List.take_left]at this;exact this
  rw[Ds _ h0]at hv
  rw[Ds _ (by rw[hu];exact h0),hu,List.drop_append_of_le_length hle,ih _ b (by rw[List.length_drop];omega) (by rw[List.length_drop];omega),List.length_drop]
  omega
theorem BJ {a b:B8} (ha:vlen a=a.length) (hb:vlen b=b.length):vlen (a++b)=(a++b).length:=by
 rw[Wd _ a b (Nat.le_refl _) ha,List.length_append,hb]
theorem BH {c:UInt8} {l:B8} (hc:c.toNat<128) (hl:vlen l=l.length):vlen (c::l)=(c::l).length:=by
 have h:=QX (c::l) (by simp) hc
 rw[Ds _ (by omega),h.1]
 simp only[List.drop_succ_cons,List.drop_zero,List.length_cons];omega
theorem Dn:∀l:B8,(l.all fun c=>decide (c.toNat<128))=true->vlen l=l.length
 | [],_=>Ko
 | c::l,h=>by
  simp only[List.all_cons,Bool.and_eq_true,decide_eq_true_eq]at h
  exact BH h.1 (Dn l h.2)
def CP (s:B8):Prop:=∀c,c∈s->EI (c.toNat:Int)=true
theorem CP.app {a b:B8} (h:CP a) (k:CP b):CP (a++b):=fun c hc=>(List.mem_append.1 hc).elim (h c) (k c)
theorem CP.cons {c:UInt8} {b:B8} (h:EI (c.toNat:Int)=true) (k:CP b):CP (c::b):=fun d hd=>by
 rcases List.mem_cons.1 hd with rfl | hd
 ·exact h
 ·exact k d hd
theorem CP.nil:CP []:=fun c hc=>by cases hc
theorem CP.one {c:UInt8} (h:EI (c.toNat:Int)=true):CP [c]:= .cons h .nil
theorem AF.word {c:UInt8} (h:AF c):EI (c.toNat:Int)=true:=by
 unfold AF at h;unfold EI;rw[decide_eq_true_eq];omega
theorem CP.dg {s:B8} (h:∀c,c∈s->AF c):CP s:=fun c hc=>(h c hc).word
theorem dcT_len {neg:Bool} {dg:B8} {ex:Int} (h:CW neg dg ex):(dcT neg dg ex).length<=dg.length+40:=by
 by_cases hne:dg=[]
 ·unfold dcT;rw[if_pos hne];simp
 ·obtain⟨h1,h2,h3,h4,h5,h6⟩:=h.2 hne
  have hpos:=List.length_pos_iff.2 hne
  have hs:=Ri neg
  unfold dcT
  rw[if_neg hne,List.length_append,show(if neg=true then [45]else [])=MO neg from rfl]
  split
  ·rw[List.length_append,List.length_replicate];omega
  split
  ·rw[List.length_append,List.length_cons,List.length_take,List.length_drop];omega
  split
  ·rw[List.length_cons,List.length_cons,List.length_append,List.length_replicate];omega
  ·rw[List.length_append,List.length_append,List.length_take]
   have e1:(if 1<dg.length then 46::dg.drop 1 else []).length<=dg.length:=by
    split
    ·rw[List.length_cons,List.length_drop];omega
    ·simp
   have e2:(Lb (dg.length+ex)).length<=20:=by
    rw[UE]
    split
    ·have:=L4 (n:=(1-((dg.length:Int)+ex)).toNat) (by omega)
     rw[List.length_cons,List.length_cons];omega
    ·have:=L4 (n:=((dg.length:Int)+ex-1).toNat) (by omega)
     rw[List.length_cons];omega
   omega
theorem Tq {a b:B8} (ha:∀c,c∈a->AF c) (hne:a≠ []):AF ((a++b).getD 0 0):=by
 obtain⟨c,r,rfl⟩:=List.exists_cons_of_ne_nil hne
 exact ha c (by simp)
theorem w45:EI ((45:UInt8).toNat:Int)=true:=by decide
theorem w46:EI ((46:UInt8).toNat:Int)=true:=by decide
theorem w58:EI ((58:UInt8).toNat:Int)=true:=by decide
theorem w101:EI ((101:UInt8).toNat:Int)=true:=by decide
theorem w84:EI ((84:UInt8).toNat:Int)=true:=by decide
theorem w90:EI ((90:UInt8).toNat:Int)=true:=by decide
theorem w43:EI ((43:UInt8).toNat:Int)=true:=by decide
theorem w48:EI ((48:UInt8).toNat:Int)=true:=by decide
theorem VL (p:Int):CP (Lb p):=by
 unfold Lb
 refine .cons w101 ?_
 split
 ·exact .cons w45 (.dg (Km _))
 ·exact .dg (Km _)
theorem Rp (n:Nat):CP (List.replicate n 48):=fun c hc=>by rw[(List.mem_replicate.1 hc).2];exact w48
theorem XB {neg:Bool} {dg:B8} {ex:Int} (h:CW neg dg ex):CP (dcT neg dg ex)/\dcT neg dg ex≠ []/\((dcT neg dg ex).getD 0 0=45∨AF ((dcT neg dg ex).getD 0 0)):=by
 by_cases hn:dg=[]
 ·unfold dcT
  rw[if_pos hn]
  exact⟨.one w48,by simp,.inr (by decide)⟩
 obtain⟨_,hd,_⟩:=h.2 hn
 have hw:CP dg:= .dg hd
 have key:∀X:B8,(∃a b,X=a++b/\(∀c,c∈a->AF c)/\a≠ []/\CP b)->
   CP ((if neg then [45]else [])++X)/\(if neg then [45]else [])++X≠ []/\(((if neg then [45]else [])++X).getD 0 0=45∨AF (((if neg then [45]else [])++X).getD 0 0)):=by
  rintro X ⟨a,b,rfl,h1,h2,h3⟩
  have hX:CP (a++b):=(CP.dg h1).app h3
  cases neg
  ·exact⟨hX,by simp[h2],.inr (Tq (a:=a) (b:=b) h1 h2)⟩
  ·exact⟨CP.app (.one w45) hX,by simp,.inl rfl⟩
 have hl:=List.length_pos_iff.2 hn
 have tk:∀n:Nat,1<=n->dg.take n≠ []:=fun n h0 h1=>by
  have:=congrArg List.length h1
  rw[List.length_take,List.length_nil]at this;omega
 have tm:∀n:Nat,∀c,c∈dg.take n->AF c:=fun n c hc=>hd c (List.mem_of_mem_take hc)
 have dm:∀n:Nat,CP (dg.drop n):=fun n c hc=>hw c (List.mem_of_mem_drop hc)
 unfold dcT
 rw[if_neg hn]
 refine key _ ?_
 split
 ·exact⟨dg,_,rfl,hd,hn,Rp _⟩
 ·split
  ·rename_i h2
   exact⟨dg.take (dg.length+ex).toNat,_,rfl,tm _,tk _ (by omega),.cons w46 (dm _)⟩
  ·split
   ·exact⟨[48],_,rfl,fun c hc=>by rw[List.mem_singleton.1 hc];decide,by simp,.cons w46 ((Rp _).app hw)⟩
   ·refine⟨dg.take 1,_,rfl,tm _,tk _ (Nat.le_refl _),CP.app ?_ (VL _)⟩
    split
    ·exact .cons w46 (dm _)
    ·exact .nil
theorem Lg (n:Nat):CP (Ic n):=by
 unfold Ic
 refine(CP.dg (Bo _ _)).app (.cons w58 ((CP.dg (Bo _ _)).app (.cons w58 ((CP.dg (Bo _ _)).app ?_))))
 split
 ·exact .nil
 ·exact .cons w46 (.dg (Hb _))
theorem VB (z:Int):CP (GZ z):=by
 unfold GZ
 split
 ·exact .one w90
 ·refine .cons ?_ ((CP.dg (Bo _ _)).app (.cons w58 (.dg (Bo _ _))))
  split
  ·exact w45
  ·exact w43
theorem Le (n:Nat):CP (Ix n):=(CP.dg (Bo _ _)).app (.cons w45 ((CP.dg (Bo _ _)).app (.cons w45 (.dg (Bo _ _)))))
theorem U9 {k td tn tz:Int}:CP (HQ k td tn tz)/\∃a c r,HQ k td tn tz=a++c::r/\a≠ []/\(∀d,d∈a->AF d)/\(c=45∨c=58):=by
 have ne:∀w n,0<w->Bd w n≠ []:=fun w n hw h=>by have:=Bc w n;rw[h]at this;simp at this;omega
 have hd:∀n r,∃a c q,Ix n++r=a++c::q/\a≠ []/\(∀d,d∈a->AF d)/\(c=45∨c=58):=fun n r=>
  ⟨Bd 4 (Ib n).1,45,(Bd 2 (Ib n).2.1++45::Bd 2 (Ib n).2.2)++r,by unfold Ix;rw[List.append_assoc];rfl,ne _ _ (by decide),Bo _ _,.inl rfl⟩
 unfold HQ
 split
 ·refine⟨Le _,?_⟩
  have:=hd td.toNat []
  rwa [List.append_nil]at this
 ·split
  ·exact⟨Lg _,_,58,_,rfl,ne _ _ (by decide),Bo _ _,.inr rfl⟩
  ·split
   ·exact⟨(Le _).app (.cons w84 (Lg _)),hd _ _⟩
   ·exact⟨(Le _).app (.cons w84 ((Lg _).app (VB _))),hd _ _⟩
theorem not_isQ {a r:B8} {c:UInt8} (ha:∀d,d∈a->AF d) (hc:c=45∨c=58):¬isQ (a++c::r):=by
 rintro⟨_,_,h⟩
 have h0:(c::r).getD 0 0=c:=rfl
 have hn:¬AF c:=by rcases hc with rfl | rfl<;>decide
 rw[GD ha (by rw[h0];exact hn),List.drop_left]at h
 unfold isF at h
 rw[h0,if_neg (by rcases hc with rfl | rfl<;>decide)]at h
 unfold isE at h
 rw[h0]at h
 rcases h with h | ⟨h | h,_⟩
 ·cases h
 ·rcases hc with rfl | rfl<;>revert h<;>decide
 ·rcases hc with rfl | rfl<;>revert h<;>decide
theorem H6 (st:St):B1 St.zero st:=⟨Nat.zero_le _,fun i hi=>absurd hi (Nat.not_lt_zero _)⟩
theorem kb {s:Sc} {k:Nat} (h:s.kind=(k:Nat)) (hk:k<=7):s.kind.toNat.toUInt8.toNat=k:=by
 rw[h,Int.toNat_natCast,Uu _ (by omega)]
def v64 (c:UInt8):Nat:=(fnd b64A c).toNat
def fin (k eq w:Nat) (pad:Bool) (o:B8):B8×Int:=
 if k%4=0/\eq=0 then(o,0)
 else if 0<eq/\(k%4<2∨4-k%4<eq∨w≠0)then([],3)
 else if k%4=1∨w≠0∨(pad=true/\eq<4-k%4)then([],4)
 else(o,0)
def isD (c:UInt8):Bool:=decide (0<=fnd b64A c)
def lead (s:B8):Nat:=(s.takeWhile isD).length
def nch (c:UInt8):Prop:=AF c∨c=45∨c=43∨c=46∨c=101
instance (c:UInt8):Decidable (nch c):=inferInstanceAs (Decidable (_∨_))
def tkF (t s:B8) (a:Nat) (b:Bool):Prop:=b=false/\(s.drop a).take t.length=t
instance (t s:B8) (a:Nat) (b:Bool):Decidable (tkF t s a b):=inferInstanceAs (Decidable (_/\_))
end Go.TVF
section
namespace Go.TVF
open Go.IntKind(i64 u8)
open Go Go.Proofs Go.ChangeShapes
section
variable {H:Type} {enc:TypeId×Value->H} {P:Program} {w:World} {base:Nat} {held:Bool}
def Op (enc:TypeId×Value->H) (P:Program) (w:World) (base:Nat) (held:Bool) (n c:Nat) (S:List TV->Prop) (e:TypeId):Prop:=
 P.cellsOf e=c/\∀vs x,DataW.trod enc P w base (fun _=>true) held n e vs=some x->∃tv,AN (Ghost.start w) w tv vs/\tv.length=c/\S tv
end
end Go.TVF
end
section
namespace Go.TVF
open Go.IntKind(i64 u8)
open Go Go.Proofs Go.ChangeShapes
structure Blk {H:Type} (bk:DataW H->Nat):Prop where
 one:∀d,1<=bk d
 str:∀b,b.length+1<=bk (.lit (.string b))
 sl:∀e s,(e.map bk).sum+1<=bk (.slice e s)
 agg:∀p,(p.map bk).sum+1<=bk (.agg p)
section
variable {H:Type} {enc:TypeId×Value->H} {P:Program} {w:World} {base:Nat} {held:Bool} {bk:DataW H->Nat}
def OpQ (bk:DataW H->Nat) (enc:TypeId×Value->H) (P:Program) (w:World) (base:Nat) (held:Bool) (n c:Nat) (S:Nat->List TV->Prop) (e:TypeId):Prop:=
 P.cellsOf e=c/\∀vs x,DataW.trod enc P w base (fun _=>true) held n e vs=some x->∃tv,AN (Ghost.start w) w tv vs/\tv.length=c/\S (bk x.1) tv
def cellQ (c:CTy) (k:Nat) (tv:List TV):Prop:=flatIs [c] tv/\1<=k
def strQ (k:Nat) (tv:List TV):Prop:=∃l:B8,tv=[.str l]/\l.length<=maxLen/\l.length+1<=k
theorem opq_cell {n:Nat} {c:CTy} {e:TypeId} (hb:Blk bk) (h:Uf P c e) (hc:P.cellsOf e=1):OpQ bk enc P w base held n 1 (cellQ c) e:=⟨hc,fun vs x hd=>by
 obtain⟨v,u,rfl,hr,hf⟩:=ON (Ghost.start w) h hd
 exact⟨[v],.cons hr (.nil _ _),rfl,hf,hb.one _⟩⟩
theorem opq_str {n:Nat} {e:TypeId} (hb:Blk bk) (h:P.underlying e=some .string) (hc:P.cellsOf e=1):OpQ bk enc P w base held n 1 strQ e:=⟨hc,fun vs x hd=>by
 obtain⟨s,rfl,rfl,hs⟩:=DataW.trod_string h hd
 exact⟨[_],.cons (MR (Ghost.start w) w s) (.nil _ _),rfl,_,rfl,by rw[Array.length_toList];exact hs,hb.str _⟩⟩
def SlQ (c:Nat) (S:Nat->List TV->Prop) (k:Nat) (v:TV):Prop:=
 v= .nilSlice∨∃ps:List (List TV×Nat),v= .list c .non ps.length (ps.map (·.1)).flatten/\(∀p,p∈ps->p.1.length=c/\S p.2 p.1)/\(ps.map (·.2)).sum+1<=k
theorem opq_slice {n c:Nat} {S:Nat->List TV->Prop} {t e:TypeId} (hb:Blk bk) (ht:P.underlying t=some (.slice e)) (ht1:P.cellsOf t=1) (hc1:1<=c) (hE:∀m,m<n->OpQ bk enc P w base held m c S e):
  OpQ bk enc P w base held n 1 (fun k tv=>∃v,tv=[v]/\SlQ c S k v) t:=by
 refine⟨ht1,fun vs x h=>?_⟩
 rcases DataW.trod_slice ht h with⟨rfl,_⟩ | ⟨a,len,cap,elems,rest,m,rfl,rfl,rfl,hbk,hl,hm,hel,hi,hsp,_⟩
 ·exact⟨[.nilSlice],.cons .nilSlice (.nil _ _),rfl,_,rfl,.inl rfl⟩
 ·obtain⟨hcE,hE⟩:=hE m (by omega)
  rw[hcE]at hi hsp
  have hbs:=hb.sl (elems.map (·.1)) (rest.map (·.1))
  rw[List.map_map]at hbs
  by_cases hcap:cap=0
  ·subst hcap
   obtain rfl:len=0:=by omega
   exact⟨[.list c .non 0 []],.cons (.listE _ _ _ (fun id h=>by cases h)) (.nil _ _),rfl,_,rfl,.inr ⟨[],rfl,(fun ck h=>by cases h),by simp only[List.map_nil,List.sum_nil];omega⟩⟩
  ·obtain⟨b,o,spot⟩:=a
   have hspot:spot=none:=by
    have key:∀(i:Nat) (l:List (DataW H×List MemPlace)) (k:Nat),k<l.length->i=0->(w.cells? base ((⟨b,o,spot⟩:Addr).add (i*c)) c).bind (DataW.trod enc P w base (fun _=>true) held m e)=l[k]?->spot=none:=by
     intro i l k hk hi0 h
     subst hi0
     rw[List.getElem?_eq_getElem hk]at h
     obtain⟨vs,h1,_⟩:=Option.bind_eq_some_iff.1 h
     obtain⟨_,hvl,hvc⟩:=World.cells?_some h1
     have:=World.cell?_spot ((hvc 0 (by omega)).trans (List.getElem?_eq_getElem (show 0<vs.length by omega)))
     rw[Nat.zero_mul]at this
     exact this
    by_cases h0:0<len
    ·exact key 0 elems 0 (by omega) rfl (hi 0 h0)
    ·obtain⟨hr,hs⟩:=hsp rfl
     exact key _ rest 0 (by omega) (by omega) (hs 0 (by omega))
   subst hspot
   have each:∀i (hil:i<len),∃tv vs,AN (Ghost.start w) w tv vs/\tv.length=c/\S (bk (elems[i]'(by omega)).1) tv/\vs.length=c/\∀j,j<c->w.cell? ⟨b,o+(i*c+j),none⟩=some (vs.getD j Go.undef):=by
    intro i hil
    have h:=hi i hil
    rw[List.getElem?_eq_getElem (by omega)]at h
    obtain⟨vs,h1,h2⟩:=Option.bind_eq_some_iff.1 h
    obtain⟨tv,hr,htl,hf⟩:=hE vs _ h2
    obtain⟨_,hvl,hvc⟩:=World.cells?_some h1
    refine⟨tv,vs,hr,htl,hf,hvl,fun j hj=>?_⟩
    have:=hvc j (by omega)
    rw[Deep.add_add,T8]at this
    rw[this]
    simp[List.getD,show j<vs.length by omega]
   have build:∀k,k<=len->∃ps:List (List TV×Nat),ps.length=k/\(∀p,p∈ps->p.1.length=c/\S p.2 p.1)/\ps.map (·.2)=(elems.take k).map (fun y=>bk y.1)/\(ps.map (·.1)).flatten.length=k*c/\∀i (h:i<(ps.map (·.1)).flatten.length),∃u,w.cell? ⟨b,o+i,none⟩=some u/\Rel (Ghost.start w) w (ps.map (·.1)).flatten[i] u:=by
    intro k
    induction k with
    | zero=>intro _;exact⟨[],rfl,(fun ck h=>by cases h),by simp,by simp,fun i h=>absurd h (Nat.not_lt_zero _)⟩
    | succ k ih=>
     intro hk
     obtain⟨ps,h0,h1,hm1,h2,h3⟩:=ih (by omega)
     obtain⟨tv,vs,hr,htl,hf,hvl,hvc⟩:=each k (by omega)
     have hfl:((ps++[(tv,bk (elems[k]'(by omega)).1)]).map (·.1)).flatten=(ps.map (·.1)).flatten++tv:=by simp
     refine⟨ps++[(tv,bk (elems[k]'(by omega)).1)],by simp[h0],fun p h=>?_,?_,by rw[hfl,List.length_append,h2,htl,Nat.succ_mul],fun i h=>?_⟩
     ·rcases List.mem_append.1 h with h | h
      ·exact h1 p h
      ·rw[List.mem_singleton.1 h];exact⟨htl,hf⟩
     ·rw[List.map_append,hm1,List.take_succ_eq_append_getElem (by omega),List.map_append];rfl
     ·simp only[hfl]at h⊢
      by_cases hix:i<(ps.map (·.1)).flatten.length
      ·rw[List.getElem_append_left hix];exact h3 i hix
      ·rw[List.getElem_append_right (by omega)]
       rw[List.length_append]at h
       have hj:i-(ps.map (·.1)).flatten.length<tv.length:=by omega
       refine⟨vs.getD (i-(ps.map (·.1)).flatten.length) Go.undef,?_,hr.2 _ hj⟩
       have:=hvc (i-(ps.map (·.1)).flatten.length) (by omega)
       rw[show o+i=o+(k*c+(i-(ps.map (·.1)).flatten.length)) by rw[<-h2];omega]
       exact this
   obtain⟨ps,h0,h1,hm1,h2,h3⟩:=build len (Nat.le_refl _)
   refine⟨[.list c .non ps.length (ps.map (·.1)).flatten],.cons ?_ (.nil _ _),rfl,_,rfl,.inr ⟨ps,rfl,h1,?_⟩⟩
   ·have hu:∀i,∃u,(h:i<(ps.map (·.1)).flatten.length)->w.cell? ⟨b,o+i,none⟩=some u/\Rel (Ghost.start w) w (ps.map (·.1)).flatten[i] u:=fun i=>by
     by_cases h:i<(ps.map (·.1)).flatten.length
     ·obtain⟨u,hu⟩:=h3 i h
      exact⟨u,fun _=>hu⟩
     ·exact⟨Go.undef,fun h'=>absurd h' h⟩
    rw[h0]
    refine .list _ _ _ _ b o cap (fun i=>Classical.choose (hu i)) h2 hl (fun i hi=>?_) (fun i hi=>(Classical.choose_spec (hu i) hi).2) trivial
    have:=(Classical.choose_spec (hu i) hi).1
    exact⟨⟨rfl,_,this⟩,this⟩
   ·rw[hm1,List.take_of_length_le (by omega)]
    exact hbs
def QC (bk:DataW H->Nat) (enc:TypeId×Value->H) (P:Program) (w:World) (base:Nat) (held:Bool) (n:Nat):List (Nat×(Nat->List TV->Prop))->List Field->Nat->Prop
 | [],[],_=>True
 | S::Ss,f::fs,o=>f.offset=o/\OpQ bk enc P w base held n S.1 S.2 f.type/\QC bk enc P w base held n Ss fs (o+S.1)
 | _,_,_=>False
def U0:List (Nat×(Nat->List TV->Prop))->Nat->List TV->Prop
 | [],_,xs=>xs=[]
 | S::Ss,k,xs=>∃a b k1 k2,xs=a++b/\a.length=S.1/\S.2 k1 a/\U0 Ss k2 b/\k1+k2<=k
def Q1:List (Nat×(Nat->List TV->Prop))->Nat
 | []=>0
 | S::Ss=>S.1+Q1 Ss
theorem M7 {n:Nat} {vs:List Value}:∀(Ss:List (Nat×(Nat->List TV->Prop))) (fs:List Field) (o:Nat) (xs:List (DataW H×List MemPlace)),QC bk enc P w base held n Ss fs o->xs.length=fs.length->vs.length=o+Q1 Ss->
  (∀(i:Nat) (f:Field),fs[i]? =some f->DataW.trod enc P w base (fun _=>true) held n f.type ((vs.drop f.offset).take (P.cellsOf f.type))=xs[i]?)->∃tv,AN (Ghost.start w) w tv (vs.drop o)/\tv.length=Q1 Ss/\U0 Ss (xs.map (fun y=>bk y.1)).sum tv
 | [],[],o,xs,_,_,hl,_=>⟨[],by rw[List.drop_of_length_le (by simp[Q1]at hl;omega)];exact .nil _ _,rfl,rfl⟩
 | S::Ss,f::fs,o,[],_,hx,_,_=>by simp at hx
 | S::Ss,f::fs,o,x::xs,ht,hx,hl,hd=>by
  obtain⟨h1,⟨h2,h3⟩,h4⟩:=ht
  have hd0:=hd 0 f rfl
  rw[h1,h2]at hd0
  obtain⟨tv0,hr,htl,hf⟩:=h3 _ _ hd0
  obtain⟨tv,hr',hl',hf'⟩:=M7 (n:=n) (vs:=vs) Ss fs (o+S.1) xs h4 (by simpa using hx) (by simp only[Q1]at hl;omega) (fun i f' hi=>by simpa using hd (i+1) f' (by simpa using hi))
  refine⟨tv0++tv,?_,by simp[hl',htl,Q1],tv0,tv,_,_,rfl,htl,hf,hf',by simp only[List.map_cons,List.sum_cons];exact Nat.le_refl _⟩
  have hlt:o+S.1<=vs.length:=by simp only[Q1]at hl;omega
  have e:vs.drop o=(vs.drop o).take S.1++vs.drop (o+S.1):=by rw[<-List.drop_drop,List.take_append_drop]
  rw[e]
  exact AN.append hr hr'
 | [],f::fs,o,xs,ht,_,_,_=>ht.elim
 | S::Ss,[],o,xs,ht,_,_,_=>ht.elim
theorem opq_struct {n c:Nat} {Ss:List (Nat×(Nat->List TV->Prop))} {e:TypeId} {fs:Array Field} (hb:Blk bk) (ht:P.underlying e=some (.struct fs)) (hc:P.cellsOf e=c) (hl:Q1 Ss=c) (hf:∀m,m<n->QC bk enc P w base held m Ss fs.toList 0):
  OpQ bk enc P w base held n c (fun k tv=>∃k',k'+1<=k/\U0 Ss k' tv) e:=⟨hc,fun vs x hd=>by
 obtain⟨xs,m,rfl,rfl,hvl,hx,hi⟩:=DataW.trod_struct ht hd
 obtain⟨tv,h1,h2,h3⟩:=M7 (bk:=bk) (enc:=enc) (P:=P) (w:=w) (base:=base) (held:=held) (n:=m) (vs:=vs) Ss fs.toList 0 xs (hf m (by omega)) (by simpa using hx) (by omega) (fun i f h=>hi i f (by simpa using h))
 refine⟨tv,by simpa using h1,by omega,_,?_,h3⟩
 have:=hb.agg (xs.map (·.1))
 rw[List.map_map]at this
 exact this⟩
end
end Go.TVF
end
namespace Go.TVF
open Go.IntKind(i64 u8)
open Go Go.Proofs
section
abbrev decQs:List (Nat×(Nat->List TV->Prop)):=[(1,cellQ .bool),(1,strQ),(1,cellQ (.int .i64))]
abbrev timeQs:List (Nat×(Nat->List TV->Prop)):=[(1,cellQ (.int .i64)),(1,cellQ (.int .i64)),(1,cellQ (.int .i64)),(1,cellQ (.int .i64))]
def valQ (k:Nat) (tv:List TV):Prop:=∃v:Vl,VlR St.zero v tv/\v.sz<=k
def fldQ (k:Nat) (tv:List TV):Prop:=∃d:Fd,FdR St.zero d tv/\d.sz<=k
abbrev SL (c:Nat) (S:Nat->List TV->Prop) (k:Nat) (tv:List TV):Prop:=∃v,tv=[v]/\SlQ c S k v
abbrev inQ (Ss:List (Nat×(Nat->List TV->Prop))) (k:Nat) (tv:List TV):Prop:=∃k',k'+1<=k/\U0 Ss k' tv
abbrev valQs:List (Nat×(Nat->List TV->Prop)):=[(1,cellQ (.int .i64)),(1,cellQ .bool),(3,inQ decQs),(4,inQ timeQs),(1,strQ),(1,SL 1 (cellQ (.int .u8))),(1,SL 13 valQ),(1,SL 14 fldQ)]
abbrev fldQs:List (Nat×(Nat->List TV->Prop)):=[(1,strQ),(13,valQ)]
theorem SlQ.bytes {k:Nat} {v:TV} (h:SlQ 1 (cellQ (.int .u8)) k v):∃l:B8,SlR St.zero 1 v l.length (AJ l)/\l.length<=k:=by
 rcases h with rfl | ⟨ps,rfl,h,hk⟩
 ·exact⟨[],.inl (.inl ⟨rfl,rfl,rfl⟩),Nat.zero_le _⟩
 ·have:∃l:B8,l.length=ps.length/\(ps.map (·.1)).flatten=AJ l/\l.length<=(ps.map (·.2)).sum:=by
   clear hk
   induction ps with
   | nil=>exact⟨[],rfl,rfl,Nat.zero_le _⟩
   | cons p r ih=>
    obtain⟨l,h1,h2,h3⟩:=ih (fun q hq=>h q (.tail _ hq))
    obtain⟨hl,⟨n,ys,hp,hw,rfl⟩,h1k⟩:=h p (.head _)
    have hn:0<=n/\n<=255:=by simpa [Lit.wf,IntKind.min,IntKind.max,IntKind.signed,IntKind.bits]using hw
    refine⟨n.toNat.toUInt8::l,by simp[h1],?_,by simp only[List.length_cons,List.map_cons,List.sum_cons];omega⟩
    rw[List.map_cons,List.flatten_cons,hp,h2]
    simp only[AJ,List.map_cons,Ie,List.cons_append,List.nil_append,List.cons.injEq,and_true,TV.int.injEq,true_and]
    have:=Uu n.toNat (by omega)
    omega
  obtain⟨l,h1,h2,h3⟩:=this
  exact⟨l,.inl (.inr ⟨.non,by rw[h1,h2]⟩),by omega⟩
theorem SlQ.vals {k:Nat} {v:TV} (h:SlQ 13 valQ k v):∃l xl,SlR St.zero 13 v l.length xl/\VsR St.zero l xl/\CJ l<=k:=by
 rcases h with rfl | ⟨ps,rfl,h,hk⟩
 ·exact⟨[],[],.inl (.inl ⟨rfl,rfl,rfl⟩),by unfold VsR;rfl,by unfold CJ;exact Nat.zero_le _⟩
 ·have:∃l:List Vl,l.length=ps.length/\VsR St.zero l (ps.map (·.1)).flatten/\CJ l<=(ps.map (·.2)).sum:=by
   clear hk
   induction ps with
   | nil=>exact⟨[],rfl,by unfold VsR;rfl,by unfold CJ;exact Nat.zero_le _⟩
   | cons p r ih=>
    obtain⟨l,h1,h2,h3⟩:=ih (fun q hq=>h q (.tail _ hq))
    obtain⟨hl,v,hv,hz⟩:=h p (.head _)
    exact⟨v::l,by simp[h1],by unfold VsR;exact⟨_,_,by simp,hv,h2⟩,by unfold CJ;simp only[List.map_cons,List.sum_cons];omega⟩
  obtain⟨l,h1,h2,h3⟩:=this
  exact⟨l,_,.inl (.inr ⟨.non,by rw[h1]⟩),h2,by omega⟩
theorem SlQ.flds {k:Nat} {v:TV} (h:SlQ 14 fldQ k v):∃l xl,SlR St.zero 14 v l.length xl/\FsR St.zero l xl/\CX l<=k:=by
 rcases h with rfl | ⟨ps,rfl,h,hk⟩
 ·exact⟨[],[],.inl (.inl ⟨rfl,rfl,rfl⟩),by unfold FsR;rfl,by unfold CX;exact Nat.zero_le _⟩
 ·have:∃l:List Fd,l.length=ps.length/\FsR St.zero l (ps.map (·.1)).flatten/\CX l<=(ps.map (·.2)).sum:=by
   clear hk
   induction ps with
   | nil=>exact⟨[],rfl,by unfold FsR;rfl,by unfold CX;exact Nat.zero_le _⟩
   | cons p r ih=>
    obtain⟨l,h1,h2,h3⟩:=ih (fun q hq=>h q (.tail _ hq))
    obtain⟨hl,v,hv,hz⟩:=h p (.head _)
    exact⟨v::l,by simp[h1],by unfold FsR;exact⟨_,_,by simp,hv,h2⟩,by unfold CX;simp only[List.map_cons,List.sum_cons];omega⟩
  obtain⟨l,h1,h2,h3⟩:=this
  exact⟨l,_,.inl (.inr ⟨.non,by rw[h1]⟩),h2,by omega⟩
theorem E7 {kd:IntKind} {k:Nat} {tv:List TV} (h:cellQ (.int kd) k tv):∃n,tv=[.int kd n]:=by
 obtain⟨⟨n,ys,rfl,_,rfl⟩,_⟩:=h;exact⟨n,rfl⟩
theorem NO {k:Nat} {tv:List TV} (h:cellQ .bool k tv):∃b,tv=[.bool b]:=by
 obtain⟨⟨n,ys,rfl,rfl⟩,_⟩:=h;exact⟨n,rfl⟩
theorem each_field {k:Nat} {tv:List TV} (h:inQ fldQs k tv):fldQ k tv:=by
 obtain⟨k0,hk0,_,_,k1,k2,rfl,_,⟨key,rfl,_,hkey⟩,⟨_,_,k3,k4,rfl,_,⟨v,hv,hz⟩,rfl,h2⟩,h1⟩:=h
 refine⟨.mk key v,by unfold FdR;exact⟨_,by simp,hv⟩,by unfold Fd.sz;omega⟩
theorem each_value {k:Nat} {tv:List TV} (h:inQ valQs k tv):valQ k tv:=by
 obtain⟨k0,hk0,_,_,a1,r1,rfl,_,q1,⟨_,_,a2,r2,rfl,_,q2,⟨_,_,a3,r3,rfl,_,q3,⟨_,_,a4,r4,rfl,_,q4,⟨_,_,a5,r5,rfl,_,q5,⟨_,_,a6,r6,rfl,_,q6,⟨_,_,a7,r7,rfl,_,q7,⟨_,_,a8,r8,rfl,_,q8,rfl,h8⟩,h7⟩,h6⟩,h5⟩,h4⟩,h3⟩,h2⟩,h1⟩:=h
 obtain⟨kd,rfl⟩:=E7 q1
 obtain⟨bo,rfl⟩:=NO q2
 obtain⟨d0,hd0,_,_,d1,d2,rfl,_,p1,⟨_,_,d3,d4,rfl,_,⟨dg,rfl,_,hdg⟩,⟨_,_,d5,d6,rfl,_,p3,rfl,g3⟩,g2⟩,g1⟩:=q3
 obtain⟨ng,rfl⟩:=NO p1
 obtain⟨ex,rfl⟩:=E7 p3
 obtain⟨_,_,_,_,_,_,rfl,_,t1,⟨_,_,_,_,rfl,_,t2,⟨_,_,_,_,rfl,_,t3,⟨_,_,_,_,rfl,_,t4,rfl,_⟩,_⟩,_⟩,_⟩:=q4
 obtain⟨tk,rfl⟩:=E7 t1
 obtain⟨td,rfl⟩:=E7 t2
 obtain⟨tn,rfl⟩:=E7 t3
 obtain⟨tz,rfl⟩:=E7 t4
 obtain⟨tx,rfl,_,htx⟩:=q5
 obtain⟨ub,rfl,q6⟩:=q6
 obtain⟨ul,rfl,q7⟩:=q7
 obtain⟨uf,rfl,q8⟩:=q8
 obtain⟨bs,hb,hbl⟩:=q6.bytes
 obtain⟨l,xl,hl,hlv,hlz⟩:=q7.vals
 obtain⟨f,xf,hf,hfv,hfz⟩:=q8.flds
 refine⟨.mk ⟨kd,bo,ng,dg,ex,tk,td,tn,tz,tx,bs⟩ l f,?_,by rw[szs];simp only;omega⟩
 unfold VlR
 exact⟨ub,ul,uf,xl,xf,by simp,hb,hl,hlv,hf,hfv⟩
section
variable {H:Type} {enc:TypeId×Value->H} {P:Program} {w:World} {base b0:Nat} {held:Bool} {bk:DataW H->Nat}
end
end
section
def IsValU (t:TV):Prop:=∃v cs,t= .agg cs/\VlR St.zero v cs
section
variable {H:Type} {enc:TypeId×Value->H} {P:Program} {w:World} {base b0:Nat} {held:Bool} {bk:DataW H->Nat}
theorem open_valU {t:TypeId} {fs:Array Field} {v:Value} {d:DataW H} {p:List MemPlace} (ht:P.underlying t=some (.struct fs)) (hop:∀n,OpQ bk enc P w base held n 13 valQ t)
  (hval:Value.okWide P w .any b0 t v) (h:DataW.Trod enc P w base (fun _=>true) held t v d p):∃tv,Rel (Ghost.start w) w tv v/\IsValU tv:=by
 simp only[Value.okWide,ht]at hval
 obtain⟨vs,rfl,_,_⟩:=hval
 obtain⟨n,hn⟩:=h
 obtain⟨cs,hr,_,vl,hv,hz⟩:=(hop n).2 _ _ hn
 have:=Rel.agg cs vs.toList hr.1 hr.2
 rw[Array.toArray_toList]at this
 exact⟨_,this,vl,cs,rfl,hv⟩
end
end
def scZ:Sc:=⟨0,false,false,[],0,0,0,0,0,[],[]⟩
def JH (l:List Vl):Vl:= .mk {scZ with kind:=6} l []
def Wg (f:List Fd):Vl:= .mk {scZ with kind:=7} [] f
theorem VsR.nil (st:St):VsR st [] []:=by unfold VsR;rfl
theorem FsR.nil (st:St):FsR st [] []:=by unfold FsR;rfl
end Go.TVF
section
namespace Go.TVF
open Go.IntKind(i64 u8)
open Go Go.Proofs Go.RowKit
theorem P2 {b:Nat} {st:St} {K:TV->St->Prop} (hk:K (.box b 0) st):CallT PR Hp [.box b 0] [.one (.tv)] st K:=by
 refine PJ fun g w vargs s hr=>?_
 obtain⟨v,rfl,hv⟩:=Ww hr
 refine⟨v,w,?_,.box b 0,st,g,hk,s,hv,Ext.refl _ _⟩
 show(callFunc 300 #[v]).run Tryz.prog w=_
 rw[run_callFunc_extern Tryz.func300 (by kernel_rfl) (by kernel_rfl) (by kernel_rfl) (e:=Extern.AbiNoEscape.same) (by kernel_rfl)]
 rfl
def NT (st0:St) (b:Nat) (st:St) (buf:B8):Prop:=
 Ap st0 st/\st0.nb<=b/\b<st.nb/\st.bt b=some 188/\∃p v,st.box b= .cells [p,v]/\(p= .nilPtr∨p= .box b 0)/\
  ((v= .nilSlice/\buf=[])∨∃id,v= .list 1 (.own id) buf.length (AJ buf)/\buf≠ []/\st0.nt<=id/\id<st.nt/\st.live id=true/\st.ty id=some 5)
theorem NT.new {st0 st:St} (e:Ap st0 st):NT st0 st.nb (st.push (.cells [.nilPtr,.nilSlice]) (some 188)) []:=
 ⟨e.push _ _,e.nb,by simp[St.push],by simp[St.push],.nilPtr,.nilSlice,GG _ _ _,.inl rfl,.inl ⟨rfl,rfl⟩⟩
theorem Ol {st0 st:St} {b:Nat} {buf:B8} {K:St->Prop} (h:NT st0 b st buf) (hk:∀st',NT st0 b st' buf->K st'):CallT PR Br [.box b 0] [] st K:=by
 have h0:=h
 obtain⟨e,h1,h2,h3,p,v,hb,hp,hv⟩:=h
 refine Eu b st K (Ad (x:=p) (by simp[Ac,hb]) (Ab (by rcases hp with rfl | rfl<;>rfl) ?_))
 rcases hp with rfl | rfl
 ·refine(show BIf true _ _ from⟨by simp[Ac,hb],P2 ?_⟩)
  refine⟨⟨rfl,h3,_,hb,rfl⟩,Ab rfl ⟨_,hb,by simp,hk _ ?_⟩⟩
  exact⟨e.put h1 _,h1,h2,h3,.box b 0,v,Eh _ _ _,.inr rfl,hv⟩
 ·exact(show BIf false _ _ from Ad (x:= .box b 0) (by simp[Ac,hb]) ⟨rfl,hk st h0⟩)
theorem Et {st0 st:St} {b:Nat} {buf s:B8} {K:Int->TV->St->Prop} (h:NT st0 b st buf) (hl:buf.length+s.length<=140737488355328) (hk:∀st',NT st0 b st' (buf++s)->K (s.length:Int) .nilIface st'):
  CallT PR AP [.box b 0,.str s] [.one (.int .i64),.one (.tv)] st K:=by
 refine DX b s st K (Ol h fun st1 h1=>?_)
 obtain⟨e,a1,a2,a3,p,v,hb,hp,hv⟩:=h1
 refine Ad (x:=v) (by simp[Ac,hb]) (Ad (src_str st1 s) (Ab (S7 s) ?_))
 rcases hv with⟨rfl,rfl⟩ | ⟨id,rfl,n1,n2,n3,n4,n5⟩
 ·cases s with
  | nil=>
   simp only[BM,List.length_nil,AJ,List.map_nil]
   exact Ab rfl ⟨_,hb,by simp,hk _ ⟨e.put a1 _,a1,a2,a3,p,.nilSlice,Eh _ _ _,hp,.inl ⟨rfl,rfl⟩⟩⟩
  | cons c r=>
   simp only[BM,List.length_cons,Nat.mul_one]
   refine Ab (by simp only[List.length_nil,List.length_cons]at hl;simp;omega) (Ab rfl ⟨_,hb,by simp,hk _ ?_⟩)
   exact⟨(e.fresh _).put a1 _,a1,a2,a3,p,_,Eh _ _ _,hp,.inr ⟨st1.nt,rfl,by simp,e.nt,by simp[St.put,St.fresh],by simp[St.put,St.fresh],by simp[St.put,St.fresh]⟩⟩
 ·simp only[BM,Nat.beq_refl,Nat.mul_one]
  refine⟨hl,n4,Ab rfl ⟨_,hb,by simp,hk _ ?_⟩⟩
  refine⟨((e.retire n2).fresh _).put a1 _,a1,a2,a3,p,_,Eh _ _ _,hp,.inr ⟨st1.nt,?_,by simp[n1],e.nt,by simp[St.put,St.fresh,St.retire],by simp[St.put,St.fresh,St.retire],by simp[St.put,St.fresh,St.retire,n5,KB]⟩⟩
  rw[List.length_append,<-IU]
theorem Kj {st0 st:St} {b:Nat} {buf:B8} {K:B8->St->Prop} (h:NT st0 b st buf) (hl:buf.length<=140737488355328) (hk:∀st',Ap st0 st'->K buf st'):
  CallT PR BF [.box b 0] [.one (.str)] st K:=by
 obtain⟨e,h1,h2,h3,p,v,hb,hp,hv⟩:=h
 have hld:Ac st [] (.t (.box b 1)) 0=some v:=by simp[Ac,hb]
 rcases hv with⟨rfl,rfl⟩ | ⟨id,rfl,n1,n2,n3,n4,n5⟩
 ·refine CR b st K (Ad hld (Ad (x:= .nilPtr) rfl (Ad hld (Ab rfl ?_))))
  exact⟨rfl,hk st e⟩
 ·refine CR b st K (Ad hld (Ad (x:= .sptr (.list 1 (.own id) buf.length (AJ buf))) ?_ (Ad hld (Ab rfl ?_))))
  case refine_2=>exact⟨⟨rfl,by omega,n4,n5⟩,Ad (DR buf) (hk _ (e.retire n2))⟩
  simp only[MP]
  cases hz:buf.length.beq 0 with
  | true=>exact absurd (List.eq_nil_of_length_eq_zero (Nat.eq_of_beq_eq_true hz)) n1
  | false=>rfl
end Go.TVF
end
namespace Go.TVF
open Go.IntKind(i64 u8)
open Go Go.Proofs
theorem QY {s:B8} {I:Int} {i:Nat} {st:St} {K:Int->Int->St->Prop} (hI:I=(i:Int)) (hl:s.length<=2000000) (hi:i<=s.length) (hk:K ((rD (s.drop i)).1:Nat) ((rD (s.drop i)).2:Nat) st):
  CallT PR Dd [.str s,.int .i64 I] [.one (.int .i64),.one (.int .i64)] st K:=by
 have no:¬LZ (s.drop i)->s.drop i≠ []->K 0 0 st:=fun h hne=>by
  have:ul (s.drop i)=0:=Decidable.byContradiction fun h0=>h (WI _ hne h0)
  unfold rD at hk
  rw[if_pos this]at hk;exact hk
 have yes:LZ (s.drop i)->s.drop i≠ []->K (BT (s.drop i) (hdB (bt (s.drop i) 0)) (hdS (bt (s.drop i) 0)-1):Nat) (hdS (bt (s.drop i) 0):Nat) st:=fun h hne=>by
  have hv:=WH _ hne h
  unfold rD at hk
  rw[if_neg (by rw[hv.1];exact h.1),hv.1,hv.2]at hk
  exact hk
 have hlen:(s.drop i).length=s.length-i:=by simp
 have hb:∀j,bt (s.drop i) j=(s.getD (i+j) 0).toNat:=UT s i
 refine IB s I st K (Aa (fun h=>by omega) fun _=>Aa (fun h=>?_) fun h=>⟨⟨by omega,by omega⟩,?_⟩)
 ·have:s.drop i=[]:=List.drop_of_length_le (by omega)
  have h0:rD (s.drop i)=(0,0):=by rw[this];simp[rD,ul]
  rw[h0]at hk;exact hk
 have hne:s.drop i≠ []:=by
  intro h0
  have:=congrArg List.length h0
  rw[hlen]at this;simp only[List.length_nil]at this;omega
 have hb0:(List.getD s (Int.toNat I) 0).toNat=bt (s.drop i) 0:=by rw[hb,hI];rfl
 have hlt:=EM (s.drop i) 0
 rw[hb0]
 refine UA rfl hlt ?_
 have hsz:hdS (bt (s.drop i) 0)<=4:=by unfold hdS;(repeat' split)<;>omega
 have hbz:hdB (bt (s.drop i) 0)<256:=by unfold hdB;(repeat' split)<;>omega
 unfold LZ at no yes
 generalize hdS (bt (s.drop i) 0)=n at*
 generalize hdB (bt (s.drop i) 0)=r0 at*
 rw[Ai _ (by omega) (by omega)]
 refine Aa (fun g=>no (fun hh=>hh.1 (by omega)) hne) fun g1=>Aa (fun g=>no (fun hh=>by omega) hne) fun g2=>?_
 have hra:=PY (s.drop i) r0 hbz
 refine⟨fun r j s' at' sz st2=>s=s'/\I=at'/\st=st2/\((n:Nat):Int)=sz/\∃k:Nat,j=((k+1:Nat):Int)/\k+1<=n/\r=((BT (s.drop i) r0 k:Nat):Int)/\∀m,1<=m->m<=k->bt (s.drop i) m/64=2,fun _ j _ _ sz _=>(sz-j).toNat,⟨rfl,rfl,rfl,rfl,0,rfl,by omega,rfl,fun m h1 h2=>by omega⟩,?_⟩
 rintro _ _ _ _ _ _ ⟨rfl,rfl,rfl,rfl,k,rfl,hk1,rfl,hall⟩
 have hrk:=hra k
 have h64:64^k<=64^3:=Nat.pow_le_pow_right (by decide) (by omega)
 refine Aa (fun h2=>?_) fun h2=>?_
 ·rw[Ai (I+((k+1:Nat):Int)) (by omega) (by omega)]
  have hbk:(List.getD s (Int.toNat (I+((k+1:Nat):Int))) 0).toNat=bt (s.drop i) (k+1):=by
   rw[hb,show Int.toNat (I+((k+1:Nat):Int))=i+(k+1) by omega]
  have hbl:=EM (s.drop i) (k+1)
  have h192:B0 .and .u8 ((bt (s.drop i) (k+1):Nat):Int) (192:Int)=((bt (s.drop i) (k+1)&&&192:Nat):Int):=TY _ 192 hbl (by decide)
  have hand:i64.wrap (B0 .and .u8 ((bt (s.drop i) (k+1):Nat):Int) (63:Int))=((bt (s.drop i) (k+1)%64:Nat):Int):=by
   rw[show(63:Int)=((2^6-1:Nat):Int) by decide,GH _ 6 hbl (by decide),Ai _ (by omega) (by omega)]
  have hmul:i64.wrap (((BT (s.drop i) r0 k:Nat):Int)*2^(min (Int.toNat (6:Int)) (IntKind.bits .i64)))=((BT (s.drop i) r0 k*2^6:Nat):Int):=by
   rw[show(2:Int)^(min (Int.toNat (6:Int)) (IntKind.bits .i64))=64 by decide,Ai _ (by omega) (by omega)];omega
  have hc:(bt (s.drop i) (k+1)&&&192)=128↔bt (s.drop i) (k+1)/64=2:=by
   have:∀x,x<256->((x&&&192)=128↔x/64=2):=by decide+kernel
   exact this _ hbl
  refine⟨⟨by omega,by omega⟩,?_⟩
  rw[hbk,h192,hand,hmul,WN _ _ 6 (by omega) (by omega),Ai _ (by omega) (by omega)]
  refine Aa (fun h3=>no (fun hh=>h3 ?_) hne) fun h3=>?_
  ·have:=hh.2.2.1 (k+1) (by omega) (by omega)
   rw[hc.2 this];rfl
  ·have h4:bt (s.drop i) (k+1)/64=2:=hc.1 (by omega)
   refine⟨⟨rfl,rfl,rfl,rfl,k+1,by omega,by omega,by simp only[BT],fun m m1 m2=>?_⟩,by dsimp only;omega⟩
   by_cases hm:m=k+1
   ·rw[hm];exact h4
   ·exact hall m m1 (by omega)
 ·have hks:k=n-1:=by omega
  subst hks
  refine OF rfl (Ar (fun h3=>no (fun hh=>?_) hne) fun h3=>QJ rfl (Aa (fun h4=>no (fun hh=>?_) hne) fun h4=>?_))
  ·simp only[Bool.not_eq_true',decide_eq_false_iff_not]at h3
   exact h3 hh.2.2.2.1
  ·rw[hh.2.2.2.2]at h4;exact h4 rfl
  ·simp only[Bool.not_eq_false',decide_eq_true_eq]at h3
   exact yes ⟨by omega,by omega,fun m m1 m2=>hall m m1 (by omega),h3,by omega⟩ hne
theorem To {s:B8} {st:St} {K:Int->St->Prop} (hl:s.length<=2000000) (hk:K (if vlen s=s.length then-1 else((vlen s:Nat):Int)) st):CallT PR D6 [.str s] [.one (.int .i64)] st K:=by
 have hv:=QP s
 refine Kr s st K ⟨fun i s' st'=>s=s'/\st=st'/\∃k:Nat,i=(k:Int)/\k<=s.length/\k+vlen (s.drop k)=vlen s,fun i _ _=>(s.length-i).toNat,⟨rfl,rfl,0,rfl,by omega,by simp⟩,?_⟩
 rintro _ _ _ ⟨rfl,rfl,k,rfl,h1,h2⟩
 refine Aa (fun g1=>QY rfl hl h1 ?_) fun g1=>?_
 ·have hle:=My (s.drop k)
  rw[List.length_drop]at hle
  unfold rD
  by_cases h0:ul (s.drop k)=0
  ·rw[if_pos h0]
   rw[Dr _ h0]at h2
   rw[if_neg (by omega)]at hk
   refine Aa (fun _=>?_) fun h=>absurd rfl h
   rw[show k=vlen s by omega];exact hk
  ·rw[if_neg h0]
   rw[Ds _ h0,List.drop_drop]at h2
   refine Aa (fun h=>absurd h (by show ¬((ul (s.drop k):Nat):Int)=0;omega)) fun _=>?_
   have w:i64.wrap ((k:Int)+(ul (s.drop k):Nat))=((k+ul (s.drop k):Nat):Int):=by rw[Ai _ (by omega) (by omega)];omega
   dsimp only
   rw[w]
   exact⟨⟨rfl,rfl,_,rfl,by omega,by omega⟩,by omega⟩
 ·rw[show s.drop k=[]from List.drop_of_length_le (by omega),Cc]at h2
  rw[if_pos (by omega)]at hk;exact hk
section
inductive Nd where
 | mk (kind:Int) (lead text:B8) (kids:List Nd) (tail:B8)
mutual
def NdC:Nd->List TV->Prop
 | .mk k l t ks tl,cs=>∃v xs,cs=[.int .i64 k,.str l,.str t,v,.str tl]/\Rd 5 v ks.length xs/\Bm ks xs
def Bm:List Nd->List TV->Prop
 | [],xs=>xs=[]
 | n::r,xs=>∃a b,xs=a++b/\NdC n a/\Bm r b
end
theorem NdC.len {n:Nd} {cs:List TV} (h:NdC n cs):cs.length=5:=by
 cases n
 unfold NdC at h
 obtain⟨v,xs,rfl,_⟩:=h
 rfl
theorem Bm.get:∀{ks:List Nd} {xs:List TV},Bm ks xs->∀{i:Nat} {n:Nd},ks[i]? =some n->∃cs,NdC n cs/\∀j x,cs[j]? =some x->xs[i*5+j]? =some x
 | [],xs,h,i,n,hi=>by simp at hi
 | m::r,xs,h,0,n,hi=>by
  unfold Bm at h
  obtain⟨a,b,rfl,ha,hb⟩:=h
  simp only[List.getElem?_cons_zero,Option.some.injEq]at hi
  subst hi
  refine⟨a,ha,fun j x hj=>?_⟩
  rw[Nat.zero_mul,Nat.zero_add,List.getElem?_append_left (List.getElem?_eq_some_iff.1 hj).1]
  exact hj
 | m::r,xs,h,i+1,n,hi=>by
  unfold Bm at h
  obtain⟨a,b,rfl,ha,hb⟩:=h
  obtain⟨cs,h1,h2⟩:=hb.get (i:=i) (n:=n) (by simpa using hi)
  refine⟨cs,h1,fun j x hj=>?_⟩
  have hl:=ha.len
  rw[List.getElem?_append_right (by omega),show(i+1)*5+j-a.length=i*5+j by omega]
  exact h2 j x hj
theorem Bm.append:∀{ks js:List Nd} {xs ys:List TV},Bm ks xs->Bm js ys->Bm (ks++js) (xs++ys)
 | [],js,xs,ys,h,g=>by unfold Bm at h;subst h;exact g
 | n::r,js,xs,ys,h,g=>by
  unfold Bm at h
  obtain⟨a,b,rfl,ha,hb⟩:=h
  rw[List.cons_append]
  unfold Bm
  exact⟨a,b++ys,by rw[List.append_assoc],ha,hb.append g⟩
theorem Bm.one {n:Nd} {cs:List TV} (h:NdC n cs):Bm [n] cs:=by
 unfold Bm
 exact⟨cs,[],by simp,h,by unfold Bm;rfl⟩
theorem Bm.nil:Bm [] []:=by unfold Bm;rfl
theorem K4 {v:TV} {ks:List Nd} {xs:List TV} (hr:Rd 5 v ks.length xs) (hk:Bm ks xs) (st:St) {i:Nat} {k:Int} {l t tl:B8} {js:List Nd} (hi:ks[i]? =some (.mk k l t js tl)):
  ∃u ys,(Ah st [] (.t (ixT 5 v i)) 0 5).map TV.agg=some (.agg [.int .i64 k,.str l,.str t,u,.str tl])/\Rd 5 u js.length ys/\Bm js ys/\At u=true:=by
 obtain⟨cs,hc,hx⟩:=hk.get hi
 unfold NdC at hc
 obtain⟨u,ys,rfl,h1,h2⟩:=hc
 refine⟨u,ys,?_,h1,h2,h1.one⟩
 simp only[Ah,Nat.zero_add,Nat.reduceAdd]
 rw[hr.ldx st i 0 (hx 0 _ rfl),hr.ldx st i 1 (hx 1 _ rfl),hr.ldx st i 2 (hx 2 _ rfl),hr.ldx st i 3 (hx 3 _ rfl),hr.ldx st i 4 (hx 4 _ rfl)]
 rfl
theorem D1 {k:Int} {l t tl:B8} {u:TV} (h:At u=true):List.all [.int .i64 k,.str l,.str t,u,.str tl] At=true:=by
 simp only[List.all_cons,h];rfl
mutual
def Ex:Nd->Nat
 | .mk _ _ _ ks _=>1+Jl ks
def Jl:List Nd->Nat
 | []=>0
 | n::r=>Ex n+Jl r
end
theorem WU (n:Nd):1<=Ex n:=by cases n;unfold Ex;omega
theorem GC:∀ks:List Nd,ks.length<=Jl ks
 | []=>by simp[Jl]
 | n::r=>by
  have h1:=WU n
  have h2:=GC r
  simp only[Jl,List.length_cons];omega
theorem GB:∀(ks:List Nd) {i:Nat} {n:Nd} (h:ks[i]? =some n),Ex n<=Jl ks
 | [],i,n,h=>by simp at h
 | m::r,0,n,h=>by simp only[List.getElem?_cons_zero,Option.some.injEq]at h;subst h;simp only[Jl];omega
 | m::r,i+1,n,h=>by
  have:=GB r (i:=i) (n:=n) (by simpa using h)
  simp only[Jl];omega
mutual
def DT:Nd->Nat
 | .mk _ l t ks tl=>l.length+t.length+tl.length+Gz ks
def Gz:List Nd->Nat
 | []=>0
 | n::r=>DT n+Gz r
end
mutual
def CU:Nd->B8
 | .mk _ l t ks tl=>l++t++Fk ks++tl
def Fk:List Nd->B8
 | []=>[]
 | n::r=>CU n++Fk r
end
mutual
theorem D2:∀n:Nd,(CU n).length=DT n
 | .mk _ l t ks tl=>by
  have:=K3 ks
  simp only[CU,DT,List.length_append];omega
theorem K3:∀ks:List Nd,(Fk ks).length=Gz ks
 | []=>rfl
 | n::r=>by
  have h1:=D2 n
  have h2:=K3 r
  simp only[Fk,Gz,List.length_append];omega
end
theorem O1 (ks:List Nd) (i:Nat) (n:Nd) (h:ks[i]? =some n):Gz (ks.take (i+1))=Gz (ks.take i)+DT n:=by
 rw[List.take_add_one,h]
 generalize ks.take i=a
 induction a with
 | nil=>simp[Gz]
 | cons m r ih=>simp only[Option.toList_some,List.cons_append,Gz]at ih⊢;omega
theorem Tj (ks:List Nd) (i:Nat):Gz ks=Gz (ks.take i)+Gz (ks.drop i):=by
 conv=>lhs;rw[<-List.take_append_drop i ks]
 generalize ks.take i=a
 induction a with
 | nil=>simp[Gz]
 | cons m r ih=>simp only[List.cons_append,Gz]at ih⊢;omega
theorem J5 (ks:List Nd) (i:Nat) (n:Nd) (h:ks[i]? =some n):Gz (ks.take i)+DT n<=Gz ks:=by
 have h1:=O1 ks i n h
 have h2:=Tj ks (i+1)
 omega
theorem Ti (ks:List Nd) (i:Nat) (n:Nd) (h:ks[i]? =some n):Fk (ks.take (i+1))=Fk (ks.take i)++CU n:=by
 rw[List.take_add_one,h]
 generalize ks.take i=a
 induction a with
 | nil=>simp[Fk]
 | cons m r ih=>simp only[Option.toList_some,List.cons_append,Fk,List.append_assoc]at ih⊢;rw[ih]
theorem Bb {ks:List Nd} {i:Nat} {n:Nd} (h:ks[i]? =some n):n∈ks:=List.mem_of_getElem? h
theorem Uj:∀(n:Nd) {cs:List TV} (hc:NdC n cs) (hl:DT n<=1000000000000000) (hcn:Ex n<=1000000000000000) {st:St} {K:Int->St->Prop} (hk:K (DT n:Nat) st),CallT PR FM [.agg cs] [.one (.int .i64)] st K
 | .mk k l t ks tl,cs,hc,hl,hcn,st,K,hk=>by
  simp only[Ex]at hcn
  have hkl0:=GC ks
  unfold NdC at hc
  obtain⟨v,xs,rfl,hr,hx⟩:=hc
  simp only[DT]at hl hk
  refine QS k l t v tl st K (Ab hr.isSl ⟨fun s i w n st'=>v=w/\n=(ks.length:Int)/\st=st'/\∃j:Nat,i=(j:Int)/\j<=ks.length/\s=((l.length+t.length+tl.length+Gz (ks.take j):Nat):Int),fun _ i _ _ _=>(ks.length-i).toNat,⟨rfl,by rw[hr.lenS],rfl,0,rfl,by omega,?_⟩,?_⟩)
  ·rw[Ai ((l.length:Int)+t.length) (by omega) (by omega),Ai _ (by omega) (by omega)]
   simp only[List.take_zero,Gz];omega
  rintro _ _ _ _ _ ⟨rfl,rfl,rfl,j,rfl,h1,rfl⟩
  rw[hr.lenZ,show Int.toNat (j:Int)=j from rfl]
  refine Aa (fun g=>?_) fun g=>?_
  ·have hlt:j<ks.length:=by omega
   have hget:=List.getElem?_eq_getElem hlt
   generalize hn:ks[j]=n at hget
   obtain⟨k',l',t',js,tl'⟩:=n
   obtain⟨u,ys,hld,h2,h3,h4⟩:=K4 hr hx st hget
   have hm:=J5 ks j _ hget
   have hcm:=GB ks hget
   have ht:=O1 ks j _ hget
   refine⟨⟨by omega,by omega⟩,Ad hld (Ab (D1 h4) ?_)⟩
   refine Uj (.mk k' l' t' js tl') (by unfold NdC;exact⟨u,ys,rfl,h2,h3⟩) (by omega) (by omega) ?_
   have w1:i64.wrap (((l.length+t.length+tl.length+Gz (ks.take j):Nat):Int)+(DT (.mk k' l' t' js tl'):Nat))=((l.length+t.length+tl.length+Gz (ks.take (j+1)):Nat):Int):=by
    rw[Ai _ (by omega) (by omega)];omega
   have w2:i64.wrap ((j:Int)+1)=((j+1:Nat):Int):=by rw[Ai _ (by omega) (by omega)];omega
   rw[w1,w2]
   exact⟨⟨rfl,rfl,rfl,j+1,rfl,by omega,rfl⟩,by dsimp only;omega⟩
  ·rw[List.take_of_length_le (by omega)];exact hk
termination_by n=>SizeOf.sizeOf n
decreasing_by
 have:=List.sizeOf_lt_of_mem (Bb hget)
 simp only[Nd.mk.sizeOf_spec]at this⊢
 omega
theorem Ot:∀(n:Nd) {cs:List TV} (hc:NdC n cs) {st0 st:St} {b:Nat} {buf:B8} (hb:NT st0 b st buf) (hl:buf.length+DT n<=100000000000000) (hcn:Ex n<=1000000000000000) {K:St->Prop} (hk:∀st',NT st0 b st' (buf++CU n)->K st'),CallT PR Ef [.box b 0,.agg cs] [] st K
 | .mk k l t ks tl,cs,hc,st0,st,b,buf,hb,hl,hcn,K,hk=>by
  simp only[Ex]at hcn
  have hkl0:=GC ks
  unfold NdC at hc
  obtain⟨v,xs,rfl,hr,hx⟩:=hc
  simp only[DT]at hl
  simp only[CU]at hk
  refine N2 b k l t v tl st K (Et hb (by omega) fun st1 b1=>Et b1 (by rw[List.length_append];omega) fun st2 b2=>Ab hr.isSl ?_)
  refine⟨fun i b' w n k' l' t' w' tl' st'=>TV.box b 0=b'/\v=w/\n=(ks.length:Int)/\tl=tl'/\∃j:Nat,i=(j:Int)/\j<=ks.length/\NT st0 b st' (buf++l++t++Fk (ks.take j)),fun i _ _ _ _ _ _ _ _ _=>(ks.length-i).toNat,⟨rfl,rfl,by rw[hr.lenS],rfl,0,rfl,by omega,by simpa [Fk]using b2⟩,?_⟩
  rintro _ _ _ _ _ _ _ _ _ st3 ⟨rfl,rfl,rfl,rfl,j,rfl,h1,b3⟩
  rw[hr.lenZ,show Int.toNat (j:Int)=j from rfl]
  have hkl:=K3 (ks.take j)
  refine Aa (fun g=>?_) fun g=>?_
  ·have hlt:j<ks.length:=by omega
   have hget:=List.getElem?_eq_getElem hlt
   generalize hn:ks[j]=n at hget
   obtain⟨k',l',t',js,tl'⟩:=n
   obtain⟨u,ys,hld,h2,h3,h4⟩:=K4 hr hx st3 hget
   have hm:=J5 ks j _ hget
   have hcm:=GB ks hget
   have ht:=Ti ks j _ hget
   refine⟨⟨by omega,by omega⟩,Ad hld (Ab (D1 h4) ?_)⟩
   refine Ot (.mk k' l' t' js tl') (by unfold NdC;exact⟨u,ys,rfl,h2,h3⟩) b3 (by simp only[List.length_append];omega) (by omega) fun st4 b4=>?_
   rw[Ai ((j:Int)+1) (by omega) (by omega)]
   exact⟨⟨rfl,rfl,rfl,rfl,j+1,by omega,by omega,by rw[ht];simpa using b4⟩,by dsimp only;omega⟩
  ·rw[List.take_of_length_le (by omega)]at hkl b3
   exact Et b3 (by simp only[List.length_append];omega) fun st4 b4=>hk st4 (by simpa using b4)
termination_by n=>SizeOf.sizeOf n
decreasing_by
 have:=List.sizeOf_lt_of_mem (Bb hget)
 simp only[Nd.mk.sizeOf_spec]at this⊢
 omega
theorem U5 {n:Nd} {cs:List TV} (hc:NdC n cs) (hl:DT n<=100000000000000) (hcn:Ex n<=1000000000000000) {st:St} {K:B8->St->Prop} (hk:∀st',Ap st st'->K (CU n) st'):CallT PR Gd [.agg cs] [.one (.str)] st K:=by
 have hc0:=hc
 obtain⟨k,l,t,ks,tl⟩:=n
 unfold NdC at hc
 obtain⟨v,xs,rfl,hr,hx⟩:=hc
 refine N4 k l t v tl st K (Ot _ hc0 (NT.new (Ap.refl st)) (by simpa using hl) hcn fun st1 b1=>?_)
 have hn:=D2 (.mk k l t ks tl)
 exact Kj b1 (by simp only[List.nil_append];omega) fun st2 e=>hk st2 e
def IL (k:Int):Bool:=decide (k=2∨k=6∨k=10∨k=11)
theorem leaf_ok {k:Int} {st:St} {K:Bool->St->Prop} (hk:K (IL k) st):CallT PR G7 [.int .i64 k] [.one (.bool)] st K:=by
 unfold IL at hk
 refine Py k st K ?_
 repeat' first
  | exact Er (decide_eq_true (by omega)).symm hk
  | exact Er (decide_eq_false (by omega)).symm hk
  | refine Aa (fun _=>?_) fun _=>?_
mutual
def chk:Nd->Int->Int->Except Int Int
 | .mk k l t ks tl,d,s=>if 192<d then .error 9 else if 524288<=s then .error 10 else if k<1∨11<k then .error 6
  else if IL k=true/\(ks.length≠0∨tl≠ [])then .error 1 else HE ks (d+1) (s+1)
def HE:List Nd->Int->Int->Except Int Int
 | [],d,s=> .ok s
 | n::r,d,s=>match chk n d s with | .error e=> .error e | .ok s'=>HE r d s'
end
end
section
mutual
theorem Pk:∀(n:Nd) {d s s':Int},s<=524288->chk n d s= .ok s'->s<=s'/\s'<=524288
 | .mk k l t ks tl,d,s,s',hs,h=>by
  unfold chk at h
  split at h
  ·cases h
  split at h
  ·cases h
  split at h
  ·cases h
  split at h
  ·cases h
  have:=NN ks (by omega) h
  omega
theorem NN:∀(ks:List Nd) {d s s':Int},s<=524288->HE ks d s= .ok s'->s<=s'/\s'<=524288
 | [],d,s,s',hs,h=>by unfold HE at h;cases h;omega
 | n::r,d,s,s',hs,h=>by
  unfold HE at h
  split at h
  ·cases h
  ·rename_i s1 h1
   have h2:=Pk n hs h1
   have h3:=NN r h2.2 h
   omega
end
mutual
theorem He:∀(n:Nd) {d s e:Int},chk n d s= .error e->e≠0
 | .mk k l t ks tl,d,s,e,h=>by
  unfold chk at h
  split at h
  ·cases h;decide
  split at h
  ·cases h;decide
  split at h
  ·cases h;decide
  split at h
  ·cases h;decide
  exact LC ks h
theorem LC:∀(ks:List Nd) {d s e:Int},HE ks d s= .error e->e≠0
 | [],d,s,e,h=>by unfold HE at h;cases h
 | n::r,d,s,e,h=>by
  unfold HE at h
  split at h
  ·rename_i e1 h1;cases h;exact He n h1
  ·exact LC r h
end
theorem Aq {k:IntKind} {n:Int} {f:Int->Prop} (h:f n):Af (.int k) (.int k n) f:=Ab (by simp) h
def UV (st0:St) (b:Nat) (st:St) (s:Int):Prop:=Ap st0 st/\st0.nb<=b/\st.box b= .cells [.int .i64 s]
theorem OA:∀(n:Nd) {cs:List TV} (hc:NdC n cs) {d s:Int} (hd0:0<=d) (hd:d<=200) (hs0:0<=s) (hs:s<=524288) (hcn:Ex n<=1000000000000000) {st0 st:St} {b:Nat} (hb:UV st0 b st s) {K:Int->St->Prop}
  (hk1:∀s' st',chk n d s= .ok s'->UV st0 b st' s'->K 0 st') (hk2:∀e st',chk n d s= .error e->Ap st0 st'->K e st'),CallT PR De [.agg cs,.int .i64 d,.box b 0] [.one (.int .i64)] st K
 | .mk k l t ks tl,cs,hc,d,s,hd0,hd,hs0,hs,hcn,st0,st,b,hb,K,hk1,hk2=>by
  simp only[Ex]at hcn
  have hkl0:=GC ks
  unfold NdC at hc
  obtain⟨v,xs,rfl,hr,hx⟩:=hc
  unfold chk at hk1 hk2
  obtain⟨hb1,hb2,hb3⟩:=hb
  refine N3 k l t v tl d b st K (Aa (fun g=>?_) fun g=>?_)
  ·rw[if_pos g]at hk2;exact hk2 _ _ rfl hb1
  rw[if_neg g]at hk1 hk2
  refine Ad (x:= .int .i64 s) (by simp[Ac,hb3]) ?_
  refine Aq (Un hb3 (by simp) ?_)
  rw[Ai (s+1) (by omega) (by omega)]
  obtain⟨st1,hst1⟩:∃st1,st1=st.put b (.cells (setAll [.int .i64 s] 0 [.int .i64 (s+1)])):=⟨_,rfl⟩
  have hb4:st1.box b= .cells [.int .i64 (s+1)]:=by rw[hst1,Eh];rfl
  have hb5:UV st0 b st1 (s+1):=⟨by rw[hst1];exact hb1.put hb2 _,hb2,hb4⟩
  rw[<-hst1]
  refine Ad (x:= .int .i64 (s+1)) (by simp[Ac,hb4]) (Aq (Aa (fun g2=>?_) fun g2=>?_))
  ·rw[if_pos (by omega)]at hk2;exact hk2 _ _ rfl hb5.1
  rw[if_neg (by omega)]at hk1 hk2
  refine Aa (fun g3=>?_) fun g3=>Aa (fun g4=>?_) fun g4=>?_
  ·rw[if_pos (by omega)]at hk2;exact hk2 _ _ rfl hb5.1
  ·rw[if_pos (by omega)]at hk2;exact hk2 _ _ rfl hb5.1
  rw[if_neg (by omega)]at hk1 hk2
  refine leaf_ok (Ar (fun hl=>Ab hr.isSl ?_) fun hl=>Ab hr.isSl ?_)
  case' refine_1=>
   rw[hr.lenS]
   refine Aa (fun g5=>?_) fun g5=>Aa (fun g6=>?_) fun g6=>Ab hr.isSl ?_
   ·rw[if_pos ⟨hl,.inl (by omega)⟩]at hk2;exact hk2 _ _ rfl hb5.1
   ·rw[if_pos ⟨hl,.inr g6⟩]at hk2;exact hk2 _ _ rfl hb5.1
   rw[if_neg (by rintro⟨_,h | h⟩;omega;exact g6 h)]at hk1 hk2
  case' refine_2=>rw[if_neg (by rintro⟨h,_⟩;rw[hl]at h;cases h)]at hk1 hk2
  all_goals
   refine⟨fun i d' sn v' n st'=>v=v'/\TV.box b 0=sn/\d=d'/\n=(ks.length:Int)/\∃(j:Nat) (s1:Int),i=(j:Int)/\j<=ks.length/\UV st0 b st' s1/\HE ks (d+1) (s+1)=HE (ks.drop j) (d+1) s1/\0<=s1/\s1<=524288,
    fun i _ _ _ _ _=>(ks.length-i).toNat,⟨rfl,rfl,rfl,by first | rw[hr.lenS] | rfl,0,s+1,rfl,by omega,hb5,rfl,by omega,by omega⟩,?_⟩
   rintro _ _ _ _ _ st2 ⟨rfl,rfl,rfl,rfl,j,s1,rfl,h1,hb6,heq,h2,h3⟩
   rw[hr.lenZ,show Int.toNat (j:Int)=j from rfl]
   refine Aa (fun q=>?_) fun q=>?_
   ·have hlt:j<ks.length:=by omega
    have hget:=List.getElem?_eq_getElem hlt
    have hdrop:=List.drop_eq_getElem_cons hlt
    generalize hn:ks[j]=n at hget hdrop
    obtain⟨k',l',t',js,tl'⟩:=n
    obtain⟨u,ys,hld,hu1,hu2,hu3⟩:=K4 hr hx st2 hget
    have hcm:=GB ks hget
    rw[hdrop,HE]at heq
    refine⟨⟨by omega,by omega⟩,Ad hld (Ab (D1 hu3) ?_)⟩
    rw[Ai (d+1) (by omega) (by omega),Ai ((j:Int)+1) (by omega) (by omega)]
    refine OA (.mk k' l' t' js tl') (by unfold NdC;exact⟨u,ys,rfl,hu1,hu2⟩) (by omega) (by omega) h2 h3 (by omega) hb6 (fun s' st3 hc hb7=>?_) fun e st3 hc hb7=>?_
    ·rw[hc]at heq
     have:=Pk _ h3 hc
     exact Aa (fun h=>absurd rfl h) fun _=>⟨⟨rfl,rfl,rfl,rfl,j+1,s',by omega,by omega,hb7,heq,by omega,by omega⟩,by dsimp only;omega⟩
    ·rw[hc]at heq
     exact Aa (fun _=>hk2 e st3 heq hb7) fun h=>absurd (Decidable.not_not.1 h) (He _ hc)
   ·rw[List.drop_of_length_le (by omega),HE]at heq
    exact hk1 _ _ heq hb6
termination_by n=>SizeOf.sizeOf n
decreasing_by
 all_goals
  have:=List.sizeOf_lt_of_mem (Bb hget)
  simp only[Nd.mk.sizeOf_spec]at this⊢
  omega
def Ki (n:Nd):Int:=match chk n 1 0 with
 | .error e=>e
 | .ok _=>if 1048576<DT n then 10 else 0
theorem Vd {n:Nd} {cs:List TV} (hc:NdC n cs) (hl:DT n<=1000000000000000) (hcn:Ex n<=1000000000000000) {st:St} {K:Int->St->Prop} (hk:∀st',Ap st st'->K (Ki n) st'):CallT PR Ge [.agg cs] [.one (.int .i64)] st K:=by
 have hc0:=hc
 obtain⟨k,l,t,ks,tl⟩:=n
 unfold NdC at hc
 obtain⟨v,xs,rfl,hr,hx⟩:=hc
 unfold Ki at hk
 refine N5 k l t v tl st K (Un (GG st _ _) (by simp) (OA _ hc0 (d:=1) (s:=0) (by decide) (by decide) (by decide) (by decide) hcn (st0:=st) ⟨?_,Nat.le_refl _,by rw[Eh];rfl⟩ (fun s' st' hc hb=>?_) fun e st' hc hb=>?_))
 ·exact((Ap.refl st).push _ _).put (Nat.le_refl _) _
 ·rw[hc]at hk
  refine Aa (fun h=>absurd rfl h) fun _=>Uj _ hc0 hl hcn (Aa (fun g=>?_) fun g=>?_)
  ·have:=hk _ hb.1
   rw[if_pos (by omega)]at this;exact this
  ·have:=hk _ hb.1
   rw[if_neg (by omega)]at this;exact this
 ·rw[hc]at hk
  exact Aa (fun _=>hk _ hb) fun h=>absurd (Decidable.not_not.1 h) (He _ hc)
end
theorem Q0:∀(a b:Nd) {cs ds:List TV} (hc:NdC a cs) (hd:NdC b ds) (hcn:Ex a<=1000000000000000) {st:St} {K:Bool->St->Prop} (hk1:a=b->K true st) (hk2:a≠b->K false st),
  CallT PR EV [.agg cs,.agg ds] [.one (.bool)] st K
 | .mk k l t ks tl,.mk k' l' t' js tl',cs,ds,hc,hd,hcn,st,K,hk1,hk2=>by
  simp only[Ex]at hcn
  have hkl0:=GC ks
  unfold NdC at hc hd
  obtain⟨v,xs,rfl,hr,hx⟩:=hc
  obtain⟨u,ys,rfl,hr',hy⟩:=hd
  refine Pz k l t v tl k' l' t' u tl' st K (Aa (fun g=>hk2 fun h=>by cases h;exact g rfl) fun g1=>Aa (fun g=>hk2 fun h=>by cases h;exact g rfl) fun g2=>Aa (fun g=>hk2 fun h=>by cases h;exact g rfl) fun g3=>
   Aa (fun g=>hk2 fun h=>by cases h;exact g rfl) fun g4=>Ab hr.isSl (Ab hr'.isSl ?_))
  have g1:=Decidable.not_not.1 g1
  have g2:=Decidable.not_not.1 g2
  have g3:=Decidable.not_not.1 g3
  have g4:=Decidable.not_not.1 g4
  subst g1 g2 g3 g4
  rw[hr.lenS,hr'.lenS]
  refine Aa (fun g=>hk2 fun h=>by cases h;exact g rfl) fun g5=>Ab hr.isSl ?_
  have hlen:ks.length=js.length:=by omega
  refine⟨fun i n k1 l1 t1 v1 tl1 k2 l2 t2 v2 tl2 st'=>n=(ks.length:Int)/\v=v1/\u=v2/\st=st'/\∃j:Nat,i=(j:Int)/\j<=ks.length/\ks.take j=js.take j,fun i _ _ _ _ _ _ _ _ _ _ _ _=>(ks.length-i).toNat,
   ⟨rfl,rfl,rfl,rfl,0,rfl,by omega,by simp⟩,?_⟩
  rintro _ _ _ _ _ _ _ _ _ _ _ _ _ ⟨rfl,rfl,rfl,rfl,j,rfl,h1,heq⟩
  rw[hr.lenZ,hr'.lenZ,show Int.toNat (j:Int)=j from rfl]
  refine Aa (fun q=>?_) fun q=>?_
  ·have hlt:j<ks.length:=by omega
   have hlt':j<js.length:=by omega
   have hget:=List.getElem?_eq_getElem hlt
   have hget':=List.getElem?_eq_getElem hlt'
   generalize hn:ks[j]=n at hget
   generalize hm:js[j]=m at hget'
   obtain⟨k1,l1,t1,a1,tl1⟩:=n
   obtain⟨k2,l2,t2,a2,tl2⟩:=m
   have hcm:=GB ks hget
   obtain⟨u1,ys1,hld,hu1,hu2,hu3⟩:=K4 hr hx FU hget
   obtain⟨u2,ys2,hld',hv1,hv2,hv3⟩:=K4 hr' hy FU hget'
   refine⟨⟨by omega,by omega⟩,Ad hld ⟨⟨by omega,by omega⟩,Ad hld' ?_⟩⟩
   refine Q0 (.mk k1 l1 t1 a1 tl1) (.mk k2 l2 t2 a2 tl2) (by unfold NdC;exact⟨u1,ys1,rfl,hu1,hu2⟩) (by unfold NdC;exact⟨u2,ys2,rfl,hv1,hv2⟩) (by omega) (fun he=>?_) fun he=>?_
   ·refine Ar (fun h=>by cases h) fun _=>?_
    rw[Ai ((j:Int)+1) (by omega) (by omega)]
    exact⟨⟨rfl,rfl,rfl,rfl,j+1,by omega,by omega,by rw[List.take_add_one,List.take_add_one,heq,hget,hget',he]⟩,by dsimp only;omega⟩
   ·refine Ar (fun _=>hk2 fun h=>he ?_) fun h=>by cases h
    cases h
    rw[hget]at hget'
    exact Option.some.inj hget'
  ·rw[List.take_of_length_le (by omega),List.take_of_length_le (by omega)]at heq
   exact hk1 (by rw[heq])
termination_by a=>SizeOf.sizeOf a
decreasing_by
 have:=List.sizeOf_lt_of_mem (Bb hget)
 simp only[Nd.mk.sizeOf_spec]at this⊢
 omega
end Go.TVF
section
namespace Go.Proofs
open Go.Shelf
def Tryz.lays155_ren:Go.Shelf.Ren:=⟨fun | 155=>146 | 154=>226 | 138=>280 | 165=>275 | 143=>281 | 166=>196 | 197=>282 | 169=>123 | 195=>308 | 218=>309 | 240=>266 | 241=>305 | 219=>310 | 260=>311 | 276=>300 | 277=>321 | 217=>322 | 225=>323 | 224=>324 | 267=>325 | 266=>330 | 314=>331 | n=>n,fun | 9=>9 | 3=>3 | 4=>4 | 72=>188 | 0=>0 | 76=>254 | 105=>308 | 21=>21 | 5=>5 | 70=>186 | 20=>20 | 37=>59 | 75=>253 | 127=>256 | 164=>315 | 46=>267 | 119=>330 | 139=>333 | 138=>332 | 146=>319 | 51=>318 | 80=>190 | n=>n,fun | 1=>0 | 3=>1 | 4=>2 | n=>n⟩
theorem Tryz.lays155:Go.Proofs.Lays.n155 Tryz.prog Tryz.lays155_ren:={
 mixed:=by kernel_rfl
 f138:=Tryz.func280.trans (congrArg some (by kernel_rfl))
 f143:=Tryz.func281.trans (congrArg some (by kernel_rfl))
 f154:=Tryz.func226.trans (congrArg some (by kernel_rfl))
 f155:=Tryz.func146.trans (congrArg some (by kernel_rfl))
 f165:=Tryz.func275.trans (congrArg some (by kernel_rfl))
 f166:=Tryz.func196.trans (congrArg some (by kernel_rfl))
 f169:=Tryz.func123.trans (congrArg some (by kernel_rfl))
 f195:=Tryz.func308.trans (congrArg some (by kernel_rfl))
 f197:=Tryz.func282.trans (congrArg some (by kernel_rfl))
 f217:=Tryz.func322.trans (congrArg some (by kernel_rfl))
 f218:=Tryz.func309.trans (congrArg some (by kernel_rfl))
 f219:=Tryz.func310.trans (congrArg some (by kernel_rfl))
 f224:=Tryz.func324.trans (congrArg some (by kernel_rfl))
 f225:=Tryz.func323.trans (congrArg some (by kernel_rfl))
 f240:=Tryz.func266.trans (congrArg some (by kernel_rfl))
 f241:=Tryz.func305.trans (congrArg some (by kernel_rfl))
 f260:=Tryz.func311.trans (congrArg some (by kernel_rfl))
 f266:=Tryz.func330.trans (congrArg some (by kernel_rfl))
 f267:=Tryz.func325.trans (congrArg some (by kernel_rfl))
 f276:=Tryz.func300.trans (congrArg some (by kernel_rfl))
 f277:=Tryz.func321.trans (congrArg some (by kernel_rfl))
 f314:=Tryz.func331.trans (congrArg some (by kernel_rfl))
 t0:=Tryz.underlying0
 a0:=Tryz.isAgg0
 z0:=Tryz.sizeOf0
 v0:=Tryz.zeroValue0
 t3:=Tryz.underlying3
 a3:=Tryz.isAgg3
 z3:=Tryz.sizeOf3
 v3:=Tryz.zeroValue3
 t4:=Tryz.underlying4
 a4:=Tryz.isAgg4
 z4:=Tryz.sizeOf4
 v4:=Tryz.zeroValue4
 t5:=Tryz.underlying5
 a5:=Tryz.isAgg5
 z5:=Tryz.sizeOf5
 v5:=Tryz.zeroValue5
 t9:=Tryz.underlying9
 a9:=Tryz.isAgg9
 z9:=Tryz.sizeOf9
 v9:=Tryz.zeroValue9
 t20:=Tryz.underlying20
 a20:=Tryz.isAgg20
 z20:=Tryz.sizeOf20
 v20:=Tryz.zeroValue20
 t21:=Tryz.underlying21
 a21:=Tryz.isAgg21
 z21:=Tryz.sizeOf21
 v21:=Tryz.zeroValue21
 t37:=Tryz.underlying59
 a37:=Tryz.isAgg59
 z37:=Tryz.sizeOf59
 v37:=Tryz.zeroValue59
 t46:=Tryz.underlying267
 a46:=Tryz.isAgg267
 z46:=Tryz.sizeOf267
 v46:=Tryz.zeroValue267
 t51:=Tryz.underlying318
 a51:=Tryz.isAgg318
 z51:=Tryz.sizeOf318
 v51:=Tryz.zeroValue318
 t70:=Tryz.underlying186
 a70:=Tryz.isAgg186
 z70:=Tryz.sizeOf186
 v70:=Tryz.zeroValue186
 t72:=Tryz.underlying188
 a72:=Tryz.isAgg188
 z72:=Tryz.sizeOf188
 v72:=Tryz.zeroValue188
 t75:=Tryz.underlying253
 a75:=Tryz.isAgg253
 z75:=Tryz.sizeOf253
 v75:=Tryz.zeroValue253
 t76:=Tryz.underlying254
 a76:=Tryz.isAgg254
 z76:=Tryz.sizeOf254
 v76:=Tryz.zeroValue254
 t105:=Tryz.underlying308
 a105:=Tryz.isAgg308
 z105:=Tryz.sizeOf308
 v105:=Tryz.zeroValue308
 t119:=Tryz.underlying330
 a119:=Tryz.isAgg330
 z119:=Tryz.sizeOf330
 t127:=Tryz.underlying256
 a127:=Tryz.isAgg256
 z127:=Tryz.sizeOf256
 v127:=Tryz.zeroValue256
 t138:=Tryz.underlying332
 a138:=Tryz.isAgg332
 z138:=Tryz.sizeOf332
 v138:=Tryz.zeroValue332
 t139:=Tryz.underlying333
 a139:=Tryz.isAgg333
 z139:=Tryz.sizeOf333
 v139:=Tryz.zeroValue333
 t146:=Tryz.underlying319
 a146:=Tryz.isAgg319
 z146:=Tryz.sizeOf319
 v146:=Tryz.zeroValue319
 t164:=Tryz.underlying315
 a164:=Tryz.isAgg315
 z164:=Tryz.sizeOf315
 v164:=Tryz.zeroValue315
 g1:=by kernel_rfl
 g3:=by kernel_rfl
 g4:=by kernel_rfl}
theorem Tryz.Builder_Extra_155:Builder.Extra Tryz.prog Tryz.lays155_ren:={
 sizeBuilder:=by kernel_rfl
 liesBuilder:=by kernel_rfl
 t5:=Tryz.underlying5
 a5:=Tryz.isAgg5
 z5:=Tryz.sizeOf5
 v5:=Tryz.zeroValue5
 infoByte:=by kernel_rfl
 cellsByte:=by kernel_rfl
 sizeByte:=by kernel_rfl
 neB5:=by decide}
open Go.RowKit Go.Lib in
theorem Tryz.strings_ReplaceAll (s old new:ByteArray) (m:Int) (w:World) (hs:s.size<4294967281) (hm:w.cell? ⟨0,0,none⟩=some (.int .i64 m)) (h1:1<=old.size) (hlen:s.size+Lib.countB s old*new.size<=140737488355328):
  Calls Tryz.prog 146 #[.string s,.string old,.string new] w fun e w'=>
   e= .returned (.string ⟨(Lib.replaceAll s.data.toList old.data.toList new.data.toList).toArray⟩)/\Below w.heap.size w w':=Any.strings_ReplaceAll Tryz.lays155 Tryz.Builder_Extra_155 s old new m w hs hm h1 hlen
end Go.Proofs
end
section
namespace Go.TVF
open Go.IntKind(i64 u8)
open Go Go.Proofs
open Go.RowKit (Below)
def Ob (q:UInt8) (new:B8) (c:UInt8):B8:=if c=q then new else [c]
theorem Xd (q:UInt8):∀s:B8,(Lib.index s [q]= -1/\q∉s)∨∃i:Nat,Lib.index s [q]=i/\q∉s.take i/\i<s.length/\s=s.take i++q::s.drop (i+1)
 | []=> .inl ⟨by simp[Lib.index],by simp⟩
 | c::l=>by
  have hp: [q].isPrefixOf (c::l)=(q==c):=by simp[List.isPrefixOf]
  unfold Lib.index
  rw[hp]
  by_cases hc:q=c
  ·subst hc
   exact .inr ⟨0,by simp,by simp,by simp,by simp⟩
  ·have hb:(q==c)=false:=by simpa using hc
   rw[hb]
   rcases Xd q l with⟨h1,h2⟩ | ⟨i,h1,h2,h3,h4⟩
   ·left
    rw[h1]
    exact⟨by simp,by simp[hc,h2]⟩
   ·right
    refine⟨i+1,?_,?_,by simp;omega,?_⟩
    ·rw[h1]
     have:((i:Int)== -1)=false:=by simp
     simp[this]
    ·simp[hc,h2]
    ·simp only[List.take_succ_cons,List.drop_succ_cons,List.cons_append]
     rw[<-h4]
theorem Ip (q:UInt8) (new:B8):∀s:B8,q∉s->s.flatMap (Ob q new)=s
 | [],_=>rfl
 | c::l,h=>by
  simp only[List.mem_cons,not_or]at h
  rw[List.flatMap_cons,Ip q new l h.2]
  simp[Ob,Ne.symm h.1]
theorem count1 (q:UInt8) (new:B8):∀(n:Nat) (s:B8),s.length<=n->Lib.count s [q]<=s.length/\Lib.replaceK [q] new (Lib.count s [q]) s=s.flatMap (Ob q new):=by
 intro n
 induction n with
 | zero=>
  intro s hs
  have:s=[]:=List.eq_nil_of_length_eq_zero (by omega)
  subst this
  rw[Lib.count_miss (by simp[Lib.index])]
  exact⟨by simp,rfl⟩
 | succ n ih=>
  intro s hs
  rcases Xd q s with⟨h1,h2⟩ | ⟨i,h1,h2,h3,h4⟩
  ·rw[Lib.count_miss h1]
   exact⟨by simp,by rw[Ip q new s h2];rfl⟩
  ·rw[Lib.count_hit (by simp) h1]
   obtain⟨c1,c2⟩:=ih (s.drop (i+1)) (by simp;omega)
   have hl: [q].length=1:=rfl
   rw[hl]
   refine⟨by simp at c1⊢;omega,?_⟩
   rw[Nat.add_comm,Lib.replaceK_hit _ _ _ _ i h1,hl,c2]
   conv=>rhs;rw[h4]
   rw[List.flatMap_append,List.flatMap_cons,Ip q new _ h2]
   simp[Ob]
theorem MS {g:Ghost} {w:World} {x y z:TV} {vs:List Value} (h:AN g w [x,y,z] vs):∃v u t,vs=[v,u,t]/\Rel g w x v/\Rel g w y u/\Rel g w z t:=by
 obtain⟨v,h1,h2⟩:=h.get? (i:=0) rfl
 obtain⟨u,h3,h4⟩:=h.get? (i:=1) rfl
 obtain⟨t,h5,h6⟩:=h.get? (i:=2) rfl
 have hl:=h.1
 match vs,hl with
 | [a,b,c],_=>simp at h1 h3 h5;subst h1 h3 h5;exact⟨_,_,_,rfl,h2,h4,h6⟩
theorem IH {s:B8} {q a b:UInt8} {st:St} {K:B8->St->Prop} (hne: [q]≠ [a,b]) (hl:s.length<=2000000000) (hk:K (s.flatMap (Ob q [a,b])) st):
  CallT PR AE [.str s,.str [q],.str [a,b]] [.one (.str)] st K:=by
 refine B4 (fun _ _=>Tryz.call146 _ _) fun g w vargs sim hr=>?_
 obtain⟨v1,v2,v3,rfl,h1,h2,h3⟩:=MS hr
 rw[A1 h1,A1 h2,A1 h3]
 obtain⟨_,m,hm⟩:=sim.glob w sim.below
 obtain⟨c1,c2⟩:=count1 q [a,b] s.length s (Nat.le_refl _)
 have hcB:Lib.countB ⟨s.toArray⟩ ⟨#[q]⟩=Lib.count s [q]:=rfl
 refine Calls.mono (Tryz.strings_ReplaceAll ⟨s.toArray⟩ ⟨#[q]⟩ ⟨#[a,b]⟩ m w ?_ hm ?_ ?_) ?_
 ·show s.toArray.size<_
  simp;omega
 ·show 1<=(#[q]:Array UInt8).size
  simp
 ·rw[hcB]
  show s.toArray.size+_*(#[a,b]:Array UInt8).size<=_
  simp;omega
 ·rintro e w' ⟨rfl,hb⟩
  obtain⟨s',e'⟩:=sim.grown hb
  have hv:Lib.replaceAll s [q] [a,b]=s.flatMap (Ob q [a,b]):=by
   unfold Lib.replaceAll Lib.replace
   rw[if_neg (by simp),<-c2]
   congr 1
  refine⟨_,rfl,.str (s.flatMap (Ob q [a,b])),st,g,hk,s',?_,e'⟩
  show Rel g w' _ (.string ⟨(Lib.replaceAll s [q] [a,b]).toArray⟩)
  rw[hv]
  exact Rel.str _
end Go.TVF
end
namespace Go.TVF
open Go.IntKind(i64 u8)
open Go Go.Proofs
def letB (c:Int):Bool:=decide (97<=c/\c<=122∨65<=c/\c<=90)
def BP (c:Int):Bool:=decide (97<=c/\c<=122∨65<=c/\c<=90∨48<=c/\c<=57∨c=43∨c=45∨c=46∨c=58)
def dOk (a b:Int):Bool:=decide (((a=9∨(32<=a/\a<=126))/\33<=b/\b<=126/\a≠b)/\BP a=false/\BP b=false)
def lOk (a b c d e:Int):Bool:=decide (1<=a/\a<=48/\1<=b/\b<=65536/\1<=c/\c<=1048576/\0<=d/\d<=1024/\0<=e/\e<=65536)
theorem Ty {c:Int} {st:St} {K:Bool->St->Prop} (hk:K (letB c) st):CallT PR EB [.int .u8 c] [.one (.bool)] st K:=by
 unfold letB at hk
 refine LT c st K ?_
 repeat' first
  | exact Er (decide_eq_true (by omega)).symm hk
  | exact Er (decide_eq_false (by omega)).symm hk
  | exact Er (decide_eq_decide.2 (by omega)) hk
  | refine Aa (fun _=>?_) fun _=>?_
theorem MH {c:Int} {st:St} {K:Bool->St->Prop} (hk:K (BP c) st):CallT PR Bw [.int .u8 c] [.one (.bool)] st K:=by
 unfold BP at hk
 refine Kq c st K (Ty (Ar (fun h=>?_) fun h=>?_))
 ·have h:=of_decide_eq_true h
  exact Er (decide_eq_true (by omega)).symm hk
 ·have h:=of_decide_eq_false h
  repeat' first
   | exact Er (decide_eq_true (by omega)).symm hk
   | exact Er (decide_eq_false (by omega)).symm hk
   | exact Er (decide_eq_decide.2 (by omega)) hk
   | refine Aa (fun _=>?_) fun _=>?_
theorem Ld {a b:Int} {x y:Bool} {st:St} {K:Bool->St->Prop} (hk:K (dOk a b) st):CallT PR CC [.agg [.int .u8 a,.int .u8 b,.bool x,.bool y]] [.one (.bool)] st K:=by
 unfold dOk at hk
 have no:¬(((a=9∨(32<=a/\a<=126))/\33<=b/\b<=126/\a≠b)/\BP a=false/\BP b=false)->K false st:=fun h=>Er (decide_eq_false h).symm hk
 have yes:((a=9∨(32<=a/\a<=126))/\33<=b/\b<=126/\a≠b)->BP a=false->K (!BP b) st:=fun h h1=>by
  cases hb:BP b with
  | true=>exact no fun hh=>by rw[hb]at hh;exact absurd hh.2.2 (by decide)
  | false=>exact Er (decide_eq_true ⟨h,h1,hb⟩).symm hk
 refine Ms a b x y st K ?_
 repeat' first
  | exact no (by omega)
  | refine Aa (fun _=>?_) fun _=>?_
 all_goals
  refine MH (Ar (fun h=>?_) fun h=>no fun hh=>by rw[hh.2.1]at h;cases h)
  simp only[Bool.not_eq_true']at h
  exact MH (yes (by omega) h)
theorem Td {a b c d e:Int} {st:St} {K:Bool->St->Prop} (hk:K (lOk a b c d e) st):CallT PR Fp [.agg [.int .i64 a,.int .i64 b,.int .i64 c,.int .i64 d,.int .i64 e]] [.one (.bool)] st K:=by
 unfold lOk at hk
 refine Mq a b c d e st K ?_
 repeat' first
  | exact Er (decide_eq_false (by omega)).symm hk
  | exact Er (decide_eq_decide.2 (by omega)) hk
  | refine Aa (fun _=>?_) fun _=>?_
def Lq:B8:=[116,114,117,101]
def Jb:B8:=[102,97,108,115,101]
def Dz (ty qd:Bool) (s:B8):Sc:=
 if ty=false∨qd=true then tkT s else if s=[]then scK 0 else if s=Lq then tkB true else if s=Jb then tkB false
 else if (dcP s).2.2.2=0 then tkN (dcP s).1 (dcP s).2.1 (dcP s).2.2.1
 else if (tmP s).2.2.2.2=0 then tkM (tmP s).1 (tmP s).2.1 (tmP s).2.2.1 (tmP s).2.2.2.1 else tkT s
theorem LG (ty qd:Bool) (s:B8):(Dz ty qd s).bytes=[]:=by
 unfold Dz
 repeat' split
 all_goals rfl
theorem Sk {s:B8} {k:Nat} {c:UInt8} (hc:c≠0) (h:b0 s k=c):s=s.take k++c::s.drop (k+1):=by
 have hk:=Me hc h
 have h1:s.drop k=c::s.drop (k+1):=by
  rw[List.drop_eq_getElem_cons hk]
  congr 1
  unfold b0 at h
  rw[List.getD_eq_getElem?_getD,List.getElem?_eq_getElem hk]at h
  exact h
 rw[<-h1,List.take_append_drop]
theorem Uk {s:B8} {k:Nat} (h:∀i,i<k->AF (b0 s i)):∀d,d∈s.take k->AF d:=by
 intro d hd
 obtain⟨i,hi,rfl⟩:=List.mem_iff_getElem.1 hd
 rw[List.length_take]at hi
 have:=h i (by omega)
 unfold b0 at this
 rw[List.getD_eq_getElem?_getD,List.getElem?_eq_getElem (by omega)]at this
 rw[List.getElem_take]
 exact this
theorem U6 {s:B8} (h:(tmP s).2.2.2.2=0):(dcP s).2.2.2=3:=by
 have key:∃a c r,s=a++c::r/\a≠ []/\(∀d,d∈a->AF d)/\(c=45∨c=58):=by
  by_cases hd:Dx s
  ·obtain⟨⟨h0,h1⟩,⟨h2,h3⟩,h4,_⟩:=hd
   have e:=Sk (by decide) h4
   refine⟨_,_,_,e,fun h=>?_,Uk fun i hi=>?_,.inl rfl⟩
   ·have:=Me (by decide) h4
    have h':=congrArg List.length h
    rw[List.length_take,List.length_nil]at h';omega
   ·have:i=0∨i=1∨i=2∨i=3:=by omega
    rcases this with rfl | rfl | rfl | rfl<;>assumption
  ·have hc:Ka s:=by
    apply Decidable.byContradiction
    intro hn
    unfold tmP at h
    rw[if_neg hd]at h
    have:HD s=none:=by unfold HD;rw[if_neg hn]
    rw[this]at h
    exact absurd h (by decide)
   obtain⟨⟨h0,h1⟩,h4,_⟩:=hc
   have e:=Sk (by decide) h4
   refine⟨_,_,_,e,fun h=>?_,Uk fun i hi=>?_,.inr rfl⟩
   ·have:=Me (by decide) h4
    have h':=congrArg List.length h
    rw[List.length_take,List.length_nil]at h';omega
   ·have:i=0∨i=1:=by omega
    rcases this with rfl | rfl<;>assumption
 obtain⟨a,c,r,e,h1,h2,h3⟩:=key
 have hh:AF (s.getD 0 0):=by rw[e];exact Tq h2 h1
 refine(dcP_err _).2 ?_
 rw[show PQ s=0 from if_neg fun e=>by rw[e]at hh;revert hh;decide,List.drop_zero,e]
 exact not_isQ h2 h3
def Cb (s:B8):Prop:=∀c,c∈s->BP (c.toNat:Int)=true
theorem Cb.app {a b:B8} (h:Cb a) (k:Cb b):Cb (a++b):=fun c hc=>(List.mem_append.1 hc).elim (h c) (k c)
theorem Cb.cons {c:UInt8} {b:B8} (h:BP (c.toNat:Int)=true) (k:Cb b):Cb (c::b):=fun d hd=>by
 rcases List.mem_cons.1 hd with rfl | hd
 ·exact h
 ·exact k d hd
theorem Cb.nil:Cb []:=fun c hc=>by cases hc
theorem Cb.one {c:UInt8} (h:BP (c.toNat:Int)=true):Cb [c]:= .cons h .nil
theorem AF.spec {c:UInt8} (h:AF c):BP (c.toNat:Int)=true:=by
 unfold AF at h;unfold BP;rw[decide_eq_true_eq];omega
theorem Cb.dg {s:B8} (h:∀c,c∈s->AF c):Cb s:=fun c hc=>(h c hc).spec
theorem s45:BP ((45:UInt8).toNat:Int)=true:=by decide
theorem s46:BP ((46:UInt8).toNat:Int)=true:=by decide
theorem s58:BP ((58:UInt8).toNat:Int)=true:=by decide
theorem Wt:BP ((101:UInt8).toNat:Int)=true:=by decide
theorem s84:BP ((84:UInt8).toNat:Int)=true:=by decide
theorem s90:BP ((90:UInt8).toNat:Int)=true:=by decide
theorem s43:BP ((43:UInt8).toNat:Int)=true:=by decide
theorem s48:BP ((48:UInt8).toNat:Int)=true:=by decide
theorem VM (p:Int):Cb (Lb p):=by
 unfold Lb
 refine .cons Wt ?_
 split
 ·exact .cons s45 (.dg (Km _))
 ·exact .dg (Km _)
theorem Rq (n:Nat):Cb (List.replicate n 48):=fun c hc=>by rw[(List.mem_replicate.1 hc).2];exact s48
theorem XA {neg:Bool} {dg:B8} {ex:Int} (h:CW neg dg ex):Cb (dcT neg dg ex):=by
 by_cases hn:dg=[]
 ·unfold dcT
  rw[if_pos hn]
  exact .one s48
 obtain⟨_,hd,_⟩:=h.2 hn
 have hw:Cb dg:= .dg hd
 have tm:∀n:Nat,Cb (dg.take n):=fun n c hc=>hw c (List.mem_of_mem_take hc)
 have dm:∀n:Nat,Cb (dg.drop n):=fun n c hc=>hw c (List.mem_of_mem_drop hc)
 unfold dcT
 rw[if_neg hn]
 refine Cb.app ?_ ?_
 ·split
  ·exact .one s45
  ·exact .nil
 split
 ·exact hw.app (Rq _)
 ·split
  ·exact(tm _).app (.cons s46 (dm _))
  ·split
   ·exact .cons s48 (.cons s46 ((Rq _).app hw))
   ·refine(tm _).app (Cb.app ?_ (VM _))
    split
    ·exact .cons s46 (dm _)
    ·exact .nil
theorem Lh (n:Nat):Cb (Ic n):=by
 unfold Ic
 refine(Cb.dg (Bo _ _)).app (.cons s58 ((Cb.dg (Bo _ _)).app (.cons s58 ((Cb.dg (Bo _ _)).app ?_))))
 split
 ·exact .nil
 ·exact .cons s46 (.dg (Hb _))
theorem VC (z:Int):Cb (GZ z):=by
 unfold GZ
 split
 ·exact .one s90
 ·refine .cons ?_ ((Cb.dg (Bo _ _)).app (.cons s58 (.dg (Bo _ _))))
  split
  ·exact s45
  ·exact s43
theorem Lf (n:Nat):Cb (Ix n):=(Cb.dg (Bo _ _)).app (.cons s45 ((Cb.dg (Bo _ _)).app (.cons s45 (.dg (Bo _ _)))))
theorem U7 (k td tn tz:Int):Cb (HQ k td tn tz):=by
 unfold HQ
 split
 ·exact Lf _
 ·split
  ·exact Lh _
  ·split
   ·exact(Lf _).app (.cons s84 (Lh _))
   ·exact(Lf _).app (.cons s84 ((Lh _).app (VC _)))
noncomputable def plT (s:Sc):B8:=if s.kind=1 then(if s.b then Lq else Jb)else if s.kind=2 then dcT s.neg s.dg s.ex else if s.kind=3 then HQ s.tk s.td s.tn s.tz else []
theorem VZ {neg:Bool} {dg:B8} {ex:Int} (h:CW neg dg ex):Dz true false (dcT neg dg ex)=tkN neg dg ex:=by
 obtain⟨_,hne,hh⟩:=XB h
 unfold Dz
 rw[XC h,if_neg (by simp),if_neg hne,if_neg,if_neg,if_pos rfl]
 ·intro e;rw[e]at hh;revert hh;decide
 ·intro e;rw[e]at hh;revert hh;decide
theorem VY {k td tn tz:Int} (h:DS k td tn tz):Dz true false (HQ k td tn tz)=tkM k td tn tz:=by
 obtain⟨_,a,c,r,he,h1,h2,h3⟩:=U9 (k:=k) (td:=td) (tn:=tn) (tz:=tz)
 have hh:AF ((HQ k td tn tz).getD 0 0):=by rw[he];exact Tq h2 h1
 have hp:=Wk h fun _=>Xh (by obtain⟨_,_,h5,h6,_⟩:=h;omega)
 have h4:(dcP (HQ k td tn tz)).2.2.2=3:=U6 (by rw[hp])
 unfold Dz
 rw[hp,h4,if_neg (by simp),if_neg (by rw[he];simp),if_neg,if_neg,if_neg (by decide),if_pos rfl]
 ·intro e;rw[e]at hh;revert hh;decide
 ·intro e;rw[e]at hh;revert hh;decide
def by_ (s:B8) (i:Nat):Int:=((s.getD i 0).toNat:Int)
def HC (q:Int):B8->Nat->Option Nat
 | [],_=>none
 | [c],i=>if (c.toNat:Int)=q then some (i+1)else none
 | c::c2::l,i=>if (c.toNat:Int)=q then(if (c2.toNat:Int)=q then HC q l (i+2)else some (i+1))else HC q (c2::l) (i+1)
def RD (a q:Int):B8->Nat->Except Nat Nat
 | [],i=> .ok i
 | c::l,i=>if (c.toNat:Int)=a∨(c.toNat:Int)=10∨(c.toNat:Int)=13 then .ok i else if (c.toNat:Int)=q then .error i else RD a q l (i+1)
def QE (q:Int) (s:B8) (i:Nat):Option Nat:=HC q (s.drop i) i
def PE (a q:Int) (s:B8) (i:Nat):Except Nat Nat:=RD a q (s.drop i) i
theorem FP {s:B8} {i:Nat} (h:i<s.length):∃c,s.drop i=c::s.drop (i+1)/\(c.toNat:Int)=by_ s i:=by
 refine⟨s[i],List.drop_eq_getElem_cons h,?_⟩
 unfold by_
 rw[List.getD_eq_getElem?_getD,List.getElem?_eq_getElem h];rfl
theorem Uc {q:Int} {s:B8} {i:Nat} (h:s.length<=i):QE q s i=none:=by
 unfold QE;rw[List.drop_of_length_le h];rfl
theorem Sn {q:Int} {s:B8} {i:Nat} (h:i<s.length) (hb:by_ s i≠q):QE q s i=QE q s (i+1):=by
 obtain⟨c,hd,hc⟩:=FP h
 unfold QE
 rw[hd]
 cases hr:s.drop (i+1)with
 | nil=>simp only[HC];rw[if_neg (by omega)]
 | cons c2 l=>simp only[HC];rw[if_neg (by omega)]
theorem QA {q:Int} {s:B8} {i:Nat} (h:i<s.length) (hb:by_ s i=q) (h2:i+1<s.length->by_ s (i+1)≠q):QE q s i=some (i+1):=by
 obtain⟨c,hd,hc⟩:=FP h
 unfold QE
 rw[hd]
 by_cases hl:i+1<s.length
 ·obtain⟨c2,hd2,hc2⟩:=FP hl
  rw[hd2]
  simp only[HC]
  rw[if_pos (by omega),if_neg (by have:=h2 hl;omega)]
 ·rw[List.drop_of_length_le (by omega)]
  simp only[HC];rw[if_pos (by omega)]
theorem UW {q:Int} {s:B8} {i:Nat} (h:i+1<s.length) (hb:by_ s i=q) (h2:by_ s (i+1)=q):QE q s i=QE q s (i+2):=by
 obtain⟨c,hd,hc⟩:=FP (show i<s.length by omega)
 obtain⟨c2,hd2,hc2⟩:=FP h
 unfold QE
 rw[hd,hd2]
 simp only[HC]
 rw[if_pos (by omega),if_pos (by omega)]
theorem QB {a q:Int} {s:B8} {i:Nat} (h:s.length<=i):PE a q s i= .ok i:=by
 unfold PE;rw[List.drop_of_length_le h];rfl
theorem Mf {a q:Int} {s:B8} {i:Nat} (h:i<s.length) (hb:by_ s i=a∨by_ s i=10∨by_ s i=13):PE a q s i= .ok i:=by
 obtain⟨c,hd,hc⟩:=FP h
 unfold PE;rw[hd];simp only[RD];rw[if_pos (by rw[hc];exact hb)]
theorem UY {a q:Int} {s:B8} {i:Nat} (h:i<s.length) (hb:¬(by_ s i=a∨by_ s i=10∨by_ s i=13)) (hq:by_ s i=q):PE a q s i= .error i:=by
 obtain⟨c,hd,hc⟩:=FP h
 unfold PE;rw[hd];simp only[RD];rw[if_neg (by rw[hc];exact hb),if_pos (by omega)]
theorem UX {a q:Int} {s:B8} {i:Nat} (h:i<s.length) (hb:¬(by_ s i=a∨by_ s i=10∨by_ s i=13)) (hq:by_ s i≠q):PE a q s i=PE a q s (i+1):=by
 obtain⟨c,hd,hc⟩:=FP h
 unfold PE;rw[hd];simp only[RD];rw[if_neg (by rw[hc];exact hb),if_neg (by omega)]
def BZ (a q:Int) (s:B8) (i:Nat):Except (Nat×Int) Nat:=
 if i<s.length/\by_ s i=q then(match QE q s (i+1)with | some e=> .ok e | none=> .error (s.length,4))
 else match PE a q s i with | .ok e=> .ok e | .error o=> .error (o,3)
def slc (s:B8) (i e:Nat):B8:=(s.take e).drop i
def SA (q:Int):B8->B8
 | []=>[]
 | [c]=>[c]
 | c::c2::l=>if (c.toNat:Int)=q then c::SA q l else c::SA q (c2::l)
def txt (q:Int) (c:B8):B8:=if c=[]∨by_ c 0≠q then c else SA q ((c.take (c.length-1)).drop 1)
def Db (s:B8) (i:Nat):Except (Nat×Int) Nat:=
 if s.length<=i then .ok 0 else if by_ s i=10 then .ok 1 else if by_ s i≠13 then .error (i,3)else if s.length<=i+1 then .error (s.length,4)else if by_ s (i+1)=10 then .ok 2 else .error (i,3)
def Fx (dep nod:Int) (d:Int) (i:Nat) (v:Int):Except (Nat×Int) Int:=if dep<d then .error (i,9)else if nod<=v then .error (i,10)else .ok (v+1)
structure Cx where
 s:B8
 a:Int
 q:Int
 dep:Int
 nod:Int
def Eb (x:Cx) (hd:Bool) (i:Nat) (v:Int) (ns:List B8):Except (Nat×Int) (Nat×Int×List B8):=do
 let v1<-if hd then .ok v else Fx x.dep x.nod 3 i v
 let e<-BZ x.a x.q x.s i
 let t:=txt x.q (slc x.s i e)
 if (if hd then 1024 else 65536)<t.length then .error (i,10)
 else if hd/\t∈ns then .error (i,8)
 else .ok (e,v1,if hd then t::ns else ns)
def Jo (s:B8) (i e:Nat) (mark:List Nd):Nd:= .mk 5 [] [] (.mk 2 [] (slc s i e) [] []::mark) []
def B2 (x:Cx) (num:Bool) (wid:Int) (hd:Bool):Nat->List Nd->Nat->Int->List B8->Except (Nat×Int) (Nat×Int×List B8×List Nd)
 | 0,_,_,_,_=> .error (0,0)
 | n+1,acc,i,v,ns=>
  if num/\wid<=acc.length then .error (i,10)else do
   let (e,v1,ns1)<-Eb x hd i v ns
   if e<x.s.length/\by_ x.s e=x.a then B2 x num wid hd n (acc++[Jo x.s i e [.mk 11 [] [x.s.getD e 0] [] []]]) (e+1) v1 ns1
   else do
    let _<-Db x.s e
    .ok (e,v1,ns1,acc++[Jo x.s i e []])
def dbl (c:UInt8) (t:B8):B8:=t.flatMap (Ob c [c,c])
theorem DO (c b:UInt8) (t:B8):dbl c (b::t)=(if b=c then [c,c]else [b])++dbl c t:=by
 simp[dbl,Ob]
theorem Vv {q:Int} {c:UInt8} (hc:(c.toNat:Int)=q):∀(n:Nat) (l:B8) (i e:Nat),l.length<=n->HC q l i=some e->∃t rest,l=dbl c t++c::rest/\e=i+(dbl c t).length+1:=by
 have heq:∀b:UInt8,(b.toNat:Int)=q↔b=c:=fun b=>⟨fun h=>UInt8.toNat_inj.1 (by omega),fun h=>by rw[h];exact hc⟩
 intro n
 induction n with
 | zero=>intro l i e hl h;have:l=[]:=List.eq_nil_of_length_eq_zero (by omega);subst this;simp[HC]at h
 | succ n ih=>
  intro l i e hl h
  match l,hl,h with
  | [],_,h=>simp[HC]at h
  | [b],_,h=>
   simp only[HC]at h
   split at h
   ·rename_i hb
    cases h
    exact⟨[],[],by rw[(heq b).1 hb];rfl,rfl⟩
   ·cases h
  | b::b2::l,hl,h=>
   simp only[HC]at h
   split at h
   ·rename_i hb
    have hb:=(heq b).1 hb
    split at h
    ·rename_i hb2
     have hb2:=(heq b2).1 hb2
     obtain⟨t,rest,h1,h2⟩:=ih l (i+2) e (by simp at hl;omega) h
     refine⟨c::t,rest,?_,?_⟩
     ·rw[hb,hb2,h1,DO];simp
     ·rw[h2,DO];simp;omega
    ·cases h
     exact⟨[],b2::l,by rw[hb];rfl,rfl⟩
   ·rename_i hb
    have hb:b≠c:=fun h=>hb ((heq b).2 h)
    obtain⟨t,rest,h1,h2⟩:=ih (b2::l) (i+1) e (by simp at hl⊢;omega) h
    refine⟨b::t,rest,?_,?_⟩
    ·rw[h1,DO,if_neg hb];simp
    ·rw[h2,DO,if_neg hb];simp;omega
theorem QV {q:Int} {c:UInt8} (hc:(c.toNat:Int)=q):∀t:B8,SA q (dbl c t)=t
 | []=>rfl
 | b::t=>by
  have ih:=QV hc t
  rw[DO]
  by_cases hb:b=c
  ·subst hb
   simp only[if_true,List.cons_append,List.nil_append,SA]
   rw[if_pos hc,ih]
  ·rw[if_neg hb]
   have hb':(b.toNat:Int)≠q:=fun h=>hb (UInt8.toNat_inj.1 (by omega))
   simp only[List.cons_append,List.nil_append]
   cases hd:dbl c t with
   | nil=>rw[hd]at ih;simp only[SA]at ih⊢;rw[<-ih]
   | cons b2 l=>simp only[SA];rw[if_neg hb',<-hd,ih]
theorem Lp (c:UInt8):∀t:B8,c∉t∨∃a b,t=a++c::b/\c∉a
 | []=> .inl (by simp)
 | d::t=>by
  by_cases h:d=c
  ·exact .inr ⟨[],t,by rw[h];rfl,by simp⟩
  ·rcases Lp c t with h1 | ⟨a,b,h1,h2⟩
   ·exact .inl (by simp[Ne.symm h,h1])
   ·exact .inr ⟨d::a,b,by rw[h1];rfl,by simp[Ne.symm h,h2]⟩
theorem NI {c:UInt8} {t:B8} (h:c∉t):dbl c t=t:=Ip c [c,c] t h
theorem UQ (c:UInt8) (a b:B8):dbl c (a++b)=dbl c a++dbl c b:=by simp[dbl]
theorem K6 (c:UInt8) (l:B8):∀a:B8,c∉a->Lib.index (a++l) [c,c]=if Lib.index l [c,c]= -1 then-1 else Lib.index l [c,c]+a.length
 | [],_=>by simp
 | d::a,h=>by
  simp only[List.mem_cons,not_or]at h
  have hp: [c,c].isPrefixOf (d::(a++l))=false:=by simp[List.isPrefixOf,h.1]
  rw[List.cons_append,Lib.index,hp,K6 c l a h.2]
  have hge:=Lib.index_ge l [c,c]
  by_cases hm:Lib.index l [c,c]= -1
  ·simp[hm]
  ·have:¬(Lib.index l [c,c]+(a.length:Int)= -1):=by omega
   simp[hm,this];omega
theorem count2 (c:UInt8):∀(n:Nat) (t:B8),t.length<=n->Lib.count (dbl c t) [c,c]<=t.length/\Lib.replaceK [c,c] [c] (Lib.count (dbl c t) [c,c]) (dbl c t)=t:=by
 intro n
 induction n with
 | zero=>
  intro t ht
  have:t=[]:=List.eq_nil_of_length_eq_zero (by omega)
  subst this
  have h0:Lib.count (dbl c []) [c,c]=0:=Lib.count_miss (by simp[dbl,Lib.index])
  rw[h0];exact⟨by simp,rfl⟩
 | succ n ih=>
  intro t ht
  rcases Lp c t with h | ⟨a,b,h1,h2⟩
  ·rw[NI h]
   have:Lib.index t [c,c]= -1:=by
    have:=K6 c [] t h
    simpa [Lib.index]using this
   rw[Lib.count_miss this]
   exact⟨by simp,rfl⟩
  ·have hd:dbl c t=a++(c::c::dbl c b):=by rw[h1,UQ,NI h2,DO,if_pos rfl];rfl
   have hi:Lib.index (dbl c t) [c,c]=(a.length:Nat):=by
    have h0:Lib.index (c::c::dbl c b) [c,c]=0:=by simp[Lib.index,List.isPrefixOf]
    rw[hd,K6 c _ a h2,h0];simp
   have hdr:(dbl c t).drop (a.length+ [c,c].length)=dbl c b:=by
    rw[hd,<-List.drop_drop,List.drop_left];rfl
   have hlen:t.length=a.length+1+b.length:=by rw[h1];simp;omega
   obtain⟨c1,c2⟩:=ih b (by omega)
   rw[Lib.count_hit (by simp) hi,hdr]
   refine⟨by omega,?_⟩
   rw[Nat.add_comm,Lib.replaceK_hit _ _ _ _ _ hi,hdr,c2,hd,List.take_left,h1]
   simp
theorem QW {s t:B8} {c:UInt8} {st:St} {K:B8->St->Prop} (hs:s=dbl c t) (hl:s.length<=2000000000) (hk:K t st):
  CallT PR AE [.str s,.str [c,c],.str [c]] [.one (.str)] st K:=by
 refine B4 (fun _ _=>Tryz.call146 _ _) fun g w vargs sim hr=>?_
 obtain⟨v1,v2,v3,rfl,h1,h2,h3⟩:=MS hr
 rw[A1 h1,A1 h2,A1 h3]
 obtain⟨_,m,hm⟩:=sim.glob w sim.below
 obtain⟨c1,c2⟩:=count2 c t.length t (Nat.le_refl _)
 have hcB:Lib.countB ⟨s.toArray⟩ ⟨#[c,c]⟩=Lib.count s [c,c]:=rfl
 have hts:t.length<=s.length:=by
  rw[hs]
  clear hs hl h1 c1 c2 hk hcB
  induction t with
  | nil=>simp
  | cons b t ih=>rw[DO];split<;>simp<;>omega
 refine Calls.mono (Tryz.strings_ReplaceAll ⟨s.toArray⟩ ⟨#[c,c]⟩ ⟨#[c]⟩ m w ?_ hm ?_ ?_) ?_
 ·show s.toArray.size<_
  simp;omega
 ·show 1<=(#[c,c]:Array UInt8).size
  simp
 ·rw[hcB]
  show s.toArray.size+_*(#[c]:Array UInt8).size<=_
  rw[hs]at hl hts⊢
  simp;omega
 ·rintro e w' ⟨rfl,hb⟩
  obtain⟨s',e'⟩:=sim.grown hb
  have hv:Lib.replaceAll s [c,c] [c]=t:=by
   unfold Lib.replaceAll Lib.replace
   rw[if_neg (by simp),hs]
   exact c2
  refine⟨_,rfl,.str t,st,g,hk,s',?_,e'⟩
  show Rel g w' _ (.string ⟨(Lib.replaceAll s [c,c] [c]).toArray⟩)
  rw[hv]
  exact Rel.str _
def Sp (q:Int) (cl:B8):Prop:=cl=[]∨by_ cl 0≠q∨∃c t,(c.toNat:Int)=q/\cl=c::(dbl c t++[c])
theorem IZ {q:Int} {c:UInt8} {t:B8} (hc:(c.toNat:Int)=q):txt q (c::(dbl c t++[c]))=t:=by
 unfold txt
 rw[if_neg (by simp[by_,hc])]
 have:((c::(dbl c t++[c])).take ((c::(dbl c t++[c])).length-1)).drop 1=dbl c t:=by
  simp
 rw[this,QV hc]
theorem MC {cl:B8} {a q:Int} {x y:Bool} (hw:Sp q cl) (hl:cl.length<=2000000) {st:St} {K:B8->Bool->St->Prop} (hk:∀st',Ap st st'->K (txt q cl) (decide (¬(cl=[]∨by_ cl 0≠q))) st'):
  CallT PR Cl [.str cl,.agg [.int .u8 a,.int .u8 q,.bool x,.bool y]] [.one (.str),.one (.bool)] st K:=by
 have hk:=hk st (Ap.refl st)
 refine N8 cl a q x y st K (Aa (fun g=>?_) fun g=>⟨⟨by omega,?_⟩,Aa (fun g2=>?_) fun g2=>?_⟩)
 ·subst g
  unfold txt at hk
  simpa using hk
 ·cases cl with
  | nil=>exact absurd rfl g
  | cons b l=>simp
 ·have g2':by_ cl 0≠q:=g2
  unfold txt at hk
  rw[if_pos (.inr g2')]at hk
  simpa [g2']using hk
 ·have g2':¬by_ cl 0≠q:=g2
  rcases hw with h | h | ⟨c,t,hc,h⟩
  ·exact absurd h g
  ·exact absurd h g2'
  subst h
  rw[IZ hc]at hk
  have htb:toBytes st (.list 1 .full 1 [.int .u8 q])=some [c]:=by
   have:UInt8.ofNat q.toNat=c:=by rw[<-hc];simp
   rw[<-this];rfl
  have hlen:(c::(dbl c t++[c])).length=(dbl c t).length+2:=by simp
  rw[hlen]at hl
  have hw64:i64.wrap (((c::(dbl c t++[c])).length:Int)-1)=(((dbl c t).length+1:Nat):Int):=by
   rw[hlen,Ai _ (by omega) (by omega)];omega
  rw[htb]
  refine Ad rfl (show Af .str (.str [c]) _ from⟨⟨by omega,by rw[hw64];omega,by rw[hw64,hlen];omega⟩,by simp,?_⟩)
  rw[hw64]
  have hin:List.drop (Int.toNat 1) (List.take (Int.toNat (((dbl c t).length+1:Nat):Int)) (c::(dbl c t++[c])))=dbl c t:=by
   simp
  rw[hin]
  refine QW rfl (by omega) ?_
  simpa [g2',hc,by_]using hk
def F3 (x:Cx) (num:Bool) (wid:Int) (hd:Bool) (i:Nat) (v:Int) (ns:List B8):Except (Nat×Int) (Nat×Int×List B8×Nd×Int):=do
 let v1<-if hd then .ok v else Fx x.dep x.nod 2 i v
 let (e,v2,ns2,ks)<-B2 x num wid hd (x.s.length+1) [] i v1 ns
 let n<-Db x.s e
 let wid':=if num then wid else(ks.length:Int)
 if (ks.length:Int)<wid' then .error (e,10)else .ok (e+n,v2,ns2,.mk 8 [] [] ks (slc x.s e (e+n)),wid')
def DN (x:Cx) (hdr:Bool):Nat->List Nd->Nat->Int->List B8->Int->Except (Nat×Int) (List Nd)
 | 0,_,_,_,_,_=> .error (0,0)
 | n+1,acc,i,v,ns,wid=>
  if x.s.length<=i then .ok acc else do
   let (i',v',ns',r,wid')<-F3 x (!acc.isEmpty) wid (hdr&&acc.isEmpty) i v ns
   DN x hdr n (acc++[r]) i' v' ns' wid'
section
theorem Own.extXD {S:Nat->Prop} {b sz:Nat} {st st':St} {v:TV} {n:Nat} {xs:List TV} (h:Own b sz st v n xs) (e:StX S st st'):Own b sz st' v n xs:=by
 rcases h with h | ⟨tip,h,ht | ⟨id,h1,h2,h3,h4⟩⟩
 ·exact .inl h
 ·exact .inr ⟨tip,h,.inl ht⟩
 ·exact .inr ⟨tip,h,.inr ⟨id,h1,h2,Nat.lt_of_lt_of_le h3 e.nt,by rw[e.live _ h3];exact h4⟩⟩
theorem ldB {st:St} {b i:Nat} {l:List TV} {x:TV} (hb:st.box b= .cells l) (hx:l[i]? =some x):Ac st [] (.t (.box b i)) 0=some x:=by
 simp only[Ac,hb,Nat.add_zero];exact hx
theorem EJ {st:St} {b off:Nat} {x:TV} {l:List TV} {k:St->Prop} (hb:st.box b= .cells l) (hl:Nat.ble (off+1) l.length=true) (hk:∀st',StX (·=b) st st'->st'.box b= .cells (l.set off x)->k st'):stB st (.box b off) [x] k:=by
 have hl:=Nat.le_of_ble_eq_true hl
 refine⟨l,hb,by simpa using hl,hk _ (StX.put (S:=(·=b)) rfl _) ?_⟩
 rw[Eh]
 rfl
def LF (st:St) (p i:Nat):Int:=match st.box p with | .cells l=>(match l[i]? with | some (TV.int _ k)=>k | _=>0) | _=>0
theorem Di {st:St} {p i:Nat} {l:List TV} {kd:IntKind} {k:Int} (hb:st.box p= .cells l) (hx:l[i]? =some (.int kd k)):LF st p i=k:=by
 simp only[LF,hb,hx]
def pcl (x:Cx) (hd ty:Bool) (l2 l3 l4:Int) (m:Nat) (i n w o e:Int):List TV:=
 [.str x.s,.int .u8 x.a,.int .u8 x.q,.bool hd,.bool ty,.int .i64 x.dep,.int .i64 x.nod,.int .i64 l2,.int .i64 l3,.int .i64 l4,.int .i64 i,.int .i64 n,.int .i64 w,.map m,.int .i64 o,.int .i64 e]
structure PSD (p m:Nat) (x:Cx) (hd ty:Bool) (l2 l3 l4:Int) (ns:List B8) (i n w o e:Int) (st:St):Prop where
 ne:p≠m
 lp:p<st.nb
 lm:m<st.nb
 bx:st.box p= .cells (pcl x hd ty l2 l3 l4 m i n w o e)
 mp:∃es,st.box m= .map es/\XY es ns
abbrev PM (p m:Nat):Nat->Prop:=fun i=>i=p∨i=m
theorem PSD.of {p m:Nat} {x:Cx} {hd ty:Bool} {l2 l3 l4:Int} {ns:List B8} {i n w o e i' n' w' o' e':Int} {st st':St} (h:PSD p m x hd ty l2 l3 l4 ns i n w o e st) (k:StX (·=p) st st')
  (b:st'.box p= .cells (pcl x hd ty l2 l3 l4 m i' n' w' o' e')):PSD p m x hd ty l2 l3 l4 ns i' n' w' o' e' st':=by
 obtain⟨es,h1,h2⟩:=h.mp
 exact⟨h.ne,Nat.lt_of_lt_of_le h.lp k.nb,Nat.lt_of_lt_of_le h.lm k.nb,b,es,by rw[k.box _ h.lm (fun g=>h.ne g.symm)];exact h1,h2⟩
theorem PSD.keep {S:Nat->Prop} {p m:Nat} {x:Cx} {hd ty:Bool} {l2 l3 l4:Int} {ns:List B8} {i n w o e:Int} {st st':St} (h:PSD p m x hd ty l2 l3 l4 ns i n w o e st) (k:StX S st st') (hp:¬S p) (hm:¬S m):
  PSD p m x hd ty l2 l3 l4 ns i n w o e st':=by
 obtain⟨es,h1,h2⟩:=h.mp
 exact⟨h.ne,Nat.lt_of_lt_of_le h.lp k.nb,Nat.lt_of_lt_of_le h.lm k.nb,by rw[k.box _ h.lp hp];exact h.bx,es,by rw[k.box _ h.lm hm];exact h1,h2⟩
theorem StX.pm {p m:Nat} {a b:St} (h:StX (·=p) a b):StX (PM p m) a b:=h.mono fun _=> .inl
section
variable {p m:Nat} {x:Cx} {hd ty:Bool} {l2 l3 l4:Int} {ns:List B8} {I n w o e:Int} {st:St}
theorem Cu {o' e':Int} {K:Bool->St->Prop} (h:PSD p m x hd ty l2 l3 l4 ns I n w o e st) (hk:∀st',StX (PM p m) st st'->PSD p m x hd ty l2 l3 l4 ns I n w o' e' st'->K false st'):
  CallT PR Ak [.box p 0,.int .i64 o',.int .i64 e'] [.one .bool] st K:=by
 refine HM p o' e' st K (EJ h.bx rfl fun st1 e1 b1=>EJ b1 rfl fun st2 e2 b2=>?_)
 exact hk st2 (e1.trans e2).pm (h.of (e1.trans e2) b2)
theorem OK {d v:Int} {i:Nat} {K:Bool->St->Prop} (hI:I=(i:Int)) (hv0:0<=v) (hv:v<1000000000) (h:PSD p m x hd ty l2 l3 l4 ns I v w o e st)
  (h0:∀v' st',Fx x.dep x.nod d i v= .ok v'->StX (PM p m) st st'->PSD p m x hd ty l2 l3 l4 ns I v' w o e st'->K true st')
  (h1:∀(o':Nat) e' st',Fx x.dep x.nod d i v= .error (o',e')->StX (PM p m) st st'->PSD p m x hd ty l2 l3 l4 ns I v w o' e' st'->K false st'):
  CallT PR Be [.box p 0,.int .i64 d] [.one .bool] st K:=by
 unfold Fx at h0 h1
 subst hI
 have hb:=h.bx
 refine Hu p d st K ?_
 repeat' first
  | (guard_target=~need _ _;refine Ab rfl ?_)
  | (guard_target=~Ae (Ac _ _ _ _) _;refine Ad (ldB hb rfl) ?_)
  | (guard_target=~Af (.int _) _ _;refine Aq ?_)
  | (guard_target=~Af .str _ _;refine Al ?_)
  | (guard_target=~Af .bool _ _;refine Ao ?_)
 refine Aa (fun g=>?_) fun g=>?_
 ·rw[if_pos g]at h1
  repeat' first
   | (guard_target=~need _ _;refine Ab rfl ?_)
   | (guard_target=~Ae (Ac _ _ _ _) _;refine Ad (ldB hb rfl) ?_)
   | (guard_target=~Af (.int _) _ _;refine Aq ?_)
   | (guard_target=~Af .str _ _;refine Al ?_)
   | (guard_target=~Af .bool _ _;refine Ao ?_)
  exact Cu h fun st' e1 k1=>h1 _ _ st' rfl e1 k1
 rw[if_neg g]at h0 h1
 repeat' first
  | (guard_target=~need _ _;refine Ab rfl ?_)
  | (guard_target=~Ae (Ac _ _ _ _) _;refine Ad (ldB hb rfl) ?_)
  | (guard_target=~Af (.int _) _ _;refine Aq ?_)
  | (guard_target=~Af .str _ _;refine Al ?_)
  | (guard_target=~Af .bool _ _;refine Ao ?_)
 refine Aa (fun g2=>?_) fun g2=>?_
 ·rw[if_pos g2]at h1
  repeat' first
   | (guard_target=~need _ _;refine Ab rfl ?_)
   | (guard_target=~Ae (Ac _ _ _ _) _;refine Ad (ldB hb rfl) ?_)
   | (guard_target=~Af (.int _) _ _;refine Aq ?_)
   | (guard_target=~Af .str _ _;refine Al ?_)
   | (guard_target=~Af .bool _ _;refine Ao ?_)
  exact Cu h fun st' e1 k1=>h1 _ _ st' rfl e1 k1
 rw[if_neg g2]at h0
 repeat' first
  | (guard_target=~need _ _;refine Ab rfl ?_)
  | (guard_target=~Ae (Ac _ _ _ _) _;refine Ad (ldB hb rfl) ?_)
  | (guard_target=~Af (.int _) _ _;refine Aq ?_)
  | (guard_target=~Af .str _ _;refine Al ?_)
  | (guard_target=~Af .bool _ _;refine Ao ?_)
 refine EJ hb rfl fun st1 e1 b1=>?_
 rw[Ai _ (by omega) (by omega)]at b1
 exact h0 _ st1 rfl e1.pm (h.of e1 b1)
theorem S3 {i:Nat} {K:Bool->St->Prop} (hI:I=(i:Int)) (hi:i<x.s.length) (hl:x.s.length<=2000000) (h:PSD p m x hd ty l2 l3 l4 ns I n w o e st)
  (h0:∀(k:Nat) st',QE x.q x.s (i+1)=some k->StX (PM p m) st st'->PSD p m x hd ty l2 l3 l4 ns k n w o e st'->K true st')
  (h1:∀(k:Int) st',QE x.q x.s (i+1)=none->StX (PM p m) st st'->PSD p m x hd ty l2 l3 l4 ns k n w (x.s.length:Nat) 4 st'->K false st'):
  CallT PR Ca [.box p 0] [.one .bool] st K:=by
 subst hI
 have hb:=h.bx
 have tn:∀k:Nat,Int.toNat (k:Int)=k:=fun k=>rfl
 have w1:∀k:Nat,k<=x.s.length->i64.wrap ((k:Int)+1)=((k+1:Nat):Int):=fun k hk=>by rw[Ai _ (by omega) (by omega)];omega
 refine GN p st K ?_
 repeat' first
  | (guard_target=~need _ _;refine Ab rfl ?_)
  | (guard_target=~Ae (Ac _ _ _ _) _;refine Ad (ldB hb rfl) ?_)
  | (guard_target=~Af (.int _) _ _;refine Aq ?_)
  | (guard_target=~Af .str _ _;refine Al ?_)
  | (guard_target=~Af .bool _ _;refine Ao ?_)
 refine EJ hb rfl fun st1 e1 b1=>?_
 rw[w1 i (by omega)]at b1
 refine⟨fun p' st'=>TV.box p 0=p'/\StX (PM p m) st st'/\∃k:Nat,PSD p m x hd ty l2 l3 l4 ns k n w o e st'/\i<k/\k<=x.s.length/\QE x.q x.s (i+1)=QE x.q x.s k,
  fun _ st'=>(x.s.length-LF st' p 10).toNat,⟨rfl,e1.pm,i+1,h.of e1 b1,by omega,by omega,rfl⟩,?_⟩
 rintro _ st2 ⟨rfl,e2,k,h2,hk1,hk2,hq⟩
 have hb2:=h2.bx
 repeat' first
  | (guard_target=~need _ _;refine Ab rfl ?_)
  | (guard_target=~Ae (Ac _ _ _ _) _;refine Ad (ldB hb2 rfl) ?_)
  | (guard_target=~Af (.int _) _ _;refine Aq ?_)
  | (guard_target=~Af .str _ _;refine Al ?_)
  | (guard_target=~Af .bool _ _;refine Ao ?_)
 refine Aa (fun q1=>?_) fun q1=>?_
 ·repeat' first
   | (guard_target=~need _ _;refine Ab rfl ?_)
   | (guard_target=~Ae (Ac _ _ _ _) _;refine Ad (ldB hb2 rfl) ?_)
   | (guard_target=~Af (.int _) _ _;refine Aq ?_)
   | (guard_target=~Af .str _ _;refine Al ?_)
   | (guard_target=~Af .bool _ _;refine Ao ?_)
  refine⟨⟨by omega,by omega⟩,?_⟩
  repeat' first
   | (guard_target=~need _ _;refine Ab rfl ?_)
   | (guard_target=~Ae (Ac _ _ _ _) _;refine Ad (ldB hb2 rfl) ?_)
   | (guard_target=~Af (.int _) _ _;refine Aq ?_)
   | (guard_target=~Af .str _ _;refine Al ?_)
   | (guard_target=~Af .bool _ _;refine Ao ?_)
  rw[tn]
  refine Aa (fun q2=>?_) fun q2=>?_
  ·repeat' first
    | (guard_target=~need _ _;refine Ab rfl ?_)
    | (guard_target=~Ae (Ac _ _ _ _) _;refine Ad (ldB hb2 rfl) ?_)
    | (guard_target=~Af (.int _) _ _;refine Aq ?_)
    | (guard_target=~Af .str _ _;refine Al ?_)
    | (guard_target=~Af .bool _ _;refine Ao ?_)
   refine EJ hb2 rfl fun st3 e3 b3=>?_
   rw[w1 k (by omega)]at b3
   rw[Sn (by omega) q2]at hq
   refine⟨⟨rfl,e2.trans e3.pm,k+1,h2.of e3 b3,by omega,by omega,hq⟩,?_⟩
   dsimp only
   rw[Di b3 rfl,Di hb2 rfl]
   omega
  ·have q2:by_ x.s k=x.q:=Decidable.not_not.1 q2
   repeat' first
    | (guard_target=~need _ _;refine Ab rfl ?_)
    | (guard_target=~Ae (Ac _ _ _ _) _;refine Ad (ldB hb2 rfl) ?_)
    | (guard_target=~Af (.int _) _ _;refine Aq ?_)
    | (guard_target=~Af .str _ _;refine Al ?_)
    | (guard_target=~Af .bool _ _;refine Ao ?_)
   refine EJ hb2 rfl fun st3 e3 b3=>?_
   rw[w1 k (by omega)]at b3
   have h3:=h2.of e3 b3
   repeat' first
    | (guard_target=~need _ _;refine Ab rfl ?_)
    | (guard_target=~Ae (Ac _ _ _ _) _;refine Ad (ldB b3 rfl) ?_)
    | (guard_target=~Af (.int _) _ _;refine Aq ?_)
    | (guard_target=~Af .str _ _;refine Al ?_)
    | (guard_target=~Af .bool _ _;refine Ao ?_)
   refine Aa (fun q3=>?_) fun q3=>?_
   ·rw[QA (by omega) q2 (fun h=>absurd h (by omega))]at hq
    exact h0 _ st3 hq (e2.trans e3.pm) h3
   ·repeat' first
     | (guard_target=~need _ _;refine Ab rfl ?_)
     | (guard_target=~Ae (Ac _ _ _ _) _;refine Ad (ldB b3 rfl) ?_)
     | (guard_target=~Af (.int _) _ _;refine Aq ?_)
     | (guard_target=~Af .str _ _;refine Al ?_)
     | (guard_target=~Af .bool _ _;refine Ao ?_)
    refine⟨⟨by omega,by omega⟩,?_⟩
    repeat' first
     | (guard_target=~need _ _;refine Ab rfl ?_)
     | (guard_target=~Ae (Ac _ _ _ _) _;refine Ad (ldB b3 rfl) ?_)
     | (guard_target=~Af (.int _) _ _;refine Aq ?_)
     | (guard_target=~Af .str _ _;refine Al ?_)
     | (guard_target=~Af .bool _ _;refine Ao ?_)
    rw[tn]
    refine Aa (fun q4=>?_) fun q4=>?_
    ·rw[QA (by omega) q2 (fun h=>q4)]at hq
     exact h0 _ st3 hq (e2.trans e3.pm) h3
    ·repeat' first
      | (guard_target=~need _ _;refine Ab rfl ?_)
      | (guard_target=~Ae (Ac _ _ _ _) _;refine Ad (ldB b3 rfl) ?_)
      | (guard_target=~Af (.int _) _ _;refine Aq ?_)
      | (guard_target=~Af .str _ _;refine Al ?_)
      | (guard_target=~Af .bool _ _;refine Ao ?_)
     refine EJ b3 rfl fun st4 e4 b4=>?_
     rw[w1 (k+1) (by omega)]at b4
     rw[UW (by omega) q2 (Decidable.not_not.1 q4)]at hq
     refine⟨⟨rfl,(e2.trans e3.pm).trans e4.pm,k+2,h3.of e4 b4,by omega,by omega,hq⟩,?_⟩
     dsimp only
     rw[Di b4 rfl,Di hb2 rfl]
     omega
 ·repeat' first
   | (guard_target=~need _ _;refine Ab rfl ?_)
   | (guard_target=~Ae (Ac _ _ _ _) _;refine Ad (ldB hb2 rfl) ?_)
   | (guard_target=~Af (.int _) _ _;refine Aq ?_)
   | (guard_target=~Af .str _ _;refine Al ?_)
   | (guard_target=~Af .bool _ _;refine Ao ?_)
  rw[Uc (i:=k) (by omega)]at hq
  exact Cu h2 fun st' e3 k3=>h1 _ st' hq (e2.trans e3) k3
end
end
theorem QE_le {q:Int} {s:B8}:∀(n i e:Nat),s.length-i<=n->QE q s i=some e->i<e/\e<=s.length:=by
 intro n
 induction n with
 | zero=>intro i e h he;rw[Uc (by omega)]at he;cases he
 | succ n ih=>
  intro i e h he
  by_cases hi:i<s.length
  ·by_cases hb:by_ s i=q
   ·by_cases h2:i+1<s.length/\by_ s (i+1)=q
    ·rw[UW h2.1 hb h2.2]at he
     have:=ih (i+2) e (by omega) he
     omega
    ·rw[QA hi hb (fun h3 h4=>h2 ⟨h3,h4⟩)]at he
     cases he;omega
   ·rw[Sn hi hb]at he
    have:=ih (i+1) e (by omega) he
    omega
  ·rw[Uc (by omega)]at he;cases he
theorem JN {s:B8} {i e:Nat} (h:i<=e) (h2:e<=s.length):(slc s i e).length=e-i:=by
 unfold slc;rw[List.length_drop,List.length_take];omega
theorem E6 {s:B8} {i e:Nat} (h:i<=e):s.drop i=slc s i e++s.drop e:=by
 unfold slc
 rw[F1]
 have:s.drop e=(s.drop i).drop (e-i):=by rw[List.drop_drop];congr 1;omega
 rw[this,List.take_append_drop]
theorem slc_get {s:B8} {i e:Nat} (h:i<e) (h2:e<=s.length):by_ (slc s i e) 0=by_ s i:=by
 unfold by_ slc
 rw[Io,List.getD_eq_getElem?_getD,List.getD_eq_getElem?_getD,List.getElem?_take,if_pos (by omega)]
 rfl
theorem PP {s:B8} {e:Nat} (h:e<s.length):slc s e (e+1)=[s.getD e 0]:=by
 unfold slc
 rw[F1,Pb _ _ 0 h]
 simp
theorem PE_le {a q:Int} {s:B8}:∀(n i e:Nat),s.length-i<=n->i<=s.length->PE a q s i= .ok e->i<=e/\e<=s.length/\(e<s.length->by_ s e=a∨by_ s e=10∨by_ s e=13)/\(i<e->by_ s i≠q):=by
 intro n
 induction n with
 | zero=>intro i e h hi he;rw[QB (by omega)]at he;cases he;exact⟨by omega,by omega,fun h=>absurd h (by omega),fun h=>absurd h (by omega)⟩
 | succ n ih=>
  intro i e h hi he
  by_cases hl:i<s.length
  ·by_cases hb:by_ s i=a∨by_ s i=10∨by_ s i=13
   ·rw[Mf hl hb]at he;cases he;exact⟨by omega,by omega,fun _=>hb,fun h=>absurd h (by omega)⟩
   ·by_cases hq:by_ s i=q
    ·rw[UY hl hb hq]at he;cases he
    ·rw[UX hl hb hq]at he
     obtain⟨h1,h2,h3,_⟩:=ih (i+1) e (by omega) (by omega) he
     exact⟨by omega,h2,h3,fun _=>hq⟩
  ·rw[QB (by omega)]at he;cases he;exact⟨by omega,by omega,fun h=>absurd h (by omega),fun h=>absurd h (by omega)⟩
theorem Ch {a q:Int} {s:B8} {i e:Nat} (hi:i<=s.length) (h:BZ a q s i= .ok e):i<=e/\e<=s.length:=by
 unfold BZ at h
 split at h
 ·split at h
  ·rename_i e' he;cases h;have:=QE_le _ _ _ (Nat.le_refl _) he;omega
  ·cases h
 ·split at h
  ·rename_i e' he;cases h;have:=PE_le _ _ _ (Nat.le_refl _) hi he;omega
  ·cases h
theorem byte_of (q:Int) (s:B8) (i:Nat) (h:i<s.length) (hq:by_ s i=q):∃c:UInt8,(c.toNat:Int)=q/\s.getD i 0=c:=⟨s.getD i 0,hq,rfl⟩
theorem Qt {a q:Int} {s:B8} {i e:Nat} (hi:i<=s.length) (h:BZ a q s i= .ok e):Sp q (slc s i e):=by
 unfold BZ at h
 split at h
 ·rename_i hc
  split at h
  ·rename_i e' he
   cases h
   obtain⟨c,hc1,hc2⟩:=byte_of q s i hc.1 hc.2
   obtain⟨t,rest,h1,h2⟩:=Vv hc1 _ _ _ _ (Nat.le_refl _) he
   right;right
   refine⟨c,t,hc1,?_⟩
   have hle:=QE_le _ _ _ (Nat.le_refl _) he
   unfold slc
   rw[F1,Pb _ _ 0 hc.1,hc2,h1,show e-i=(dbl c t++[c]).length+1 by simp;omega,List.take_succ_cons]
   congr 1
   rw[show dbl c t++c::rest=(dbl c t++[c])++rest by simp,List.take_left]
  ·cases h
 ·rename_i hc
  split at h
  ·rename_i e' he
   cases h
   have hle:=PE_le _ _ _ (Nat.le_refl _) hi he
   by_cases hlt:i<e
   ·right;left
    rw[slc_get hlt hle.2.1]
    exact hle.2.2.2 hlt
   ·left
    apply List.eq_nil_of_length_eq_zero
    rw[JN hle.1 hle.2.1];omega
  ·cases h
theorem Fi {s:B8} {e n:Nat} (he:e<=s.length) (h:Db s e= .ok n):e+n<=s.length/\(n=0->e=s.length)/\(0<n->by_ s (e+n-1)=10)/\(e<s.length->by_ s e=10∨by_ s e=13):=by
 unfold Db at h
 split at h
 ·cases h;exact⟨by omega,fun _=>by omega,fun h=>by omega,fun h=>by omega⟩
 split at h
 ·rename_i h1 h2;cases h;exact⟨by omega,fun h=>by omega,fun _=>by simpa using h2,fun _=> .inl h2⟩
 split at h
 ·cases h
 split at h
 ·cases h
 split at h
 ·rename_i h1 h2 h3 h4 h5;cases h;exact⟨by omega,fun h=>by omega,fun _=>by simpa using h5,fun _=> .inr (Decidable.not_not.1 h3)⟩
 ·cases h
inductive Hj (a q:Int) (s:B8):Nat->List Nd->Nat->Nat->Prop where
 | last {i e n:Nat}:BZ a q s i= .ok e->¬(e<s.length/\by_ s e=a)->Db s e= .ok n->Hj a q s i [Jo s i e []] e n
 | more {i e f n:Nat} {ks:List Nd}:BZ a q s i= .ok e->e<s.length->by_ s e=a->Hj a q s (e+1) ks f n->Hj a q s i (Jo s i e [.mk 11 [] [s.getD e 0] [] []]::ks) f n
inductive HG (a q:Int) (s:B8):Nat->List Nd->Prop where
 | nil {i:Nat}:s.length<=i->HG a q s i []
 | cons {i e n:Nat} {ks rs:List Nd}:i<s.length->Hj a q s i ks e n->HG a q s (e+n) rs->HG a q s i (.mk 8 [] [] ks (slc s e (e+n))::rs)
theorem Hj.le {a q:Int} {s:B8} {i:Nat} {ks:List Nd} {e n:Nat} (h:Hj a q s i ks e n):i<=s.length->i<=e/\e+n<=s.length/\1<=ks.length/\ks.length<=e-i+1/\Db s e= .ok n:=by
 induction h with
 | last h1 h2 h3=>intro hi;have:=Ch hi h1;have:=Fi this.2 h3;exact⟨by omega,by omega,by simp,by simp,h3⟩
 | more h1 h2 h3 h4 ih=>intro hi;have:=Ch hi h1;have ih:=ih (by omega);refine⟨by omega,by omega,by simp,?_,ih.2.2.2.2⟩;rw[List.length_cons];omega
theorem Hj.text {a q:Int} {s:B8} {i:Nat} {ks:List Nd} {e n:Nat} (h:Hj a q s i ks e n):i<=s.length->Fk ks=slc s i e:=by
 induction h with
 | last h1 h2 h3=>intro hi;simp[Fk,CU,Jo]
 | @more i e e' n ks h1 h2 h3 h4 ih=>
  intro hi
  have hl:=Ch hi h1
  have hl2:=h4.le (by omega)
  simp only[Fk,CU,Jo,List.nil_append,List.append_nil]
  rw[ih (by omega),<-PP h2]
  have e1:=E6 (s:=s) (i:=i) (e:=e') (by omega)
  have e2:=E6 (s:=s) (i:=i) (e:=e) (by omega)
  have e3:=E6 (s:=s) (i:=e) (e:=e+1) (by omega)
  have e4:=E6 (s:=s) (i:=e+1) (e:=e') (by omega)
  rw[e2,e3,e4,<-List.append_assoc,<-List.append_assoc]at e1
  have:=List.append_inj_left' e1 rfl
  rw[<-this,List.append_assoc]
theorem HG.text {a q:Int} {s:B8} {i:Nat} {rs:List Nd} (h:HG a q s i rs):i<=s.length->Fk rs=s.drop i:=by
 induction h with
 | nil h=>intro hi;rw[List.drop_of_length_le h];rfl
 | @cons i e n ks rs h1 h2 h3 ih=>
  intro hi
  have hl:=h2.le (by omega)
  simp only[Fk,CU,List.nil_append]
  rw[ih (by omega),h2.text (by omega),List.append_assoc,<-E6 (by omega),<-E6 (by omega)]
def V8 (a q:Int) (n:Nd):Prop:=∃c mark,n= .mk 5 [] [] (.mk 2 [] c [] []::mark) []/\Sp q c/\(mark=[]∨∃b:UInt8,(b.toNat:Int)=a/\mark=[.mk 11 [] [b] [] []])
def RecF (a q:Int) (n:Nd):Prop:=∃ks t,n= .mk 8 [] [] ks t/\1<=ks.length/\∀k∈ks,V8 a q k
theorem Hj.form {a q:Int} {s:B8} {i:Nat} {ks:List Nd} {e n:Nat} (h:Hj a q s i ks e n):i<=s.length->∀k∈ks,V8 a q k:=by
 induction h with
 | last h1 h2 h3=>intro hi k hk;rw[List.mem_singleton]at hk;subst hk;exact⟨_,_,rfl,Qt hi h1,.inl rfl⟩
 | @more i e e' n ks h1 h2 h3 h4 ih=>
  intro hi k hk
  have hl:=Ch hi h1
  rcases List.mem_cons.1 hk with rfl | hk
  ·exact⟨_,_,rfl,Qt hi h1,.inr ⟨s.getD e 0,h3,rfl⟩⟩
  ·exact ih (by omega) k hk
theorem HG.form {a q:Int} {s:B8} {i:Nat} {rs:List Nd} (h:HG a q s i rs):i<=s.length->∀r∈rs,RecF a q r:=by
 induction h with
 | nil h=>intro hi r hr;cases hr
 | @cons i e n ks rs h1 h2 h3 ih=>
  intro hi r hr
  have hl:=h2.le (by omega)
  rcases List.mem_cons.1 hr with rfl | hr
  ·exact⟨_,_,rfl,hl.2.2.1,h2.form (by omega)⟩
  ·exact ih (by omega) r hr
section
theorem ldsB {st:St} {b i n:Nat} {l xs:List TV} (hb:st.box b= .cells l) (hx:(l.drop i).take n=xs) (hn:xs.length=n):Ah st [] (.t (.box b i)) 0 n=some xs:=by
 have gen:∀n j,j+n<=(l.drop i).length->Ah st [] (.t (.box b i)) j n=some (((l.drop i).drop j).take n):=by
  intro n
  induction n with
  | zero=>intro j h;simp[Ah]
  | succ n ih=>
   intro j h
   have hj:j<(l.drop i).length:=by omega
   have h1:Ac st [] (.t (.box b i)) j=some (l.drop i)[j]:=by
    simp only[Ac,hb]
    rw[List.getElem_drop,List.getElem?_eq_getElem]
   simp only[Ah,h1,ih (j+1) (by omega)]
   rw[List.drop_eq_getElem_cons hj]
   rfl
 rw[gen n 0 (by rw[<-hx,List.length_take]at hn;omega),<-hx]
 rfl
section
variable {p m:Nat} {x:Cx} {hd ty:Bool} {l2 l3 l4:Int} {ns:List B8} {I n w o e:Int} {st:St}
theorem WJ {i:Nat} {K:Bool->St->Prop} (hI:I=(i:Int)) (hi:i<=x.s.length) (hl:x.s.length<=2000000) (h:PSD p m x hd ty l2 l3 l4 ns I n w o e st)
  (h0:∀(k:Nat) st',BZ x.a x.q x.s i= .ok k->StX (PM p m) st st'->PSD p m x hd ty l2 l3 l4 ns k n w o e st'->K true st')
  (h1:∀(o':Nat) e' (k:Int) st',BZ x.a x.q x.s i= .error (o',e')->StX (PM p m) st st'->PSD p m x hd ty l2 l3 l4 ns k n w o' e' st'->K false st'):
  CallT PR BL [.box p 0] [.one .bool] st K:=by
 subst hI
 have hb:=h.bx
 have tn:∀k:Nat,Int.toNat (k:Int)=k:=fun k=>rfl
 have w1:∀k:Nat,k<=x.s.length->i64.wrap ((k:Int)+1)=((k+1:Nat):Int):=fun k hk=>by rw[Ai _ (by omega) (by omega)];omega
 have loop:∀k:Nat,(i<x.s.length/\by_ x.s i=x.q->False)->BZ x.a x.q x.s i=match PE x.a x.q x.s i with | .ok e=> .ok e | .error o=> .error (o,3):=fun k hc=>by
  unfold BZ;rw[if_neg hc]<;>(cases PE x.a x.q x.s i<;>rfl)
 refine HN p st K ?_
 repeat' first
  | (guard_target=~need _ _;refine Ab rfl ?_)
  | (guard_target=~Ae (Ac _ _ _ _) _;refine Ad (ldB hb rfl) ?_)
  | (guard_target=~Af (.int _) _ _;refine Aq ?_)
  | (guard_target=~Af .str _ _;refine Al ?_)
  | (guard_target=~Af .bool _ _;refine Ao ?_)
 refine Aa (fun g=>?_) fun g=>?_
 ·repeat' first
   | (guard_target=~need _ _;refine Ab rfl ?_)
   | (guard_target=~Ae (Ac _ _ _ _) _;refine Ad (ldB hb rfl) ?_)
   | (guard_target=~Af (.int _) _ _;refine Aq ?_)
   | (guard_target=~Af .str _ _;refine Al ?_)
   | (guard_target=~Af .bool _ _;refine Ao ?_)
  refine⟨⟨by omega,by omega⟩,?_⟩
  repeat' first
   | (guard_target=~need _ _;refine Ab rfl ?_)
   | (guard_target=~Ae (Ac _ _ _ _) _;refine Ad (ldB hb rfl) ?_)
   | (guard_target=~Af (.int _) _ _;refine Aq ?_)
   | (guard_target=~Af .str _ _;refine Al ?_)
   | (guard_target=~Af .bool _ _;refine Ao ?_)
  rw[tn]
  refine Aa (fun g2=>?_) fun g2=>?_
  ·have hc:BZ x.a x.q x.s i=match QE x.q x.s (i+1)with | some e=> .ok e | none=> .error (x.s.length,4):=by
    unfold BZ;rw[if_pos ⟨by omega,g2⟩]<;>(cases QE x.q x.s (i+1)<;>rfl)
   exact S3 rfl (by omega) hl h (fun k st' hq=>h0 k st' (by rw[hc,hq])) fun k st' hq=>h1 _ _ k st' (by rw[hc,hq])
  have hc:=loop i fun hh=>g2 hh.2
  refine⟨fun p' st'=>TV.box p 0=p'/\StX (PM p m) st st'/\∃k:Nat,PSD p m x hd ty l2 l3 l4 ns k n w o e st'/\k<=x.s.length/\PE x.a x.q x.s i=PE x.a x.q x.s k,
   fun _ st'=>(x.s.length-LF st' p 10).toNat,⟨rfl,StX.refl _ _,i,h,by omega,rfl⟩,?_⟩
  rintro _ st2 ⟨rfl,e2,k,h2,hk2,hq⟩
  have hb2:=h2.bx
  have next:¬(by_ x.s k=x.a∨by_ x.s k=10∨by_ x.s k=13)->k<x.s.length->by_ x.s k≠x.q->∀st3,StX (·=p) st2 st3->st3.box p= .cells ((pcl x hd ty l2 l3 l4 m k n w o e).set 10 (.int .i64 (i64.wrap ((k:Int)+1))))->
    (TV.box p 0=TV.box p 0/\StX (PM p m) st st3/\∃k:Nat,PSD p m x hd ty l2 l3 l4 ns k n w o e st3/\k<=x.s.length/\PE x.a x.q x.s i=PE x.a x.q x.s k)/\(x.s.length-LF st3 p 10).toNat<(x.s.length-LF st2 p 10).toNat:=fun c1 c2 c3 st3 e3 b3=>by
   rw[w1 k (by omega)]at b3
   rw[UX c2 c1 c3]at hq
   refine⟨⟨rfl,e2.trans e3.pm,k+1,h2.of e3 b3,by omega,hq⟩,?_⟩
   rw[Di b3 rfl,Di hb2 rfl]
   omega
  repeat' first
   | (guard_target=~need _ _;refine Ab rfl ?_)
   | (guard_target=~Ae (Ac _ _ _ _) _;refine Ad (ldB hb2 rfl) ?_)
   | (guard_target=~Af (.int _) _ _;refine Aq ?_)
   | (guard_target=~Af .str _ _;refine Al ?_)
   | (guard_target=~Af .bool _ _;refine Ao ?_)
  refine Aa (fun q1=>?_) fun q1=>?_
  ·repeat' first
    | (guard_target=~need _ _;refine Ab rfl ?_)
    | (guard_target=~Ae (Ac _ _ _ _) _;refine Ad (ldB hb2 rfl) ?_)
    | (guard_target=~Af (.int _) _ _;refine Aq ?_)
    | (guard_target=~Af .str _ _;refine Al ?_)
    | (guard_target=~Af .bool _ _;refine Ao ?_)
   refine⟨⟨by omega,by omega⟩,?_⟩
   repeat' first
    | (guard_target=~need _ _;refine Ab rfl ?_)
    | (guard_target=~Ae (Ac _ _ _ _) _;refine Ad (ldB hb2 rfl) ?_)
    | (guard_target=~Af (.int _) _ _;refine Aq ?_)
    | (guard_target=~Af .str _ _;refine Al ?_)
    | (guard_target=~Af .bool _ _;refine Ao ?_)
   rw[tn]
   refine Aa (fun q2=>Aa (fun _=>?_) fun q3=>absurd q2 q3) fun q2=>Aa (fun q3=>Aa (fun _=>?_) fun q4=>absurd q3 q4) fun q3=>Aa (fun q4=>?_) fun q4=>?_
   ·rw[Mf (by omega) (.inl q2)]at hq;exact h0 k st2 (by rw[hc,hq]) e2 h2
   ·rw[Mf (by omega) (.inr (.inl q3))]at hq;exact h0 k st2 (by rw[hc,hq]) e2 h2
   ·rw[Mf (by omega) (.inr (.inr q4))]at hq;exact h0 k st2 (by rw[hc,hq]) e2 h2
   ·have hno:¬(by_ x.s k=x.a∨by_ x.s k=10∨by_ x.s k=13):=by rintro(h | h | h);exact q2 h;exact q3 h;exact q4 h
    repeat' first
     | (guard_target=~need _ _;refine Ab rfl ?_)
     | (guard_target=~Ae (Ac _ _ _ _) _;refine Ad (ldB hb2 rfl) ?_)
     | (guard_target=~Af (.int _) _ _;refine Aq ?_)
     | (guard_target=~Af .str _ _;refine Al ?_)
     | (guard_target=~Af .bool _ _;refine Ao ?_)
    refine Aa (fun q5=>?_) fun q5=>?_
    ·repeat' first
      | (guard_target=~need _ _;refine Ab rfl ?_)
      | (guard_target=~Ae (Ac _ _ _ _) _;refine Ad (ldB hb2 rfl) ?_)
      | (guard_target=~Af (.int _) _ _;refine Aq ?_)
      | (guard_target=~Af .str _ _;refine Al ?_)
      | (guard_target=~Af .bool _ _;refine Ao ?_)
     rw[UY (by omega) hno q5]at hq
     exact Cu h2 fun st' e3 k3=>h1 _ _ _ st' (by rw[hc,hq]) (e2.trans e3) k3
    ·repeat' first
      | (guard_target=~need _ _;refine Ab rfl ?_)
      | (guard_target=~Ae (Ac _ _ _ _) _;refine Ad (ldB hb2 rfl) ?_)
      | (guard_target=~Af (.int _) _ _;refine Aq ?_)
      | (guard_target=~Af .str _ _;refine Al ?_)
      | (guard_target=~Af .bool _ _;refine Ao ?_)
     exact EJ hb2 rfl fun st3 e3 b3=>next hno (by omega) q5 st3 e3 b3
  ·rw[QB (i:=k) (by omega)]at hq;exact h0 k st2 (by rw[hc,hq]) e2 h2
 ·--at the end
  have hc:=loop i fun hh=>by omega
  rw[QB (i:=i) (by omega)]at hc
  refine⟨fun p' st'=>TV.box p 0=p'/\st=st',fun _ st'=>0,⟨rfl,rfl⟩,?_⟩
  rintro _ _ ⟨rfl,rfl⟩
  repeat' first
   | (guard_target=~need _ _;refine Ab rfl ?_)
   | (guard_target=~Ae (Ac _ _ _ _) _;refine Ad (ldB hb rfl) ?_)
   | (guard_target=~Af (.int _) _ _;refine Aq ?_)
   | (guard_target=~Af .str _ _;refine Al ?_)
   | (guard_target=~Af .bool _ _;refine Ao ?_)
  refine Aa (fun q1=>absurd q1 g) fun q1=>?_
  exact h0 i st hc (StX.refl _ _) h
abbrev PM3 (p m r:Nat):Nat->Prop:=fun i=>i=p∨i=m∨i=r
theorem StX.pm3 {p m r:Nat} {a b:St} (h:StX (PM p m) a b):StX (PM3 p m r) a b:=h.mono fun _ g=>g.elim .inl fun g=> .inr (.inl g)
theorem PSD.other {p m r:Nat} {x:Cx} {hd ty:Bool} {l2 l3 l4:Int} {ns:List B8} {i n w o e:Int} {st st':St} (h:PSD p m x hd ty l2 l3 l4 ns i n w o e st) (k:StX (·=r) st st') (hp:p≠r) (hm:m≠r):
  PSD p m x hd ty l2 l3 l4 ns i n w o e st':=h.keep k hp hm
theorem RA {i r:Nat} {c0 c1 c2 c3:TV} {K:Bool->St->Prop} (hI:I=(i:Int)) (hi:i<=x.s.length) (hl:x.s.length<=2000000) (h:PSD p m x hd ty l2 l3 l4 ns I n w o e st)
  (hrp:p≠r) (hrm:m≠r) (hrl:r<st.nb) (hr:st.box r= .cells [c0,c1,c2,c3,.str []])
  (h0:∀(k:Nat) st',Db x.s i= .ok k->StX (PM3 p m r) st st'->PSD p m x hd ty l2 l3 l4 ns ((i+k:Nat):Int) n w o e st'->st'.box r= .cells [c0,c1,c2,c3,.str (slc x.s i (i+k))]->K true st')
  (h1:∀(o':Nat) e' (k:Int) st',Db x.s i= .error (o',e')->StX (PM3 p m r) st st'->PSD p m x hd ty l2 l3 l4 ns k n w o' e' st'->st'.box r= .cells [c0,c1,c2,c3,.str []]->K false st'):
  CallT PR AI [.box p 0,.box r 0] [.one .bool] st K:=by
 subst hI
 have hb:=h.bx
 have tn:∀k:Nat,Int.toNat (k:Int)=k:=fun k=>rfl
 have w1:∀k:Nat,k<=x.s.length->i64.wrap ((k:Int)+1)=((k+1:Nat):Int):=fun k hk=>by rw[Ai _ (by omega) (by omega)];omega
 have rk:∀st',StX (·=p) st st'->st'.box r= .cells [c0,c1,c2,c3,.str []]:=fun st' e=>by rw[e.box r hrl (fun h=>hrp h.symm)];exact hr
 have rk2:∀st',StX (PM p m) st st'->st'.box r= .cells [c0,c1,c2,c3,.str []]:=fun st' e=>by rw[e.box r hrl (fun h=>h.elim (fun h=>hrp h.symm) fun h=>hrm h.symm)];exact hr
 have hp3:∀st1 st2,StX (PM p m) st st1->StX (·=r) st1 st2->StX (PM3 p m r) st st2:=fun st1 st2 e1 e2=>e1.pm3.trans (e2.mono fun _ g=> .inr (.inr g))
 unfold Db at h0 h1
 refine Gr p r st K ?_
 repeat' first
  | (guard_target=~need _ _;refine Ab rfl ?_)
  | (guard_target=~Ae (Ac _ _ _ _) _;refine Ad (ldB hb rfl) ?_)
  | (guard_target=~Af (.int _) _ _;refine Aq ?_)
  | (guard_target=~Af .str _ _;refine Al ?_)
  | (guard_target=~Af .bool _ _;refine Ao ?_)
 refine Aa (fun g=>?_) fun g=>?_
 ·rw[if_pos (by omega)]at h0
  refine h0 0 st rfl (StX.refl _ _) h ?_
  rw[hr]
  have:slc x.s i (i+0)=[]:=List.eq_nil_of_length_eq_zero (by rw[JN (by omega) (by omega)];omega)
  rw[this]
 rw[if_neg (by omega)]at h0 h1
 repeat' first
  | (guard_target=~need _ _;refine Ab rfl ?_)
  | (guard_target=~Ae (Ac _ _ _ _) _;refine Ad (ldB hb rfl) ?_)
  | (guard_target=~Af (.int _) _ _;refine Aq ?_)
  | (guard_target=~Af .str _ _;refine Al ?_)
  | (guard_target=~Af .bool _ _;refine Ao ?_)
 refine⟨⟨by omega,by omega⟩,?_⟩
 rw[tn]
 refine Aa (fun g2=>?_) fun g2=>Aa (fun g3=>?_) fun g3=>?_
 ·have g2':by_ x.s i=13:=g2
  rw[if_neg (by omega),if_neg (by omega)]at h0 h1
  repeat' first
   | (guard_target=~need _ _;refine Ab rfl ?_)
   | (guard_target=~Ae (Ac _ _ _ _) _;refine Ad (ldB hb rfl) ?_)
   | (guard_target=~Af (.int _) _ _;refine Aq ?_)
   | (guard_target=~Af .str _ _;refine Al ?_)
   | (guard_target=~Af .bool _ _;refine Ao ?_)
  refine EJ hb rfl fun st1 e1 b1=>?_
  rw[w1 i (by omega)]at b1
  have k1:=h.of e1 b1
  repeat' first
   | (guard_target=~need _ _;refine Ab rfl ?_)
   | (guard_target=~Ae (Ac _ _ _ _) _;refine Ad (ldB b1 rfl) ?_)
   | (guard_target=~Af (.int _) _ _;refine Aq ?_)
   | (guard_target=~Af .str _ _;refine Al ?_)
   | (guard_target=~Af .bool _ _;refine Ao ?_)
  refine Aa (fun g3=>?_) fun g3=>?_
  ·rw[if_pos (by omega)]at h1
   repeat' first
    | (guard_target=~need _ _;refine Ab rfl ?_)
    | (guard_target=~Ae (Ac _ _ _ _) _;refine Ad (ldB b1 rfl) ?_)
    | (guard_target=~Af (.int _) _ _;refine Aq ?_)
    | (guard_target=~Af .str _ _;refine Al ?_)
    | (guard_target=~Af .bool _ _;refine Ao ?_)
   have e3:((i+1:Nat):Int)=(x.s.length:Int):=g3
   rw[e3]
   exact Cu k1 fun st2 e2 k2=>h1 _ _ _ st2 rfl (e1.pm.trans e2).pm3 k2 (rk2 _ (e1.pm.trans e2))
  rw[if_neg (by omega)]at h0 h1
  repeat' first
   | (guard_target=~need _ _;refine Ab rfl ?_)
   | (guard_target=~Ae (Ac _ _ _ _) _;refine Ad (ldB b1 rfl) ?_)
   | (guard_target=~Af (.int _) _ _;refine Aq ?_)
   | (guard_target=~Af .str _ _;refine Al ?_)
   | (guard_target=~Af .bool _ _;refine Ao ?_)
  refine⟨⟨by omega,by omega⟩,?_⟩
  rw[tn]
  refine Aa (fun g4=>?_) fun g4=>?_
  ·have g4':by_ x.s (i+1)≠10:=g4
   rw[if_neg g4']at h1
   exact Cu k1 fun st2 e2 k2=>h1 _ _ _ st2 rfl (e1.pm.trans e2).pm3 k2 (rk2 _ (e1.pm.trans e2))
  ·have g4':by_ x.s (i+1)=10:=Decidable.not_not.1 g4
   rw[if_pos g4']at h0
   repeat' first
    | (guard_target=~need _ _;refine Ab rfl ?_)
    | (guard_target=~Ae (Ac _ _ _ _) _;refine Ad (ldB b1 rfl) ?_)
    | (guard_target=~Af (.int _) _ _;refine Aq ?_)
    | (guard_target=~Af .str _ _;refine Al ?_)
    | (guard_target=~Af .bool _ _;refine Ao ?_)
   refine EJ b1 rfl fun st2 e2 b2=>?_
   rw[w1 (i+1) (by omega)]at b2
   have k2:=k1.of e2 b2
   repeat' first
    | (guard_target=~need _ _;refine Ab rfl ?_)
    | (guard_target=~Ae (Ac _ _ _ _) _;refine Ad (ldB b2 rfl) ?_)
    | (guard_target=~Af (.int _) _ _;refine Aq ?_)
    | (guard_target=~Af .str _ _;refine Al ?_)
    | (guard_target=~Af .bool _ _;refine Ao ?_)
   refine⟨⟨by omega,by omega,by omega⟩,EJ (rk st2 (e1.trans e2)) rfl fun st3 e3 b3=>?_⟩
   exact h0 2 st3 rfl (hp3 _ _ (e1.pm.trans e2.pm) e3) (k2.other e3 hrp hrm) b3
 ·have g3':by_ x.s i=10:=g3
  rw[if_pos g3']at h0
  repeat' first
   | (guard_target=~need _ _;refine Ab rfl ?_)
   | (guard_target=~Ae (Ac _ _ _ _) _;refine Ad (ldB hb rfl) ?_)
   | (guard_target=~Af (.int _) _ _;refine Aq ?_)
   | (guard_target=~Af .str _ _;refine Al ?_)
   | (guard_target=~Af .bool _ _;refine Ao ?_)
  refine EJ hb rfl fun st1 e1 b1=>?_
  rw[w1 i (by omega)]at b1
  have k1:=h.of e1 b1
  repeat' first
   | (guard_target=~need _ _;refine Ab rfl ?_)
   | (guard_target=~Ae (Ac _ _ _ _) _;refine Ad (ldB b1 rfl) ?_)
   | (guard_target=~Af (.int _) _ _;refine Aq ?_)
   | (guard_target=~Af .str _ _;refine Al ?_)
   | (guard_target=~Af .bool _ _;refine Ao ?_)
  refine⟨⟨by omega,by omega,by omega⟩,EJ (rk st1 e1) rfl fun st3 e3 b3=>?_⟩
  exact h0 1 st3 rfl (hp3 _ _ e1.pm e3) (k1.other e3 hrp hrm) b3
 ·have g2':by_ x.s i≠13:=g2
  have g3':by_ x.s i≠10:=g3
  rw[if_neg g3',if_pos g2']at h1
  exact Cu h fun st2 e2 k2=>h1 _ _ _ st2 rfl e2.pm3 k2 (rk2 _ e2)
end
end
def Aw:Nd->List Nd | .mk _ _ _ ks _=>ks
def AM (n:Nd):B8:=match Aw n with | .mk _ _ c _ _::_=>c | []=>[]
theorem BX (s:B8) (i e:Nat) (m:List Nd):AM (Jo s i e m)=slc s i e:=rfl
theorem Kd {x:Cx} {i:Nat} {v:Int} {ns:List B8} {e:Nat} {v1:Int} {ns1:List B8} (h:Eb x false i v ns= .ok (e,v1,ns1)):
  3<=x.dep/\v<x.nod/\v1=v+1/\ns1=ns/\BZ x.a x.q x.s i= .ok e/\(txt x.q (slc x.s i e)).length<=65536:=by
 simp only[Eb,Fx,Bool.false_eq_true,if_false,false_and]at h
 split at h
 ·cases h
 ·split at h
  ·cases h
  ·simp only[bind,Except.bind]at h
   split at h
   ·cases h
   ·rename_i e' he
    split at h
    ·cases h
    ·cases h
     exact⟨by omega,by omega,rfl,rfl,he,by omega⟩
theorem Qc {x:Cx} {i:Nat} {v:Int} {ns:List B8} {e:Nat} (h1:3<=x.dep) (h2:v<x.nod) (h3:BZ x.a x.q x.s i= .ok e) (h4:(txt x.q (slc x.s i e)).length<=65536):
  Eb x false i v ns= .ok (e,v+1,ns):=by
 simp only[Eb,Fx,Bool.false_eq_true,if_false,false_and]
 rw[if_neg (by omega),if_neg (by omega)]
 simp only[bind,Except.bind,h3]
 rw[if_neg (by omega)]
theorem entE_9 {x:Cx} {i:Nat} {v:Int} {ns:List B8} (h:x.dep<3):Eb x false i v ns= .error (i,9):=by
 simp only[Eb,Fx,Bool.false_eq_true,if_false]
 rw[if_pos h];rfl
theorem entE_10 {x:Cx} {i:Nat} {v:Int} {ns:List B8} (h:3<=x.dep) (h2:x.nod<=v):Eb x false i v ns= .error (i,10):=by
 simp only[Eb,Fx,Bool.false_eq_true,if_false]
 rw[if_neg (by omega),if_pos h2];rfl
theorem Lc {x:Cx} {i:Nat} {v:Int} {ns:List B8} {e:Nat} {v1:Int} {ns1:List B8} (h:Eb x true i v ns= .ok (e,v1,ns1)):
  v1=v/\BZ x.a x.q x.s i= .ok e/\(txt x.q (slc x.s i e)).length<=1024:=by
 simp only[Eb,if_true,true_and]at h
 simp only[bind,Except.bind]at h
 split at h
 ·cases h
 ·rename_i e' he
  split at h
  ·cases h
  ·split at h
   ·cases h
   ·cases h
    exact⟨rfl,he,by omega⟩
abbrev Cx.lim (x:Cx) (d n:Int):Cx:={x with dep:=d,nod:=n}
theorem WB {x:Cx} {num hd:Bool} {wid:Int}:∀(n:Nat) {acc:List Nd} {i:Nat} {v:Int} {ns:List B8} {e:Nat} {v':Int} {ns':List B8} {out:List Nd},
  i<=x.s.length->B2 x num wid hd n acc i v ns= .ok (e,v',ns',out)->∃ks m,out=acc++ks/\Hj x.a x.q x.s i ks e m/\v'=v+(if hd then 0 else(ks.length:Int))/\
   (∀k∈ks,(txt x.q (AM k)).length<=65536)/\(num=true->(out.length:Int)<=wid)/\(hd=false->3<=x.dep/\v'<=x.nod/\ns'=ns):=by
 intro n
 induction n with
 | zero=>intro acc i v ns e v' ns' out hi h;simp only[B2]at h;cases h
 | succ n ih=>
  intro acc i v ns e v' ns' out hi h
  simp only[B2]at h
  split at h
  ·cases h
  rename_i hw
  simp only[bind,Except.bind]at h
  split at h
  ·cases h
  rename_i p he
  obtain⟨e1,v1,ns1⟩:=p
  have hent:BZ x.a x.q x.s i= .ok e1/\(txt x.q (slc x.s i e1)).length<=65536/\v1=v+(if hd then 0 else 1)/\(hd=false->3<=x.dep/\v1<=x.nod/\ns1=ns):=by
   cases hd with
   | false=>have:=Kd he;exact⟨this.2.2.2.2.1,this.2.2.2.2.2,by simpa using this.2.2.1,fun _=>⟨this.1,by omega,this.2.2.2.1⟩⟩
   | true=>have:=Lc he;exact⟨this.2.1,by omega,by simpa using this.1,fun h=>by cases h⟩
  obtain⟨c1,c2,c3,c4⟩:=hent
  have hle:=Ch hi c1
  simp only at h
  split at h
  ·rename_i hm
   obtain⟨ks,m,k1,k2,k3,k4,k5,k6⟩:=ih (by omega) h
   refine⟨_::ks,m,by rw[k1,List.append_assoc];rfl,.more c1 hm.1 hm.2 k2,?_,?_,k5,fun hh=>?_⟩
   ·rw[k3,c3];cases hd<;>simp<;>omega
   ·intro k hk
    rcases List.mem_cons.1 hk with rfl | hk
    ·exact c2
    ·exact k4 k hk
   ·have:=k6 hh;have:=c4 hh;exact⟨by omega,by omega,by rw[(k6 hh).2.2,this.2.2]⟩
  ·rename_i hm
   split at h
   ·cases h
   rename_i m hm2
   cases h
   refine⟨_,_,rfl,.last c1 hm hm2,by rw[c3];cases hd<;>simp,?_,?_,fun hh=>⟨(c4 hh).1,(c4 hh).2.1,(c4 hh).2.2⟩⟩
   ·intro k hk
    rw[List.mem_singleton]at hk;subst hk;exact c2
   ·intro hn
    rw[List.length_append,List.length_singleton]
    have:¬wid<=(acc.length:Int):=fun h=>hw ⟨hn,h⟩
    omega
theorem recE_of {x:Cx} {num:Bool} {wid:Int} (hdep:3<=x.dep):∀{i:Nat} {ks:List Nd} {e m:Nat},Hj x.a x.q x.s i ks e m->∀(n:Nat) {acc:List Nd} {v:Int} {ns:List B8},
  i<=x.s.length->x.s.length<i+n->(∀k∈ks,(txt x.q (AM k)).length<=65536)->(num=true->((acc.length+ks.length:Nat):Int)<=wid)->v+(ks.length:Int)<=x.nod->B2 x num wid false n acc i v ns= .ok (e,v+(ks.length:Int),ns,acc++ks):=by
 intro i ks e m h
 induction h with
 | @last i e m h1 h2 h3=>
  intro n acc v ns hi hn hk hw hv
  cases n with
  | zero=>omega
  | succ n=>
  simp only[B2]
  rw[if_neg (by rintro⟨h,h'⟩;have:=hw h;simp at this;omega)]
  have hc:=hk _ (List.mem_singleton.2 rfl)
  rw[BX]at hc
  rw[Qc hdep (by simp at hv;omega) h1 hc]
  simp only[bind,Except.bind]
  rw[if_neg h2,h3]
  rfl
 | @more i e e' m ks h1 h2 h3 h4 ih=>
  intro n acc v ns hi hn hk hw hv
  cases n with
  | zero=>omega
  | succ n=>
  simp only[B2]
  simp only[List.length_cons]at hw hv
  rw[if_neg (by rintro⟨h,h'⟩;have:=hw h;omega)]
  have hc:=hk _ (List.mem_cons_self ..)
  rw[BX]at hc
  rw[Qc hdep (by omega) h1 hc]
  simp only[bind,Except.bind]
  have hle:=Ch hi h1
  rw[if_pos ⟨h2,h3⟩,ih n (by omega) (by omega) (fun k hk2=>hk k (List.mem_cons_of_mem _ hk2)) (fun h=>by have:=hw h;rw[List.length_append,List.length_singleton];omega) (by omega),List.append_assoc,List.length_cons]
  congr 2
  have:v+1+(ks.length:Int)=v+((ks.length+1:Nat):Int):=by omega
  rw[this];rfl
theorem Vp {x:Cx} {num:Bool} {wid:Int} (d' n':Int):∀(n:Nat) {acc:List Nd} {i:Nat} {v:Int} {ns:List B8},
  B2 (x.lim d' n') num wid true n acc i v ns=B2 x num wid true n acc i v ns:=by
 intro n
 induction n with
 | zero=>intros;rfl
 | succ n ih=>
  intro acc i v ns
  simp only[B2]
  have:Eb (x.lim d' n') true i v ns=Eb x true i v ns:=rfl
  rw[this]
  simp only[ih]
theorem WA {x:Cx} {num:Bool} {wid:Int} {d' n':Int}:∀(n:Nat) {acc:List Nd} {i:Nat} {v:Int} {ns:List B8} {e:Nat} {v':Int} {ns':List B8} {out:List Nd},
  B2 x num wid false n acc i v ns= .ok (e,v',ns',out)->v<v'/\(3<=d'->v'<=n'->B2 (x.lim d' n') num wid false n acc i v ns= .ok (e,v',ns',out))/\
   (3<=d'->n'<v'->∃o,B2 (x.lim d' n') num wid false n acc i v ns= .error (o,10))/\(d'<3->∃o,B2 (x.lim d' n') num wid false n acc i v ns= .error (o,9)):=by
 intro n
 induction n with
 | zero=>intro acc i v ns e v' ns' out h;simp only[B2]at h;cases h
 | succ n ih=>
  intro acc i v ns e v' ns' out h
  simp only[B2]at h⊢
  split at h
  ·cases h
  rename_i hw
  rw[if_neg hw]
  simp only[bind,Except.bind]at h⊢
  split at h
  ·cases h
  rename_i p he
  obtain⟨e1,v1,ns1⟩:=p
  obtain⟨c1,c2,rfl,rfl,c3,c4⟩:=Kd he
  simp only at h
  have e9:d'<3->Eb (x.lim d' n') false i v ns1= .error (i,9):=fun h=>entE_9 h
  have e10:3<=d'->n'<=v->Eb (x.lim d' n') false i v ns1= .error (i,10):=fun h h2=>entE_10 h h2
  have eok:3<=d'->v<n'->Eb (x.lim d' n') false i v ns1= .ok (e1,v+1,ns1):=fun h h2=>Qc h h2 c3 c4
  split at h
  ·rename_i hm
   obtain⟨k0,k1,k2,k3⟩:=ih h
   refine⟨by omega,fun h1 h2=>?_,fun h1 h2=>?_,fun h1=>?_⟩
   ·rw[eok h1 (by omega)]
    simp only
    rw[if_pos hm];exact k1 h1 h2
   ·by_cases hv:n'<=v
    ·rw[e10 h1 hv];exact⟨_,rfl⟩
    ·rw[eok h1 (by omega)]
     simp only
     rw[if_pos hm];exact k2 h1 h2
   ·rw[e9 h1];exact⟨_,rfl⟩
  ·rename_i hm
   split at h
   ·cases h
   rename_i m hm2
   cases h
   refine⟨by omega,fun h1 h2=>?_,fun h1 h2=>?_,fun h1=>?_⟩
   ·rw[eok h1 (by omega)]
    simp only
    rw[if_neg hm,hm2]
   ·rw[e10 h1 (by omega)];exact⟨_,rfl⟩
   ·rw[e9 h1];exact⟨_,rfl⟩
def HZ (s:B8) (num:Bool) (wid:Int) (R:Except (Nat×Int) (Nat×Int×List B8×List Nd)):Except (Nat×Int) (Nat×Int×List B8×Nd×Int):=
 match R with
 | .error e=> .error e
 | .ok (e,v2,ns2,ks)=>match Db s e with
  | .error e=> .error e
  | .ok n=>if (ks.length:Int)<(if num then wid else(ks.length:Int))then .error (e,10)else .ok (e+n,v2,ns2,.mk 8 [] [] ks (slc s e (e+n)),if num then wid else(ks.length:Int))
theorem FH (x:Cx) (num:Bool) (wid:Int) (hd:Bool) (i:Nat) (v:Int) (ns:List B8):F3 x num wid hd i v ns=
  if hd=true then HZ x.s num wid (B2 x num wid hd (x.s.length+1) [] i v ns)else match Fx x.dep x.nod 2 i v with
   | .error e=> .error e
   | .ok v1=>HZ x.s num wid (B2 x num wid hd (x.s.length+1) [] i v1 ns):=by
 unfold F3 HZ
 cases hd with
 | true=>
  simp only[if_true,bind,Except.bind]
  rcases B2 x num wid true (x.s.length+1) [] i v ns with e | ⟨e,v2,ns2,ks⟩
  ·rfl
  ·cases h:Db x.s e<;>simp[h]
 | false=>
  simp only[Bool.false_eq_true,if_false,bind,Except.bind]
  cases Fx x.dep x.nod 2 i v with
  | error e=>rfl
  | ok v1=>
   simp only
   rcases B2 x num wid false (x.s.length+1) [] i v1 ns with e | ⟨e,v2,ns2,ks⟩
   ·rfl
   ·cases h:Db x.s e<;>simp[h]
theorem UU {dep nod d:Int} {i:Nat} {v v1:Int} (h:Fx dep nod d i v= .ok v1):v1=v+1:=by
 unfold Fx at h
 split at h
 ·cases h
 split at h
 ·cases h
 ·cases h;rfl
theorem GX {x:Cx} {num hd:Bool} {wid:Int} {i:Nat} {v:Int} {ns:List B8} {p:Nat×Int×List B8×Nd×Int} (h:F3 x num wid hd i v ns= .ok p):
  ∃v1,v1=v+(if hd then 0 else 1)/\HZ x.s num wid (B2 x num wid hd (x.s.length+1) [] i v1 ns)= .ok p:=by
 rw[FH]at h
 cases hd with
 | true=>exact⟨v,by simp,by simpa using h⟩
 | false=>
  simp only[Bool.false_eq_true,if_false]at h
  split at h
  ·cases h
  ·rename_i v1 h1
   exact⟨v1,by simpa using UU h1,h⟩
theorem L6 {s:B8} {num:Bool} {wid:Int} {R:Except (Nat×Int) (Nat×Int×List B8×List Nd)} {p:Nat×Int×List B8×Nd×Int} (h:HZ s num wid R= .ok p):
  ∃e v2 ns2 ks m,R= .ok (e,v2,ns2,ks)/\Db s e= .ok m/\¬(ks.length:Int)<(if num then wid else(ks.length:Int))/\p=(e+m,v2,ns2,.mk 8 [] [] ks (slc s e (e+m)),if num then wid else(ks.length:Int)):=by
 unfold HZ at h
 split at h
 ·cases h
 rename_i e v2 ns2 ks
 split at h
 ·cases h
 rename_i m hm
 by_cases hw:(ks.length:Int)<(if num then wid else(ks.length:Int))
 ·rw[if_pos hw]at h;cases h
 ·rw[if_neg hw]at h
  exact⟨e,v2,ns2,ks,m,rfl,hm,hw,(Except.ok.inj h).symm⟩
end Go.TVF
