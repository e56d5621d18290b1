/- What the laws below rest on: a framework for Go programs, and contracts of the functions that they reach. -/
import Derived.Test.YtpfhcnpnngjpnaaGreatDoorGfG
set_option maxRecDepth 20000
set_option linter.unusedVariables false
set_option linter.unusedSimpArgs false
namespace Go.TVF
open Go.IntKind(i64 u8)
open Go Go.Proofs
section
noncomputable def shE (a q:Int) (ty:Bool) (v:Vl):Int:=if dOk a q=false then 1 else if De v≠0 then(De v:Int)else BW ty v.sc.kind
noncomputable def shT (a q:Int) (ty:Bool) (v:Vl):B8:=if shE a q ty v=0 then By a q ty v.sc else []
theorem YP {a q:Int} {s:B8} (hd:dOk a q=true) (hv:vlen s=s.length):Kx a q s= .ok (AO a q s):=by
 unfold Kx
 rw[if_neg (by rw[hd];decide),if_pos hv]
section
variable {a q:Int} {hd ty:Bool} {st:St}
theorem UO {s:Sc} {ub ul uf:TV} (hdo:dOk a q=true) (hk0:0<=s.kind) (hk7:s.kind<=7) (hdec:s.kind=2->Di s.neg s.dg s.ex) (htm:s.kind=3->Ee s.tk s.td s.tn s.tz) (hu:s.kind=4->vlen s.text=s.text.length) (hl:s.text.length<=1000000)
  {K:B8->Int->St->Prop} (hk:∀st',Ak st st'->K (if BW ty s.kind=0 then By a q ty s else []) (BW ty s.kind) st'):
  CallT PR DG [.agg (Bh s ub ul uf),.agg [.int .u8 a,.int .u8 q,.bool hd,.bool ty]] [.one .str,.one (.int .i64)] st K:=by
 have e0:=Ak.refl st
 have d:=UV hdo
 have ok:BW ty s.kind=0->∀st',Ak st st'->K (By a q ty s) 0 st':=fun he st' e=>by have:=hk st' e;rwa [if_pos he,he]at this
 have bad:BW ty s.kind=27->K [] 27 st:=fun he=>by have:=hk st e0;rwa [he,if_neg (by decide)]at this
 refine R4 _ _ _ _ _ _ _ _ _ _ _ _ _ a q hd ty st K (Aq (fun g=>Aa (fun g1=>bad ?_) fun g1=>?sw1) fun g=>?sw2)
 ·have hty:ty=false:=by simpa using g
  unfold BW;rw[if_pos (.inl ⟨hty,g1⟩)]
 case sw1 | sw2=>
  have hE:s.kind<=4->BW ty s.kind=0:=fun h4=>by
   unfold BW
   rw[if_neg]
   rintro(⟨h,h'⟩ | h)
   ·first
     | exact g1 h'
     | (rw[h]at g;cases g)
   ·omega
  have hP:∀t,s.kind≠4->plT s=t->By a q ty s=t:=fun t h4 h=>by unfold By;rw[if_neg h4];exact h
  refine Aa (fun k0=>?_) fun k0=>Aa (fun k1=>Aq (fun hb=>?_) fun hb=>?_) fun k1=>Aa (fun k2=>dText_ok (hdec k2) fun st1 e1=>?_) fun k2=>Aa (fun k3=>mText_ok (htm k3) fun st1 e1=>?_) fun k3=>Aa (fun k4=>?_) fun k4=>bad ?_
  ·have:=ok (hE (by omega)) st e0
   rwa [hP [] (by omega) (by unfold plT;rw[if_neg (by omega),if_neg (by omega),if_neg (by omega)])]at this
  ·have:=ok (hE (by omega)) st e0
   rwa [hP Lm (by omega) (by unfold plT;rw[if_pos k1,if_pos hb])]at this
  ·have:=ok (hE (by omega)) st e0
   rwa [hP Jh (by omega) (by unfold plT;rw[if_pos k1,if_neg (by rw[hb];decide)])]at this
  ·have:=ok (hE (by omega)) st1 e1
   rwa [hP _ (by omega) (by unfold plT;rw[if_neg (by omega),if_pos k2])]at this
  ·have:=ok (hE (by omega)) st1 e1
   rwa [hP _ (by omega) (by unfold plT;rw[if_neg (by omega),if_neg (by omega),if_pos k3])]at this
  ·have hu:=hu k4
   have ok:=ok (hE (by omega))
   have hS:By a q ty s=if AO a q s.text=s.text/\(CD ty false s.text).kind≠4 then Gs q s.text else AO a q s.text:=by unfold By;rw[if_pos k4]
   refine Mv (by omega) ?_
   rw[YP hdo hu]
   refine Aa (fun h=>absurd rfl h) fun _=>Aa (fun h1=>?_) fun h1=>?_
   ·have:=ok st e0
    rwa [hS,if_neg fun h=>h1 h.1]at this
   ·have h1:AO a q s.text=s.text:=Decidable.not_not.1 h1
    show CallT PR CN [.str (AO a q s.text),.bool false,.agg [.int .u8 a,.int .u8 q,.bool hd,.bool ty]] [.agg Vt] st _
    rw[h1]
    refine Pw hl fun st1 e1=>Aa (fun h2=>?_) fun h2=>?_
    ·have:=ok st1 e1
     rwa [hS,if_neg fun h=>h.2 h2,h1]at this
    ·have hq1:=d.q1
     have hqn:=CL (q:=q) d.q0 (by omega)
     refine Ac (Me st1 (UInt8.ofNat q.toNat) hqn) (Am ⟨by simp,Ke (s:=s.text) (by simp) (by omega) ?_⟩)
     have hdl:=JW (UInt8.ofNat q.toNat) s.text
     unfold dbl at hdl
     refine⟨by simp only[List.length_cons,List.length_nil];omega,by simp only[List.length_append,List.length_cons,List.length_nil];omega,?_⟩
     have:=ok st1 e1
     rwa [hS,if_pos ⟨h1,h2⟩]at this
  ·unfold BW;rw[if_pos (by omega)]
theorem gShow_ok {v:Vl} (hN:v.sz<=2000000) {cs:List TV} {K:B8->Int->St->Prop} (h:VlR St.zero v cs) (hk:∀st',Ak st st'->K (shT a q ty v) (shE a q ty v) st'):
  CallT PR In [.agg cs,.agg [.int .u8 a,.int .u8 q,.bool hd,.bool ty]] [.one .str,.one (.int .i64)] st K:=by
 obtain⟨s,l,f⟩:=v
 obtain⟨ub,ul,uf,xl,xf,rfl,_⟩:=h.cells
 unfold shT at hk
 refine R6 _ _ _ _ _ _ _ _ _ _ _ _ _ a q hd ty st K (HI (Aq (fun g=>?_) fun g=>?_))
 ·have he:shE a q ty (.mk s l f)=1:=by unfold shE;rw[if_pos (by simpa using g)]
  have:=hk st (Ak.refl _)
  rwa [he,if_neg (by decide)]at this
 have g:dOk a q=true:=by simpa using g
 refine Vw (v:= .mk s l f) (by omega) h (G0 _) fun st1 e1=>Aa (fun g1=>?_) fun g1=>?_
 ·have he:shE a q ty (.mk s l f)=(De (.mk s l f):Int):=by unfold shE;rw[if_neg (by rw[g];decide),if_pos (by omega)]
  have:=hk st1 e1
  rwa [he,if_neg (by omega)]at this
 have g1:De (.mk s l f)=0:=by omega
 have he:shE a q ty (.mk s l f)=BW ty s.kind:=by unfold shE;rw[if_neg (by rw[g];decide),if_neg (by omega)];rfl
 rw[he]at hk
 have ho:=(Jx g1).own.1
 have hsz:=szs s l f
 refine UO g ho.own.k0 ho.own.k7 (fun _=>ho.dec) ho.time (fun _=>ho.text) (by have:=ho.tlen;omega) fun st2 e2=>?_
 exact hk st2 (e1.trans e2)
end
end
section
structure W8 (a q:Int) (rs:List Nd) (W:Nat):Prop where
 form:∀r,r∈rs->RecF a q r
 wid:∀r,r∈rs->(Au r).length=W
 len:∀r,r∈rs->∀k,k∈Au r->(txt q (AN k)).length<=65536/\(AN k).length<=2000000
 cnt:rs.length<=2000000
 wlen:W<=10000000
def AL (q:Int) (hd ty:Bool):List (List B8)->List Vl
 | []=>[]
 | h::t=>if hd then t.map fun r=>Jl (h.map (txt q)) (Be q ty r)else(h::t).map fun r=>AR ((Be q ty r).map AS)
theorem valX_eq (q:Int) (hd ty:Bool) (l:List (List B8)):Yl q hd ty l=AR (AL q hd ty l):=by
 cases l with
 | nil=>rfl
 | cons h t=>cases hd<;>rfl
theorem EM (q:Int) (ty:Bool) (l:List (List B8)):AL q false ty l=l.map fun r=>AR ((Be q ty r).map AS):=by
 cases l<;>rfl
theorem OA {q:Int} {ty:Bool} {l:List (List B8)} {j:Nat} {row:List B8} (h:l[j]? =some row):AL q false ty (l.take (j+1))=AL q false ty (l.take j)++[AR ((Be q ty row).map AS)]:=by
 rw[EM,EM,List.take_add_one,h,List.map_append];rfl
theorem Ty (q:Int) (ty:Bool) (l:List (List B8)):AL q true ty (l.take 1)=[]:=by
 cases l<;>rfl
theorem Oz {q:Int} {ty:Bool} {l:List (List B8)} {j:Nat} {row h0:List B8} (h:l[j]? =some row) (hj:0<j) (h1:l[0]? =some h0):AL q true ty (l.take (j+1))=AL q true ty (l.take j)++[Jl (h0.map (txt q)) (Be q ty row)]:=by
 cases l with
 | nil=>cases h1
 | cons x t=>
  obtain⟨i,rfl⟩:∃i,j=i+1:=⟨j-1,by omega⟩
  simp only[List.getElem?_cons_zero,Option.some.injEq]at h1
  subst h1
  simp only[List.getElem?_cons_succ]at h
  show(t.take (i+1)).map _=(t.take i).map _++_
  rw[List.take_add_one,h,List.map_append];rfl
theorem HS.ldA {α:Type} {f:α->TV} {v:TV} {rows:List (List α)} (h:HS f v rows) {i:Nat} {row:List α} (hr:rows[i]? =some row):∃u,(∀st,Ad st [] (.t (ixT 1 v i)) 0=some u)/\J4 f u row:=by
 obtain⟨vs,h1,h2,h3⟩:=h
 have hlt:i<vs.length:=by rw[h2];exact(List.getElem?_eq_some_iff.1 hr).1
 have hu:=List.getElem?_eq_getElem hlt
 exact⟨vs[i],fun st=>Rd.ldx h1 st i 0 (by rw[Nat.mul_one,Nat.add_zero];exact hu),h3 i _ row hu hr⟩
theorem RU (s:Sc) (h:s.bytes=[]):VlR St.zero (AS s) (Bh s .nilSlice .nilSlice .nilSlice):=vlLeaf St.zero s h
theorem NT {l:List Vl} {u:TV} {xs:List TV} (h:Rd 13 u l.length xs) (hv:VsR St.zero l xs):VlR St.zero (AR l) (Bh (scW 6) .nilSlice u .nilSlice):=by
 unfold AR VlR
 exact⟨_,_,_,xs,[],rfl,.of_rd (.inl ⟨rfl,rfl,rfl⟩),.of_rd h,hv,.of_rd (.inl ⟨rfl,rfl,rfl⟩),by unfold FsR;rfl⟩
theorem vr_map {f:List Fd} {u:TV} {xs:List TV} (h:Rd 14 u f.length xs) (hv:FsR St.zero f xs):VlR St.zero (Gr f) (Bh (scW 7) .nilSlice .nilSlice u):=by
 unfold Gr VlR
 exact⟨_,_,_,[],xs,rfl,.of_rd (.inl ⟨rfl,rfl,rfl⟩),.of_rd (.inl ⟨rfl,rfl,rfl⟩),by unfold VsR;rfl,.of_rd h,hv⟩
theorem Ub {q:Int} {ty:Bool} {ks:List Nd} {m:Nat} {k:Nd} (h:ks[m]? =some k):(Be q ty (ks.map AN))[m]? =some (CD ty (Bm q (AN k)) (txt q (AN k))):=by
 unfold Be
 rw[List.getElem?_map,List.getElem?_map,h];rfl
theorem Cj (q:Int) (ty:Bool) (l:List B8):(Be q ty l).length=l.length:=by unfold Be;rw[List.length_map]
theorem Yu {q:Int} {ty:Bool} {ks:List Nd} {m:Nat} {k:Nd} (h:ks[m]? =some k):((Be q ty (ks.map AN)).take (m+1)).map AS=((Be q ty (ks.map AN)).take m).map AS++[AS (CD ty (Bm q (AN k)) (txt q (AN k)))]:=by
 rw[List.take_add_one,Ub h,List.map_append];rfl
def Eo (names:List B8) (row:List Sc):List Fd:=List.zipWith (fun k s=>Fd.mk k (AS s)) names row
theorem Yv {names:List B8} {row:List Sc} {m:Nat} {nm:B8} {s:Sc} (h1:names[m]? =some nm) (h2:row[m]? =some s):Eo (names.take (m+1)) (row.take (m+1))=Eo (names.take m) (row.take m)++[Fd.mk nm (AS s)]:=by
 unfold Eo
 rw[<-List.take_zipWith,<-List.take_zipWith,List.take_add_one]
 congr 1
 rw[List.getElem?_zipWith,h1,h2];rfl
section
variable {a q:Int} {hd ty:Bool} {st:St}
theorem Rt {n:Nd} {cs:List TV} (hc:NdC n cs) (hl:Ep n<=100000000000000) (hcn:Ff n<=1000000000000000) (ht:HA n a q hd->∃W,W8 a q (Mt n) W) {K:Int->Bool->Bool->B8->Int->Int->Int->Int->Int->B8->TV->TV->TV->Int->St->Prop}
  (hk1:¬HA n a q hd->∀st',Ak st st'->K 0 false false [] 0 0 0 0 0 [] .nilSlice .nilSlice .nilSlice 1 st')
  (hk2:HA n a q hd->∀u xs st',Ak st st'->Rd 13 u (AL q hd ty (AB (Mt n))).length xs->VsR St.zero (AL q hd ty (AB (Mt n))) xs->K 6 false false [] 0 0 0 0 0 [] .nilSlice u .nilSlice 0 st'):
  CallT PR Ha [.agg cs,.agg [.int .u8 a,.int .u8 q,.bool hd,.bool ty]] [.agg Vt,.one (.int .i64)] st K:=by
 have w1:∀k:Nat,k<=100000000->i64.wrap ((k:Int)+1)=((k+1:Nat):Int):=fun k hk=>by rw[Ai _ (by omega) (by omega)];omega
 have tn:∀k:Nat,Int.toNat (k:Int)=k:=fun k=>rfl
 obtain⟨kd,t0,t1,kv,tl,rfl,_⟩:=hc.five
 refine Qs kd t0 t1 kv tl a q hd ty st K (Um hc hl hcn fun v1 st1 e1 g1=>?_)
 by_cases ho:HA n a q hd
 case neg=>
  have he:Kg n a q hd=1:=by unfold Kg;rw[if_neg ho]
  rw[he]
  exact Aa (fun _=>hk1 ho st1 e1) fun h=>absurd (by decide) h
 have he:Kg n a q hd=0:=by unfold Kg;rw[if_pos ho]
 have hg:∀{α:Type} (g:B8->α),GI g n a q hd=cellsT g (Mt n):=fun g=>by unfold GI;rw[if_pos ho]
 rw[he]
 refine Aa (fun h=>absurd rfl h) fun _=>V2 hc hl hcn fun v2 st2 e2 g2=>?_
 rw[hg]at g1 g2
 obtain⟨W,hT⟩:=ht ho
 clear ht
 have hk2:=hk2 ho
 generalize hrs:Mt n=rs at*
 have e12:=e1.trans e2
 have hcnt:=hT.cnt
 have hwl:=hT.wlen
 obtain⟨vs1,hr1⟩:=g1.rd
 obtain⟨vs2,hr2⟩:=g2.rd
 have hL:∀{α:Type} (g:B8->α),(cellsT g rs).length=rs.length:=fun g=>by unfold cellsT;rw[List.length_map]
 rw[hL]at hr1 hr2
 have hget:∀{α:Type} (g:B8->α) {j:Nat} {r:Nd},rs[j]? =some r->(cellsT g rs)[j]? =some ((Au r).map fun k=>g (AN k)):=fun g j r h=>by unfold cellsT;rw[List.getElem?_map,h];rfl
 have hraw:∀{j:Nat} {r:Nd},rs[j]? =some r->(AB rs)[j]? =some ((Au r).map AN):=fun {j r} h=>by unfold AB;rw[List.getElem?_map,h];rfl
 have hrawl:(AB rs).length=rs.length:=by unfold AB;rw[List.length_map]
 refine Ab hr1.isSl ?_
 refine⟨fun zn zr zq zv zm c1 c2 b1 b2 kA boA ngA dgA exA tkA tdA tnA tzA txA u0A u1A u2A kB boB ngB dgB exB tkB tdB tnB tzB txB u0B u1B u2B st'=>v1=zr/\v2=zq/\v1=zv/\(rs.length:Int)=zm/\a=c1/\q=c2/\hd=b1/\ty=b2/\6=kB/\false=boB/\false=ngB/\[]=dgB/\0=exB/\0=tkB/\0=tdB/\0=tnB/\0=tzB/\[]=txB/\.nilSlice=u0B/\.nilSlice=u2B/\Ak st2 st'/\∃j:Nat,zn=(j:Int)/\j<=rs.length/\∃xs,Own st2.nt 13 st' u1B (AL q hd ty ((AB rs).take j)).length xs/\VsR St.zero (AL q hd ty ((AB rs).take j)) xs,
  fun n _ _ _ _ _ _ _ _ _ _ _ _ _ _ _ _ _ _ _ _ _ _ _ _ _ _ _ _ _ _ _ _ _ _ _=>(rs.length-n).toNat,⟨rfl,rfl,rfl,by rw[hr1.lenS],rfl,rfl,rfl,rfl,rfl,rfl,rfl,rfl,rfl,rfl,rfl,rfl,rfl,rfl,rfl,rfl,Ak.refl _,0,rfl,Nat.zero_le _,[],by rw[List.take_zero];exact Own.nil _ _ _,by rw[List.take_zero];exact VsR.nil _⟩,?_⟩
 rintro _ _ _ _ _ _ _ _ _ kA boA ngA dgA exA tkA tdA tnA tzA txA u0A u1A u2A _ _ _ _ _ _ _ _ _ _ _ vB _ st3 ⟨rfl,rfl,rfl,rfl,rfl,rfl,rfl,rfl,rfl,rfl,rfl,rfl,rfl,rfl,rfl,rfl,rfl,rfl,rfl,rfl,e3,j,rfl,hj,xs,hB,hBv⟩
 rw[tn]
 refine Aa (fun g=>?_) fun g=>?_
 case refine_2=>
  have hjl:(AB rs).take j=AB rs:=List.take_of_length_le (by omega)
  rw[hjl]at hB hBv
  refine Ab (Dp rfl hB.rd.one rfl) (hk2 _ xs _ (e12.trans e3) hB.rd hBv)
 have hjlt:j<rs.length:=by omega
 obtain⟨r,hjr⟩:∃r,rs[j]? =some r:=⟨_,List.getElem?_eq_getElem hjlt⟩
 have hmem:=List.mem_of_getElem? hjr
 have hwid:=hT.wid r hmem
 obtain⟨uj,hlj,rj⟩:=g1.ldA (hget (txt q) hjr)
 obtain⟨qj,hlq,rq⟩:=g2.ldA (hget (Bm q) hjr)
 have hrjl:=Rd.lenS rj
 have hrjz:=Rd.lenZ rj
 have hrqz:=Rd.lenZ rq
 rw[List.length_map,hwid]at hrjl hrjz hrqz
 refine⟨⟨by omega,by rw[hr1.lenZ];omega⟩,Ac (hlj _) (Aq (fun hh=>Ab (Rd.isSl rj) ?_) fun hh=>Aa (fun g0=>Ab (Rd.isSl rj) ?_) fun g0=>?_)⟩
 ·have hhd:hd=false:=by simpa using hh
  subst hhd
  refine⟨fun zn zr zq zi zv zm n5 v3 n6 c1 c2 b7 b8 kA boA ngA dgA exA tkA tdA tnA tzA txA u0A u1A u2A kB boB ngB dgB exB tkB tdB tnB tzB txB u0B u1B u2B kC boC ngC dgC exC tkC tdC tnC tzC txC u0C u1C u2C st'=>v1=zr/\v2=zq/\(j:Int)=zi/\v1=zv/\(rs.length:Int)=zm/\(j:Int)=n5/\uj=v3/\(W:Int)=n6/\a=c1/\q=c2/\false=b7/\ty=b8/\6=kB/\false=boB/\false=ngB/\[]=dgB/\0=exB/\0=tkB/\0=tdB/\0=tnB/\0=tzB/\[]=txB/\.nilSlice=u0B/\.nilSlice=u2B/\vB=u1B/\6=kC/\false=boC/\false=ngC/\[]=dgC/\0=exC/\0=tkC/\0=tdC/\0=tnC/\0=tzC/\[]=txC/\.nilSlice=u0C/\.nilSlice=u2C/\Ak st3 st'/\∃m':Nat,zn=(m':Int)/\m'<=W/\∃ys,Own st3.nt 13 st' u1C m' ys/\VsR St.zero (((Be q ty ((Au r).map AN)).take m').map AS) ys,
   fun n _ _ _ _ _ _ _ _ _ _ _ _ _ _ _ _ _ _ _ _ _ _ _ _ _ _ _ _ _ _ _ _ _ _ _ _ _ _ _ _ _ _ _ _ _ _ _ _ _ _ _ _=>(W-n).toNat,⟨rfl,rfl,rfl,rfl,rfl,rfl,rfl,by rw[hrjl],rfl,rfl,rfl,rfl,rfl,rfl,rfl,rfl,rfl,rfl,rfl,rfl,rfl,rfl,rfl,rfl,rfl,rfl,rfl,rfl,rfl,rfl,rfl,rfl,rfl,rfl,rfl,rfl,rfl,Ak.refl _,0,rfl,Nat.zero_le _,[],Own.nil _ _ _,by rw[List.take_zero];exact VsR.nil _⟩,?_⟩
  rintro _ _ _ _ _ _ _ _ _ _ _ _ _ kA boA ngA dgA exA tkA tdA tnA tzA txA u0A u1A u2A _ _ _ _ _ _ _ _ _ _ _ _ _ _ _ _ _ _ _ _ _ _ _ _ vC _ st4 ⟨rfl,rfl,rfl,rfl,rfl,rfl,rfl,rfl,rfl,rfl,rfl,rfl,rfl,rfl,rfl,rfl,rfl,rfl,rfl,rfl,rfl,rfl,rfl,rfl,rfl,rfl,rfl,rfl,rfl,rfl,rfl,rfl,rfl,rfl,rfl,rfl,rfl,e4,m,rfl,hm,ys,hC,hCv⟩
  rw[tn,tn]
  refine Aa (fun g=>?_) fun g=>?_
  ·have hmlt:m<(Au r).length:=by omega
   obtain⟨k,hkm⟩:∃k,(Au r)[m]? =some k:=⟨_,List.getElem?_eq_getElem hmlt⟩
   have hkl:=hT.len r hmem k (List.mem_of_getElem? hkm)
   have l1:=J4.ld rj st4 (i:=m) (a:=txt q (AN k)) (by rw[List.getElem?_map,hkm];rfl)
   have l2:=J4.ld rq st4 (i:=m) (a:=Bm q (AN k)) (by rw[List.getElem?_map,hkm];rfl)
   refine⟨⟨by omega,by rw[hrjz];omega⟩,Ac l1 (Am ⟨⟨by omega,by rw[hr2.lenZ];omega⟩,Ac (hlq _) ⟨⟨by omega,by rw[hrqz];omega⟩,Ac l2 (Ap ?_)⟩⟩)⟩
   refine Pw (by omega) fun st5 e5=>⟨hlq _,Ab (Dp rfl rfl rfl) ?_⟩
   have hcb:=Jy ty (Bm q (AN k)) (txt q (AN k))
   refine D2 (e4.trans e5) rfl (hC.ext e5) (by omega) (fun h=>by cases h) fun v' st6 e6 _ ho'=>Ab (List.all_eq_true.2 fun x hx=>by rw[List.mem_singleton.1 hx];exact ho'.rd.one) ?_
   rw[w1 m (by omega)]
   refine⟨⟨rfl,rfl,rfl,rfl,rfl,rfl,rfl,rfl,rfl,rfl,rfl,rfl,rfl,rfl,rfl,rfl,rfl,rfl,rfl,rfl,rfl,rfl,rfl,rfl,rfl,rfl,rfl,rfl,rfl,rfl,rfl,rfl,rfl,rfl,rfl,rfl,rfl,e6,m+1,rfl,by omega,_,ho',?_⟩,by dsimp only;omega⟩
   rw[Yu hkm]
   exact hCv.snoc (RU _ hcb)
  ·have hmW:m=W:=by omega
   subst hmW
   have hfull:(Be q ty ((Au r).map AN)).take (Au r).length=Be q ty ((Au r).map AN):=List.take_of_length_le (by rw[Cj,List.length_map];omega)
   rw[<-hwid]at hC hCv
   rw[hfull]at hCv
   have hx:VlR St.zero (AR ((Be q ty ((Au r).map AN)).map AS)) (Bh (scW 6) .nilSlice vC .nilSlice):=NT (by rw[List.length_map,Cj,List.length_map];exact hC.rd) hCv
   refine Ab (Dp rfl hC.rd.one rfl) ?_
   have hlen:(AL q false ty ((AB rs).take j)).length<=2000000:=by rw[EM,List.length_map,List.length_take];omega
   refine D2 (e3.trans e4) rfl (hB.ext e4) (by omega) (fun h=>by cases h) fun v' st6 e6 _ ho'=>Ab (List.all_eq_true.2 fun x hx=>by rw[List.mem_singleton.1 hx];exact ho'.rd.one) ?_
   rw[w1 j (by omega)]
   refine⟨⟨rfl,rfl,rfl,rfl,rfl,rfl,rfl,rfl,rfl,rfl,rfl,rfl,rfl,rfl,rfl,rfl,rfl,rfl,rfl,rfl,e6,j+1,rfl,by omega,xs++Bh (scW 6) .nilSlice vC .nilSlice,?_,?_⟩,by dsimp only;omega⟩
   ·rw[OA (hraw hjr),List.length_append];exact ho'
   ·rw[OA (hraw hjr)];exact hBv.snoc hx
 ·have hhd:hd=true:=by cases hd;exact absurd hh (by decide);rfl
  subst hhd
  obtain⟨r0,hj0⟩:∃r,rs[0]? =some r:=⟨_,List.getElem?_eq_getElem (by omega)⟩
  have hmem0:=List.mem_of_getElem? hj0
  have hwid0:=hT.wid r0 hmem0
  obtain⟨u0,hl0,rr0⟩:=g1.ldA (hget (txt q) hj0)
  have hr0z:=Rd.lenZ rr0
  rw[List.length_map,hwid0]at hr0z
  refine⟨fun zn zr zq zi zv zm n5 v3 n6 c1 c2 b7 b8 kA boA ngA dgA exA tkA tdA tnA tzA txA u0A u1A u2A kB boB ngB dgB exB tkB tdB tnB tzB txB u0B u1B u2B kC boC ngC dgC exC tkC tdC tnC tzC txC u0C u1C u2C st'=>v1=zr/\v2=zq/\(j:Int)=zi/\v1=zv/\(rs.length:Int)=zm/\(j:Int)=n5/\uj=v3/\(W:Int)=n6/\a=c1/\q=c2/\true=b7/\ty=b8/\6=kB/\false=boB/\false=ngB/\[]=dgB/\0=exB/\0=tkB/\0=tdB/\0=tnB/\0=tzB/\[]=txB/\.nilSlice=u0B/\.nilSlice=u2B/\vB=u1B/\7=kC/\false=boC/\false=ngC/\[]=dgC/\0=exC/\0=tkC/\0=tdC/\0=tnC/\0=tzC/\[]=txC/\.nilSlice=u0C/\.nilSlice=u1C/\Ak st3 st'/\∃m':Nat,zn=(m':Int)/\m'<=W/\∃ys,Own st3.nt 14 st' u2C m' ys/\FsR St.zero (Eo ((((Au r0).map AN).map (txt q)).take m') ((Be q ty ((Au r).map AN)).take m')) ys,
   fun n _ _ _ _ _ _ _ _ _ _ _ _ _ _ _ _ _ _ _ _ _ _ _ _ _ _ _ _ _ _ _ _ _ _ _ _ _ _ _ _ _ _ _ _ _ _ _ _ _ _ _ _=>(W-n).toNat,⟨rfl,rfl,rfl,rfl,rfl,rfl,rfl,by rw[hrjl],rfl,rfl,rfl,rfl,rfl,rfl,rfl,rfl,rfl,rfl,rfl,rfl,rfl,rfl,rfl,rfl,rfl,rfl,rfl,rfl,rfl,rfl,rfl,rfl,rfl,rfl,rfl,rfl,rfl,Ak.refl _,0,rfl,Nat.zero_le _,[],Own.nil _ _ _,by rw[List.take_zero,List.take_zero];exact FsR.nil _⟩,?_⟩
  rintro _ _ _ _ _ _ _ _ _ _ _ _ _ kA boA ngA dgA exA tkA tdA tnA tzA txA u0A u1A u2A _ _ _ _ _ _ _ _ _ _ _ _ _ _ _ _ _ _ _ _ _ _ _ _ _ vC st4 ⟨rfl,rfl,rfl,rfl,rfl,rfl,rfl,rfl,rfl,rfl,rfl,rfl,rfl,rfl,rfl,rfl,rfl,rfl,rfl,rfl,rfl,rfl,rfl,rfl,rfl,rfl,rfl,rfl,rfl,rfl,rfl,rfl,rfl,rfl,rfl,rfl,rfl,e4,m,rfl,hm,ys,hC,hCv⟩
  rw[tn,tn]
  refine Aa (fun g=>?_) fun g=>?_
  ·have hmlt:m<(Au r).length:=by omega
   have hmlt0:m<(Au r0).length:=by omega
   obtain⟨k,hkm⟩:∃k,(Au r)[m]? =some k:=⟨_,List.getElem?_eq_getElem hmlt⟩
   obtain⟨k0,hkm0⟩:∃k,(Au r0)[m]? =some k:=⟨_,List.getElem?_eq_getElem hmlt0⟩
   have hkl:=hT.len r hmem k (List.mem_of_getElem? hkm)
   have l1:=J4.ld rj st4 (i:=m) (a:=txt q (AN k)) (by rw[List.getElem?_map,hkm];rfl)
   have l0:∀st,Ad st [] (.t (ixT 1 u0 m)) 0=some (.str (txt q (AN k0))):=fun st=>J4.ld rr0 st (i:=m) (a:=txt q (AN k0)) (by rw[List.getElem?_map,hkm0];rfl)
   have l2:=J4.ld rq st4 (i:=m) (a:=Bm q (AN k)) (by rw[List.getElem?_map,hkm];rfl)
   refine⟨⟨by omega,by rw[hrjz];omega⟩,Ac l1 (Am ⟨⟨by omega,by rw[hr1.lenZ];omega⟩,Ac (hl0 _) ⟨⟨by omega,by rw[hr0z];omega⟩,Ac (l0 _) (Am ⟨⟨by omega,by rw[hr2.lenZ];omega⟩,Ac (hlq _) ⟨⟨by omega,by rw[hrqz];omega⟩,Ac l2 (Ap ?_)⟩⟩)⟩⟩)⟩
   refine Pw (by omega) fun st5 e5=>⟨hlq _,l0 _,hl0 _,Ab (one14 rfl rfl rfl) ?_⟩
   have hcb:=Jy ty (Bm q (AN k)) (txt q (AN k))
   refine D2 (e4.trans e5) rfl (hC.ext e5) (by omega) (fun h=>by cases h) fun v' st6 e6 _ ho'=>Ab (List.all_eq_true.2 fun x hx=>by rw[List.mem_singleton.1 hx];exact ho'.rd.one) ?_
   rw[w1 m (by omega)]
   refine⟨⟨rfl,rfl,rfl,rfl,rfl,rfl,rfl,rfl,rfl,rfl,rfl,rfl,rfl,rfl,rfl,rfl,rfl,rfl,rfl,rfl,rfl,rfl,rfl,rfl,rfl,rfl,rfl,rfl,rfl,rfl,rfl,rfl,rfl,rfl,rfl,rfl,rfl,e6,m+1,rfl,by omega,_,ho',?_⟩,by dsimp only;omega⟩
   rw[Yv (nm:=txt q (AN k0)) (by rw[List.getElem?_map,List.getElem?_map,hkm0];rfl) (Ub hkm)]
   exact hCv.snoc0 (by unfold FdR;exact⟨_,rfl,RU _ hcb⟩)
  ·have hmW:m=W:=by omega
   subst hmW
   rw[<-hwid]at hC hCv
   have hfull:(Be q ty ((Au r).map AN)).take (Au r).length=Be q ty ((Au r).map AN):=List.take_of_length_le (by rw[Cj,List.length_map];omega)
   have hfull0:(((Au r0).map AN).map (txt q)).take (Au r).length=((Au r0).map AN).map (txt q):=List.take_of_length_le (by rw[List.length_map,List.length_map];omega)
   rw[hfull,hfull0]at hCv
   have hfl:(Eo (((Au r0).map AN).map (txt q)) (Be q ty ((Au r).map AN))).length=(Au r).length:=by unfold Eo;rw[List.length_zipWith,Cj,List.length_map,List.length_map,List.length_map];omega
   have hx:VlR St.zero (Jl (((Au r0).map AN).map (txt q)) (Be q ty ((Au r).map AN))) (Bh (scW 7) .nilSlice .nilSlice vC):=vr_map (f:=Eo (((Au r0).map AN).map (txt q)) (Be q ty ((Au r).map AN))) (by rw[hfl];exact hC.rd) hCv
   refine Ab (Dp rfl rfl hC.rd.one) ?_
   have hlen:(AL q true ty ((AB rs).take j)).length<=2000000:=by
    cases hb:(AB rs).take j with
    | nil=>exact Nat.zero_le _
    | cons x y=>
     have:=congrArg List.length hb
     rw[List.length_take,List.length_cons]at this
     show(y.map _).length<=_
     rw[List.length_map];omega
   refine D2 (e3.trans e4) rfl (hB.ext e4) (by omega) (fun h=>by cases h) fun v' st6 e6 _ ho'=>Ab (List.all_eq_true.2 fun x hx=>by rw[List.mem_singleton.1 hx];exact ho'.rd.one) ?_
   rw[w1 j (by omega)]
   refine⟨⟨rfl,rfl,rfl,rfl,rfl,rfl,rfl,rfl,rfl,rfl,rfl,rfl,rfl,rfl,rfl,rfl,rfl,rfl,rfl,rfl,e6,j+1,rfl,by omega,xs++Bh (scW 7) .nilSlice .nilSlice vC,?_,?_⟩,by dsimp only;omega⟩
   ·rw[Oz (hraw hjr) (by omega) (hraw hj0),List.length_append];exact ho'
   ·rw[Oz (hraw hjr) (by omega) (hraw hj0)];exact hBv.snoc hx
 ·have hhd:hd=true:=by cases hd;exact absurd hh (by decide);rfl
  subst hhd
  have hj0:j=0:=by omega
  subst hj0
  rw[w1 0 (by omega)]
  refine⟨⟨rfl,rfl,rfl,rfl,rfl,rfl,rfl,rfl,rfl,rfl,rfl,rfl,rfl,rfl,rfl,rfl,rfl,rfl,rfl,rfl,e3,1,rfl,by omega,xs,?_,?_⟩,by dsimp only;omega⟩
  ·rw[Ty]
   rw[List.take_zero]at hB
   exact hB
  ·rw[Ty]
   rw[List.take_zero]at hBv
   exact hBv
end
end
theorem ZX (s:Sc):(AS s).sz=1+s.bytes.length+s.text.length+s.dg.length:=szl' s
theorem Vi (ty qd:Bool) (s:B8):(AS (CD ty qd s)).sz<=1+s.length:=by
 have hd:=dcP_len s
 rw[ZX,Jy]
 unfold CD
 by_cases h1:ty=false∨qd=true
 ·rw[if_pos h1];simp[tkT]
 rw[if_neg h1]
 by_cases h2:s=[]
 ·rw[if_pos h2];simp[scK]
 rw[if_neg h2]
 by_cases h3:s=Lm
 ·rw[if_pos h3];simp[tkB]
 rw[if_neg h3]
 by_cases h4:s=Jh
 ·rw[if_pos h4];simp[tkB]
 rw[if_neg h4]
 by_cases h5:(dcP s).2.2.2=0
 ·rw[if_pos h5];simp[tkN];omega
 rw[if_neg h5]
 by_cases h6:(tmP s).2.2.2.2=0
 ·rw[if_pos h6];simp[tkM]
 rw[if_neg h6];simp[tkT]
theorem Sq (q:Int) (ty:Bool):∀r:List B8,Cd ((Be q ty r).map AS)<=r.length+Bv r
 | []=>by simp[Be,Cd,Bv]
 | c::r=>by
  have h1:=Sq q ty r
  have h2:=Vi ty (Bm q c) (txt q c)
  have h3:=Sb q c
  unfold Be at h1⊢
  simp only[List.map_cons,Cd,List.length_cons,Bv]at h1⊢;omega
theorem Xg (M:Nat):∀(names:List B8) (row:List Sc),(∀t,t∈names->t.length<=M)->Da (Eo names row)<=row.length*M+Cd (row.map AS)
 | [],row,h=>by simp[Eo,Da]
 | _::_,[],h=>by simp[Eo,Da]
 | t::ns,s::r,h=>by
  have h1:=Xg M ns r fun x hx=>h x (.tail _ hx)
  have h2:=h t (.head _)
  unfold Eo at h1⊢
  simp only[List.zipWith_cons_cons,Da,Fd.sz,List.length_cons,List.map_cons,Cd,Nat.add_mul,Nat.one_mul]at h1⊢;omega
theorem TA (l:List Vl):(AR l).sz=1+Cd l:=by unfold AR;rw[szs];simp[scZ,Da]
theorem vMap_sz (f:List Fd):(Gr f).sz=1+Da f:=by unfold Gr;rw[szs];simp[scZ,Cd]
theorem valL_sz {q:Int} {hd ty:Bool} {M:Nat} {l:List (List B8)} (h:hd=true->∀r,l.head? =some r->∀c,c∈r->(txt q c).length<=M):Cd (AL q hd ty l)<=l.length+Bl l*(1+M)+DR l:=by
 cases hd with
 | false=>
  rw[EM]
  clear h
  induction l with
  | nil=>simp[Cd]
  | cons r t ih=>
   have h1:=Sq q ty r
   simp only[List.map_cons,Cd,TA,List.length_cons,Bl,DR,Nat.add_mul,Nat.mul_add,Nat.mul_one]at ih⊢;omega
 | true=>
  cases l with
  | nil=>simp[AL,Cd]
  | cons h0 t=>
   have hM:=h rfl h0 rfl
   have key:∀t:List (List B8),Cd (t.map fun r=>Jl (h0.map (txt q)) (Be q ty r))<=t.length+Bl t*(1+M)+DR t:=by
    intro t
    induction t with
    | nil=>simp[Cd]
    | cons r t ih=>
     have h1:=Sq q ty r
     have h2:=Xg M (h0.map (txt q)) (Be q ty r) fun x hx=>by
      obtain⟨c,hc,rfl⟩:=List.mem_map.1 hx
      exact hM c hc
     rw[Cj]at h2
     have h3:(Jl (h0.map (txt q)) (Be q ty r)).sz=1+Da (Eo (h0.map (txt q)) (Be q ty r)):=vMap_sz _
     simp only[List.map_cons,Cd,h3,List.length_cons,Bl,DR,Nat.add_mul,Nat.mul_add,Nat.mul_one]at ih⊢;omega
   have:=key t
   show Cd (t.map fun r=>Jl (h0.map (txt q)) (Be q ty r))<=_
   simp only[List.length_cons,Bl,DR,Nat.add_mul]at this⊢;omega
theorem ents_sum {a q:Int} {s:B8} {i:Nat} {ks:List Nd} {e n:Nat} (h:Hi a q s i ks e n):i<=s.length->Bv (ks.map AN)+i<=e:=by
 induction h with
 | @last i e n h1 h2 h3=>
  intro hi
  have hl:=Cn hi h1
  simp only[List.map_cons,List.map_nil,BS,Bv]
  rw[Lj hl.1 hl.2];omega
 | @more i e e' n ks h1 h2 h3 h4 ih=>
  intro hi
  have hl:=Cn hi h1
  have:=ih (by omega)
  simp only[List.map_cons,BS,Bv]
  rw[Lj hl.1 hl.2];omega
theorem O0 {a q:Int} {s:B8} {i:Nat} {rs:List Nd} (h:Gt a q s i rs):i<=s.length->DR (AB rs)+i<=s.length/\Bl (AB rs)+i<=s.length+1/\(i<s.length∨rs=[]->True)/\rs.length+i<=s.length:=by
 induction h with
 | nil h=>intro hi;simp[AB,DR,Bl];omega
 | @cons i e n ks rs h1 h2 h3 ih=>
  intro hi
  have hle:=h2.le hi
  have hs:=ents_sum h2 hi
  have hn:=(Fg (by omega) hle.2.2.2.2).2.1
  obtain⟨a1,a2,_,a4⟩:=ih (by omega)
  have hk:AB (.mk 8 [] [] ks (slc s e (e+n))::rs)=ks.map AN::AB rs:=rfl
  rw[hk]
  simp only[DR,Bl,List.length_map,List.length_cons]
  have hc:n=0->rs=[]:=fun h0=>by
   have:=hn h0
   cases rs with
   | nil=>rfl
   | cons x y=>simp only[List.length_cons]at a4;omega
  refine⟨by omega,?_,fun _=>trivial,?_⟩
  ·rcases Nat.eq_zero_or_pos n with h0 | h0
   ·rw[hc h0];simp[AB,Bl];omega
   ·omega
  ·rcases Nat.eq_zero_or_pos n with h0 | h0
   ·rw[hc h0];simp;omega
   ·omega
theorem tree_of {a q:Int} {s:B8} {rs:List Nd} (h:Gt a q s 0 rs) (hs:s.length<=1400000) (hlen:∀r,r∈rs->∀k,k∈Au r->(txt q (AN k)).length<=65536) (hW:∃W:Int,∀r,r∈rs->((Au r).length:Int)=W):∃W,W8 a q rs W:=by
 obtain⟨W,hW⟩:=hW
 obtain⟨h1,h2,_,h4⟩:=O0 h (Nat.zero_le _)
 have mem:∀r,r∈rs->Bv ((Au r).map AN)<=s.length/\(Au r).length<=s.length+1:=by
  intro r hr
  obtain⟨j,hj⟩:=List.getElem?_of_mem hr
  have hj2:(AB rs)[j]? =some ((Au r).map AN):=by unfold AB;rw[List.getElem?_map,hj];rfl
  have:=TK hj2
  rw[List.length_map]at this
  omega
 by_cases hne:rs=[]
 ·subst hne
  exact⟨0,⟨fun r hr=>(by cases hr),fun r hr=>(by cases hr),fun r hr=>(by cases hr),by simp,by omega⟩⟩
 refine⟨W.toNat,⟨h.form (Nat.zero_le _),fun r hr=>by have:=hW r hr;omega,fun r hr k hk=>⟨hlen r hr k hk,?_⟩,by omega,?_⟩⟩
 ·have h5:=TJ (List.mem_map.2 ⟨k,hk,rfl⟩:AN k∈(Au r).map AN)
  have:=(mem r hr).1;omega
 ·obtain⟨r,t,rfl⟩:=List.exists_cons_of_ne_nil hne
  have:=hW r (.head _)
  have:=(mem r (.head _)).2
  omega
theorem Q7 {n:Nd} {a q:Int} {hd:Bool} (h:HA n a q hd):∃rs W,n= .mk 1 [] [] rs []/\W8 a q rs W:=by
 obtain⟨rs,rfl,_,_,_,_,_,hr,hl,hW⟩:=Bn h.2
 have hlen:=PY h.1
 have hn:=DF (.mk 1 [] [] rs [])
 obtain⟨W,hT⟩:=tree_of hr (by show(CV (.mk 1 [] [] rs [])).length<=_;omega) hl hW
 exact⟨rs,W,rfl,hT⟩
theorem Nb {x:Cx} {hd:Bool} {l2 l3 l4:Int} {n:Nd} (h:A3 x hd l2 l3 l4= .ok n):Eb x.s x.a x.q hd= .ok n:=by
 obtain⟨rs,rfl,hd1,hl,hle,hv,hdoc,hr,hlen,hW⟩:=Bn h
 unfold lOk at hl
 rw[decide_eq_true_eq]at hl
 obtain⟨rs1,q1,_,_,_,q6⟩:=LP _ (Nat.zero_le _) hdoc
 rw[List.nil_append]at q1
 subst q1
 obtain⟨rs2,j1,j2,_,_⟩:=UU (d':=48) (n':=65536) _ hdoc
 rw[List.nil_append]at j1
 subst j1
 have hdoc2:=j2 (.inr (by decide)) (by rcases q6 with q6 | q6<;>omega)
 show A3 (xU x.s x.a x.q) hd 1048576 1024 65536=_
 unfold A3
 rw[if_neg (show ¬dOk x.a x.q=false by rw[hd1];decide),if_neg (show ¬lOk 48 65536 1048576 1024 65536=false by decide),if_neg (show ¬(1048576:Int)<(x.s.length:Int) by omega),if_neg (show ¬vlen x.s≠x.s.length by rw[hv];simp)]
 rw[show Dk (xU x.s x.a x.q) hd ((xU x.s x.a x.q).s.length+1) [] 0 1 [] 0= .ok rs from hdoc2]
theorem val_sz {a q:Int} {hd ty:Bool} {rs:List Nd} {n:Nd} (h:HA n a q hd) (hn:n= .mk 1 [] [] rs []) (hcn:Bl (AB rs)<=1600):(AR (AL q hd ty (AB rs))).sz<=1+rs.length+Bl (AB rs)*1025+DR (AB rs):=by
 subst hn
 obtain⟨rs',hn,_,_,_,_,hdoc,_⟩:=Bn h.2
 cases hn
 rw[TA]
 have:=valL_sz (q:=q) (hd:=hd) (ty:=ty) (M:=1024) (l:=AB rs) (fun hb r hr c hc=>by
  subst hb
  cases rs with
  | nil=>cases hr
  | cons r0 t=>
   have hr:(Au r0).map AN=r:=by simpa [AB]using hr
   have:=(PK _ hdoc (Nat.zero_le _) r0 rfl).2
   subst hr
   obtain⟨k,hk,rfl⟩:=List.mem_map.1 hc
   exact this _ (List.mem_map.2 ⟨k,hk,rfl⟩))
 have hl:(AB rs).length=rs.length:=by unfold AB;rw[List.length_map]
 omega
theorem read_sz {a q:Int} {hd ty:Bool} {rs:List Nd} {s:B8} (h:Eb s a q hd= .ok (.mk 1 [] [] rs [])) (hs:s.length<=1500):(AR (AL q hd ty (AB rs))).sz<=1600000:=by
 obtain⟨ht,_,ho⟩:=Ux (by omega) h
 obtain⟨rs',hn,_,_,_,_,_,hr,_⟩:=Bn h
 cases hn
 obtain⟨h1,h2,_,h4⟩:=O0 hr (Nat.zero_le _)
 have h1:DR (AB rs)+0<=s.length:=h1
 have h2:Bl (AB rs)+0<=s.length+1:=h2
 have h4:rs.length+0<=s.length:=h4
 have:=val_sz (ty:=ty) ho rfl (by omega)
 omega
section
section
variable {a q:Int} {hd ty:Bool} {st:St}
theorem Pv {s:B8} {l0 l1 l2 l3 l4:Int} (hl:s.length<=70000) {K:Int->Bool->Bool->B8->Int->Int->Int->Int->Int->B8->TV->TV->TV->Int->Int->St->Prop}
  (hk1:∀(p:Nat×Int) st',Ak st st'->A3 ⟨s,a,q,l0,l1⟩ hd l2 l3 l4= .error p->p.2≠0->K 0 false false [] 0 0 0 0 0 [] .nilSlice .nilSlice .nilSlice p.1 p.2 st')
  (hk2:∀rs u xs st',Ak st st'->A3 ⟨s,a,q,l0,l1⟩ hd l2 l3 l4= .ok (.mk 1 [] [] rs [])->Rd 13 u (AL q hd ty (AB rs)).length xs->VsR St.zero (AL q hd ty (AB rs)) xs->K 6 false false [] 0 0 0 0 0 [] .nilSlice u .nilSlice 0 0 st'):
  CallT PR CM [.str s,.agg [.int .u8 a,.int .u8 q,.bool hd,.bool ty],.agg [.int .i64 l0,.int .i64 l1,.int .i64 l2,.int .i64 l3,.int .i64 l4]] [.agg Vt,.one (.int .i64),.one (.int .i64)] st K:=by
 refine K2 s a q hd ty l0 l1 l2 l3 l4 st K (Mw (x:=⟨s,a,q,l0,l1⟩) (by show s.length<=_;omega) fun k kv st1 e1 hn=>?_)
 obtain⟨_,_,_,_,_,h5,ho⟩:=hn.five
 cases h5
 have hcn:Ff (pN (A3 ⟨s,a,q,l0,l1⟩ hd l2 l3 l4))<=1000000000000000:=V7 (by show s.length<=_;omega)
 rcases hP:A3 ⟨s,a,q,l0,l1⟩ hd l2 l3 l4 with p | n
 ·rw[hP]at hk1
  have hne:=V6 hP
  exact Ab (EJ ho) (Aa (fun _=>hk1 p st1 e1 rfl hne) fun g=>absurd hne g)
 ·rw[hP]at hn hcn hk2
  obtain⟨rs,hrs,_⟩:=Bn hP
  subst hrs
  have hU:=Nb hP
  obtain⟨htx,_,hou⟩:=Ux (show s.length<=70000 from hl) hU
  have hnl:=DF (.mk 1 [] [] rs [])
  rw[htx]at hnl
  have hl':s.length<=70000:=hl
  refine Ab (EJ ho) (Aa (fun g=>absurd rfl g) fun _=>Rt hn (by show Ep (.mk 1 [] [] rs [])<=_;rw[<-hnl];show s.length<=_;omega) hcn (fun ho=>?_) (fun h=>absurd hou h) fun _ u xs st2 e2 hu hx=>?_)
  ·obtain⟨rs',W,he,hT⟩:=Q7 ho
   have he:Nd.mk 1 [] [] rs []= .mk 1 [] [] rs' []:=he
   cases he
   exact⟨W,hT⟩
  ·exact Ab (Dp rfl hu.one rfl) (Ab (Dp rfl hu.one rfl) (hk2 rs u xs st2 (e1.trans e2) rfl hu hx))
end
theorem SlR.zero {sz n:Nat} {v:TV} {xs:List TV} (h:SlR St.zero sz v n xs):Rd sz v n xs:=by
 rcases h with h | ⟨b,_,_,_,_,hb,_⟩
 ·exact h
 ·exact absurd hb (Nat.not_lt_zero _)
theorem Xn {xs:List TV} {k n j:Nat} {cs:List TV} (h:(xs.drop k).take n=cs) {x:TV} (hx:cs[j]? =some x):xs[k+j]? =some x:=by
 rw[<-h,List.getElem?_take]at hx
 split at hx
 ·rwa [List.getElem?_drop]at hx
 ·cases hx
theorem Rd.isP {sz n i:Nat} {u:TV} {xs:List TV} (h:Rd sz u n xs) (hi:i<n):isPtr (ixT sz u i)=true:=(SlR.of_rd (st:=St.zero) h).isPtr hi
theorem ld13 {u:TV} {xs:List TV} {l:List Vl} (hr:Rd 13 u l.length xs) (hv:VsR St.zero l xs) {i:Nat} {s':Sc} {l':List Vl} {f':List Fd} (hi:l[i]? =some (.mk s' l' f')):
  isPtr (ixT 13 u i)=true/\∃ub ul uf xl xf,(∀st (j:Nat) x,(Bh s' ub ul uf)[j]? =some x->Ad st [] (.t (Ao (ixT 13 u i) j)) 0=some x)/\Rd 13 ul l'.length xl/\VsR St.zero l' xl/\Rd 14 uf f'.length xf/\FsR St.zero f' xf:=by
 obtain⟨hlt,_⟩:=List.getElem?_eq_some_iff.1 hi
 obtain⟨cs,hc,hcx,_⟩:=hv.get hi
 obtain⟨ub,ul,uf,xl,xf,rfl,_,h2,h3,h4,h5⟩:=hc.cells
 exact⟨hr.isP hlt,ub,ul,uf,xl,xf,fun st j x hx=>hr.ldfx st i j (Xn hcx hx),h2.zero,h3,h4.zero,h5⟩
theorem XJ {sz n i:Nat} {u:TV} {xs:List TV} (h:Rd sz u n xs) (hi:i<n) (a b:Nat):Ao (Ao (ixT sz u i) a) b=Ao (ixT sz u i) (a+b)/\isPtr (Ao (ixT sz u i) a)=true:=by
 rcases h with⟨rfl,rfl,_⟩ | ⟨tip,rfl⟩
 ·omega
 ·refine⟨?_,rfl⟩
  simp only[ixT,Ao,Nat.beq_refl,List.drop_drop,Nat.add_assoc]
theorem ld14 {u:TV} {xs:List TV} {l:List Fd} (hr:Rd 14 u l.length xs) (hv:FsR St.zero l xs) {i:Nat} {k:B8} {s':Sc} {l':List Vl} {f':List Fd} (hi:l[i]? =some (.mk k (.mk s' l' f'))):
  isPtr (ixT 14 u i)=true/\isPtr (Ao (ixT 14 u i) 1)=true/\∃ub ul uf,∀st (j:Nat) x,(Bh s' ub ul uf)[j]? =some x->Ad st [] (.t (Ao (Ao (ixT 14 u i) 1) j)) 0=some x:=by
 obtain⟨hlt,_⟩:=List.getElem?_eq_some_iff.1 hi
 obtain⟨cs,hc,hcx,_⟩:=hv.get hi
 unfold FdR at hc
 obtain⟨c,rfl,hc⟩:=hc
 obtain⟨ub,ul,uf,xl,xf,rfl,_⟩:=hc.cells
 refine⟨hr.isP hlt,(XJ hr hlt 1 0).2,ub,ul,uf,fun st j x hx=>?_⟩
 rw[(XJ hr hlt 1 j).1]
 exact hr.ldfx st i (1+j) (Xn hcx (by rw[Nat.add_comm 1 j];exact hx))
end
theorem Pb {s:B8} (hu:U8 s) (hl:s.length<=65536):EI (tkT s) [] [] where
 own:=⟨(by decide:(0:Int)<=4),(by decide:(4:Int)<=7),fun _=>rfl,fun _=>⟨rfl,rfl,rfl⟩,fun _=>⟨rfl,rfl,rfl,rfl⟩,fun h=>absurd rfl h,fun _=>rfl,fun _=>rfl,fun _=>rfl⟩
 dec:=by show Di false [] 0;decide
 time:=fun h=>by cases h
 text:=hu
 tlen:=hl
 blen:=Nat.zero_le _
 keys:=rfl
theorem WR {s:Sc} (h:EI s [] []):De (AS s)=0:=by
 have h0:=My.2 h
 unfold AS De DA
 rw[if_neg (by omega),if_neg (by omega),if_neg (by omega)]
 unfold Ht Dh CG
 rfl
def YO:List (List B8):=[[[97],[98]],[[49],[120]],[[34,49,34],[]]]
theorem textA:AX 44 YO=Yy:=by decide
theorem dA:dOk 44 34=true:=by decide
theorem plA (c:B8) (h:Er 44 34 c=false/\(c.all fun x=>decide (x.toNat<128))=true/\(txt 34 c).length<=65536):Hj 44 34 c/\vlen c=c.length/\(txt 34 c).length<=65536:=⟨IA (UV dA) h.1,D8 c h.2.1,h.2.2⟩
theorem parseG:∃rs,Eb Yy 44 34 true= .ok (.mk 1 [] [] rs [])/\AB rs=YO:=by
 have hF:Hj 44 34 [34,49,34]/\vlen [34,49,34]=([34,49,34]:B8).length/\(txt 34 [34,49,34]).length<=65536:=⟨Nr (UV dA) [49],D8 _ rfl,by decide⟩
 have:=Xu (a:=44) (q:=34) dA true (l:=YO) (W:=2) (fun r hr=>by
  simp only[YO,List.mem_cons,List.not_mem_nil,or_false]at hr
  rcases hr with rfl | rfl | rfl
  ·exact⟨by decide,rfl,fun c hc=>by
    simp only[List.mem_cons,List.not_mem_nil,or_false]at hc
    rcases hc with rfl | rfl<;>exact plA _ (by decide)⟩
  ·exact⟨by decide,rfl,fun c hc=>by
    simp only[List.mem_cons,List.not_mem_nil,or_false]at hc
    rcases hc with rfl | rfl<;>exact plA _ (by decide)⟩
  ·exact⟨by decide,rfl,fun c hc=>by
    simp only[List.mem_cons,List.not_mem_nil,or_false]at hc
    rcases hc with rfl | rfl
    ·exact hF
    ·exact plA _ (by decide)⟩) (by rw[textA];decide) (by decide) (fun _ r hr=>by
  simp only[YO,List.head?_cons,Option.some.injEq]at hr
  subst hr
  refine⟨by decide,fun c hc=>?_⟩
  simp only[List.mem_cons,List.not_mem_nil,or_false]at hc
  rcases hc with rfl | rfl<;>decide)
 rwa [textA]at this
def lA:List Vl:=[Gr [.mk [97] (AS (tkN false [49] 0)),.mk [98] (AS (tkT [120]))],Gr [.mk [97] (AS (tkT [49])),.mk [98] (AS (scK 0))]]
theorem valA:AL 34 true true YO=lA:=by kernel_rfl
theorem MK {st:St} {K:Bool->St->Prop} (hk:∀st',Ak st st'->K true st'):CallT PR BC [] [.one .bool] st K:=by
 obtain⟨rs,hp,hraw⟩:=parseG
 refine IQ st K (O2 (Uj (Pv (s:=Yy) (by decide) (fun p st1 e1 h _=>?_) fun rs' u xs st1 e1 h hu hx=>?_)))
 ·rw[show A3 ⟨Yy,44,34,48,65536⟩ true 1048576 1024 65536=_ from hp]at h;cases h
 rw[show A3 ⟨Yy,44,34,48,65536⟩ true 1048576 1024 65536=_ from hp]at h
 cases h
 rw[hraw,valA]at hu hx
 have hu:Rd 13 u 2 xs:=hu
 obtain⟨p1,_,_,f1,_,xf1,ld1,_,_,hf1,hfx1⟩:=ld13 (l:=lA) hu hx (i:=1) rfl
 obtain⟨p0,_,_,f0,_,xf0,ld0,_,_,hf0,hfx0⟩:=ld13 (l:=lA) hu hx (i:=0) rfl
 obtain⟨a1,a2,_,_,_,la⟩:=ld14 hf1 hfx1 (i:=0) rfl
 obtain⟨b1,b2,_,_,_,lb⟩:=ld14 hf0 hfx0 (i:=0) rfl
 obtain⟨c1,c2,_,_,_,lc⟩:=ld14 hf1 hfx1 (i:=1) rfl
 have hf1:Rd 14 f1 2 xf1:=hf1
 have hf0:Rd 14 f0 2 xf0:=hf0
 have h49:EI (tkT [49]) [] []:=Pb (D8 [49] rfl) (by decide)
 have hE:shE 44 34 true (AS (tkT [49]))=0:=by
  unfold shE
  rw[if_neg (by rw[dA];decide),if_neg (by rw[WR h49];decide)]
  decide
 have hT:shT 44 34 true (AS (tkT [49]))=str11:=by
  unfold shT
  rw[if_pos hE]
  show By 44 34 true (tkT [49])=_
  unfold By
  rw[if_pos (show(tkT [49]).kind=4 from rfl),if_pos (by decide)]
  decide
 have hv:VlR St.zero (AS (tkT [49])) (Bh (tkT [49]) .nilSlice .nilSlice .nilSlice):=RU _ rfl
 refine Ab (Dp rfl hu.one rfl) (O2 (gShow_ok (v:=AS (tkT [49])) (by rw[ZX];decide) hv fun st2 e2=>?_))
 rw[hE,hT]
 refine Aa (fun _=>Ab hu.isSl (Aa (fun _=>⟨⟨by decide,by rw[hu.lenZ];decide⟩,Ab p1 (Ac (ld1 _ 12 _ rfl) (Ab hf1.isSl (Aa (fun _=>⟨⟨by decide,by rw[hu.lenZ];decide⟩,Ab p1 (Ac (ld1 _ 12 _ rfl)
  ⟨⟨by decide,by rw[hf1.lenZ];decide⟩,Ab a1 (Ab a2 (Ac (la _ 9 _ rfl) (Am (Aa (fun _=>⟨⟨by decide,by rw[hu.lenZ];decide⟩,Ab p0 (Ac (ld0 _ 12 _ rfl)
   ⟨⟨by decide,by rw[hf0.lenZ];decide⟩,Ab b1 (Ab b2 (Ac (lb _ 0 _ rfl) (AA (Aa (fun _=>⟨⟨by decide,by rw[hu.lenZ];decide⟩,Ab p1 (Ac (ld1 _ 12 _ rfl)
    ⟨⟨by decide,by rw[hf1.lenZ];decide⟩,Ab c1 (Ab c2 (Ac (lc _ 0 _ rfl) (AA (Aa (fun _=>Aa (fun _=>hk st2 (e1.trans e2)) fun g=>absurd rfl g) fun g=>absurd rfl g))))⟩)⟩) fun g=>absurd rfl g))))⟩)⟩) fun g=>absurd rfl g))))⟩)⟩) fun g=>absurd (by rw[hf1.lenS];rfl) g)))⟩) fun g=>absurd (by rw[hu.lenS];rfl) g)) fun g=>absurd rfl g
def Ti (es:List (B8×TV)) (ks:List B8):Prop:=(∀(i:Nat) t,ks[i]? =some t->BR t es=some (.int .i64 i))/\∀t,t∉ks->BR t es=none
theorem Ti.nil:Ti [] []:=⟨fun i t h=>by simp at h,fun t _=>rfl⟩
theorem Ti.add {es:List (B8×TV)} {ks:List B8} (h:Ti es ks) {t:B8} (hn:t∉ks):Ti (Je t (.int .i64 ks.length) es) (ks++[t]):=by
 refine⟨fun i u hu=>?_,fun u hu=>?_⟩
 ·rw[Ip]
  by_cases hi:i<ks.length
  ·rw[List.getElem?_append_left hi]at hu
   rw[if_neg fun e=>hn (by subst e;exact List.mem_of_getElem? hu)]
   exact h.1 i u hu
  ·rw[List.getElem?_append_right (by omega)]at hu
   obtain⟨h1,h2⟩:=List.getElem?_eq_some_iff.1 hu
   simp only[List.length_singleton]at h1
   have:i=ks.length:=by omega
   subst this
   simp only[Nat.sub_self,List.getElem_cons_zero]at h2
   rw[if_pos h2.symm]
 ·rw[List.mem_append,List.mem_singleton,not_or]at hu
  rw[Ip,if_neg hu.2]
  exact h.2 u hu.1
theorem Nl {st0 st:St} {s:Sc} {ub ul uf:TV} {xf:List TV} {f:List Fd} (hke:Bu st0 st) (h4:SlR st0 14 uf f.length xf) (h5:FsR st0 f xf) (hN:f.length<=2000000) (hnd:(f.map Fd.key).Nodup) {K:TV->St->Prop} (hk:∀st' es,Ak st st'->st.nb<st'.nb->st'.box st.nb= .map es->Ti es (f.map Fd.key)->K (.map st.nb) st'):
  CallT PR BV [.agg (Bh s ub ul uf)] [.one .tv] st K:=by
 refine NC _ _ _ _ _ _ _ _ _ _ _ _ _ st K (Ab h4.isSl ⟨fun i m u n st'=> .map st.nb=m/\uf=u/\(f.length:Int)=n/\∃(k:Nat) (es:List (B8×TV)),i=k/\k<=f.length/\Ak st st'/\st.nb<st'.nb/\st'.box st.nb= .map es/\Ti es ((f.take k).map Fd.key),fun i _ _ _ _=>(f.length-i).toNat,
  ⟨rfl,rfl,by rw[h4.lenS],0,[],rfl,Nat.zero_le _,(Ak.refl st).push _ _,by simp[St.push],by simp[St.push],Ti.nil⟩,?_⟩)
 rintro _ _ _ _ st1 ⟨rfl,rfl,rfl,k,es,rfl,hkf,e1,hb,hm,hI⟩
 refine Aa (fun g=>?_) fun g=>?_
 ·refine SN (hke.trans e1.keeps) h4 h5 rfl (by omega) fun key s' l' f' ub1 ul1 uf1 gw hw on=>Ab on ⟨es,hm,?_⟩
  rw[Ai _ (by omega) (by omega)]
  have hks:(f.take (k+1)).map Fd.key=(f.take k).map Fd.key++[key]:=by
   rw[List.take_add_one,gw,List.map_append];rfl
  have hni:key∉(f.take k).map Fd.key:=by
   have h1:((f.take (k+1)).map Fd.key).Nodup:=by rw[List.map_take];exact hnd.sublist (List.take_sublist _ _)
   rw[hks,List.nodup_append]at h1
   exact fun hm=>h1.2.2 key hm key (List.mem_singleton.2 rfl) rfl
  have hI2:=hI.add hni
  rw[<-hks,List.length_map,List.length_take,Nat.min_eq_left hkf]at hI2
  exact⟨⟨rfl,rfl,rfl,k+1,_,by omega,by omega,StX.ext e1 (StX.put (S:=fun i=>i=st.nb) rfl _) (fun i hi=>by rw[hi];exact Nat.le_refl _),hb,by simp[St.put],hI2⟩,by dsimp only;omega⟩
 ·have:k=f.length:=by omega
  subst this
  rw[List.take_length]at hI
  exact hk st1 es e1 hb hm hI
theorem On (x_0:Int) (x_1:Bool) (x_2:Bool) (x_3:B8) (x_4:Int) (x_5:Int) (x_6:Int) (x_7:Int) (x_8:Int) (x_9:B8) (x_10:TV) (x_11:TV) (x_12:TV) (columns:TV) (st:St) (K:TV->St->Prop) (h:BId (x_0=6) (K x_11 st) (need (isSl x_12) (((0<=(lenS x_12:Int)/\(lenS x_12:Int)<=(lenS x_12:Int)/\Int.toNat (lenS x_12:Int)*168<=140737488355328)/\need (isSl x_12) (∃(I1:Int->TV->TV->TV->Int->St->Prop) (M1:Int->TV->TV->TV->Int->St->Nat),(I1 0 columns ((.ms 13 st.nb 0 (Int.toNat (lenS x_12:Int)) (Int.toNat (lenS x_12:Int)))) x_12 ((lenS x_12:Int)) (st.push (.cells (GR (cV 0 false false [] 0 0 0 0 0 [] .nilSlice .nilSlice .nilSlice) (Int.toNat (lenS x_12:Int)*13))) (some 63)))/\∀b a c d f e,I1 b a c d f e->(BId (b<f) (((0<=b/\b<(lenZ 14 d:Int))/\Ae ((Ah e [] (.t (ixT 14 d b.toNat)) 0 14).map TV.agg) (fun (x1:TV)=>AM [.str,.int .i64,.bool,.bool,.str,.int .i64,.int .i64,.int .i64,.int .i64,.int .i64,.str,.tv,.tv,.tv] x1 (fun (s1:B8) (n1:Int) (b1 b2:Bool) (s2:B8) (n2 n3 n4 n5 n6:Int) (s3:B8) (v1 v2 v3:TV)=>need (List.all [.str s1,.int .i64 n1,.bool b1,.bool b2,.str s2,.int .i64 n2,.int .i64 n3,.int .i64 n4,.int .i64 n5,.int .i64 n6,.str s3,v1,v2,v3] As) (Ae (Es e a) (fun (es1:List (B8×TV))=>Af (.int .i64) (F7 (.int .i64 0) (BR s1 es1)) (fun (n7:Int)=>((0<=n7/\n7<(lenZ 13 c:Int))/\need (List.all (cV n1 b1 b2 s2 n2 n3 n4 n5 n6 s3 v1 v2 v3) As) (stB e (ixT 13 c n7.toNat) (cV n1 b1 b2 s2 n2 n3 n4 n5 n6 s3 v1 v2 v3) (fun g=>(I1 ((i64.wrap (b+(1:Int)))) a c d f g/\M1 ((i64.wrap (b+(1:Int)))) a c d f g<M1 b a c d f e))))))))))) (K c e))))))):CallT PR G8 [(.agg (cV x_0 x_1 x_2 x_3 x_4 x_5 x_6 x_7 x_8 x_9 x_10 x_11 x_12)),columns] [.one .tv] st K:=
 Ag (cfg:=⟨[2,7],[16],[]⟩) (h:=(.seq .none (.seq .none (.seq .none (.seq (.seq .none (.block (.loop ⟨[(20,.int .i64),(1,.tv),(5,.tv),(18,.tv),(19,.int .i64)],[],[],[]⟩ .none))) .none))))) mixed (fun _ _=>Tryz.call259 _ _) Tryz.func259 (by kernel_rfl) (by kernel_rfl) h
theorem WA:∀{cks:List (List TV)} {i:Nat} {c:List TV},(∀c,c∈cks->c.length=13)->cks[i]? =some c->∃A B,cks.flatten=A++c++B/\A.length=i*13/\∀d:List TV,(cks.set i d).flatten=A++d++B
 | [],i,c,_,hi=>by simp at hi
 | x::r,0,c,h,hi=>by
  simp only[List.getElem?_cons_zero,Option.some.injEq]at hi
  subst hi
  exact⟨[],r.flatten,by simp,by simp,fun d=>by simp⟩
 | x::r,i+1,c,h,hi=>by
  simp only[List.getElem?_cons_succ]at hi
  obtain⟨A,B,h1,h2,h3⟩:=WA (fun c hc=>h c (.tail _ hc)) hi
  have hx:=h x (.head _)
  exact⟨x++A,B,by simp[h1],by rw[List.length_append,h2,hx];omega,fun d=>by simp[h3]⟩
theorem Io:∀{cks:List (List TV)},(∀c,c∈cks->c.length=13)->cks.flatten.length=cks.length*13
 | [],_=>rfl
 | x::r,h=>by
  rw[List.flatten_cons,List.length_append,Io fun c hc=>h c (.tail _ hc),h x (.head _),List.length_cons];omega
theorem zrep13 {z:List TV} (hz:z.length=13) (n:Nat):GR z (n*13)=(List.replicate n z).flatten:=by
 refine List.ext_getElem? fun i=>?_
 unfold GR
 rw[List.getElem?_map]
 have hlen:=Io (cks:=List.replicate n z) (fun c hc=>by rw[(List.mem_replicate.1 hc).2];exact hz)
 rw[List.length_replicate]at hlen
 by_cases hi:i<n*13
 ·rw[List.getElem?_range hi]
  have hr:(List.replicate n z)[i/13]? =some z:=by rw[List.getElem?_replicate,if_pos (by omega)]
  obtain⟨A,B,h1,h2,_⟩:=WA (fun c hc=>by rw[(List.mem_replicate.1 hc).2];exact hz) hr
  have hm:i%13<z.length:=by rw[hz];omega
  rw[h1,List.append_assoc,List.getElem?_append_right (by omega),show i-A.length=i%13 by omega,List.getElem?_append_left hm,List.getElem?_eq_getElem hm]
  simp[List.getD,hz,hm,List.getElem?_eq_getElem hm]
 ·rw[List.getElem?_eq_none (by rw[List.length_range];omega),List.getElem?_eq_none (by rw[hlen];omega)];rfl
theorem vs_of {st:St}:∀{vs:List Vl} {cks:List (List TV)},vs.length=cks.length->(∀(i:Nat) (v:Vl),vs[i]? =some v->∃c,cks[i]? =some c/\VlR st v c)->VsR st vs cks.flatten
 | [],[],_,_=>VsR.nil _
 | v::vs,c::cks,hl,h=>by
  obtain⟨c',h1,h2⟩:=h 0 v rfl
  simp only[List.getElem?_cons_zero,Option.some.injEq]at h1
  subst h1
  rw[List.flatten_cons]
  exact VsR.cons h2 (vs_of (by simpa using hl) fun i v hv=>h (i+1) v hv)
 | [],_::_,hl,_=>by simp at hl
 | _::_,[],hl,_=>by simp at hl
theorem YZ {st st':St} {b:Nat} {es:List (B8×TV)} (e:Ak st st') (hb:b<st.nb) (h:st.box b= .map es):Es st' (.map b)=some es:=by
 have:st'.box b= .map es:=(e.box b hb).trans h
 simp only[Es,this]
theorem back_key {f:List Fd} {ks:List B8} (hfn:BK f) (hkn:ks.Nodup) (hl:f.length=ks.length) (hsub:∀d,d∈f->d.key∈ks) {t:B8} (ht:t∈ks):∃d,d∈f/\d.key=t:=by
 have hp:ks.Perm (f.map Fd.key):=by
  refine(O8 _ _ hfn (by rw[List.length_map];omega) fun t ht=>?_).symm
  obtain⟨d,hd,rfl⟩:=List.mem_map.1 ht
  exact hsub d hd
 obtain⟨d,hd,h⟩:=List.mem_map.1 (hp.subset ht)
 exact⟨d,hd,h⟩
theorem SlR.box13 {st:St} {b n:Nat} {xs:List TV} (hb:b<st.nb) (h:st.box b= .cells xs) (hl:xs.length=n*13):SlR st 13 (.ms 13 b 0 n n) n xs:=
 .inr ⟨b,0,n,xs,rfl,hb,h,by omega,Nat.le_refl _,by rw[List.drop_zero,List.take_of_length_le (by omega)]⟩
def ClR (m:Nat) (st:St) (u:TV) (n:Nat) (xs:List TV):Prop:=Rd 13 u n xs∨∃b,u= .ms 13 b 0 n n/\m<=b/\b<st.nb/\st.box b= .cells xs/\xs.length=n*13
theorem ClR.sl {m:Nat} {st:St} {u:TV} {n:Nat} {xs:List TV} (h:ClR m st u n xs):SlR st 13 u n xs:=by
 rcases h with h | ⟨b,rfl,_,h1,h2,h3⟩
 ·exact .inl h
 ·exact SlR.box13 h1 h2 h3
theorem ClR.but {m b:Nat} {st st':St} {u:TV} {n:Nat} {xs:List TV} (h:ClR m st u n xs) (hb:b<m) (k:But b st st'):ClR m st' u n xs:=by
 rcases h with h | ⟨c,rfl,h0,h1,h2,h3⟩
 ·exact .inl h
 ·exact .inr ⟨c,rfl,h0,Nat.lt_of_lt_of_le h1 k.1,by rw[k.2 c (by omega) h1];exact h2,h3⟩
def zV13:List TV:=[.int .i64 0,.bool false,.bool false,.str [],.int .i64 0,.int .i64 0,.int .i64 0,.int .i64 0,.int .i64 0,.str [],.nilSlice,.nilSlice,.nilSlice]
theorem Y5 {st:St} {s:Sc} {l:List Vl} {f:List Fd} {ub ul uf:TV} {mb:Nat} {xl xf:List TV} {es:List (B8×TV)} {ks:List B8} (hke:Bu St.zero st) (h2:SlR St.zero 13 ul l.length xl) (h3:VsR St.zero l xl) (h4:SlR St.zero 14 uf f.length xf) (h5:FsR St.zero f xf) (hN:f.length<=2000000)
  (hmb:mb<st.nb) (hm:st.box mb= .map es) (hI:Ti es ks) (hkn:ks.Nodup) (hfn:BK f) (hlen:s.kind≠6->f.length=ks.length/\∀d,d∈f->d.key∈ks)
  {K:TV->St->Prop} (hk:∀st' u xs,Ak st st'->ClR st.nb st' u (if s.kind=6 then l else ks.map fun k=>(B7 f k).1).length xs->VsR St.zero (if s.kind=6 then l else ks.map fun k=>(B7 f k).1) xs->K u st'):
  CallT PR G8 [.agg (Bh s ub ul uf),.map mb] [.one .tv] st K:=by
 refine On _ _ _ _ _ _ _ _ _ _ _ _ _ (.map mb) st K (Aa (fun g=>?_) fun g=>?_)
 ·rw[if_pos g]at hk
  exact hk st ul xl (Ak.refl st) (.inl h2.zero) h3
 rw[if_neg g]at hk
 obtain⟨hl1,hsub⟩:=hlen g
 refine Ab h4.isSl ⟨by rw[h4.lenS];exact⟨by omega,by omega,by omega⟩,Ab h4.isSl ?_⟩
 rw[h4.lenS,Int.toNat_natCast,zrep13 rfl]
 have hz13:zV13.length=13:=rfl
 refine⟨fun i c u v n st'=> .map mb=c/\.ms 13 st.nb 0 f.length f.length=u/\uf=v/\(f.length:Int)=n/\∃(k:Nat) (cks:List (List TV)),i=k/\k<=f.length/\Ak st st'/\st.nb<st'.nb/\st'.box st.nb= .cells cks.flatten/\cks.length=f.length/\(∀c,c∈cks->c.length=13)/\
   ∀(j:Nat) (d:Fd) (i':Nat),j<k->f[j]? =some d->ks[i']? =some d.key->∃c,cks[i']? =some c/\VlR St.zero d.val c,fun i _ _ _ _ _=>(f.length-i).toNat,
  ⟨rfl,rfl,rfl,rfl,0,List.replicate f.length zV13,rfl,Nat.zero_le _,(Ak.refl st).push _ _,by simp[St.push],Fn _ _ _,List.length_replicate,fun c hc=>by rw[(List.mem_replicate.1 hc).2];exact hz13,fun j d i' hj=>by omega⟩,?_⟩
 rintro _ _ _ _ _ st1 ⟨rfl,rfl,rfl,rfl,k,cks,rfl,hkf,e1,hb,hbx,hcl,hc13,hin⟩
 refine Aa (fun g=>?_) fun g=>?_
 ·refine SN (hke.trans e1.keeps) h4 h5 rfl (by omega) fun key s' l' f' ub1 ul1 uf1 gw hw on=>Ab on ?_
  have hmem:=Bf gw
  obtain⟨p,hp⟩:=List.getElem?_of_mem (hsub _ hmem)
  replace hp:ks[p]? =some key:=hp
  have hplt:p<ks.length:=(List.getElem?_eq_some_iff.1 hp).1
  refine Ac (YZ e1 hmb hm) ?_
  rw[hI.1 p key hp]
  refine AA ⟨⟨by omega,by show(p:Int)<((f.length:Nat):Int);omega⟩,Ab (by have:=on;rw[List.all_cons,Bool.and_eq_true]at this;exact this.2) ?_⟩
  obtain⟨c,hc⟩:∃c,cks[p]? =some c:=⟨_,List.getElem?_eq_getElem (by omega)⟩
  obtain⟨A,B,hA,hAl,hset⟩:=WA hc13 hc
  have hcc:=hc13 c (List.mem_of_getElem? hc)
  refine Z1 (b:=st.nb) (off:=0+p*13) hbx ?_ fun st2 e2 b2=>?_
  ·rw[Io hc13,hcl];show 0+p*13+13<=_;omega
  rw[Nat.zero_add,<-hAl,hA,H9 _ A c B (by rw[hcc];rfl),<-hset]at b2
  rw[Ai _ (by omega) (by omega)]
  refine⟨⟨rfl,rfl,rfl,rfl,k+1,_,by omega,by omega,StX.ext e1 e2 (fun i hi=>by rw[hi];exact Nat.le_refl _),Nat.lt_of_lt_of_le hb e2.nb,b2,by rw[List.length_set];exact hcl,fun x hx=>?_,fun j d i' hj hd hi'=>?_⟩,by dsimp only;omega⟩
  ·rcases List.mem_or_eq_of_mem_set hx with hx | rfl
   ·exact hc13 x hx
   ·rfl
  ·by_cases hjk:j=k
   ·subst hjk
    rw[gw]at hd
    cases hd
    have:i'=p:=by
     have h1:=(List.getElem?_eq_some_iff.1 hi').1
     exact(List.getElem?_inj h1 hkn).1 (hi'.trans hp.symm)
    subst this
    exact⟨Bh s' ub1 ul1 uf1,by rw[List.getElem?_set_self (by omega)];rfl,hw⟩
   ·obtain⟨c2,h6,h7⟩:=hin j d i' (by omega) hd hi'
    refine⟨c2,?_,h7⟩
    rw[List.getElem?_set_ne (fun e=>?_)]
    ·exact h6
    ·subst e
     have:d.key=key:=Option.some.inj (hi'.symm.trans hp)
     have hidx:(f.map Fd.key)[j]? =(f.map Fd.key)[k]? :=by rw[List.getElem?_map,List.getElem?_map,hd,gw];simp only[Option.map_some,Option.some.injEq];exact this
     exact hjk ((List.getElem?_inj (by rw[List.length_map];exact(List.getElem?_eq_some_iff.1 hd).1) hfn).1 hidx)
 ·have:k=f.length:=by omega
  subst this
  refine hk st1 _ cks.flatten e1 ?_ ?_
  ·rw[List.length_map,<-hl1]
   exact .inr ⟨st.nb,rfl,Nat.le_refl _,hb,hbx,by rw[Io hc13,hcl]⟩
  ·refine vs_of (by rw[List.length_map];omega) fun i v hv=>?_
   rw[List.getElem?_map,Option.map_eq_some_iff]at hv
   obtain⟨t,ht,rfl⟩:=hv
   obtain⟨d,hd,rfl⟩:=back_key hfn hkn hl1 hsub (List.mem_of_getElem? ht)
   rw[JS hfn hd]
   obtain⟨j,hj⟩:=List.getElem?_of_mem hd
   obtain⟨c,h6,h7⟩:=hin j d i (List.getElem?_eq_some_iff.1 hj).1 hj ht
   exact⟨c,h6,h7⟩
def ShX (hd:Bool) (first x:Vl):Prop:=(hd=false->x.sc.kind=6/\x.list≠ []/\x.list.length=first.list.length)/\(hd=true->x.sc.kind=7/\x.flds≠ []/\x.flds.length=first.flds.length/\∀f,f∈x.flds->f.key∈first.flds.map Fd.key)
theorem YE {hd:Bool} {v:Vl}:En hd v↔v.sc.kind=6/\∀x,x∈v.list->ShX hd (v.list.headD vlZ) x:=
 ⟨fun h=>⟨h.kind,fun x hx=>⟨fun e=>h.lst e x hx,fun e=>h.map e x hx⟩⟩,fun h=>⟨h.1,fun e x hx=>(h.2 x hx).1 e,fun e x hx=>(h.2 x hx).2 e⟩⟩
def SmV (s:Sc) (ub ul uf:TV) (a q:Int) (hd ty:Bool) (n1:Int) (b1 b2:Bool) (s1:B8) (n2 n3 n4 n5 n6:Int) (s2:B8) (v1 v2 v3:TV) (n7 n8:Int) (b3 b4:Bool):Prop:=
 s.kind=n1/\s.b=b1/\s.neg=b2/\s.dg=s1/\s.ex=n2/\s.tk=n3/\s.td=n4/\s.tn=n5/\s.tz=n6/\s.text=s2/\ub=v1/\ul=v2/\uf=v3/\a=n7/\q=n8/\hd=b3/\ty=b4
theorem SmV.refl (s:Sc) (ub ul uf:TV) (a q:Int) (hd ty:Bool):SmV s ub ul uf a q hd ty s.kind s.b s.neg s.dg s.ex s.tk s.td s.tn s.tz s.text ub ul uf a q hd ty:=⟨rfl,rfl,rfl,rfl,rfl,rfl,rfl,rfl,rfl,rfl,rfl,rfl,rfl,rfl,rfl,rfl,rfl⟩
theorem len_ne {α:Type} {l:List α} (h:(l.length:Int)≠0):l≠ []:=fun e=>h (by rw[e];rfl)
theorem Ow {v:Vl} (h:AZ v):BK v.flds:=by
 by_cases h7:v.sc.kind=7
 ·exact(BT h h7).2.2.1
 ·obtain⟨s,l,f⟩:=v
  have hf:f=[]:=h.own.1.own.fs h7
  subst hf
  exact List.nodup_nil
theorem Wx {v:Vl} {cs:List TV} {a q:Int} {hd ty:Bool} {st:St} {K:Bool->St->Prop} (hV:AZ v) (hN:v.sz<=2000000) (h:VlR St.zero v cs) (hk1:En hd v->∀st',Ak st st'->K true st') (hk2:¬En hd v->∀st',Ak st st'->K false st'):
  CallT PR Gg [.agg cs,.agg [.int .u8 a,.int .u8 q,.bool hd,.bool ty]] [.one .bool] st K:=by
 obtain⟨s,l,f⟩:=v
 obtain⟨ub,ul,uf,xl,xf,rfl,_,h2,h3,h4,h5⟩:=h.cells
 have hsz:=szs s l f
 have hll:=DQ l
 refine Om _ _ _ _ _ _ _ _ _ _ _ _ _ a q hd ty st K (Aa (fun g=>hk2 (fun hs=>g hs.kind) _ (Ak.refl _)) fun g=>?_)
 have hk6:s.kind=6:=by omega
 obtain⟨_,hval⟩:=BH hV hk6
 replace hval:∀x,x∈l->AZ x:=hval
 have iff:En hd (.mk s l f)↔s.kind=6/\∀x,x∈l->ShX hd (l.headD vlZ) x:=YE
 refine Ab h2.isSl ⟨fun i u n n1 b1 b2 s1 n2 n3 n4 n5 n6 s2 v1 v2 v3 n7 n8 b3 b4 st'=>ul=u/\(l.length:Int)=n/\SmV s ub ul uf a q hd ty n1 b1 b2 s1 n2 n3 n4 n5 n6 s2 v1 v2 v3 n7 n8 b3 b4/\∃k:Nat,i=k/\k<=l.length/\Ak st st'/\∀(j:Nat) x,j<k->l[j]? =some x->ShX hd (l.headD vlZ) x,fun i _ _ _ _ _ _ _ _ _ _ _ _ _ _ _ _ _ _ _ _=>(l.length-i).toNat,
  ⟨rfl,by rw[h2.lenS],SmV.refl ..,0,rfl,Nat.zero_le _,Ak.refl _,fun j x hj=>by omega⟩,?_⟩
 rintro _ _ _ _ _ _ _ _ _ _ _ _ _ _ _ _ _ _ _ _ st1 ⟨rfl,rfl,⟨rfl,rfl,rfl,rfl,rfl,rfl,rfl,rfl,rfl,rfl,rfl,rfl,rfl,rfl,rfl,rfl,rfl⟩,k,rfl,hkl,e1,hall⟩
 refine Aa (fun g1=>?_) fun g1=>?_
 ·have hk0:Bu St.zero st1:=G0 _
  refine QI hk0 h2 h3 rfl (by omega) fun s' l' f' ub1 ul1 uf1 gx hx on=>Ab on ?_
  refine QI (i:=0) (k:=0) hk0 h2 h3 rfl (by omega) fun s0 l0 f0 ub0 ul0 uf0 g0 hx0 on0=>?_
  have hfirst:l.headD vlZ= .mk s0 l0 f0:=by
   cases l with
   | nil=>cases g0
   | cons y r=>simp only[List.getElem?_cons_zero,Option.some.injEq]at g0;exact g0
  rw[hfirst]at hall iff
  have bad:¬ShX hd (.mk s0 l0 f0) (.mk s' l' f')->∀st',Ak st st'->K false st':=fun hn=>hk2 fun hs=>hn ((iff.1 hs).2 _ (Bf gx))
  have next:ShX hd (.mk s0 l0 f0) (.mk s' l' f')->∀(j:Nat) x,j<k+1->l[j]? =some x->ShX hd (.mk s0 l0 f0) x:=fun hy j x hj hjx=>by
   by_cases hjk:j=k
   ·subst hjk;rw[gx]at hjx;cases hjx;exact hy
   ·exact hall j x (by omega) hjx
  obtain⟨_,_,_,_,_,hc1,_,q2,q3,q4,q5⟩:=hx.cells
  obtain⟨_,_,_,_,_,hc0,_,p2,p3,p4,p5⟩:=hx0.cells
  cases hc1
  cases hc0
  refine Ab on0 (Aq (fun gh=>?_) fun gh=>?_)
  ·have hh:hd=false:=by simpa using gh
   subst hh
   refine Aa (fun g2=>bad (fun hs=>g2 (hs.1 rfl).1) _ e1) fun g2=>Ab q2.isSl ?_
   rw[q2.lenS]
   refine Aa (fun g3=>bad (fun hs=>(hs.1 rfl).2.1 (Rj.1 g3)) _ e1) fun g3=>Ab q2.isSl (Ab p2.isSl ?_)
   rw[p2.lenS]
   refine Aa (fun g4=>bad (fun hs=>g4 (by rw[show l'.length=l0.length from(hs.1 rfl).2.2])) _ e1) fun g4=>?_
   rw[Ai _ (by omega) (by omega)]
   exact⟨⟨rfl,rfl,SmV.refl ..,k+1,by omega,by omega,e1,fun j x hj hjx=>by
    rw[hfirst]
    exact next ⟨fun _=>⟨by show s'.kind=6;omega,len_ne g3,by show l'.length=l0.length;omega⟩,fun h=>by cases h⟩ j x hj hjx⟩,by dsimp only;omega⟩
  ·have hh:hd=true:=by simpa using gh
   subst hh
   refine Aq (fun _=>?_) fun g=>by cases g
   refine Aa (fun g2=>bad (fun hs=>g2 (hs.2 rfl).1) _ e1) fun g2=>Ab q4.isSl ?_
   rw[q4.lenS]
   refine Aa (fun g3=>bad (fun hs=>(hs.2 rfl).2.1 (Rj.1 g3)) _ e1) fun g3=>Ab q4.isSl (Ab p4.isSl ?_)
   rw[p4.lenS]
   refine Aa (fun g4=>bad (fun hs=>g4 (by rw[show f'.length=f0.length from(hs.2 rfl).2.2.1])) _ e1) fun g4=>Aq (fun _=>?_) fun g=>by cases g
   have hnd:BK f0:=Ow (hval _ (Bf g0))
   have hsz0:=Fb (Bf g0)
   have hsz1:=Fb (Bf gx)
   have hs0:=szs s0 l0 f0
   have hs1:=szs s' l' f'
   have hf0:=Eu f0
   have hf1:=Eu f'
   refine Nl hk0 p4 p5 (by omega) hnd fun st2 es e2 hb2 hm2 hI=>Ab q4.isSl ⟨fun i c u n n' u' m n1 b1 b2 s1 n2 n3 n4 n5 n6 s2 v1 v2 v3 n7 n8 b3 b4 st'=> .map st1.nb=c/\ul=u/\(l.length:Int)=n/\(k:Int)=n'/\uf1=u'/\(f'.length:Int)=m/\SmV s ub ul uf a q true ty n1 b1 b2 s1 n2 n3 n4 n5 n6 s2 v1 v2 v3 n7 n8 b3 b4/\st2=st'/\∃p:Nat,i=p/\p<=f'.length/\∀(j:Nat) d,j<p->f'[j]? =some d->d.key∈f0.map Fd.key,
    fun i _ _ _ _ _ _ _ _ _ _ _ _ _ _ _ _ _ _ _ _ _ _ _ _=>(f'.length-i).toNat,⟨rfl,rfl,rfl,rfl,rfl,by first | rfl | rw[q4.lenS],SmV.refl ..,rfl,0,rfl,Nat.zero_le _,fun j d hj=>by omega⟩,?_⟩
   rintro _ _ _ _ _ _ _ _ _ _ _ _ _ _ _ _ _ _ _ _ _ _ _ _ _ ⟨rfl,rfl,rfl,rfl,rfl,rfl,⟨rfl,rfl,rfl,rfl,rfl,rfl,rfl,rfl,rfl,rfl,rfl,rfl,rfl,rfl,rfl,rfl,rfl⟩,rfl,p,rfl,hpf,hin⟩
   refine Aa (fun g5=>?_) fun g5=>?_
   ·refine SN (G0 _) q4 q5 rfl (by omega) fun key sx lx fx ubx ulx ufx gw hw onx=>Ab onx (Ac (x:=es) (by simp only[Es,hm2]) ?_)
    by_cases hkey:key∈f0.map Fd.key
    ·obtain⟨r,hr⟩:=List.getElem?_of_mem hkey
     rw[hI.1 r key hr]
     refine AA (Aq (fun h=>by cases h) fun _=>?_)
     rw[Ai _ (by omega) (by omega)]
     exact⟨⟨rfl,rfl,rfl,rfl,rfl,rfl,SmV.refl ..,rfl,p+1,by omega,by omega,fun j d hj hd=>by
      by_cases hjp:j=p
      ·subst hjp;rw[gw]at hd;cases hd;exact hkey
      ·exact hin j d (by omega) hd⟩,by dsimp only;omega⟩
    ·rw[hI.2 key hkey]
     exact AA (Aq (fun _=>bad (fun hs=>hkey ((hs.2 rfl).2.2.2 _ (Bf gw))) _ (e1.trans e2)) fun h=>by cases h)
   ·have:p=f'.length:=by omega
    subst this
    rw[Ai _ (by omega) (by omega)]
    exact⟨⟨rfl,rfl,SmV.refl ..,k+1,by omega,by omega,e1.trans e2,fun j x hj hjx=>by
     rw[hfirst]
     refine next ⟨fun h=>(by cases h),fun _=>⟨by show s'.kind=7;omega,len_ne g3,by show f'.length=f0.length;omega,fun d hd=>?_⟩⟩ j x hj hjx
     obtain⟨j2,hj2⟩:=List.getElem?_of_mem (show d∈f' from hd)
     exact hin j2 d (List.getElem?_eq_some_iff.1 hj2).1 hj2⟩,by dsimp only;omega⟩
 ·have:k=l.length:=by omega
  subst this
  exact hk1 (iff.2 ⟨hk6,fun x hx=>by
   obtain⟨j,hj⟩:=List.getElem?_of_mem hx
   exact hall j x (List.getElem?_eq_some_iff.1 hj).1 hj⟩) _ e1
def FI (a:Int):List B8->B8
 | []=>[]
 | [c]=>c
 | c::r=>c++UInt8.ofNat a.toNat::FI a r
theorem Pm (a:Int):∀cs:List B8,BX a cs=FI a cs++[10]
 | []=>rfl
 | [c]=>rfl
 | c::d::r=>by
  rw[BX,FI,Pm a (d::r)]
  ·simp
  ·simp
  ·simp
theorem Pt (a:Int) (c:B8):∀cs:List B8,FI a (cs++[c])=if cs=[]then c else FI a cs++UInt8.ofNat a.toNat::c
 | []=>rfl
 | [d]=>rfl
 | d::e::r=>by
  have ih:=Pt a c (e::r)
  rw[if_neg (by simp)]at ih⊢
  show d++UInt8.ofNat a.toNat::FI a ((e::r)++[c])=(d++UInt8.ofNat a.toNat::FI a (e::r))++_
  rw[ih];simp
theorem Wo {a:Int} {cs:List B8} {k:Nat} {c:B8} (h:cs[k]? =some c):FI a (cs.take (k+1))=(if k=0 then []else FI a (cs.take k)++[UInt8.ofNat a.toNat])++c:=by
 have hk:=(List.getElem?_eq_some_iff.1 h).1
 rw[List.take_add_one,h,Option.toList_some,Pt]
 by_cases h0:k=0
 ·subst h0;simp
 ·rw[if_neg h0,if_neg (fun e=>?_)]
  ·simp
  ·have:=congrArg List.length e
   rw[List.length_take,List.length_nil]at this;omega
theorem VH {a:Int} {l:List (List B8)} {k:Nat} {r:List B8} (h:l[k]? =some r):AX a (l.take (k+1))=AX a (l.take k)++BX a r:=by
 unfold AX
 rw[List.take_add_one,h,Option.toList_some,List.flatMap_append];simp
theorem UM {v:Vl} {x:Vl} (hx:x∈v.list):v.list.headD vlZ∈v.list:=by
 cases hl:v.list with
 | nil=>rw[hl]at hx;cases hx
 | cons a r=>exact .head _
theorem P2 {v:Vl} (hv:AZ v) (hs:En true v) {x:Vl} (hx:x∈v.list):((v.list.headD vlZ).flds.map fun d=>Fd.mk d.key (B7 x.flds d.key).1).Perm x.flds:=by
 have hval:=(BH hv hs.kind).2
 obtain⟨h1,h2,h3,h4⟩:=hs.map rfl x hx
 obtain⟨_,q2,q3,_⟩:=BT (hval x hx) h1
 have hk0:=(hs.map rfl _ (UM hx)).1
 obtain⟨_,_,g3,_⟩:=BT (hval _ (UM hx)) hk0
 exact Sv q3 g3 h3 h4
theorem Iy {hd:Bool} {v:Vl} (hv:AZ v) (hs:En hd v) {x:Vl} (hx:x∈v.list):∀y,y∈AG hd (v.list.headD vlZ) x->AZ y:=by
 intro y hy
 have hvx:=(BH hv hs.kind).2 x hx
 unfold AG at hy
 cases hd with
 | false=>
  rw[if_neg (by decide)]at hy
  exact(BH hvx (hs.lst rfl x hx).1).2 y hy
 | true=>
  rw[if_pos rfl]at hy
  obtain⟨f,hf,rfl⟩:=List.mem_map.1 hy
  have hm:Fd.mk f.key (B7 x.flds f.key).1∈x.flds:=(P2 hv hs hx).subset (List.mem_map.2 ⟨f,hf,rfl⟩)
  exact(BT hvx (hs.map rfl x hx).1).2.1 _ hm
theorem QN:∀f:List Fd,Cd (f.map Fd.val)<=Da f
 | []=>Nat.zero_le _
 | .mk k v::r=>by
  have ih:=QN r
  rw[List.map_cons,Cd,Da,szd]
  show v.sz+_<=_
  omega
theorem RN {hd:Bool} {v:Vl} (hv:AZ v) (hs:En hd v) {x:Vl} (hx:x∈v.list):Cd (AG hd (v.list.headD vlZ) x)<=x.sz:=by
 unfold AG
 cases hd with
 | false=>
  rw[if_neg (by decide)]
  obtain⟨s,l,f⟩:=x
  have:=szs s l f
  show Cd l<=_
  omega
 | true=>
  rw[if_pos rfl]
  have h1:=Y8 (P2 hv hs hx)
  have h2:=QN ((v.list.headD vlZ).flds.map fun d=>Fd.mk d.key (B7 x.flds d.key).1)
  rw[List.map_map]at h2
  have h3:(Fd.val∘fun d:Fd=>Fd.mk d.key (B7 x.flds d.key).1)=fun f=>(B7 x.flds f.key).1:=rfl
  rw[h3]at h2
  obtain⟨s,l,f⟩:=x
  have:=szs s l f
  have h1:_=Da f:=h1
  omega
theorem Ml {a q:Int} {ty:Bool} {y:Vl} (h:AZ y):(By a q ty y.sc).length<=2*y.sc.text.length+202:=by
 unfold By
 by_cases h4:y.sc.kind=4
 ·rw[if_pos h4]
  have h1:=Jo a q y.sc.text
  have h2:=JW (UInt8.ofNat q.toNat) y.sc.text
  split
  ·unfold Gs
   simp only[List.length_cons,List.length_append,List.length_nil];omega
  ·omega
 ·rw[if_neg h4]
  by_cases h6:y.sc.kind<=3
  ·have:=(plT_ok (Oy h (by omega)).2).2;omega
  ·unfold plT
   rw[if_neg (by omega),if_neg (by omega),if_neg (by omega)]
   exact Nat.zero_le _
theorem TH {a q:Int} {ty:Bool}:∀(ys:List Vl),(∀y,y∈ys->AZ y)->Bv (ys.map fun y=>By a q ty y.sc)<=204*Cd ys
 | [],_=>Nat.zero_le _
 | y::r,h=>by
  have ih:=TH (a:=a) (q:=q) (ty:=ty) r fun y hy=>h y (.tail _ hy)
  have h1:=Ml (a:=a) (q:=q) (ty:=ty) (h y (.head _))
  obtain⟨s,l,f⟩:=y
  have h2:=szs s l f
  have h1:(By a q ty s).length<=2*s.text.length+202:=h1
  rw[List.map_cons,Bv,Cd]
  show(By a q ty s).length+_<=_
  omega
theorem M7:∀(cs:List B8) (k:Nat),Bv (cs.take k)<=Bv cs
 | [],k=>by simp[Bv]
 | c::r,0=>by simp[Bv]
 | c::r,k+1=>by
  have:=M7 r k
  rw[List.take_succ_cons,Bv,Bv];omega
theorem Rr (a:Int):∀cs:List B8,(FI a cs).length<=Bv cs+cs.length
 | []=>Nat.zero_le _
 | [c]=>by simp[FI,Bv]
 | c::d::r=>by
  have:=Rr a (d::r)
  rw[FI]
  ·simp only[List.length_append,List.length_cons,Bv]at this⊢;omega
  ·simp
theorem H1 (a:Int) (l m:List (List B8)):AX a (l++m)=AX a l++AX a m:=by
 unfold AX;rw[List.flatMap_append]
theorem Sf (a:Int) (l:List (List B8)) (k:Nat):(AX a (l.take k)).length<=(AX a l).length:=by
 have:AX a l=AX a (l.take k)++AX a (l.drop k):=by rw[<-H1,List.take_append_drop]
 rw[this,List.length_append];omega
theorem Ni (a q:Int):∀cs:List B8,B5 a q cs=BX a (cs.map (AO a q))
 | []=>rfl
 | [c]=>rfl
 | c::d::r=>by
  have ih:=Ni a q (d::r)
  show AO a q c++UInt8.ofNat a.toNat::B5 a q (d::r)=AO a q c++UInt8.ofNat a.toNat::BX a ((d::r).map (AO a q))
  rw[ih]
noncomputable def Hy (a q:Int) (hd ty:Bool) (first x:Vl):List B8:=(AG hd first x).map fun y=>By a q ty y.sc
noncomputable def F4 (a q:Int) (hd ty:Bool) (v:Vl):List (List B8):=v.list.map (Hy a q hd ty (v.list.headD vlZ))
def HH (a q:Int) (hd:Bool) (v:Vl):List (List B8):=if hd=true/\v.list≠ []then [(v.list.headD vlZ).flds.map fun d=>AO a q d.key]else []
theorem ZH (a q:Int) (hd ty:Bool) (v:Vl):wrX a q hd ty v=HH a q hd v++F4 a q hd ty v:=by
 unfold HH F4 Hy
 cases h:v.list with
 | nil=>rw[KX h];simp
 | cons f r=>
  rw[KY h]
  cases hd with
  | true=>rw[if_pos rfl,if_pos ⟨rfl,by simp⟩];rfl
  | false=>rw[if_neg (by decide),if_neg (fun h=>by cases h.1)];rfl
theorem Uc {a q:Int} {hd ty:Bool} {v:Vl} (hv:AZ v) (hs:En hd v) {x:Vl} (hx:x∈v.list):Bv (Hy a q hd ty (v.list.headD vlZ) x)<=204*x.sz/\(Hy a q hd ty (v.list.headD vlZ) x).length<=x.sz:=by
 have h1:=RN hv hs hx
 have h2:=TH (a:=a) (q:=q) (ty:=ty) _ (Iy hv hs hx)
 have h3:=DQ (AG hd (v.list.headD vlZ) x)
 unfold Hy
 rw[List.length_map]
 exact⟨by omega,by omega⟩
theorem TI {a q:Int} {hd ty:Bool} {first:Vl}:∀(l:List Vl),(∀x,x∈l->Bv (Hy a q hd ty first x)<=204*x.sz/\(Hy a q hd ty first x).length<=x.sz)->DR (l.map (Hy a q hd ty first))<=204*Cd l/\Bl (l.map (Hy a q hd ty first))<=Cd l
 | [],_=>⟨Nat.zero_le _,Nat.zero_le _⟩
 | x::r,h=>by
  obtain⟨i1,i2⟩:=TI r fun x hx=>h x (.tail _ hx)
  obtain⟨h1,h2⟩:=h x (.head _)
  rw[List.map_cons,DR,Bl,Cd]
  exact⟨by omega,by omega⟩
theorem YG {a q:Int} {hd ty:Bool} {v:Vl} (hv:AZ v) (hs:En hd v):(AX a (F4 a q hd ty v)).length<=206*Cd v.list/\(F4 a q hd ty v).length+Bl (F4 a q hd ty v)<=2*Cd v.list:=by
 obtain⟨h1,h2⟩:=TI (a:=a) (q:=q) (hd:=hd) (ty:=ty) (first:=v.list.headD vlZ) v.list fun x hx=>Uc hv hs hx
 have h3:=Hu a (F4 a q hd ty v)
 have h4:=DQ v.list
 unfold F4 at h3⊢
 rw[List.length_map]at h3⊢
 exact⟨by omega,by omega⟩
theorem LD:∀f:List Fd,Bv (f.map Fd.key)<=Da f/\f.length<=Da f
 | []=>⟨Nat.zero_le _,Nat.zero_le _⟩
 | .mk k v::r=>by
  obtain⟨h1,h2⟩:=LD r
  have h3:=v.sz_pos
  rw[List.map_cons,Bv,Da,szd,List.length_cons]
  show k.length+_<=_/\_
  exact⟨by omega,by omega⟩
theorem O4 (a q:Int):∀f:List Fd,Bv (f.map fun d=>AO a q d.key)<=2*Bv (f.map Fd.key)+2*f.length
 | []=>Nat.zero_le _
 | d::r=>by
  have ih:=O4 a q r
  have:=Jo a q d.key
  simp only[List.map_cons,Bv,List.length_cons];omega
theorem Y4 {a q:Int} {hd:Bool} {v:Vl}:(AX a (HH a q hd v)).length<=6*v.sz/\(HH a q hd v).length+Bl (HH a q hd v)<=1+v.sz:=by
 unfold HH
 split
 ·rename_i h
  obtain⟨s,l,f⟩:=v
  have h2:=h.2
  replace h2:l≠ []:=h2
  cases l with
  | nil=>exact absurd rfl h2
  | cons x r=>
   obtain⟨s',l',f'⟩:=x
   show(AX a [f'.map fun d=>AO a q d.key]).length<=_/\1+Bl [f'.map fun d=>AO a q d.key]<=_
   have h3:=Hu a [f'.map fun d=>AO a q d.key]
   have h4:=O4 a q f'
   have h5:=LD f'
   have h6:=szs s (.mk s' l' f'::r) f
   have h7:=szs s' l' f'
   simp only[Cd]at h6
   simp only[DR,Bl,List.length_cons,List.length_nil,List.length_map]at h3⊢
   exact⟨by omega,by omega⟩
 ·exact⟨Nat.zero_le _,by show 0+0<=_;omega⟩
section
theorem Vh {hd ty:Bool} {v:Vl} (h:v.list=[]):D7 hd ty v:=fun x hx=>by rw[h]at hx;cases hx
theorem YH {a q:Int} {hd ty:Bool} {v:Vl} {k:Nat} {x:Vl} (h:v.list[k]? =some x):(F4 a q hd ty v)[k]? =some (Hy a q hd ty (v.list.headD vlZ) x):=by
 unfold F4;rw[List.getElem?_map,h];rfl
theorem Zz {f:List Fd} (h:∀d,d∈f->U8 d.key/\d.key.length<=1024):JB (f.map Fd.key)=true:=by
 unfold JB
 refine List.all_eq_true.2 fun c hc=>?_
 obtain⟨d,hd,rfl⟩:=List.mem_map.1 hc
 exact decide_eq_true (h d hd).1
theorem Wi {a q:Int} {f:List Fd} (hdo:dOk a q=true) (hne:f≠ []) (h:∀d,d∈f->U8 d.key/\d.key.length<=1024):UA a q (f.map Fd.key)= .ok (BX a (f.map fun d=>AO a q d.key)):=by
 unfold UA
 rw[if_neg (by rw[hdo];decide),if_neg (by simpa using hne),Zz h,if_pos rfl,Ni,List.map_map];rfl
theorem S8 {hd:Bool} {v x:Vl} (hs:En hd v) (hx:x∈v.list):(if x.sc.kind=6 then x.list else((v.list.headD vlZ).flds.map Fd.key).map fun k=>(B7 x.flds k).1)=AG hd (v.list.headD vlZ) x:=by
 unfold AG
 cases hd with
 | false=>rw[if_pos (hs.lst rfl x hx).1,if_neg (by decide)]
 | true=>rw[if_neg (by rw[(hs.map rfl x hx).1];decide),if_pos rfl,List.map_map];rfl
theorem Z2 {ty:Bool} {k:Int} (h:BW ty k≠0):BW ty k=27:=by
 unfold BW at h⊢
 split at h
 ·rename_i g;rw[if_pos g]
 ·exact absurd rfl h
section
variable {a q:Int} {hd ty:Bool} {st:St}
theorem Rs {s:Sc} {l:List Vl} {f:List Fd} {ub ul uf:TV} (hdo:dOk a q=true) (hv:AZ (.mk s l f)) (hz:(Vl.mk s l f).sz<=1700000) {K:B8->Int->St->Prop} (hk:∀st',Ak st st'->K (if BW ty s.kind=0 then By a q ty s else []) (BW ty s.kind) st'):
  CallT PR DG [.agg (Bh s ub ul uf),.agg [.int .u8 a,.int .u8 q,.bool hd,.bool ty]] [.one .str,.one (.int .i64)] st K:=by
 have ho:=hv.own.1
 have hsz:=szs s l f
 exact UO hdo ho.own.k0 ho.own.k7 (fun _=>ho.dec) ho.time (fun _=>ho.text) (by have:=ho.tlen;omega) hk
theorem grows_ok {v:Vl} {cs:List TV} (hdo:dOk a q=true) (hV:AZ v) (hS:En hd v) (hN:v.sz<=1700000) (h:VlR St.zero v cs) {K:B8->Int->St->Prop}
  (hk1:D7 hd ty v->∀st',Ak st st'->K (AX a (wrX a q hd ty v)) 0 st') (hk2:¬D7 hd ty v->∀st',Ak st st'->K [] 27 st'):
  CallT PR Im [.agg cs,.agg [.int .u8 a,.int .u8 q,.bool hd,.bool ty]] [.one .str,.one (.int .i64)] st K:=by
 have d:=UV hdo
 have hab:=CL (q:=a) d.a0 (by have:=d.a1;omega)
 have hrl:=YG (a:=a) (q:=q) (ty:=ty) hV hS
 have hhl:=Y4 (a:=a) (q:=q) (hd:=hd) (v:=v)
 have hrs:=fun x hx=>Uc (a:=a) (q:=q) (ty:=ty) hV hS (x:=x) hx
 have hcv:=fun x hx=>Iy hV hS (x:=x) hx
 have hcz:=fun x hx=>RN hV hS (x:=x) hx
 have hck:=fun x hx=>S8 hS (x:=x) hx
 have hget:=fun k x hx=>YH (a:=a) (q:=q) (hd:=hd) (ty:=ty) (v:=v) (k:=k) (x:=x) hx
 have hval:=(BH hV hS.kind).2
 have hwx:=ZH a q hd ty v
 obtain⟨s,l,f⟩:=v
 obtain⟨ub,ul,uf,xl,xf,rfl,_,h2,h3,h4,h5⟩:=h.cells
 have hsz:=szs s l f
 have hll:=DQ l
 have hk0:∀st',Bu St.zero st':=G0
 replace hval:∀x,x∈l->AZ x:=hval
 refine R5 _ _ _ _ _ _ _ _ _ _ _ _ _ a q hd ty st K (Ab h2.isSl (Aa (fun g=>?_) fun g=>?_))
 ·have hl:l=[]:=List.eq_nil_of_length_eq_zero (by rw[h2.lenS]at g;omega)
  have:=hk1 (Vh hl) st (Ak.refl _)
  rwa [KX (v:= .mk s l f) hl]at this
 rw[h2.lenS]at g
 refine QI (i:=0) (k:=0) (hk0 _) h2 h3 rfl (by omega) fun s0 l0 f0 ub0 ul0 uf0 g0 hx0 on0=>?_
 have hfirst:l.headD vlZ= .mk s0 l0 f0:=by
  cases l with
  | nil=>cases g0
  | cons y r=>simp only[List.getElem?_cons_zero,Option.some.injEq]at g0;exact g0
 have hm0:Vl.mk s0 l0 f0∈l:=Bf g0
 have hv0:=hval _ hm0
 have hnd0:BK f0:=Ow hv0
 have hz0:=Fb hm0
 have hsz0:=szs s0 l0 f0
 have hks0:=LD f0
 have hhead:HH a q hd (.mk s l f)=if hd=true then [f0.map fun d=>AO a q d.key]else []:=by
  unfold HH
  show(if hd=true/\l≠ []then [(l.headD vlZ).flds.map fun d=>AO a q d.key]else [])=_
  rw[hfirst]
  have:l≠ []:=fun e=>by rw[e]at g0;cases g0
  by_cases hh:hd=true
  ·rw[if_pos ⟨hh,this⟩,if_pos hh];rfl
  ·rw[if_neg (fun h=>hh h.1),if_neg hh]
 obtain⟨_,_,_,_,_,hc0,_,p2,p3,p4,p5⟩:=hx0.cells
 cases hc0
 have hBn:=Bld.new (Ak.refl st)
 refine Nl (hk0 _) p4 p5 (by omega) hnd0 fun st1 es e1 hb1 hm1 hI=>?_
 have hB1:=hBn.keep e1
 generalize hmb:(st.push (.cells [.nilPtr,.nilSlice]) (some 188)).nb=mb at hb1 hm1
 have hbm:st.nb<mb:=by rw[<-hmb];exact Nat.lt_succ_self _
 generalize hH:AX a (HH a q hd (.mk s l f))=H at hhl
 refine⟨fun w c n1 b1 b2 s1 n2 n3 n4 n5 n6 s2 v1 v2 v3 n7 n8 b3 b4 st'=> .box st.nb 0=w/\.map mb=c/\SmV s ub ul uf a q hd ty n1 b1 b2 s1 n2 n3 n4 n5 n6 s2 v1 v2 v3 n7 n8 b3 b4/\Bld st st.nb st' H/\mb<st'.nb/\st'.box mb= .map es,Aq (fun hh=>?_) fun hh=>?_,?_⟩
 ·obtain⟨i1,_,_,uf1,_,xf1,ld1,_,_,hf1,hfx1⟩:=ld13 h2.zero h3 (i:=0) g0
  subst hh
  obtain⟨_,hne0,_,_⟩:=hS.map rfl _ hm0
  obtain⟨_,_,_,hkv⟩:=BT hv0 (hS.map rfl _ hm0).1
  replace hkv:∀d,d∈f0->U8 d.key/\d.key.length<=1024:=hkv
  replace hne0:f0≠ []:=hne0
  replace hf1:Rd 14 uf1 f0.length xf1:=hf1
  replace hfx1:FsR St.zero f0 xf1:=hfx1
  refine⟨⟨by omega,by rw[h2.lenZ];omega⟩,Ab i1 (Ac (ld1 st1 12 uf1 rfl) (Ab hf1.isSl ?_))⟩
  refine⟨fun ks n w c v n2' n1 b1 b2 s1 n2 n3 n4 n5 n6 s2 v1 v2 v3 n7 n8 b3 b4 st'=>uf1=v/\(f0.length:Int)=n2'/\.box st.nb 0=w/\.map mb=c/\SmV s ub ul uf a q true ty n1 b1 b2 s1 n2 n3 n4 n5 n6 s2 v1 v2 v3 n7 n8 b3 b4/\Ak st1 st'/\∃j:Nat,n=(j:Int)/\j<=f0.length/\Own st1.nt 1 st' ks j (((f0.take j).map Fd.key).map TV.str),
   fun _ n _ _ _ _ _ _ _ _ _ _ _ _ _ _ _ _ _ _ _ _ _ _=>(f0.length-n).toNat,⟨rfl,by rw[hf1.lenS],rfl,rfl,SmV.refl ..,Ak.refl _,0,rfl,Nat.zero_le _,Own.nil _ _ _⟩,?_⟩
  rintro ks _ _ _ _ _ _ _ _ _ _ _ _ _ _ _ _ _ _ _ _ _ _ st2 ⟨rfl,rfl,rfl,rfl,⟨rfl,rfl,rfl,rfl,rfl,rfl,rfl,rfl,rfl,rfl,rfl,rfl,rfl,rfl,rfl,rfl,rfl⟩,e2,j,rfl,hj,hO⟩
  refine Aa (fun g1=>?_) fun g1=>?_
  ·refine SN (hk0 _) (.of_rd hf1) hfx1 rfl (by omega) fun key s' l' f' ub2 ul2 uf2 gw hw on=>Ab on ?_
   refine D2 e2 rfl hO (by omega) (fun h=>by cases h) fun v' st3 e3 _ ho=>?_
   rw[Ai _ (by omega) (by omega)]
   refine⟨⟨rfl,rfl,rfl,rfl,SmV.refl ..,e3,j+1,by omega,by omega,?_⟩,by dsimp only;omega⟩
   rw[List.take_add_one,gw,List.map_append,List.map_append]
   exact ho
  ·have:j=f0.length:=by omega
   subst this
   rw[List.take_length]at hO
   have hrow:J4 TV.str ks (f0.map Fd.key):=by
    unfold J4
    rw[List.length_map]
    exact hO.rd
   refine pline_ok hrow (by omega) (by rw[List.length_map];omega) fun st4 e4=>?_
   rw[Wi hdo hne0 hkv]
   have hH':H=BX a (f0.map fun d=>AO a q d.key):=by
    rw[<-hH,hhead,if_pos rfl]
    unfold AX;simp
   refine Aa (fun h=>absurd rfl h) fun _=>?_
   have e24:=e2.trans e4
   refine FZ (hB1.keep e24) (by show 0+(BX a _).length<=_;rw[<-hH'];omega) fun st5 hB5 k5=>?_
   refine⟨rfl,rfl,SmV.refl ..,?_,Nat.lt_of_lt_of_le hb1 (Nat.le_trans e24.nb k5.1),?_⟩
   ·rw[hH'];exact hB5
   ·rw[k5.2 mb (by omega) (Nat.lt_of_lt_of_le hb1 e24.nb),e24.box mb hb1];exact hm1
 ·refine⟨rfl,rfl,SmV.refl ..,?_,hb1,hm1⟩
  have:H=[]:=by rw[<-hH,hhead,if_neg (by rw[hh];decide)];rfl
  rw[this];exact hB1
 rintro _ _ _ _ _ _ _ _ _ _ _ _ _ _ _ _ _ _ _ st6 ⟨rfl,rfl,⟨rfl,rfl,rfl,rfl,rfl,rfl,rfl,rfl,rfl,rfl,rfl,rfl,rfl,rfl,rfl,rfl,rfl⟩,hB6,hb6,hm6⟩
 have htl:=Sf a (F4 a q hd ty (.mk s l f))
 generalize hR:F4 a q hd ty (.mk s l f)=R at hrl hget hwx htl
 replace hrl:(AX a R).length<=206*Cd l/\_:=hrl
 replace hget:∀(k:Nat) x,l[k]? =some x->R[k]? =some (Hy a q hd ty (l.headD vlZ) x):=hget
 replace hrs:∀x,x∈l->Bv (Hy a q hd ty (l.headD vlZ) x)<=204*x.sz/\(Hy a q hd ty (l.headD vlZ) x).length<=x.sz:=hrs
 replace hcv:∀x,x∈l->∀y,y∈AG hd (l.headD vlZ) x->AZ y:=hcv
 replace hcz:∀x,x∈l->Cd (AG hd (l.headD vlZ) x)<=x.sz:=hcz
 replace hck:∀x:Vl,x∈l->(if x.sc.kind=6 then x.list else((l.headD vlZ).flds.map Fd.key).map fun k=>(B7 x.flds k).1)=AG hd (l.headD vlZ) x:=hck
 replace hhl:H.length<=6*(Vl.mk s l f).sz/\_:=hhl
 have hcok:D7 hd ty (.mk s l f)=∀x,x∈l->∀y,y∈AG hd (l.headD vlZ) x->BW ty y.sc.kind=0:=rfl
 rw[hfirst]at hget hrs hcv hcz hck hcok
 refine Ab h2.isSl ⟨fun n w c v n4 n31 n32 b13 b14 st'=> .box st.nb 0=w/\.map mb=c/\ul=v/\(l.length:Int)=n4/\a=n31/\q=n32/\hd=b13/\ty=b14/\∃k:Nat,n=k/\k<=l.length/\Bld st st.nb st' (H++AX a (R.take k))/\mb<st'.nb/\st'.box mb= .map es/\∀(j:Nat) x,j<k->l[j]? =some x->∀y,y∈AG hd (.mk s0 l0 f0) x->BW ty y.sc.kind=0,
  fun n _ _ _ _ _ _ _ _ _=>(l.length-n).toNat,⟨rfl,rfl,rfl,by rw[h2.lenS],rfl,rfl,rfl,rfl,0,rfl,Nat.zero_le _,by rw[List.take_zero,show AX a []=[]from rfl,List.append_nil];exact hB6,hb6,hm6,fun j x hj=>by omega⟩,?_⟩
 rintro _ _ _ _ _ _ _ _ _ st7 ⟨rfl,rfl,rfl,rfl,rfl,rfl,rfl,rfl,k,rfl,hk,hB7,hb7,hm7,hsh⟩
 have htk:=htl k
 refine Aa (fun g1=>?_) fun g1=>?_
 ·refine QI (hk0 _) h2 h3 rfl (by omega) fun s' l' f' ub1 ul1 uf1 gx hx on=>Ab on ?_
  have hmx:=Bf gx
  have hvx:=hval _ hmx
  have hzx:=Fb hmx
  have hszx:=szs s' l' f'
  have hfx:=LD f'
  obtain⟨_,_,_,_,_,hc1,_,q2,q3,q4,q5⟩:=hx.cells
  cases hc1
  have hgx:=hget k _ gx
  have hrx:=hrs _ hmx
  have hcx:=hcv _ hmx
  have hczx:=hcz _ hmx
  have hckx:=hck _ hmx
  replace hckx:(if s'.kind=6 then l' else(f0.map Fd.key).map fun k=>(B7 f' k).1)=AG hd (.mk s0 l0 f0) (.mk s' l' f'):=hckx
  refine Y5 (hk0 _) q2 q3 q4 q5 (by omega) hb7 hm7 hI hnd0 (Ow hvx) (fun h6=>?_) fun st8 u xs e8 hcl hvs=>?_
  ·cases hd with
   | false=>exact absurd (hS.lst rfl _ hmx).1 h6
   | true=>
    obtain⟨_,_,m3,m4⟩:=hS.map rfl _ hmx
    replace m3:f'.length=(l.headD vlZ).flds.length:=m3
    replace m4:∀f,f∈f'->f.key∈(l.headD vlZ).flds.map Fd.key:=m4
    rw[hfirst]at m3 m4
    exact⟨by rw[List.length_map];exact m3,m4⟩
  rw[hckx]at hcl hvs
  have hrow:Hy a q hd ty (.mk s0 l0 f0) (.mk s' l' f')=(AG hd (.mk s0 l0 f0) (.mk s' l' f')).map fun y=>By a q ty y.sc:=rfl
  generalize hcl0:AG hd (.mk s0 l0 f0) (.mk s' l' f')=cl at hcl hvs hcx hczx hrow
  generalize Hy a q hd ty (.mk s0 l0 f0) (.mk s' l' f')=row at hgx hrx hrow
  have hcll:=DQ cl
  have hB8:=hB7.keep e8
  have hm8:st8.box mb= .map es:=(e8.box mb hb7).trans hm7
  have hrgl:row.length=cl.length:=by rw[hrow,List.length_map]
  have hbb:st.nb<st7.nb:=by omega
  generalize hT:H++AX a (R.take k)=T at hB8
  have hTl:T.length<=370000000:=by rw[<-hT,List.length_append];omega
  refine Ab hcl.sl.isSl ⟨fun n5 w c v3 n6 n7 v4 n8 n39 n40 b17 b18 st'=> .box st.nb 0=w/\.map mb=c/\ul=v3/\(l.length:Int)=n6/\(k:Int)=n7/\u=v4/\(cl.length:Int)=n8/\a=n39/\q=n40/\hd=b17/\ty=b18/\∃m:Nat,n5=m/\m<=cl.length/\Bld st st.nb st' (T++FI a (row.take m))/\mb<st'.nb/\st'.box mb= .map es/\ClR st7.nb st' u cl.length xs/\∀(j:Nat) y,j<m->cl[j]? =some y->BW ty y.sc.kind=0,
   fun n _ _ _ _ _ _ _ _ _ _ _ _=>(cl.length-n).toNat,⟨rfl,rfl,rfl,rfl,rfl,rfl,by rw[hcl.sl.lenS],rfl,rfl,rfl,rfl,0,rfl,Nat.zero_le _,by rw[List.take_zero,show FI a []=[]from rfl,List.append_nil];exact hB8,Nat.lt_of_lt_of_le hb7 e8.nb,hm8,hcl,fun j y hj=>by omega⟩,?_⟩
  rintro _ _ _ _ _ _ _ _ _ _ _ _ st9 ⟨rfl,rfl,rfl,rfl,rfl,rfl,rfl,rfl,rfl,rfl,rfl,m,rfl,hm,hB9,hb9,hm9,hcl9,hsh9⟩
  have hj1:=Rr a (row.take m)
  have hj2:=M7 row m
  rw[List.length_take]at hj1
  have hJl:(T++FI a (row.take m)).length<=730000000:=by rw[List.length_append];omega
  refine Aa (fun g2=>?_) fun g2=>?_
  ·refine QI (Bu.refl st9) hcl9.sl (hvs.keep (G0 st9)) rfl (by omega) fun s2 l2 f2 ub2 ul2 uf2 gy hy on2=>Ab on2 ?_
   have hmy:=Bf gy
   have hvy:=hcx _ hmy
   have hzy:=Fb hmy
   have hszy:=szs s2 l2 f2
   have hgy:row[m]? =some (By a q ty s2):=by rw[hrow,List.getElem?_map,gy];rfl
   have hsl:(By a q ty s2).length<=2*s2.text.length+202:=Ml (y:= .mk s2 l2 f2) hvy
   have hjt:=Wo (a:=a) hgy
   have bad:BW ty s2.kind≠0->∀st',Ak st st'->K [] (BW ty s2.kind) st':=fun he st' e=>by
    rw[Z2 he]
    refine hk2 (fun hc=>he ?_) st' e
    rw[hcok]at hc
    exact hc _ hmx (.mk s2 l2 f2) (by rw[hcl0];exact hmy)
   have next:BW ty s2.kind=0->∀(j:Nat) y,j<m+1->cl[j]? =some y->BW ty y.sc.kind=0:=fun he j y hj hy=>by
    by_cases hjm:j=m
    ·subst hjm;rw[gy]at hy;cases hy;exact he
    ·exact hsh9 j y (by omega) hy
   rw[Ai _ (by omega) (by omega)]
   refine Aa (fun g3=>?_) fun g3=>?_
   ·refine KW (UInt8.ofNat a.toNat) hab.symm hB9 (by omega) fun st10 hB10 k10=>Rs hdo hvy (by omega) fun st11 e11=>Aa (fun g4=>bad g4 st11 (hB10.keep e11).ext) fun g4=>?_
    have he:=Decidable.not_not.1 g4
    rw[if_pos he]
    refine FZ (hB10.keep e11) (by rw[List.length_append,List.length_singleton];omega) fun st12 hB12 k12=>?_
    have kk:=(k10.trans (But.of e11)).trans k12
    refine⟨⟨rfl,rfl,rfl,rfl,rfl,rfl,rfl,rfl,rfl,rfl,rfl,m+1,by omega,by omega,?_,Nat.lt_of_lt_of_le hb9 kk.1,(kk.2 mb (by omega) hb9).trans hm9,hcl9.but hbb kk,next he⟩,by dsimp only;omega⟩
    rw[hjt,if_neg (by omega)]
    simpa using hB12
   ·refine Rs hdo hvy (by omega) fun st11 e11=>Aa (fun g4=>bad g4 st11 (hB9.keep e11).ext) fun g4=>?_
    have he:=Decidable.not_not.1 g4
    have hm0:m=0:=by omega
    subst hm0
    rw[if_pos he]
    refine FZ (hB9.keep e11) (by omega) fun st12 hB12 k12=>?_
    have kk:=(But.of e11).trans k12
    refine⟨⟨rfl,rfl,rfl,rfl,rfl,rfl,rfl,rfl,rfl,rfl,rfl,0+1,by omega,by omega,?_,Nat.lt_of_lt_of_le hb9 kk.1,(kk.2 mb (by omega) hb9).trans hm9,hcl9.but hbb kk,next he⟩,by dsimp only;omega⟩
    rw[hjt,if_pos rfl]
    simpa [FI]using hB12
  ·have hmc:m=cl.length:=by omega
   subst hmc
   rw[<-hrgl,List.take_length]at hB9 hJl
   refine KW 10 rfl hB9 (by omega) fun st10 hB10 k10=>?_
   rw[Ai _ (by omega) (by omega)]
   refine⟨⟨rfl,rfl,rfl,rfl,rfl,rfl,rfl,rfl,k+1,by omega,by omega,?_,Nat.lt_of_lt_of_le hb9 k10.1,(k10.2 mb (by omega) hb9).trans hm9,fun j x hj hx y hy=>?_⟩,by dsimp only;omega⟩
   ·rw[VH hgx,Pm,<-List.append_assoc,<-List.append_assoc,hT];exact hB10
   ·by_cases hjk:j=k
    ·subst hjk
     rw[gx]at hx
     cases hx
     rw[hcl0]at hy
     obtain⟨i,hi⟩:=List.getElem?_of_mem hy
     exact hsh9 i y (List.getElem?_eq_some_iff.1 hi).1 hi
    ·exact hsh j x (by omega) hx y hy
 ·have hkl:k=l.length:=by omega
  subst hkl
  have hRl:R.length=l.length:=by rw[<-hR];unfold F4;rw[List.length_map];rfl
  rw[<-hRl,List.take_length]at hB7 htk
  refine MV hB7 (by rw[List.length_append];omega) fun st' e=>?_
  rw[<-hH,<-H1,<-hwx]
  refine hk1 ?_ st' e
  rw[hcok]
  intro x hx y hy
  obtain⟨i,hi⟩:=List.getElem?_of_mem hx
  exact hsh i x (List.getElem?_eq_some_iff.1 hi).1 hi y hy
end
end
section
open Classical in
noncomputable def HP (a q:Int) (hd ty:Bool) (v:Vl):Int:=if dOk a q=false then 1 else if De v≠0 then(De v:Int)else if En hd v/\D7 hd ty v then 0 else 27
noncomputable def M0 (a q:Int) (hd ty:Bool) (v:Vl):B8:=if HP a q hd ty v=0 then AX a (wrX a q hd ty v)else []
noncomputable def GS (a q:Int) (hd ty:Bool) (v:Vl):Int:=if HP a q hd ty v=0 then(if 1048576<(M0 a q hd ty v).length then 10 else 0)else HP a q hd ty v
noncomputable def LW (a q:Int) (hd ty:Bool) (v:Vl):B8:=if GS a q hd ty v=0 then M0 a q hd ty v else []
theorem Vr {a q:Int} {hd ty:Bool} {v:Vl} (h1:dOk a q=true) (h2:De v=0) (h3:En hd v) (h4:D7 hd ty v):HP a q hd ty v=0:=by
 unfold HP
 rw[if_neg (by rw[h1];decide),if_neg (by omega),if_pos ⟨h3,h4⟩]
theorem Vs {a q:Int} {hd ty:Bool} {v:Vl} (h1:dOk a q=true) (h2:De v=0) (h3:¬(En hd v/\D7 hd ty v)):HP a q hd ty v=27:=by
 unfold HP
 rw[if_neg (by rw[h1];decide),if_neg (by omega),if_neg h3]
section
variable {a q:Int} {hd ty:Bool} {st:St}
theorem gtext_ok {v:Vl} {cs:List TV} (hN:v.sz<=1700000) (h:VlR St.zero v cs) {K:B8->Int->St->Prop} (hk:∀st',Ak st st'->K (M0 a q hd ty v) (HP a q hd ty v) st'):
  CallT PR Il [.agg cs,.agg [.int .u8 a,.int .u8 q,.bool hd,.bool ty]] [.one .str,.one (.int .i64)] st K:=by
 have h0:=h
 obtain⟨s,l,f⟩:=v
 obtain⟨ub,ul,uf,xl,xf,rfl,_⟩:=h.cells
 unfold M0 at hk
 refine R3 _ _ _ _ _ _ _ _ _ _ _ _ _ a q hd ty st K (HI (Aq (fun g=>?_) fun g=>?_))
 ·have he:HP a q hd ty (.mk s l f)=1:=by unfold HP;rw[if_pos (by simpa using g)]
  have:=hk st (Ak.refl _)
  rwa [he,if_neg (by decide)]at this
 have g:dOk a q=true:=by simpa using g
 refine Vw (v:= .mk s l f) (by omega) h0 (G0 _) fun st1 e1=>Aa (fun g1=>?_) fun g1=>?_
 ·have he:HP a q hd ty (.mk s l f)=(De (.mk s l f):Int):=by unfold HP;rw[if_neg (by rw[g];decide),if_pos (by omega)]
  have:=hk st1 e1
  rwa [he,if_neg (by omega)]at this
 have g1:De (.mk s l f)=0:=by omega
 have hV:=Jx g1
 refine Wx hV (by omega) h0 (fun hS st2 e2=>?_) fun hS st2 e2=>?_
 ·refine Aq (fun h=>by cases h) fun _=>grows_ok g hV hS hN h0 (fun hC st3 e3=>?_) fun hC st3 e3=>?_
  ·have:=hk st3 ((e1.trans e2).trans e3)
   rwa [Vr g g1 hS hC,if_pos rfl]at this
  ·have:=hk st3 ((e1.trans e2).trans e3)
   rwa [Vs g g1 fun h=>hC h.2,if_neg (by decide)]at this
 ·refine Aq (fun _=>?_) fun h=>by cases h
  have:=hk st2 (e1.trans e2)
  rwa [Vs g g1 fun h=>hS h.1,if_neg (by decide)]at this
theorem Y6 {v:Vl} {cs:List TV} (hN:v.sz<=1700000) (h:VlR St.zero v cs) {K:B8->Int->St->Prop} (hk:∀st',Ak st st'->K (LW a q hd ty v) (GS a q hd ty v) st'):
  CallT PR G9 [.agg cs,.agg [.int .u8 a,.int .u8 q,.bool hd,.bool ty]] [.one .str,.one (.int .i64)] st K:=by
 have h0:=h
 obtain⟨s,l,f⟩:=v
 obtain⟨ub,ul,uf,xl,xf,rfl,_⟩:=h.cells
 refine Qr _ _ _ _ _ _ _ _ _ _ _ _ _ a q hd ty st K (gtext_ok hN h0 fun st1 e1=>Aa (fun g=>Aa (fun g1=>?_) fun g1=>?_) fun g=>?_)
 ·have hw:GS a q hd ty (.mk s l f)=10:=by unfold GS;rw[if_pos g,if_pos (by omega)]
  have:=hk st1 e1
  unfold LW at this
  rwa [hw,if_neg (by decide)]at this
 ·have hw:GS a q hd ty (.mk s l f)=0:=by unfold GS;rw[if_pos g,if_neg (by omega)]
  have:=hk st1 e1
  unfold LW at this
  rw[hw,if_pos rfl]at this
  rw[g];exact this
 ·have hw:GS a q hd ty (.mk s l f)=HP a q hd ty (.mk s l f):=by unfold GS;rw[if_neg g]
  have:=hk st1 e1
  unfold LW at this
  rw[hw,if_neg g]at this
  rw[show M0 a q hd ty (.mk s l f)=[] by unfold M0;rw[if_neg g]];exact this
end
end
theorem Yi {s:B8} {k:Nat} (hv:vlen s=s.length) (hb:Bd s k):vlen (s.drop k)=(s.drop k).length:=by
 have h1:=KZ _ s k (Nat.le_refl _) hv hb
 have h2:=Tu _ (s.take k) (s.drop k) (Nat.le_refl _) (by rw[h1,List.length_take];have:=hb.1;omega)
 rw[List.take_append_drop,hv,List.length_take,Nat.min_eq_left hb.1]at h2
 rw[List.length_drop];omega
theorem Tr {s:B8} {i e:Nat} (hv:vlen s=s.length) (hi:Bd s i) (he:Bd s e) (hie:i<=e):U8 (slc s i e):=by
 have h1:=KZ _ s e (Nat.le_refl _) hv he
 have hl:(s.take e).length=e:=by rw[List.length_take];have:=he.1;omega
 unfold slc U8
 refine Yi (by rw[h1,hl]) ⟨by omega,?_⟩
 rw[hl,N3]
 by_cases h:i=e
 ·exact .inl h
 ·right
  rw[if_pos (by omega)]
  rcases hi.2 with h2 | h2
  ·have:=he.1;omega
  ·exact h2
theorem bd_zero {s:B8} (hv:vlen s=s.length):Bd s 0:=by
 refine⟨Nat.zero_le _,?_⟩
 by_cases h:s.length=0
 ·exact .inl h.symm
 ·exact .inr (Xj fun h0=>by rw[BL _ h0]at hv;omega)
theorem bt_by {s:B8} {e:Nat} {b:Int} (h:by_ s e=b):(bt s e:Int)=b:=h
theorem bd_at {s:B8} {e:Nat} {b:Int} (he:e<s.length) (h:by_ s e=b) (hb:b<128):Bd s e:=⟨by omega,.inr fun hc=>by
 have:=bt_by h
 unfold PV at hc;omega⟩
theorem Hi.u8 {a q:Int} (ha:a<128) {s:B8} (hv:vlen s=s.length) {i:Nat} {ks:List Nd} {e n:Nat} (h:Hi a q s i ks e n):Bd s i->(∀k,k∈ks->U8 (AN k))/\Bd s (e+n):=by
 induction h with
 | @last i e n h1 h2 h3=>
  intro hi
  have hc:=Cn hi.1 h1
  obtain⟨g1,g2,g3,g4⟩:=Fg hc.2 h3
  have he:Bd s e:=by
   by_cases h:e=s.length
   ·exact⟨by omega,.inl h⟩
   ·rcases g4 (by omega)with h | h
    ·exact bd_at (by omega) h (by decide)
    ·exact bd_at (by omega) h (by decide)
  refine⟨fun k hk=>?_,?_⟩
  ·obtain rfl:=List.mem_singleton.1 hk
   exact Tr hv hi he hc.1
  ·by_cases h0:n=0
   ·subst h0;exact he
   ·have h5:=bt_by (g3 (by omega))
    have hb:=Vm _ s (e+n-1) (Nat.le_refl _) hv (by omega) (by omega)
    rwa [show e+n-1+1=e+n by omega]at hb
 | @more i e f n ks h1 h2 h3 h4 ih=>
  intro hi
  have hc:=Cn hi.1 h1
  have he:Bd s e:=bd_at h2 h3 ha
  have h5:=bt_by h3
  have hb:=Vm _ s e (Nat.le_refl _) hv h2 (by omega)
  obtain⟨i1,i2⟩:=ih hb
  refine⟨fun k hk=>?_,i2⟩
  rcases List.mem_cons.1 hk with rfl | hk
  ·exact Tr hv hi he hc.1
  ·exact i1 k hk
theorem Gt.u8 {a q:Int} (ha:a<128) {s:B8} (hv:vlen s=s.length) {i:Nat} {rs:List Nd} (h:Gt a q s i rs):Bd s i->∀r,r∈rs->∀k,k∈Au r->U8 (AN k):=by
 induction h with
 | nil h=>intro _ r hr;cases hr
 | @cons i e n ks rs h1 h2 h3 ih=>
  intro hi r hr
  obtain⟨i1,i2⟩:=h2.u8 ha hv hi
  rcases List.mem_cons.1 hr with rfl | hr
  ·exact i1
  ·exact ih i2 r hr
theorem RF {c:UInt8}:∀(m:Nat) (t:B8),m<=(dbl c t).length->(∀j,j<m->(dbl c t).getD j 0≠c)->m<=t.length/\(dbl c t).take m=t.take m/\(dbl c t).drop m=dbl c (t.drop m)
 | 0,t,_,_=>⟨Nat.zero_le _,rfl,rfl⟩
 | m+1,[],h,_=>by simp[dbl]at h
 | m+1,b::t,h,hn=>by
  rw[CC]at h hn⊢
  by_cases hb:b=c
  ·rw[if_pos hb]at hn
   exact absurd rfl (hn 0 (by omega))
  ·rw[if_neg hb]at h hn⊢
   have h':m<=(dbl c t).length:=by simpa using h
   obtain⟨i1,i2,i3⟩:=RF m t h' fun j hj=>by
    have:=hn (j+1) (by omega)
    simpa using this
   refine⟨by rw[List.length_cons];omega,?_,?_⟩
   ·show b::(dbl c t).take m=b::t.take m
    rw[i2]
   ·exact i3
theorem JF {c:UInt8} {l:B8} (hc:c.toNat<128) (h:vlen (c::l)=(c::l).length):vlen l=l.length:=by
 have h1:=Lb (c::l) (by simp) hc
 rw[BM _ (by omega),h1.1]at h
 simp only[List.drop_succ_cons,List.drop_zero,List.length_cons]at h;omega
theorem VB {c:UInt8} (hc:c.toNat<128):∀(n:Nat) (t:B8),t.length<=n->vlen (dbl c t)=(dbl c t).length->vlen t=t.length:=by
 intro n
 induction n with
 | zero=>intro t h _;rw[List.eq_nil_of_length_eq_zero (by omega:t.length=0),Hm];rfl
 | succ n ih=>
  intro t h hv
  cases t with
  | nil=>rw[Hm];rfl
  | cons b t=>
   rw[List.length_cons]at h
   by_cases hb:b=c
   ·subst hb
    rw[CC,if_pos rfl]at hv
    have:=JF hc (JF hc hv)
    exact BN hc (ih t (by omega) this)
   ·by_cases hb2:b.toNat<128
    ·rw[CC,if_neg hb]at hv
     exact BN hb2 (ih t (by omega) (JF hb2 hv))
    ·have hD:dbl c (b::t)=b::dbl c t:=by rw[CC,if_neg hb];rfl
     generalize hd:dbl c (b::t)=D at hv
     have hne:D≠ []:=by rw[<-hd,hD];simp
     have hpos:0<D.length:=List.length_pos_iff.2 hne
     have h0:ul D≠0:=fun h0=>by rw[BL D h0]at hv;omega
     have hle:=I6 D
     have hsp:=RF (c:=c) (ul D) (b::t) (by rw[hd];exact hle) (fun j hj=>by
      rw[hd]
      by_cases hj0:j=0
      ·subst hj0
       rw[<-hd,hD];exact hb
      ·have h9:=(NU D j (by omega) hj).1
       intro he
       have:bt D j=c.toNat:=by unfold bt;rw[he]
       omega)
     rw[hd]at hsp
     obtain⟨g1,g2,g3⟩:=hsp
     have hu:=Sa (l:=D) (m:=ul D) h0 (Nat.le_refl _)
     have hut:ul (b::t)=ul D:=by
      have:=OB (l:=b::t) (m:=ul D) (by rw[<-g2,hu.1];exact h0)
      rw[this,<-g2,hu.1]
     rw[BM _ h0,g3]at hv
     have hdl:(dbl c ((b::t).drop (ul D))).length=D.length-ul D:=by rw[<-g3,List.length_drop]
     have hr:=ih ((b::t).drop (ul D)) (by rw[List.length_drop,List.length_cons];omega) (by rw[hdl];omega)
     rw[BM _ (by rw[hut];exact h0),hut,hr,List.length_drop];omega
theorem u8_txt {q:Int} (hq:q<128) {c:B8} (hw:Qa q c) (hu:U8 c):U8 (txt q c):=by
 rcases hw with rfl | h | ⟨b,t,hb,rfl⟩
 ·have:txt q []=[]:=by unfold txt;rw[if_pos (.inl rfl)]
  rw[this];exact hu
 ·have:txt q c=c:=by unfold txt;rw[if_pos (.inr h)]
  rw[this];exact hu
 ·rw[HX hb]
  have hb1:b.toNat<128:=by omega
  have h1:=JF hb1 hu
  have hbd:Bd (dbl b t++[b]) (dbl b t).length:=⟨by simp,.inr fun hc=>by
   have:bt (dbl b t++[b]) (dbl b t).length=b.toNat:=by unfold bt;rw[List.getD_eq_getElem?_getD,List.getElem?_append_right (Nat.le_refl _)];simp
   unfold PV at hc;omega⟩
  have h2:=KZ _ _ _ (Nat.le_refl _) h1 hbd
  rw[List.take_left]at h2
  exact VB hb1 _ t (Nat.le_refl _) h2
theorem Vz:∀(n:Nat) (s:B8),s.length<=n->A5 (s.take (s.length-A5 s))=0:=by
 intro n
 induction n with
 | zero=>intro s h;rw[List.eq_nil_of_length_eq_zero (by omega:s.length=0)];rfl
 | succ n ih=>
  intro s h
  by_cases hne:s=[]
  ·subst hne;rfl
  have hl:=List.dropLast_concat_getLast hne
  generalize s.dropLast=a at hl
  generalize s.getLast hne=c at hl
  subst hl
  rw[Gu]
  rw[List.length_append,List.length_singleton]at h⊢
  by_cases h0:c=48
  ·rw[if_pos h0,show a.length+1-(A5 a+1)=a.length-A5 a by omega,List.take_append_of_le_length (by omega)]
   exact ih a (by omega)
  ·rw[if_neg h0,List.take_of_length_le (by simp),Gu,if_neg h0]
theorem Tn:∀(n:Nat) (s:B8),s.length<=n->A5 s=s.length->∀c,c∈s->c=48:=by
 intro n
 induction n with
 | zero=>intro s h _ c hc;rw[List.eq_nil_of_length_eq_zero (by omega:s.length=0)]at hc;cases hc
 | succ n ih=>
  intro s h hz x hx
  have hne:s≠ []:=fun e=>by rw[e]at hx;cases hx
  have hl:=List.dropLast_concat_getLast hne
  generalize s.dropLast=a at hl
  generalize s.getLast hne=c at hl
  subst hl
  rw[Gu]at hz
  rw[List.length_append,List.length_singleton]at h hz
  by_cases h0:c=48
  ·rw[if_pos h0]at hz
   rcases List.mem_append.1 hx with hx | hx
   ·exact ih a (by omega) (by omega) x hx
   ·rw[List.mem_singleton.1 hx];exact h0
  ·rw[if_neg h0]at hz;omega
def JD (r:Bool×B8×Int×Int):Prop:=r.2.2.2=0->Di r.1 r.2.1 r.2.2.1
theorem It:JD LR:=fun h=>absurd h (by decide)
theorem dcN_good {neg:Bool} {s:B8} {ex:Int} (hd:∀c,c∈s->AH c) (h0:s.getD 0 0≠48):JD (dcN neg s ex):=by
 unfold dcN
 split
 ·exact fun _=>⟨fun _=>⟨rfl,rfl⟩,fun h=>absurd rfl h⟩
 rename_i hne
 split
 ·exact fun h=>absurd h (by decide)
 rename_i hb
 intro _
 have hz:=Vz _ s (Nat.le_refl _)
 have hzl:=N6 s
 have hlt:A5 s<s.length:=by
  apply Decidable.byContradiction
  intro hn
  have:=Tn _ s (Nat.le_refl _) (by omega)
  cases s with
  | nil=>exact hne rfl
  | cons c t=>exact h0 (this c (.head _))
 refine⟨fun he=>?_,fun _=>⟨?_,fun c hc=>hd c (List.mem_of_mem_take hc),?_,hz,by show-400<=ex+_;omega,by show ex+_<=400;omega⟩⟩
 ·have:=congrArg List.length he
  replace this:(s.take (s.length-A5 s)).length=0:=this
  rw[List.length_take]at this;omega
 ·show(s.take (s.length-A5 s)).length<=120
  rw[List.length_take];omega
 ·show(s.take (s.length-A5 s)).getD 0 0≠48
  obtain⟨k,hk⟩:∃k,s.length-A5 s=k+1:=⟨s.length-A5 s-1,by omega⟩
  rw[hk]
  cases s with
  | nil=>exact absurd rfl hne
  | cons c t=>exact h0
theorem VI {l:B8} {c:UInt8} (h:c∈Bw l):c∈l:=(List.dropWhile_sublist _).subset h
theorem UZ {neg:Bool} {all:B8} {ex:Int} (h:∀c,c∈all->AH c):JD (dcN neg (Bw all) ex):=dcN_good (fun c hc=>h c (VI hc)) (Jb all)
theorem PQ {neg:Bool} {all:B8} {ex:Int} {less:Bool} {r:B8} (h:∀c,c∈all->AH c):JD (dcX neg all ex less r):=by
 unfold dcX
 split
 ·exact It
 ·exact UZ h
theorem U0 {neg:Bool} {all:B8} {ex:Int} {r:B8} (h:∀c,c∈all->AH c):JD (dcE neg all ex r):=by
 unfold dcE
 split
 ·exact UZ h
 split
 ·split
  ·exact PQ h
  split
  ·exact PQ h
  ·exact PQ h
 ·exact It
theorem dcF_good {neg:Bool} {a r:B8} (h:∀c,c∈a->AH c):JD (dcF neg a r):=by
 unfold dcF
 split
 ·split
  ·exact It
  ·exact U0 fun c hc=>(List.mem_append.1 hc).elim (h c) (HJ _ c)
 ·exact U0 h
theorem dcQ_good {neg:Bool} {s:B8}:JD (dcQ neg s):=by
 unfold dcQ
 split
 ·exact It
 ·exact dcF_good (HJ s)
theorem dcP_good (s:B8):JD (dcP s):=by
 unfold dcP
 split<;>exact dcQ_good
def P6 (r:TmR):Prop:=r.2.2.2.2=0->Ee r.1 r.2.1 r.2.2.1 r.2.2.2.1
theorem F2:P6 Hs:=fun h=>absurd h (by decide)
theorem HZ:P6 Hr:=fun h=>absurd h (by decide)
theorem SX {y m d:Nat} (h:okD y m d):Iu y m d<=3652058:=by
 obtain⟨h1,h2,h3,h4,h5,h6⟩:=h
 have g1:=Ek y h3
 have g2:=JL y (show m+1<=13 by omega)
 have g3:EO y 13=EO y 12+KE y 12:=rfl
 have g4:=IU h1
 have g5:=N7 (show 1<=y+1 by omega) (show y+1<=10000 by omega)
 have g6:yrS 10000=3652059:=by decide
 unfold Iu;omega
theorem Ph {h m s f:Nat} (hc:okC h m s) (hf:f<1000000000):Ej h m s f<=86399999999999:=by
 obtain⟨h1,h2,h3⟩:=hc
 unfold Ej;omega
theorem X6 {s:B8} {h m sc f:Nat} {r:B8} (hc:HN s=some (h,m,sc,f,r)):f<1000000000:=by
 unfold HN at hc
 split at hc
 ·split at hc
  ·split at hc
   ·cases hc
   ·rename_i h1
    simp only[Option.some.injEq,Prod.mk.injEq]at hc
    obtain⟨_,_,_,rfl,_⟩:=hc
    exact fracN_lt (HJ _) (by omega)
  ·simp only[Option.some.injEq,Prod.mk.injEq]at hc
   obtain⟨_,_,_,rfl,_⟩:=hc
   decide
 ·cases hc
theorem ZT {y mo d h m s f:Nat} {r:B8} (hf:f<1000000000):P6 (tmO y mo d h m s f r):=by
 unfold tmO
 split
 ·split
  ·rename_i g
   have h1:=SX g.1
   have h2:=Ph g.2 hf
   intro _
   exact⟨by show(1:Int)<=3;decide,by show(3:Int)<=4;decide,Int.natCast_nonneg _,by show((Iu y mo d:Nat):Int)<=_;omega,Int.natCast_nonneg _,by show((Ej h m s f:Nat):Int)<=_;omega,by show(-1439:Int)<=0;decide,by show(0:Int)<=1439;decide,fun h=>absurd h (by show ¬(3:Int)=2;decide),fun h=>absurd h (by show ¬(3:Int)=1;decide),fun _=>rfl⟩
  ·exact HZ
 ·split
  ·exact F2
  ·rename_i ls oh om _
   split
   ·rename_i g
    obtain⟨g1,g2,g3,g4⟩:=g
    have h1:=SX g1
    have h2:=Ph g2 hf
    intro _
    have hz: -1439<=(if ls then-((oh*60+om:Nat):Int)else((oh*60+om:Nat):Int))/\(if ls then-((oh*60+om:Nat):Int)else((oh*60+om:Nat):Int))<=1439:=by split<;>omega
    exact⟨by show(1:Int)<=4;decide,by show(4:Int)<=4;decide,Int.natCast_nonneg _,by show((Iu y mo d:Nat):Int)<=_;omega,Int.natCast_nonneg _,by show((Ej h m s f:Nat):Int)<=_;omega,hz.1,hz.2,fun h=>absurd h (by show ¬(4:Int)=2;decide),fun h=>absurd h (by show ¬(4:Int)=1;decide),fun h=>absurd rfl h⟩
   ·exact HZ
theorem ZU {y mo d:Nat} {r:B8}:P6 (tmD y mo d r):=by
 unfold tmD
 split
 ·split
  ·rename_i g
   have h1:=SX g
   intro _
   exact⟨by show(1:Int)<=1;decide,by show(1:Int)<=4;decide,Int.natCast_nonneg _,by show((Iu y mo d:Nat):Int)<=_;omega,by show(0:Int)<=0;decide,by show(0:Int)<=_;decide,by show(-1439:Int)<=0;decide,by show(0:Int)<=1439;decide,fun h=>absurd h (by show ¬(1:Int)=2;decide),fun _=>rfl,fun _=>rfl⟩
  ·exact HZ
 split
 ·split
  ·exact F2
  ·rename_i hc
   exact ZT (X6 hc)
 ·exact F2
theorem ZS (s:B8):P6 (tmP s):=by
 unfold tmP
 split
 ·exact ZU
 split
 ·exact F2
 ·rename_i h m sc f r hc
  split
  ·split
   ·rename_i g
    have h2:=Ph g (X6 hc)
    intro _
    exact⟨by show(1:Int)<=2;decide,by show(2:Int)<=4;decide,by show(0:Int)<=0;decide,by show(0:Int)<=_;decide,Int.natCast_nonneg _,by show((Ej h m sc f:Nat):Int)<=_;omega,by show(-1439:Int)<=0;decide,by show(0:Int)<=1439;decide,fun _=>rfl,fun h=>absurd h (by show ¬(2:Int)=1;decide),fun _=>rfl⟩
   ·exact HZ
  ·exact F2
theorem dec0:Di false [] 0:=⟨fun _=>⟨rfl,rfl⟩,fun h=>absurd rfl h⟩
theorem Zq {ty qd:Bool} {s:B8} (hu:U8 s) (hl:s.length<=65536):EI (CD ty qd s) [] []:=by
 have hn:U8 []:=VE
 unfold CD
 split
 ·exact Pb hu hl
 split
 ·exact⟨⟨by decide,by decide,fun _=>rfl,fun _=>⟨rfl,rfl,rfl⟩,fun _=>⟨rfl,rfl,rfl,rfl⟩,fun _=>rfl,fun _=>rfl,fun _=>rfl,fun _=>rfl⟩,dec0,fun h=>absurd h (by decide),hn,Nat.zero_le _,Nat.zero_le _,rfl⟩
 have hB:∀b,EI (tkB b) [] []:=fun b=>⟨⟨by show(0:Int)<=1;decide,by show(1:Int)<=7;decide,fun h=>absurd rfl h,fun _=>⟨rfl,rfl,rfl⟩,fun _=>⟨rfl,rfl,rfl,rfl⟩,fun _=>rfl,fun _=>rfl,fun _=>rfl,fun _=>rfl⟩,dec0,fun h=>absurd h (by show ¬(1:Int)=3;decide),hn,Nat.zero_le _,Nat.zero_le _,rfl⟩
 split
 ·exact hB true
 split
 ·exact hB false
 split
 ·rename_i h
  exact⟨⟨by show(0:Int)<=2;decide,by show(2:Int)<=7;decide,fun _=>rfl,fun h=>absurd rfl h,fun _=>⟨rfl,rfl,rfl,rfl⟩,fun _=>rfl,fun _=>rfl,fun _=>rfl,fun _=>rfl⟩,dcP_good s h,fun h=>absurd h (by show ¬(2:Int)=3;decide),hn,Nat.zero_le _,Nat.zero_le _,rfl⟩
 split
 ·rename_i h
  exact⟨⟨by show(0:Int)<=3;decide,by show(3:Int)<=7;decide,fun _=>rfl,fun _=>⟨rfl,rfl,rfl⟩,fun h=>absurd rfl h,fun _=>rfl,fun _=>rfl,fun _=>rfl,fun _=>rfl⟩,dec0,fun _=>ZS s h,hn,Nat.zero_le _,Nat.zero_le _,rfl⟩
 ·exact Pb hu hl
theorem WU (ty qd:Bool) (s:B8):BW ty (CD ty qd s).kind=0:=by
 have h4:∀b:Bool,BW b (tkT s).kind=0:=fun b=>by
  show BW b 4=0
  cases b<;>decide
 unfold CD
 split
 ·exact h4 ty
 rename_i h
 have ht:ty=true:=by cases ty;exact absurd (.inl rfl) h;rfl
 subst ht
 split
 ·decide
 split
 ·decide
 split
 ·decide
 split
 ·show BW true 2=0;decide
 split
 ·show BW true 3=0;decide
 ·exact h4 true
section
theorem P0 {a q:Int}:∀(rs:List Nd),(∀r,r∈rs->RecF a q r)->∀{s:Int},s+rs.length+3*Bl (AB rs)<=524288->∃s',HO rs 2 s= .ok s'/\s<=s'/\s'<=s+rs.length+3*Bl (AB rs)
 | [],_,s,hs=>⟨s,rfl,by omega,by simp[AB,Bl]⟩
 | r::rs,hF,s,hs=>by
  obtain⟨ks,t,rfl,_,hk⟩:=hF r (.head _)
  have e:AB (.mk 8 [] [] ks t::rs)=ks.map AN::AB rs:=rfl
  rw[e]at hs⊢
  simp only[Bl,List.length_map,List.length_cons]at hs⊢
  obtain⟨s1,j1,j2,j3⟩:=MS ks hk (s:=s+1) (by omega)
  obtain⟨s2,j4,j5,j6⟩:=P0 rs (fun r hr=>hF r (.tail _ hr)) (s:=s1) (by omega)
  have l8:IF 8=false:=by decide
  refine⟨s2,?_,by omega,by omega⟩
  simp only[HO,chk,l8]
  rw[if_neg (by omega),if_neg (by omega),if_neg (by omega),if_neg (by simp)]
  simp only[Int.reduceAdd]
  rw[j1]
  exact j4
theorem Y0 {s:B8} {a q:Int} {hd:Bool} {rs:List Nd} (hc:1+rs.length+3*Bl (AB rs)<=524288) (h:Eb s a q hd= .ok (.mk 1 [] [] rs [])):CV (.mk 1 [] [] rs [])=s/\IH (.mk 1 [] [] rs [])=0/\HA (.mk 1 [] [] rs []) a q hd:=by
 obtain⟨rs',hn,_,_,hle,_,_,hr,_⟩:=Bn h
 cases hn
 have hle:(s.length:Int)<=1048576:=hle
 have ht:CV (.mk 1 [] [] rs [])=s:=by
  have:=Gt.text hr (Nat.zero_le _)
  simp only[CV,List.nil_append,List.append_nil]
  rw[this];rfl
 have hlen:Ep (.mk 1 [] [] rs [])=s.length:=by rw[<-DF,ht]
 have hc:IH (.mk 1 [] [] rs [])=0:=by
  obtain⟨s',h1,h2,h3⟩:=P0 rs (hr.form (Nat.zero_le _)) (s:=1) (by omega)
  have h4:chk (.mk 1 [] [] rs []) 1 0= .ok s':=by
   have l1:IF 1=false:=by decide
   simp only[chk,l1]
   rw[if_neg (by omega),if_neg (by omega),if_neg (by omega),if_neg (by simp)]
   exact h1
  unfold IH
  rw[h4]
  simp only
  rw[if_neg (by omega)]
 exact⟨ht,hc,hc,by rw[ht];exact h⟩
mutual
theorem S6:∀(v:Vl) (d n:Nat),AZ v->d+lvV v<=49->n+v.cnt<=65536->DA d n v=(n+v.cnt,0)
 | .mk s l f,d,n,h,h1,h2=>by
  unfold AZ at h
  obtain⟨g1,g2,g3⟩:=h
  unfold lvV at h1
  unfold Vl.cnt at h2⊢
  have e1:=Vb l (d+1) (n+1) g2 (by omega) (by omega)
  have e2:=Vf f (d+1) (n+1+A8 l) g3 (by omega) (by omega)
  rw[X7 (by omega) (by omega) (My.2 g1),e1,CU rfl]
  show CG (d+1) (n+1+A8 l) f=_
  rw[e2]
  congr 1;omega
theorem Vb:∀(l:List Vl) (d n:Nat),DO l->(l≠ []->d+NM l<=49)->n+A8 l<=65536->Dh d n l=(n+A8 l,0)
 | [],d,n,_,_,_=>by unfold Dh A8;rfl
 | v::r,d,n,h,h1,h2=>by
  unfold DO at h
  have h1:=h1 (by simp)
  unfold NM at h1
  unfold A8 at h2⊢
  have e1:=S6 v d n h.1 (by omega) (by omega)
  have e2:=Vb r d (n+v.cnt) h.2 (fun _=>by omega) (by omega)
  rw[PX,e1,CU rfl]
  show Dh d (n+v.cnt) r=_
  rw[e2]
  congr 1;omega
theorem chkD_of:∀(x:Fd) (d n:Nat),KS x->d+lvD x<=49->n+x.cnt<=65536->NQ d n x=(n+x.cnt,0)
 | .mk k v,d,n,h,h1,h2=>by
  unfold KS at h
  unfold lvD at h1
  unfold Fd.cnt at h2⊢
  unfold NQ
  exact S6 v d n h h1 h2
theorem Vf:∀(l:List Fd) (d n:Nat),Ed l->(l≠ []->d+NN l<=49)->n+Cs l<=65536->CG d n l=(n+Cs l,0)
 | [],d,n,_,_,_=>by unfold CG Cs;rfl
 | x::r,d,n,h,h1,h2=>by
  unfold Ed at h
  have h1:=h1 (by simp)
  unfold NN at h1
  unfold Cs at h2⊢
  have e1:=chkD_of x d n h.1 (by omega) (by omega)
  have e2:=Vf r d (n+x.cnt) h.2 (fun _=>by omega) (by omega)
  unfold CG
  rw[e1,CU rfl]
  show CG d (n+x.cnt) r=_
  rw[e2]
  congr 1;omega
end
theorem check_of {v:Vl} (h:AZ v) (hl:lvV v<=48) (hc:v.cnt<=65536):De v=0:=by
 unfold De
 rw[S6 v 1 0 h (by omega) (by omega)]
theorem QQ {l:List Vl} (h:∀x,x∈l->AZ x):DO l:=by
 induction l with
 | nil=>unfold DO;trivial
 | cons x r ih=>unfold DO;exact⟨h x (.head _),ih fun y hy=>h y (.tail _ hy)⟩
theorem Yj {l:List Fd} (h:∀x,x∈l->AZ x.val):Ed l:=by
 induction l with
 | nil=>unfold Ed;trivial
 | cons x r ih=>
  unfold Ed
  refine⟨?_,ih fun y hy=>h y (.tail _ hy)⟩
  cases x
  unfold KS
  exact h _ (.head _)
theorem MY {s:Sc} (h:EI s [] []):AZ (AS s):=by
 unfold AS AZ DO Ed
 exact⟨h,trivial,trivial⟩
theorem UE:∀(f:List Fd) (seen:List B8),BK f->(∀d,d∈f->d.key∉seen/\U8 d.key/\d.key.length<=1024)->Fh seen f=0
 | [],seen,_,_=>rfl
 | d::r,seen,hn,h=>by
  obtain⟨h1,h2,h3⟩:=h d (.head _)
  unfold Fh
  unfold BK at hn
  rw[List.map_cons,List.nodup_cons]at hn
  rw[if_pos h2,if_neg (by omega),if_neg h1]
  refine UE r _ hn.2 fun x hx=>?_
  obtain⟨g1,g2,g3⟩:=h x (.tail _ hx)
  refine⟨fun hm=>?_,g2,g3⟩
  rcases List.mem_cons.1 hm with he | hm
  ·exact hn.1 (he▸List.mem_map.2 ⟨x,hx,rfl⟩)
  ·exact g1 hm
theorem Yk {f:List Fd} (hn:BK f) (hk:∀d,d∈f->U8 d.key/\d.key.length<=1024) (h:∀x,x∈f->AZ x.val):AZ (Gr f):=by
 unfold Gr AZ
 exact⟨⟨⟨by simp,by simp,by simp[scZ],by simp[scZ],by simp[scZ],by simp[scZ],by simp[scZ],by simp,by simp⟩,by constructor<;>simp[scZ],by simp,VE,by simp[scZ],by simp[scZ],UE f [] hn fun d hd=>⟨by simp,hk d hd⟩⟩,by unfold DO;trivial,Yj h⟩
theorem Yf {names:List B8} {row:List Sc} (h:names.length=row.length):(Eo names row).map Fd.key=names:=by
 unfold Eo
 rw[List.map_zipWith]
 show List.zipWith (fun k _=>k) names row=names
 refine List.ext_getElem? fun i=>?_
 rw[List.getElem?_zipWith]
 by_cases hi:i<names.length
 ·rw[List.getElem?_eq_getElem hi,List.getElem?_eq_getElem (by omega)]
 ·rw[List.getElem?_eq_none (by omega)]
theorem ZC {names:List B8} {row:List Sc} {d:Fd} (h:d∈Eo names row):∃s,s∈row/\d.val=AS s:=by
 unfold Eo at h
 obtain⟨i,hi⟩:=List.getElem?_of_mem h
 rw[List.getElem?_zipWith]at hi
 split at hi
 ·rename_i k s h1 h2
  cases hi
  exact⟨s,List.mem_of_getElem? h2,rfl⟩
 ·cases hi
structure B0 (q:Int) (hd:Bool) (W:Nat) (l:List (List B8)):Prop where
 txt:∀r,r∈l->∀c,c∈r->U8 (txt q c)/\(TVF.txt q c).length<=65536
 wid:∀r,r∈l->r.length=W
 pos:l≠ []->0<W
 names:hd=true->∀r,l.head? =some r->(r.map (TVF.txt q)).Nodup/\∀c,c∈r->(TVF.txt q c).length<=1024
theorem OV {q:Int} {ty:Bool} {r:List B8} (h:∀c,c∈r->U8 (txt q c)/\(txt q c).length<=65536):∀s,s∈Be q ty r->EI s [] []/\BW ty s.kind=0:=by
 intro s hs
 obtain⟨c,hc,rfl⟩:=List.mem_map.1 hs
 obtain⟨h1,h2⟩:=h c hc
 exact⟨Zq h1 h2,WU _ _ _⟩
theorem Hq {q:Int} {hd ty:Bool} {l:List (List B8)} {x:Vl} (hx:x∈AL q hd ty l):(hd=false/\∃r,r∈l/\x=AR ((Be q ty r).map AS))∨(hd=true/\∃h t r,l=h::t/\r∈t/\x=Gr (Eo (h.map (txt q)) (Be q ty r))):=by
 cases hd with
 | false=>
  rw[EM]at hx
  obtain⟨r,hr,rfl⟩:=List.mem_map.1 hx
  exact .inl ⟨rfl,r,hr,rfl⟩
 | true=>
  cases l with
  | nil=>cases hx
  | cons h t=>
   have hx:x∈t.map fun r=>Jl (h.map (txt q)) (Be q ty r):=hx
   obtain⟨r,hr,rfl⟩:=List.mem_map.1 hx
   exact .inr ⟨rfl,h,t,r,rfl,hr,rfl⟩
section
variable {q:Int} {hd ty:Bool} {W:Nat} {l:List (List B8)}
theorem B0.fld (ok:B0 q hd W l) {h r:List B8} {t:List (List B8)} (hl:l=h::t) (hr:r∈t):(Eo (h.map (TVF.txt q)) (Be q ty r)).map Fd.key=h.map (TVF.txt q)/\h.length=W/\r.length=W:=by
 have h1:=ok.wid h (by rw[hl];exact .head _)
 have h2:=ok.wid r (by rw[hl];exact .tail _ hr)
 exact⟨Yf (by rw[List.length_map,Cj,h1,h2]),h1,h2⟩
theorem B0.valid (ok:B0 q hd W l):∀x,x∈AL q hd ty l->AZ x:=by
 intro x hx
 rcases Hq hx with⟨rfl,r,hr,rfl⟩ | ⟨rfl,h,t,r,hl,hr,rfl⟩
 ·refine Ox (QQ fun y hy=>?_)
  obtain⟨s,hs,rfl⟩:=List.mem_map.1 hy
  exact MY (OV (ok.txt r hr) s hs).1
 ·obtain⟨h1,h2,h3⟩:=ok.fld (ty:=ty) hl hr
  obtain⟨n1,n2⟩:=ok.names rfl h (by rw[hl];rfl)
  have hm:h∈l:=by rw[hl];exact .head _
  refine Yk (by unfold BK;rw[h1];exact n1) (fun d hd=>?_) fun d hd=>?_
  ·have:d.key∈h.map (TVF.txt q):=by rw[<-h1];exact List.mem_map.2 ⟨d,hd,rfl⟩
   obtain⟨c,hc,he⟩:=List.mem_map.1 this
   rw[<-he]
   exact⟨(ok.txt h hm c hc).1,n2 c hc⟩
  ·obtain⟨s,hs,he⟩:=ZC hd
   rw[he]
   exact MY (OV (ok.txt r (by rw[hl];exact .tail _ hr)) s hs).1
theorem XC (s:Sc):lvV (AS s)=1:=by unfold AS lvV NM NN;rfl
theorem B0.lv (ok:B0 q hd W l):∀x,x∈AL q hd ty l->lvV x=2:=by
 have hleaf:∀(r:List B8),0<r.length->NM ((Be q ty r).map AS)=1:=by
  intro r
  unfold Be
  rw[List.map_map]
  induction r with
  | nil=>intro h;exact absurd h (by simp)
  | cons c r ih=>
   intro _
   rw[List.map_cons,NM]
   show max (lvV (AS _)) _=1
   rw[XC]
   cases r with
   | nil=>rfl
   | cons c' r'=>rw[ih (by simp)];rfl
 have hflds:∀(names:List B8) (row:List Sc),names.length=row.length->0<row.length->NN (Eo names row)=1:=by
  intro names row
  induction row generalizing names with
  | nil=>intro _ h;exact absurd h (by simp)
  | cons s row ih=>
   intro h1 _
   cases names with
   | nil=>simp at h1
   | cons k names=>
    show NN (Fd.mk k (AS s)::Eo names row)=1
    rw[NN,lvD,XC]
    cases row with
    | nil=>cases names<;>rfl
    | cons s' row'=>rw[ih names (by simpa using h1) (by simp)];rfl
 intro x hx
 have hne:l≠ []:=fun e=>by rw[e]at hx;cases hx
 have hW:=ok.pos hne
 rcases Hq hx with⟨rfl,r,hr,rfl⟩ | ⟨rfl,h,t,r,hl,hr,rfl⟩
 ·unfold AR lvV NN
  rw[hleaf r (by rw[ok.wid r hr];exact hW)];rfl
 ·obtain⟨h1,h2,h3⟩:=ok.fld (ty:=ty) hl hr
  unfold Gr lvV NM
  rw[hflds _ _ (by rw[List.length_map,Cj,h2,h3]) (by rw[Cj,h3];exact hW)];rfl
theorem U5 (s:Sc):(AS s).cnt=1:=by unfold AS Vl.cnt A8 Cs;rfl
theorem B0.cnt (ok:B0 q hd W l):∀x,x∈AL q hd ty l->x.cnt=1+W:=by
 have hleaf:∀(row:List Sc),A8 (row.map AS)=row.length:=by
  intro row
  induction row with
  | nil=>rfl
  | cons s row ih=>rw[List.map_cons,A8,U5,ih,List.length_cons];omega
 have hflds:∀(names:List B8) (row:List Sc),names.length=row.length->Cs (Eo names row)=row.length:=by
  intro names row
  induction row generalizing names with
  | nil=>intro h;cases names with | nil=>rfl | cons k n=>simp at h
  | cons s row ih=>
   intro h1
   cases names with
   | nil=>simp at h1
   | cons k names=>
    show Cs (Fd.mk k (AS s)::Eo names row)=_
    rw[Cs,Fd.cnt,U5,ih names (by simpa using h1),List.length_cons];omega
 intro x hx
 rcases Hq hx with⟨rfl,r,hr,rfl⟩ | ⟨rfl,h,t,r,hl,hr,rfl⟩
 ·unfold AR Vl.cnt
  rw[hleaf,Cj,ok.wid r hr];simp[Cs]
 ·obtain⟨h1,h2,h3⟩:=ok.fld (ty:=ty) hl hr
  unfold Gr Vl.cnt
  rw[hflds _ _ (by rw[List.length_map,Cj,h2,h3]),Cj,h3];simp[A8]
end
theorem IV {c:Nat}:∀{l:List Vl},(∀x,x∈l->x.cnt=c)->A8 l=l.length*c
 | [],_=>by rw[A8,List.length_nil,Nat.zero_mul]
 | x::r,h=>by
  rw[A8,h x (.head _),IV fun y hy=>h y (.tail _ hy),List.length_cons,Nat.add_mul,Nat.one_mul,Nat.add_comm]
theorem Pj {c:Nat}:∀{l:List Vl},(∀x,x∈l->lvV x=c)->NM l=if l=[]then 0 else c
 | [],_=>rfl
 | x::r,h=>by
  rw[NM,h x (.head _),Pj fun y hy=>h y (.tail _ hy),if_neg (List.cons_ne_nil _ _)]
  split
  ·exact Nat.max_zero _
  ·exact Nat.max_self _
end
section
theorem entC_W {a q:Int} {k:Nd} (h:Xc a q k):Qa q (AN k):=by
 obtain⟨c,mark,rfl,hw,_⟩:=h
 exact hw
theorem Sp {s:B8} {a q:Int} {hd:Bool} {rs:List Nd} (h:Eb s a q hd= .ok (.mk 1 [] [] rs [])):∃W,B0 q hd W (AB rs)/\∀r,r∈rs->(Au r).length=W:=by
 obtain⟨rs',hn,hdo,_,_,hv,hdoc,hr,hsz,W,hW⟩:=Bn h
 cases hn
 have d:=UV (a:=a) (q:=q) hdo
 have hv:vlen s=s.length:=hv
 have hu:=Gt.u8 (show(xU s a q).a<128 from d.a1) hv hr (bd_zero hv)
 have hf:=hr.form (Nat.zero_le _)
 have hK:∀r,r∈rs->(Au r).length=W.toNat:=fun r hr=>by have:=hW r hr;omega
 refine⟨W.toNat,⟨fun r hr c hc=>?_,fun r hr=>?_,fun hne=>?_,fun hh r hr=>?_⟩,hK⟩
 ·unfold AB at hr
  obtain⟨x,hx,rfl⟩:=List.mem_map.1 hr
  obtain⟨k,hk,rfl⟩:=List.mem_map.1 hc
  obtain⟨ks,t,rfl,_,hks⟩:=hf x hx
  exact⟨u8_txt d.q1 (entC_W (hks k hk)) (hu _ hx k hk),hsz _ hx k hk⟩
 ·unfold AB at hr
  obtain⟨x,hx,rfl⟩:=List.mem_map.1 hr
  rw[List.length_map,hK x hx]
 ·cases rs with
  | nil=>exact absurd rfl hne
  | cons x t=>
   obtain⟨ks,t',rfl,h1,_⟩:=hf x (.head _)
   have:=hK _ (List.Mem.head t)
   have this:ks.length=_:=this
   omega
 ·subst hh
  unfold AB at hr
  rw[List.head?_map,Option.map_eq_some_iff]at hr
  obtain⟨x,hx,rfl⟩:=hr
  obtain⟨n1,n2⟩:=PK _ hdoc (Nat.zero_le _) x hx
  have he:((Au x).map AN).map (txt q)=Ce q (Au x):=by unfold Ce;rw[List.map_map];rfl
  refine⟨by rw[he];exact n1,fun c hc=>?_⟩
  have:txt q c∈Ce q (Au x):=by rw[<-he];exact List.mem_map.2 ⟨c,hc,rfl⟩
  exact n2 _ this
theorem SY {W:Nat}:∀{rs:List Nd},(∀r,r∈rs->(Au r).length=W)->Dy rs=((rs.length*(1+W):Nat):Int)
 | [],_=>by simp[Dy]
 | r::rs,h=>by
  rw[Dy,SY fun x hx=>h x (.tail _ hx),Jv,h r (.head _),List.length_cons,Nat.add_mul];omega
theorem Tz (q:Int) (hd ty:Bool) (l:List (List B8)):(AL q hd ty l).length=if hd=true then l.length-1 else l.length:=by
 cases l with
 | nil=>cases hd<;>rfl
 | cons h t=>
  cases hd with
  | true=>
   show(t.map _).length=_
   rw[List.length_map];simp
  | false=>
   show((h::t).map _).length=_
   rw[List.length_map];simp
theorem Xi {q:Int} {hd ty:Bool} {W:Nat} {rs:List Nd} (ok:B0 q hd W (AB rs)) (hK:∀r,r∈rs->(Au r).length=W):(((AR (AL q hd ty (AB rs))).cnt:Nat):Int)=1+BY hd rs:=by
 have h1:(AR (AL q hd ty (AB rs))).cnt=1+(AL q hd ty (AB rs)).length*(1+W):=by
  unfold AR Vl.cnt
  rw[IV ok.cnt];simp[Cs]
 rw[h1,Tz,show(AB rs).length=rs.length by unfold AB;rw[List.length_map]]
 unfold BY
 cases hd with
 | false=>rw[if_neg (by decide),if_neg (by decide),SY hK];omega
 | true=>
  rw[if_pos rfl,if_pos rfl,SY (W:=W) fun r hr=>hK r (List.mem_of_mem_tail hr),List.length_tail];omega
theorem ZL {q:Int} {hd ty:Bool} {W:Nat} {l:List (List B8)} (ok:B0 q hd W l):lvV (AR (AL q hd ty l))=if AL q hd ty l=[]then 1 else 3:=by
 unfold AR lvV NN
 rw[Pj ok.lv]
 split<;>rfl
theorem QR {q:Int} {hd ty:Bool} {W:Nat} {l:List (List B8)} (ok:B0 q hd W l):AZ (AR (AL q hd ty l)):=Ox (QQ ok.valid)
theorem V0 {s:B8} {a q:Int} {hd ty:Bool} {rs:List Nd} (h:Eb s a q hd= .ok (.mk 1 [] [] rs [])):De (AR (AL q hd ty (AB rs)))=0:=by
 obtain⟨W,ok,hK⟩:=Sp h
 have h1:=Xi (ty:=ty) ok hK
 have h2:=U4 h
 refine check_of (QR ok) ?_ (by omega)
 rw[ZL ok]
 split<;>omega
theorem KK {q:Int} {hd ty:Bool} {l:List (List B8)} {x:Vl} (hx:x∈AL q hd ty l):(AL q hd ty l).headD vlZ∈AL q hd ty l:=by
 cases hl:AL q hd ty l with
 | nil=>rw[hl]at hx;cases hx
 | cons y r=>exact .head _
theorem Tm:∀(names:List B8) (row:List Sc),names.length=row.length->(Eo names row).map Fd.val=row.map AS
 | [],[],_=>rfl
 | [],_::_,h=>by simp at h
 | _::_,[],h=>by simp at h
 | k::names,s::row,h=>by
  have ih:=Tm names row (by simpa using h)
  show AS s::(Eo names row).map Fd.val=AS s::row.map AS
  rw[ih]
section
variable {q:Int} {hd ty:Bool} {W:Nat} {l:List (List B8)}
theorem B0.keys (ok:B0 q true W l):∀x,x∈AL q true ty l->∃h t r,l=h::t/\r∈t/\x=Gr (Eo (h.map (TVF.txt q)) (Be q ty r))/\x.flds.map Fd.key=h.map (TVF.txt q):=by
 intro x hx
 rcases Hq hx with⟨h,_⟩ | ⟨_,h,t,r,hl,hr,rfl⟩
 ·cases h
 ·exact⟨h,t,r,hl,hr,rfl,(ok.fld (ty:=ty) hl hr).1⟩
theorem B0.keys2 (ok:B0 q true W l):∀x,x∈AL q true ty l->x.flds.map Fd.key=((AL q true ty l).headD vlZ).flds.map Fd.key:=by
 intro x hx
 obtain⟨h,t,r,hl,_,_,h1⟩:=ok.keys x hx
 obtain⟨h',t',r',hl',_,_,h2⟩:=ok.keys _ (KK hx)
 rw[hl]at hl'
 cases hl'
 rw[h1,h2]
theorem B0.cellsT (ok:B0 q true W l) {h r:List B8} {t:List (List B8)} (hl:l=h::t) (hr:r∈t) {F:Vl} (hF:F.flds.map Fd.key=h.map (TVF.txt q)):AG true F (Gr (Eo (h.map (TVF.txt q)) (Be q ty r)))=(Be q ty r).map AS:=by
 obtain⟨g1,g2,g3⟩:=ok.fld (ty:=ty) hl hr
 have hx:Gr (Eo (h.map (TVF.txt q)) (Be q ty r))∈AL q true ty l:=by
  rw[hl]
  exact List.mem_map.2 ⟨r,hr,rfl⟩
 have hnd:BK (Eo (h.map (TVF.txt q)) (Be q ty r)):=(BT (ok.valid _ hx) rfl).2.2.1
 have hlen:(h.map (TVF.txt q)).length=(Be q ty r).length:=by rw[List.length_map,Cj,g2,g3]
 have hv:=Tm _ _ hlen
 unfold AG
 rw[if_pos rfl]
 show(F.flds.map fun f=>(B7 (Eo (h.map (TVF.txt q)) (Be q ty r)) f.key).1)=_
 generalize Eo (h.map (TVF.txt q)) (Be q ty r)=Z at*
 have e1:(F.flds.map fun f=>(B7 Z f.key).1)=(F.flds.map Fd.key).map fun k=>(B7 Z k).1:=by rw[List.map_map];rfl
 rw[e1,hF,<-g1,List.map_map,<-hv]
 refine List.map_congr_left fun d hd=>?_
 show(B7 Z d.key).1=d.val
 rw[JS hnd hd]
theorem B0.cells (ok:B0 q hd W l):∀x,x∈AL q hd ty l->∃r,r∈l/\AG hd ((AL q hd ty l).headD vlZ) x=(Be q ty r).map AS:=by
 intro x hx
 cases hd with
 | false=>
  rcases Hq hx with⟨_,r,hr,rfl⟩ | ⟨h,_⟩
  ·exact⟨r,hr,by unfold AG;rw[if_neg (by decide)];rfl⟩
  ·cases h
 | true=>
  have hk:=ok.keys2 x hx
  obtain⟨h,t,r,hl,hr,rfl,h1⟩:=ok.keys x hx
  exact⟨r,by rw[hl];exact .tail _ hr,ok.cellsT hl hr (by rw[<-hk,h1])⟩
theorem B0.cellsOk (ok:B0 q hd W l):D7 hd ty (AR (AL q hd ty l)):=by
 intro x hx y hy
 replace hx:x∈AL q hd ty l:=hx
 obtain⟨r,hr,he⟩:=ok.cells x hx
 have hy:y∈AG hd ((AL q hd ty l).headD vlZ) x:=hy
 rw[he]at hy
 obtain⟨s,hs,rfl⟩:=List.mem_map.1 hy
 exact(OV (ok.txt r hr) s hs).2
theorem B0.shape (ok:B0 q hd W l):En hd (AR (AL q hd ty l)):=by
 have hlen:∀x,x∈AL q hd ty l->(hd=false->x.sc.kind=6/\x.list.length=W)/\(hd=true->x.sc.kind=7/\x.flds.length=W):=by
  intro x hx
  rcases Hq hx with⟨rfl,r,hr,rfl⟩ | ⟨rfl,h,t,r,hl,hr,rfl⟩
  ·refine⟨fun _=>⟨rfl,?_⟩,fun h=>(by cases h)⟩
   show((Be q ty r).map AS).length=W
   rw[List.length_map,Cj,ok.wid r hr]
  ·obtain⟨g1,g2,g3⟩:=ok.fld (ty:=ty) hl hr
   refine⟨fun h=>(by cases h),fun _=>⟨rfl,?_⟩⟩
   have:=congrArg List.length g1
   rw[List.length_map,List.length_map,g2]at this
   exact this
 have hpos:∀x,x∈AL q hd ty l->0<W:=fun x hx=>ok.pos fun e=>by rw[e]at hx;cases hx
 refine⟨rfl,fun h x hx=>?_,fun h x hx=>?_⟩
 ·replace hx:x∈AL q hd ty l:=hx
  obtain⟨k1,k2⟩:=(hlen x hx).1 h
  obtain⟨_,k3⟩:=(hlen _ (KK hx)).1 h
  have:=hpos x hx
  refine⟨k1,fun e=>by rw[e]at k2;simp at k2;omega,?_⟩
  show x.list.length=((AL q hd ty l).headD vlZ).list.length
  rw[k2,k3]
 ·subst h
  replace hx:x∈AL q true ty l:=hx
  obtain⟨k1,k2⟩:=(hlen x hx).2 rfl
  obtain⟨_,k3⟩:=(hlen _ (KK hx)).2 rfl
  have:=hpos x hx
  refine⟨k1,fun e=>by rw[e]at k2;simp at k2;omega,?_,fun f hf=>?_⟩
  ·show x.flds.length=((AL q true ty l).headD vlZ).flds.length
   rw[k2,k3]
  ·show f.key∈((AL q true ty l).headD vlZ).flds.map Fd.key
   rw[<-ok.keys2 x hx]
   exact List.mem_map.2 ⟨f,hf,rfl⟩
end
theorem wr_same {a q:Int} {hd ty:Bool} {v:Vl} (d:MW a q) (hv:AZ v) (hs:En hd v) (hc:D7 hd ty v) (hk:hd=true->∀x,x∈v.list->x.flds.map Fd.key=(v.list.headD vlZ).flds.map Fd.key):Yl q hd ty (wrX a q hd ty v)=v:=by
 cases hd with
 | false=>exact(wr_val d hv hs hc).2 rfl
 | true=>
  have hok:=MT d hv hs hc
  obtain⟨he,hval⟩:=BH hv hs.kind
  have hk:=hk rfl
  cases hl:v.list with
  | nil=>
   rw[KX hl,he,hl];rfl
  | cons f r=>
   rw[KY hl]
   have hh:v.list.headD vlZ=f:=by rw[hl];rfl
   rw[hh]at hok hk
   have hq1:=d.q1
   have hn:(f.flds.map fun d=>AO a q d.key).map (txt q)=f.flds.map Fd.key:=by
    rw[List.map_map]
    exact List.map_congr_left fun x _=>F1 d.q0 (by omega) x.key
   show AR (((f::r).map fun x=>(AG true f x).map fun y=>By a q ty y.sc).map fun r=>Jl ((f.flds.map fun d=>AO a q d.key).map (txt q)) (Be q ty r))=_
   conv=>rhs;rw[he,hl]
   congr 1
   rw[List.map_map]
   conv=>rhs;rw[<-List.map_id (f::r)]
   refine List.map_congr_left fun x hx=>?_
   rw[<-hl]at hx
   simp only[Function.comp_apply,id]
   obtain⟨q1,_,q3,_⟩:=BT (hval x hx) (hs.map rfl x hx).1
   unfold Jl
   rw[hn,Mq fun y hy=>(hok x hx y hy).1]
   conv=>rhs;rw[q1]
   congr 1
   show List.zipWith (fun k s=>Fd.mk k (AS s)) (f.flds.map Fd.key) ((f.flds.map fun d=>(B7 x.flds d.key).1).map Vl.sc)=_
   rw[Xf Vl.sc fun d hd=>(hok x hx _ (List.mem_map.2 ⟨d,hd,rfl⟩)).2.1]
   have e1:(f.flds.map fun d=>Fd.mk d.key (B7 x.flds d.key).1)=(f.flds.map Fd.key).map fun k=>Fd.mk k (B7 x.flds k).1:=by rw[List.map_map];rfl
   rw[e1,<-hk x hx,List.map_map]
   conv=>rhs;rw[<-List.map_id x.flds]
   refine List.map_congr_left fun d hd=>?_
   show Fd.mk d.key (B7 x.flds d.key).1=d
   rw[JS q3 hd]
   cases d;rfl
def txs (l:List Vl):Nat:=(l.map fun y=>y.sc.text.length).sum
theorem QW {a q:Int} {ty:Bool}:∀(ys:List Vl),(∀y,y∈ys->AZ y)->Bv (ys.map fun y=>By a q ty y.sc)<=2*txs ys+202*ys.length
 | [],_=>Nat.zero_le _
 | y::r,h=>by
  have ih:=QW (a:=a) (q:=q) (ty:=ty) r fun y hy=>h y (.tail _ hy)
  have h1:=Ml (a:=a) (q:=q) (ty:=ty) (h y (.head _))
  unfold txs at ih⊢
  rw[List.map_cons,Bv,List.map_cons,List.sum_cons,List.length_cons]
  omega
theorem Q1 {a q:Int} {hd ty:Bool} {first:Vl}:∀(l:List Vl),(∀x,x∈l->∀y,y∈AG hd first x->AZ y)->DR (l.map (Hy a q hd ty first))<=2*(l.map fun x=>txs (AG hd first x)).sum+202*(l.map fun x=>(AG hd first x).length).sum/\Bl (l.map (Hy a q hd ty first))=(l.map fun x=>(AG hd first x).length).sum
 | [],_=>⟨Nat.zero_le _,rfl⟩
 | x::r,h=>by
  obtain⟨i1,i2⟩:=Q1 (a:=a) (q:=q) (ty:=ty) r fun x hx=>h x (.tail _ hx)
  have h1:=QW (a:=a) (q:=q) (ty:=ty) _ (h x (.head _))
  have h1:Bv (Hy a q hd ty first x)<=_:=h1
  have h2:(Hy a q hd ty first x).length=(AG hd first x).length:=by unfold Hy;rw[List.length_map]
  simp only[List.map_cons,DR,Bl,List.sum_cons]
  omega
theorem U7:∀l m:List (List B8),Bl (l++m)=Bl l+Bl m
 | [],m=>by simp[Bl]
 | x::r,m=>by rw[List.cons_append,Bl,Bl,U7 r m];omega
theorem ZG {a q:Int} {hd ty:Bool} {v:Vl} (hv:AZ v) (hs:En hd v) {T C H N:Nat} (hT:(v.list.map fun x=>txs (AG hd (v.list.headD vlZ) x)).sum<=T) (hC:(v.list.map fun x=>(AG hd (v.list.headD vlZ) x).length).sum<=C)
  (hH:hd=true->v.list≠ []->Bv ((v.list.headD vlZ).flds.map Fd.key)<=H/\(v.list.headD vlZ).flds.length<=N):
  (AX a (wrX a q hd ty v)).length<=2*T+203*C+v.list.length+2*H+3*N+1/\(wrX a q hd ty v).length+Bl (wrX a q hd ty v)<=v.list.length+C+1+N:=by
 obtain⟨h1,h2⟩:=Q1 (a:=a) (q:=q) (ty:=ty) (first:=v.list.headD vlZ) v.list fun x hx=>Iy hv hs hx
 have h3:=Hu a (F4 a q hd ty v)
 have h4:(AX a (HH a q hd v)).length<=2*H+3*N+1/\(HH a q hd v).length+Bl (HH a q hd v)<=1+N:=by
  unfold HH
  split
  ·rename_i h
   obtain⟨g1,g2⟩:=hH h.1 h.2
   have h5:=Hu a [(v.list.headD vlZ).flds.map fun d=>AO a q d.key]
   have h6:=O4 a q (v.list.headD vlZ).flds
   simp only[DR,Bl,List.length_cons,List.length_nil,List.length_map]at h5⊢
   exact⟨by omega,by omega⟩
  ·exact⟨Nat.zero_le _,by show 0+0<=_;omega⟩
 unfold F4 at h3
 rw[List.length_map]at h3
 rw[ZH,H1,List.length_append,List.length_append,U7]
 unfold F4
 rw[List.length_map]
 exact⟨by omega,by omega⟩
theorem ZF {s:B8} {a q:Int} {hd ty:Bool} {rs:List Nd} (h:Eb s a q hd= .ok (.mk 1 [] [] rs [])) (hl:s.length<=1500):(AX a (wrX a q hd ty (AR (AL q hd ty (AB rs))))).length<=400000/\(wrX a q hd ty (AR (AL q hd ty (AB rs)))).length+Bl (wrX a q hd ty (AR (AL q hd ty (AB rs))))<=6000:=by
 obtain⟨W,ok,hK⟩:=Sp h
 obtain⟨rs',hn,_,_,_,_,_,hr,_⟩:=Bn h
 cases hn
 obtain⟨h1,h2,_,h4⟩:=O0 hr (Nat.zero_le _)
 have h1:DR (AB rs)+0<=s.length:=h1
 have h2:Bl (AB rs)+0<=s.length+1:=h2
 have h4:rs.length+0<=s.length:=h4
 have htx:∀r:List B8,txs ((Be q ty r).map AS)<=Bv r:=by
  intro r
  unfold Be txs
  rw[List.map_map,List.map_map]
  induction r with
  | nil=>exact Nat.zero_le _
  | cons c r ih=>
   rw[List.map_cons,List.sum_cons,Bv]
   have g1:=Vi ty (Bm q c) (txt q c)
   have g2:=Sb q c
   rw[ZX]at g1
   show(CD ty (Bm q c) (txt q c)).text.length+_<=_
   have ih:(List.map (((fun y:Vl=>y.sc.text.length)∘AS)∘fun c=>CD ty (Bm q c) (txt q c)) r).sum<=Bv r:=ih
   omega
 have key:∀(first:Vl) (t:List (List B8)) (f:List B8->Vl),(∀r,r∈t->AG hd first (f r)=(Be q ty r).map AS)->((t.map f).map fun x=>txs (AG hd first x)).sum<=DR t/\((t.map f).map fun x=>(AG hd first x).length).sum=Bl t:=by
  intro first t f
  induction t with
  | nil=>intro _;exact⟨Nat.zero_le _,rfl⟩
  | cons r t ih=>
   intro hf
   obtain⟨i1,i2⟩:=ih fun r hr=>hf r (.tail _ hr)
   have g1:=htx r
   rw[List.map_cons,List.map_cons,List.map_cons,List.sum_cons,List.sum_cons,DR,Bl,hf r (.head _),List.length_map,Cj,i2]
   exact⟨by omega,by omega⟩
 have hcells:∀x,x∈AL q hd ty (AB rs)->∃r,r∈AB rs/\AG hd ((AL q hd ty (AB rs)).headD vlZ) x=(Be q ty r).map AS:=ok.cells
 have hTC:((AL q hd ty (AB rs)).map fun x=>txs (AG hd ((AL q hd ty (AB rs)).headD vlZ) x)).sum<=DR (AB rs)/\((AL q hd ty (AB rs)).map fun x=>(AG hd ((AL q hd ty (AB rs)).headD vlZ) x).length).sum<=Bl (AB rs):=by
  generalize hF:(AL q hd ty (AB rs)).headD vlZ=F at hcells⊢
  cases hd with
  | false=>
   rw[EM]at hcells⊢
   obtain⟨k1,k2⟩:=key F (AB rs) (fun r=>AR ((Be q ty r).map AS)) fun r hr=>by unfold AG;rw[if_neg (by decide)];rfl
   exact⟨k1,Nat.le_of_eq k2⟩
  | true=>
   cases hraw:AB rs with
   | nil=>exact⟨Nat.zero_le _,Nat.zero_le _⟩
   | cons h0 t=>
    rw[hraw]at hcells hF ok
    have e:AL q true ty (h0::t)=t.map fun r=>Jl (h0.map (txt q)) (Be q ty r):=rfl
    rw[e]
    have hrow:∀r,r∈t->AG true F (Jl (h0.map (txt q)) (Be q ty r))=(Be q ty r).map AS:=by
     intro r hr
     have hx:Jl (h0.map (txt q)) (Be q ty r)∈AL q true ty (h0::t):=by rw[e];exact List.mem_map.2 ⟨r,hr,rfl⟩
     have hk2:=ok.keys2 _ hx
     rw[hF]at hk2
     obtain⟨g1,_,_⟩:=ok.fld (ty:=ty) rfl hr
     exact ok.cellsT rfl hr (by rw[<-hk2];exact g1)
    obtain⟨k1,k2⟩:=key F t (fun r=>Jl (h0.map (txt q)) (Be q ty r)) hrow
    rw[k2,DR,Bl]
    exact⟨by omega,by omega⟩
 have hlen:=Tz q hd ty (AB rs)
 have hrl:(AB rs).length=rs.length:=by unfold AB;rw[List.length_map]
 have hvl:(AL q hd ty (AB rs)).length<=1500:=by rw[hlen];split<;>omega
 have h5:=ZG (a:=a) (q:=q) (hd:=hd) (ty:=ty) (v:=AR (AL q hd ty (AB rs))) (T:=1500) (C:=1501) (H:=1500) (N:=1501) (QR ok) ok.shape (by
  show((AL q hd ty (AB rs)).map fun x=>txs (AG hd ((AL q hd ty (AB rs)).headD vlZ) x)).sum<=_
  omega) (by
  show((AL q hd ty (AB rs)).map fun x=>(AG hd ((AL q hd ty (AB rs)).headD vlZ) x).length).sum<=_
  omega) fun hh hne=>by
  subst hh
  replace hne:AL q true ty (AB rs)≠ []:=hne
  have hm:(AL q true ty (AB rs)).headD vlZ∈AL q true ty (AB rs):=by
   cases hl:AL q true ty (AB rs)with
   | nil=>exact absurd hl hne
   | cons x r=>exact .head _
  obtain⟨h0,t,r,hraw,hr0,_,hk⟩:=ok.keys _ hm
  show Bv (((AL q true ty (AB rs)).headD vlZ).flds.map Fd.key)<=_/\((AL q true ty (AB rs)).headD vlZ).flds.length<=_
  have hl2:=congrArg List.length hk
  rw[List.length_map,List.length_map]at hl2
  have hsum:∀r:List B8,Bv (r.map (txt q))<=Bv r:=by
   intro r
   induction r with
   | nil=>exact Nat.zero_le _
   | cons c r ih=>
    have:=Sb q c
    rw[List.map_cons,Bv,Bv];omega
  have g1:=hsum h0
  rw[hraw]at h1 h2
  simp only[DR,Bl]at h1 h2
  rw[hk,hl2]
  exact⟨by omega,by omega⟩
 have h6:(AR (AL q hd ty (AB rs))).list.length<=1500:=hvl
 omega
end
section
mutual
theorem WI:∀v:Vl,NP v=lvV v
 | .mk s l f=>by unfold NP lvV;rw[XP l,XQ f]
theorem XP:∀l:List Vl,DZ l=NM l
 | []=>rfl
 | v::r=>by unfold DZ NM;rw[WI v,XP r]
theorem depd_lv:∀d:Fd,Zh d=lvD d
 | .mk k v=>by unfold Zh lvD;exact WI v
theorem XQ:∀l:List Fd,LQ l=NN l
 | []=>rfl
 | d::r=>by unfold LQ NN;rw[depd_lv d,XQ r]
end
theorem Yo {l m:List Vl} (h:AR l=AR m):l=m:=by
 unfold AR at h
 exact(Vl.mk.inj h).2.1
section
variable {a q:Int} {hd ty:Bool} {st:St}
theorem Y7 {s:B8} {l0 l1 l2 l3 l4:Int} (hl:s.length<=2000000) {rs:List Nd} (hP:A3 ⟨s,a,q,l0,l1⟩ hd l2 l3 l4= .ok (.mk 1 [] [] rs [])) (hcnt:1+rs.length+3*Bl (AB rs)<=524288) {K:Int->Bool->Bool->B8->Int->Int->Int->Int->Int->B8->TV->TV->TV->Int->Int->St->Prop}
  (hk2:∀u xs st',Ak st st'->Rd 13 u (AL q hd ty (AB rs)).length xs->VsR St.zero (AL q hd ty (AB rs)) xs->K 6 false false [] 0 0 0 0 0 [] .nilSlice u .nilSlice 0 0 st'):
  CallT PR CM [.str s,.agg [.int .u8 a,.int .u8 q,.bool hd,.bool ty],.agg [.int .i64 l0,.int .i64 l1,.int .i64 l2,.int .i64 l3,.int .i64 l4]] [.agg Vt,.one (.int .i64),.one (.int .i64)] st K:=by
 refine K2 s a q hd ty l0 l1 l2 l3 l4 st K (Mw (x:=⟨s,a,q,l0,l1⟩) (by show s.length<=_;omega) fun k kv st1 e1 hn=>?_)
 obtain⟨_,_,_,_,_,h5,ho⟩:=hn.five
 cases h5
 have hcn:Ff (pN (A3 ⟨s,a,q,l0,l1⟩ hd l2 l3 l4))<=1000000000000000:=V7 (by show s.length<=_;omega)
 rw[hP]at hn hcn⊢
 have hU:=Nb hP
 obtain⟨htx,_,hou⟩:=Y0 hcnt hU
 have hnl:=DF (.mk 1 [] [] rs [])
 rw[htx]at hnl
 have hl':s.length<=2000000:=hl
 refine Ab (EJ ho) (Aa (fun g=>absurd rfl g) fun _=>Rt hn (by show Ep (.mk 1 [] [] rs [])<=_;rw[<-hnl];show s.length<=_;omega) hcn (fun ho=>?_) (fun h=>absurd hou h) fun _ u xs st2 e2 hu hx=>?_)
 ·obtain⟨rs',W,he,hT⟩:=Q7 ho
  have he:Nd.mk 1 [] [] rs []= .mk 1 [] [] rs' []:=he
  cases he
  exact⟨W,hT⟩
 ·exact Ab (Dp rfl hu.one rfl) (Ab (Dp rfl hu.one rfl) (hk2 u xs st2 (e1.trans e2) hu hx))
end
theorem lagainG_ok {s:B8} {a q:Int} {hd ty:Bool} {st:St} {K:Bool->St->Prop} (hk:∀st',K true st'):
  CallT PR fn_datakitlaw28_GridAgain [.str s,.agg [.int .u8 a,.int .u8 q,.bool hd,.bool ty]] [.one .bool] st K:=by
 refine Gq s a q hd ty st K (Aa (fun _=>MK fun _ _=>hk _) fun g=>Rn ?_)
 have hs:s.length<=1500:=by omega
 refine Pv (s:=s) (by omega) (fun p st1 e1 hp hne=>?_) fun rs u xs st1 e1 hp hu hx=>?_
 ·exact Ab (Dp rfl rfl rfl) (Aa (fun _=>MK fun _ _=>hk _) fun g=>absurd hne g)
 have hU:Eb s a q hd= .ok (.mk 1 [] [] rs []):=hp
 obtain⟨rs',hn,hdo,_⟩:=Bn hU
 cases hn
 have hdo:dOk a q=true:=hdo
 have d:=UV hdo
 obtain⟨W,ok,hK⟩:=Sp hU
 have hck:=V0 (ty:=ty) hU
 have hv:=Jx hck
 have hsh:=ok.shape (ty:=ty)
 have hco:=ok.cellsOk (ty:=ty)
 have hab:=Vr hdo hck hsh hco
 obtain⟨w1,w2⟩:=ZF (ty:=ty) hU hs
 have hsame:=wr_same d hv hsh hco (fun e=>by subst e;exact ok.keys2)
 have hz:=read_sz (ty:=ty) hU hs
 have hcnt:=Xi (ty:=ty) ok hK
 have hcost:=U4 hU
 have hlv:=ZL (ty:=ty) ok
 have hcl:=IV (ok.cnt (ty:=ty))
 have hvc:(AR (AL q hd ty (AB rs))).cnt=1+A8 (AL q hd ty (AB rs)):=by unfold AR Vl.cnt;simp[Cs]
 have htw:M0 a q hd ty (AR (AL q hd ty (AB rs)))=AX a (wrX a q hd ty (AR (AL q hd ty (AB rs)))):=by unfold M0;rw[if_pos hab]
 have hwe:GS a q hd ty (AR (AL q hd ty (AB rs)))=0:=by unfold GS;rw[if_pos hab,htw,if_neg (by omega)]
 have hwt:LW a q hd ty (AR (AL q hd ty (AB rs)))=AX a (wrX a q hd ty (AR (AL q hd ty (AB rs)))):=by unfold LW;rw[if_pos hwe,htw]
 obtain⟨rs2,hp2,hraw2⟩:=wr_read hdo hv hsh hco (by omega) (by omega)
 have hvx:=NT hu hx
 refine Ab (Dp rfl hu.one rfl) (Aa (fun h=>absurd rfl h) fun _=>Y6 (v:=AR (AL q hd ty (AB rs))) (by omega) hvx fun st2 e2=>?_)
 rw[hwe,hwt]
 generalize AX a (wrX a q hd ty (AR (AL q hd ty (AB rs))))=t at*
 have hcnt2:1+rs2.length+3*Bl (AB rs2)<=524288:=by
  have:rs2.length=(AB rs2).length:=by unfold AB;rw[List.length_map]
  rw[this,hraw2];omega
 refine Y7 (s:=t) (by omega) hp2 hcnt2 fun u2 xs2 st3 e3 hu2 hx2=>?_
 have hval2:AL q hd ty (AB rs2)=AL q hd ty (AB rs):=by
  rw[hraw2]
  exact Yo (by rw[<-valX_eq,hsame])
 rw[hval2]at hu2 hx2
 refine Ab (Dp rfl hu2.one rfl) (Depth_ok (v:=AR (AL q hd ty (AB rs))) (by omega) (JX hck) hvx (G0 _) fun st4 e4=>Size_ok (v:=AR (AL q hd ty (AB rs))) (by omega) (JX hck) hvx (G0 _) fun st5 e5=>?_)
 rw[WI,hlv]
 have hpos:0<=BY hd rs:=SZ hd rs
 have hc0:AL q hd ty (AB rs)=[]->BY hd rs=0:=fun e=>by
  rw[e]at hvc hcnt
  simp only[A8]at hvc
  omega
 have hmax1:(1:Int)<=max 1 (s.length:Int):=Int.le_max_left _ _
 have hmax2:(s.length:Int)<=max 1 (s.length:Int):=Int.le_max_right _ _
 have hmax3:max 1 (s.length:Int)<=1500:=Int.max_le.2 ⟨by decide,by omega⟩
 generalize hD:(if AL q hd ty (AB rs)=[]then 1 else 3)=D
 have hD3:(D=1∨D=3)/\(BY hd rs=0∨3<=(D:Int)):=by
  rw[<-hD]
  split
  ·rename_i e;exact⟨.inl rfl,.inl (hc0 e)⟩
  ·exact⟨.inr rfl,.inr (by decide)⟩
 have hre:=(relimit hU (D:Int) ((AR (AL q hd ty (AB rs))).cnt:Int) (max 1 (s.length:Int)) (by
  unfold lOk
  rw[decide_eq_true_eq]
  omega) hmax2).1 hD3.2 (by omega)
 refine Pv (s:=s) (by omega) (fun p st6 e6 hp6 _=>?_) fun rs6 u6 xs6 st6 e6 hp6 hu6 hx6=>?_
 ·rw[hre]at hp6;cases hp6
 rw[hre]at hp6
 cases hp6
 refine Ab (Dp rfl hu6.one rfl) (Aa (fun _=>Aa (fun _=>?_) fun g=>absurd rfl g) fun g=>absurd rfl g)
 refine Uq (v:=AR (AL q hd ty (AB rs))) (w:=AR (AL q hd ty (AB rs))) (by omega) (by omega) (JX hck) hvx (NT hu2 hx2) (G0 _) fun r st7 e7 hr=>?_
 rw[hr.2 rfl]
 refine Aq (fun _=>Aa (fun _=>?_) fun g=>absurd rfl g) fun g=>by cases g
 refine Uq (v:=AR (AL q hd ty (AB rs))) (w:=AR (AL q hd ty (AB rs))) (by omega) (by omega) (JX hck) hvx (NT hu6 hx6) (G0 _) fun r st8 e8 hr=>?_
 rw[hr.2 rfl]
 exact Aq (fun _=>MK fun _ _=>hk _) fun g=>by cases g
end
end Go.TVF
