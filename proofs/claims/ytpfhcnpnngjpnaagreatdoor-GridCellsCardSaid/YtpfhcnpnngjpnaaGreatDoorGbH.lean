/- What the laws below rest on: a framework for Go programs, and contracts of the functions that they reach. -/
import Derived.Test.YtpfhcnpnngjpnaaGreatDoorGbG
set_option maxRecDepth 20000
set_option linter.unusedVariables false
set_option linter.unusedSimpArgs false
namespace Go.TVF
open Go.IntKind(i64 u8)
open Go Go.Proofs
section
noncomputable def shE (a q:Int) (ty:Bool) (v:Vl):Int:=if dOk a q=false then 1 else if Gc v≠0 then(Gc v:Int)else DE ty v.sc.kind
noncomputable def shT (a q:Int) (ty:Bool) (v:Vl):B8:=if shE a q ty v=0 then FV a q ty v.sc else []
theorem Pz {a q:Int} {s:B8} (hd:dOk a q=true) (hv:Bo s=s.length):Jn a q s= .ok (CX a q s):=by
 unfold Jn
 rw[if_neg (by rw[hd];decide),if_pos hv]
section
variable {a q:Int} {hd ty:Bool} {st:St}
theorem Xm {s:Sc} {ub ul uf:TV} (hdo:dOk a q=true) (hk0:0<=s.kind) (hk7:s.kind<=7) (hdec:s.kind=2->D6 s.neg s.dg s.ex) (htm:s.kind=3->Cv s.tk s.td s.tn s.tz) (hu:s.kind=4->Bo s.text=s.text.length) (hl:s.text.length<=1000000)
  {K:B8->Int->St->Prop} (hk:∀st',Ap st st'->K (if DE ty s.kind=0 then FV a q ty s else []) (DE ty s.kind) st'):
  CallT PR HY [.agg (A6 s ub ul uf),.agg [.int .u8 a,.int .u8 q,.bool hd,.bool ty]] [.one .str,.one (.int .i64)] st K:=by
 have e0:=Ap.refl st
 have d:=XC hdo
 have ok:DE ty s.kind=0->∀st',Ap st st'->K (FV a q ty s) 0 st':=fun he st' e=>by have:=hk st' e;rwa [if_pos he,he]at this
 have bad:DE ty s.kind=27->K [] 27 st:=fun he=>by have:=hk st e0;rwa [he,if_neg (by decide)]at this
 refine Ql _ _ _ _ _ _ _ _ _ _ _ _ _ a q hd ty st K (Al (fun g=>Aa (fun g1=>bad ?_) fun g1=>?sw1) fun g=>?sw2)
 ·have hty:ty=false:=by simpa using g
  unfold DE;rw[if_pos (.inl ⟨hty,g1⟩)]
 case sw1 | sw2=>
  have hE:s.kind<=4->DE ty s.kind=0:=fun h4=>by
   unfold DE
   rw[if_neg]
   rintro(⟨h,h'⟩ | h)
   ·first
     | exact g1 h'
     | (rw[h]at g;cases g)
   ·omega
  have hP:∀t,s.kind≠4->plT s=t->FV a q ty s=t:=fun t h4 h=>by unfold FV;rw[if_neg h4];exact h
  refine Aa (fun k0=>?_) fun k0=>Aa (fun k1=>Al (fun hb=>?_) fun hb=>?_) fun k1=>Aa (fun k2=>XF (hdec k2) fun st1 e1=>?_) fun k2=>Aa (fun k3=>W3 (htm k3) fun st1 e1=>?_) fun k3=>Aa (fun k4=>?_) fun k4=>bad ?_
  ·have:=ok (hE (by omega)) st e0
   rwa [hP [] (by omega) (by unfold plT;rw[if_neg (by omega),if_neg (by omega),if_neg (by omega)])]at this
  ·have:=ok (hE (by omega)) st e0
   rwa [hP Jh (by omega) (by unfold plT;rw[if_pos k1,if_pos hb])]at this
  ·have:=ok (hE (by omega)) st e0
   rwa [hP HL (by omega) (by unfold plT;rw[if_pos k1,if_neg (by rw[hb];decide)])]at this
  ·have:=ok (hE (by omega)) st1 e1
   rwa [hP _ (by omega) (by unfold plT;rw[if_neg (by omega),if_pos k2])]at this
  ·have:=ok (hE (by omega)) st1 e1
   rwa [hP _ (by omega) (by unfold plT;rw[if_neg (by omega),if_neg (by omega),if_pos k3])]at this
  ·have hu:=hu k4
   have ok:=ok (hE (by omega))
   have hS:FV a q ty s=if CX a q s.text=s.text/\(Ft ty false s.text).kind≠4 then Ma q s.text else CX a q s.text:=by unfold FV;rw[if_pos k4]
   refine VI (by omega) ?_
   rw[Pz hdo hu]
   refine Aa (fun h=>absurd rfl h) fun _=>Aa (fun h1=>?_) fun h1=>?_
   ·have:=ok st e0
    rwa [hS,if_neg fun h=>h1 h.1]at this
   ·have h1:CX a q s.text=s.text:=Decidable.not_not.1 h1
    show CallT PR BD [.str (CX a q s.text),.bool false,.agg [.int .u8 a,.int .u8 q,.bool hd,.bool ty]] [.agg Q9] st _
    rw[h1]
    refine Ju hl fun st1 e1=>Aa (fun h2=>?_) fun h2=>?_
    ·have:=ok st1 e1
     rwa [hS,if_neg fun h=>h.2 h2,h1]at this
    ·have hq1:=d.q1
     have hqn:=Gs (q:=q) d.q0 (by omega)
     refine Ad (JJ st1 (UInt8.ofNat q.toNat) hqn) (Aj ⟨by simp,Kg (s:=s.text) (by simp) (by omega) ?_⟩)
     have hdl:=Ly (UInt8.ofNat q.toNat) s.text
     unfold dbl at hdl
     refine⟨by simp only[List.length_cons,List.length_nil];omega,by simp only[List.length_append,List.length_cons,List.length_nil];omega,?_⟩
     have:=ok st1 e1
     rwa [hS,if_pos ⟨h1,h2⟩]at this
  ·unfold DE;rw[if_pos (by omega)]
theorem Sl {v:Vl} (hN:v.sz<=1000000) {cs:List TV} {K:B8->Int->St->Prop} (h:VlR St.zero v cs) (hk:∀st',Ap st st'->K (shT a q ty v) (shE a q ty v) st'):
  CallT PR FE [.agg cs,.agg [.int .u8 a,.int .u8 q,.bool hd,.bool ty]] [.one .str,.one (.int .i64)] st K:=by
 obtain⟨s,l,f⟩:=v
 obtain⟨ub,ul,uf,xl,xf,rfl,_⟩:=h.cells
 unfold shT at hk
 refine Qm _ _ _ _ _ _ _ _ _ _ _ _ _ a q hd ty st K (Ms (Al (fun g=>?_) fun g=>?_))
 ·have he:shE a q ty (.mk s l f)=1:=by unfold shE;rw[if_pos (by simpa using g)]
  have:=hk st (Ap.refl _)
  rwa [he,if_neg (by decide)]at this
 have g:dOk a q=true:=by simpa using g
 refine XX (v:= .mk s l f) (by omega) h (HS _) fun st1 e1=>Aa (fun g1=>?_) fun g1=>?_
 ·have he:shE a q ty (.mk s l f)=(Gc (.mk s l f):Int):=by unfold shE;rw[if_neg (by rw[g];decide),if_pos (by omega)]
  have:=hk st1 e1
  rwa [he,if_neg (by omega)]at this
 have g1:Gc (.mk s l f)=0:=by omega
 have he:shE a q ty (.mk s l f)=DE ty s.kind:=by unfold shE;rw[if_neg (by rw[g];decide),if_neg (by omega)];rfl
 rw[he]at hk
 have ho:=(MU g1).own.1
 have hsz:=szs s l f
 refine Xm g ho.own.k0 ho.own.k7 (fun _=>ho.dec) ho.time (fun _=>ho.text) (by omega) fun st2 e2=>?_
 exact hk st2 (e1.trans e2)
theorem VW {v:Vl} (hN:v.sz<=1000000) {cs:List TV} {K:B8->Int->St->Prop} (h:VlR St.zero v cs) (hk:∀st',Ap st st'->K (shT a q ty v) (shE a q ty v) st'):
  CallT PR Df [.agg cs,.agg [.int .u8 a,.int .u8 q,.bool hd,.bool ty]] [.one .str,.one (.int .i64)] st K:=by
 obtain⟨s,l,f⟩:=v
 obtain⟨ub,ul,uf,xl,xf,rfl,_⟩:=h.cells
 unfold shT at hk
 refine IU _ _ _ _ _ _ _ _ _ _ _ _ _ a q hd ty st K (N8 (Al (fun g=>?_) fun g=>?_))
 ·have he:shE a q ty (.mk s l f)=1:=by unfold shE;rw[if_pos (by simpa using g)]
  have:=hk st (Ap.refl _)
  rwa [he,if_neg (by decide)]at this
 have g:dOk a q=true:=by simpa using g
 refine VG (v:= .mk s l f) (by omega) h (HS _) fun st1 e1=>Aa (fun g1=>?_) fun g1=>?_
 ·have he:shE a q ty (.mk s l f)=(Gc (.mk s l f):Int):=by unfold shE;rw[if_neg (by rw[g];decide),if_pos (by omega)]
  have:=hk st1 e1
  rwa [he,if_neg (by omega)]at this
 have g1:Gc (.mk s l f)=0:=by omega
 have he:shE a q ty (.mk s l f)=DE ty s.kind:=by unfold shE;rw[if_neg (by rw[g];decide),if_neg (by omega)];rfl
 rw[he]at hk
 have ho:=(MU g1).own.1
 have hsz:=szs s l f
 have d:=XC g
 have hk0:=ho.own.k0
 have hk7:=ho.own.k7
 have hk:∀st',Ap st1 st'->K (if DE ty s.kind=0 then FV a q ty s else []) (DE ty s.kind) st':=fun st' e=>hk st' (e1.trans e)
 have e0:=Ap.refl st1
 have ok:DE ty s.kind=0->∀st',Ap st1 st'->K (FV a q ty s) 0 st':=fun he st' e=>by have:=hk st' e;rwa [if_pos he,he]at this
 have bad:DE ty s.kind=27->K [] 27 st1:=fun he=>by have:=hk st1 e0;rwa [he,if_neg (by decide)]at this
 refine Aa (fun k6=>bad ?_) fun k6=>Aa (fun k7=>bad ?_) fun k7=>Aa (fun k5=>bad ?_) fun k5=>Al (fun g=>Aa (fun g1=>bad ?_) fun g1=>?sw1) fun g=>?sw2
 ·have k6:s.kind=6:=k6
  unfold DE;rw[if_pos (by omega)]
 ·have k7:s.kind=7:=k7
  unfold DE;rw[if_pos (by omega)]
 ·have k5:s.kind=5:=k5
  unfold DE;rw[if_pos (by omega)]
 ·have hty:ty=false:=by simpa using g
  unfold DE;rw[if_pos (.inl ⟨hty,g1⟩)]
 case sw1 | sw2=>
  have hE:s.kind<=4->DE ty s.kind=0:=fun h4=>by
   unfold DE
   rw[if_neg]
   rintro(⟨h,h'⟩ | h)
   ·first
     | exact g1 h'
     | (rw[h]at g;cases g)
   ·omega
  have hP:∀t,s.kind≠4->plT s=t->FV a q ty s=t:=fun t h4 h=>by unfold FV;rw[if_neg h4];exact h
  refine Aa (fun k1=>Al (fun hb=>?_) fun hb=>?_) fun k1=>Aa (fun k2=>VC ho.dec fun st2 e2=>?_) fun k2=>Aa (fun k3=>Vy (ho.time k3) fun st2 e2=>?_) fun k3=>Aa (fun k4=>?_) fun k4=>?_
  ·have:=ok (hE (by omega)) st1 e0
   rwa [hP Jh (by omega) (by unfold plT;rw[if_pos k1,if_pos hb])]at this
  ·have:=ok (hE (by omega)) st1 e0
   rwa [hP HL (by omega) (by unfold plT;rw[if_pos k1,if_neg (by rw[hb];decide)])]at this
  ·have:=ok (hE (by omega)) st2 e2
   rwa [hP _ (by omega) (by unfold plT;rw[if_neg (by omega),if_pos k2])]at this
  ·have:=ok (hE (by omega)) st2 e2
   rwa [hP _ (by omega) (by unfold plT;rw[if_neg (by omega),if_neg (by omega),if_pos k3])]at this
  ·have hu:Bo s.text=s.text.length:=ho.text
   have ok:=ok (hE (by omega))
   have hS:FV a q ty s=if CX a q s.text=s.text/\(Ft ty false s.text).kind≠4 then Ma q s.text else CX a q s.text:=by unfold FV;rw[if_pos k4]
   refine Tb (by omega) fun st2 e2=>?_
   rw[Pz (by assumption) hu]
   refine Aa (fun h1=>?_) fun h1=>?_
   ·have h1:CX a q s.text=s.text:=h1
    show CallT PR AZ [.str (CX a q s.text),.bool false,.agg [.int .u8 a,.int .u8 q,.bool hd,.bool ty]] [.agg Q9] st2 _
    rw[h1]
    refine Mp (by omega) (Aa (fun h2=>?_) fun h2=>?_)
    ·have hq1:=d.q1
     have hqn:=Gs (q:=q) d.q0 (by omega)
     refine MO hqn (by omega) ?_
     have:=ok st2 e2
     rwa [hS,if_pos ⟨h1,h2⟩]at this
    ·have:=ok st2 e2
     rwa [hS,if_neg fun h=>h2 h.2,h1]at this
   ·have:=ok st2 e2
    rwa [hS,if_neg fun h=>h1 h.1]at this
  ·have:=ok (hE (by omega)) st1 e0
   rwa [hP [] (by omega) (by unfold plT;rw[if_neg (by omega),if_neg (by omega),if_neg (by omega)])]at this
end
end
section
structure Uq (a q:Int) (rs:List Nd) (W:Nat):Prop where
 form:∀r,r∈rs->RecF a q r
 wid:∀r,r∈rs->(Av r).length=W
 len:∀r,r∈rs->∀k,k∈Av r->(txt q (AR k)).length<=65536/\(AR k).length<=2000000
 cnt:rs.length<=2000000
 wlen:W<=10000000
def Kz (q:Int) (hd ty:Bool):List (List B8)->List Vl
 | []=>[]
 | h::t=>if hd then t.map fun r=>recV (h.map (txt q)) (GL q ty r)else(h::t).map fun r=>Po ((GL q ty r).map Ce)
theorem Ky (q:Int) (ty:Bool) (l:List (List B8)):Kz q false ty l=l.map fun r=>Po ((GL q ty r).map Ce):=by
 cases l<;>rfl
theorem NP {q:Int} {ty:Bool} {l:List (List B8)} {j:Nat} {row:List B8} (h:l[j]? =some row):Kz q false ty (l.take (j+1))=Kz q false ty (l.take j)++[Po ((GL q ty row).map Ce)]:=by
 rw[Ky,Ky,List.take_add_one,h,List.map_append];rfl
theorem Rs (q:Int) (ty:Bool) (l:List (List B8)):Kz q true ty (l.take 1)=[]:=by
 cases l<;>rfl
theorem NO {q:Int} {ty:Bool} {l:List (List B8)} {j:Nat} {row h0:List B8} (h:l[j]? =some row) (hj:0<j) (h1:l[0]? =some h0):Kz q true ty (l.take (j+1))=Kz q true ty (l.take j)++[recV (h0.map (txt q)) (GL q ty row)]:=by
 cases l with
 | nil=>cases h1
 | cons x t=>
  obtain⟨i,rfl⟩:∃i,j=i+1:=⟨j-1,by omega⟩
  simp only[List.getElem?_cons_zero,Option.some.injEq]at h1
  subst h1
  simp only[List.getElem?_cons_succ]at h
  show(t.take (i+1)).map _=(t.take i).map _++_
  rw[List.take_add_one,h,List.map_append];rfl
theorem Hs.ldA {α:Type} {f:α->TV} {v:TV} {rows:List (List α)} (h:Hs f v rows) {i:Nat} {row:List α} (hr:rows[i]? =some row):∃u,(∀st,Ac st [] (.t (ixT 1 v i)) 0=some u)/\Mz f u row:=by
 obtain⟨vs,h1,h2,h3⟩:=h
 have hlt:i<vs.length:=by rw[h2];exact(List.getElem?_eq_some_iff.1 hr).1
 have hu:=List.getElem?_eq_getElem hlt
 exact⟨vs[i],fun st=>Rd.ldx h1 st i 0 (by rw[Nat.mul_one,Nat.add_zero];exact hu),h3 i _ row hu hr⟩
theorem KW (s:Sc) (h:s.bytes=[]):VlR St.zero (Ce s) (A6 s .nilSlice .nilSlice .nilSlice):=vlLeaf St.zero s h
theorem vr_list {l:List Vl} {u:TV} {xs:List TV} (h:Rd 13 u l.length xs) (hv:VsR St.zero l xs):VlR St.zero (Po l) (A6 (scW 6) .nilSlice u .nilSlice):=by
 unfold Po VlR
 exact⟨_,_,_,xs,[],rfl,.of_rd (.inl ⟨rfl,rfl,rfl⟩),.of_rd h,hv,.of_rd (.inl ⟨rfl,rfl,rfl⟩),by unfold FsR;rfl⟩
theorem vr_map {f:List Fd} {u:TV} {xs:List TV} (h:Rd 14 u f.length xs) (hv:FsR St.zero f xs):VlR St.zero (Wl f) (A6 (scW 7) .nilSlice .nilSlice u):=by
 unfold Wl VlR
 exact⟨_,_,_,[],xs,rfl,.of_rd (.inl ⟨rfl,rfl,rfl⟩),.of_rd (.inl ⟨rfl,rfl,rfl⟩),by unfold VsR;rfl,.of_rd h,hv⟩
theorem RP {q:Int} {ty:Bool} {ks:List Nd} {m:Nat} {k:Nd} (h:ks[m]? =some k):(GL q ty (ks.map AR))[m]? =some (Ft ty (CT q (AR k)) (txt q (AR k))):=by
 unfold GL
 rw[List.getElem?_map,List.getElem?_map,h];rfl
theorem Lj (q:Int) (ty:Bool) (l:List B8):(GL q ty l).length=l.length:=by unfold GL;rw[List.length_map]
theorem Vo {q:Int} {ty:Bool} {ks:List Nd} {m:Nat} {k:Nd} (h:ks[m]? =some k):((GL q ty (ks.map AR)).take (m+1)).map Ce=((GL q ty (ks.map AR)).take m).map Ce++[Ce (Ft ty (CT q (AR k)) (txt q (AR k)))]:=by
 rw[List.take_add_one,RP h,List.map_append];rfl
def SQ (names:List B8) (row:List Sc):List Fd:=List.zipWith (fun k s=>Fd.mk k (Ce s)) names row
theorem Vp {names:List B8} {row:List Sc} {m:Nat} {nm:B8} {s:Sc} (h1:names[m]? =some nm) (h2:row[m]? =some s):SQ (names.take (m+1)) (row.take (m+1))=SQ (names.take m) (row.take m)++[Fd.mk nm (Ce s)]:=by
 unfold SQ
 rw[<-List.take_zipWith,<-List.take_zipWith,List.take_add_one]
 congr 1
 rw[List.getElem?_zipWith,h1,h2];rfl
section
variable {a q:Int} {hd ty:Bool} {st:St}
theorem VV {n:Nd} {cs:List TV} (hc:NdC n cs) (hl:Eu n<=100000000000000) (hcn:Fe n<=1000000000000000) (ht:Jo n a q hd->∃W,Uq a q (L8 n) W) {K:Int->Bool->Bool->B8->Int->Int->Int->Int->Int->B8->TV->TV->TV->Int->St->Prop}
  (hk1:¬Jo n a q hd->∀st',Ap st st'->K 0 false false [] 0 0 0 0 0 [] .nilSlice .nilSlice .nilSlice 1 st')
  (hk2:Jo n a q hd->∀u xs st',Ap st st'->Rd 13 u (Kz q hd ty (Fx (L8 n))).length xs->VsR St.zero (Kz q hd ty (Fx (L8 n))) xs->K 6 false false [] 0 0 0 0 0 [] .nilSlice u .nilSlice 0 st'):
  CallT PR GV [.agg cs,.agg [.int .u8 a,.int .u8 q,.bool hd,.bool ty]] [.agg Q9,.one (.int .i64)] st K:=by
 have w1:∀k:Nat,k<=100000000->i64.wrap ((k:Int)+1)=((k+1:Nat):Int):=fun k hk=>by rw[Af _ (by omega) (by omega)];omega
 have tn:∀k:Nat,Int.toNat (k:Int)=k:=fun k=>rfl
 obtain⟨kd,t0,t1,kv,tl,rfl,_⟩:=hc.five
 refine O1 kd t0 t1 kv tl a q hd ty st K (R0 hc hl hcn fun v1 st1 e1 g1=>?_)
 by_cases ho:Jo n a q hd
 case neg=>
  have he:Ki n a q hd=1:=by unfold Ki;rw[if_neg ho]
  rw[he]
  exact Aa (fun _=>hk1 ho st1 e1) fun h=>absurd (by decide) h
 have he:Ki n a q hd=0:=by unfold Ki;rw[if_pos ho]
 have hg:∀{α:Type} (g:B8->α),GA g n a q hd=Er g (L8 n):=fun g=>by unfold GA;rw[if_pos ho]
 rw[he]
 refine Aa (fun h=>absurd rfl h) fun _=>Tk hc hl hcn fun v2 st2 e2 g2=>?_
 rw[hg]at g1 g2
 obtain⟨W,hT⟩:=ht ho
 clear ht
 have hk2:=hk2 ho
 generalize hrs:L8 n=rs at*
 have e12:=e1.trans e2
 have hcnt:=hT.cnt
 have hwl:=hT.wlen
 obtain⟨vs1,hr1⟩:=g1.rd
 obtain⟨vs2,hr2⟩:=g2.rd
 have hL:∀{α:Type} (g:B8->α),(Er g rs).length=rs.length:=fun g=>by unfold Er;rw[List.length_map]
 rw[hL]at hr1 hr2
 have hget:∀{α:Type} (g:B8->α) {j:Nat} {r:Nd},rs[j]? =some r->(Er g rs)[j]? =some ((Av r).map fun k=>g (AR k)):=fun g j r h=>by unfold Er;rw[List.getElem?_map,h];rfl
 have hraw:∀{j:Nat} {r:Nd},rs[j]? =some r->(Fx rs)[j]? =some ((Av r).map AR):=fun {j r} h=>by unfold Fx;rw[List.getElem?_map,h];rfl
 have hrawl:(Fx rs).length=rs.length:=by unfold Fx;rw[List.length_map]
 refine Ab hr1.isSl ?_
 refine⟨fun zn zr zq zv zm c1 c2 b1 b2 kA boA ngA dgA exA tkA tdA tnA tzA txA u0A u1A u2A kB boB ngB dgB exB tkB tdB tnB tzB txB u0B u1B u2B st'=>v1=zr/\v2=zq/\v1=zv/\(rs.length:Int)=zm/\a=c1/\q=c2/\hd=b1/\ty=b2/\6=kB/\false=boB/\false=ngB/\[]=dgB/\0=exB/\0=tkB/\0=tdB/\0=tnB/\0=tzB/\[]=txB/\.nilSlice=u0B/\.nilSlice=u2B/\Ap st2 st'/\∃j:Nat,zn=(j:Int)/\j<=rs.length/\∃xs,Own st2.nt 13 st' u1B (Kz q hd ty ((Fx rs).take j)).length xs/\VsR St.zero (Kz q hd ty ((Fx rs).take j)) xs,
  fun n _ _ _ _ _ _ _ _ _ _ _ _ _ _ _ _ _ _ _ _ _ _ _ _ _ _ _ _ _ _ _ _ _ _ _=>(rs.length-n).toNat,⟨rfl,rfl,rfl,by rw[hr1.lenS],rfl,rfl,rfl,rfl,rfl,rfl,rfl,rfl,rfl,rfl,rfl,rfl,rfl,rfl,rfl,rfl,Ap.refl _,0,rfl,Nat.zero_le _,[],by rw[List.take_zero];exact Own.nil _ _ _,by rw[List.take_zero];exact VsR.nil _⟩,?_⟩
 rintro _ _ _ _ _ _ _ _ _ kA boA ngA dgA exA tkA tdA tnA tzA txA u0A u1A u2A _ _ _ _ _ _ _ _ _ _ _ vB _ st3 ⟨rfl,rfl,rfl,rfl,rfl,rfl,rfl,rfl,rfl,rfl,rfl,rfl,rfl,rfl,rfl,rfl,rfl,rfl,rfl,rfl,e3,j,rfl,hj,xs,hB,hBv⟩
 rw[tn]
 refine Aa (fun g=>?_) fun g=>?_
 case refine_2=>
  have hjl:(Fx rs).take j=Fx rs:=List.take_of_length_le (by omega)
  rw[hjl]at hB hBv
  refine Ab (D8 rfl hB.rd.one rfl) (hk2 _ xs _ (e12.trans e3) hB.rd hBv)
 have hjlt:j<rs.length:=by omega
 obtain⟨r,hjr⟩:∃r,rs[j]? =some r:=⟨_,List.getElem?_eq_getElem hjlt⟩
 have hmem:=List.mem_of_getElem? hjr
 have hwid:=hT.wid r hmem
 obtain⟨uj,hlj,rj⟩:=g1.ldA (hget (txt q) hjr)
 obtain⟨qj,hlq,rq⟩:=g2.ldA (hget (CT q) hjr)
 have hrjl:=Rd.lenS rj
 have hrjz:=Rd.lenZ rj
 have hrqz:=Rd.lenZ rq
 rw[List.length_map,hwid]at hrjl hrjz hrqz
 refine⟨⟨by omega,by rw[hr1.lenZ];omega⟩,Ad (hlj _) (Al (fun hh=>Ab (Rd.isSl rj) ?_) fun hh=>Aa (fun g0=>Ab (Rd.isSl rj) ?_) fun g0=>?_)⟩
 ·have hhd:hd=false:=by simpa using hh
  subst hhd
  refine⟨fun zn zr zq zi zv zm n5 v3 n6 c1 c2 b7 b8 kA boA ngA dgA exA tkA tdA tnA tzA txA u0A u1A u2A kB boB ngB dgB exB tkB tdB tnB tzB txB u0B u1B u2B kC boC ngC dgC exC tkC tdC tnC tzC txC u0C u1C u2C st'=>v1=zr/\v2=zq/\(j:Int)=zi/\v1=zv/\(rs.length:Int)=zm/\(j:Int)=n5/\uj=v3/\(W:Int)=n6/\a=c1/\q=c2/\false=b7/\ty=b8/\6=kB/\false=boB/\false=ngB/\[]=dgB/\0=exB/\0=tkB/\0=tdB/\0=tnB/\0=tzB/\[]=txB/\.nilSlice=u0B/\.nilSlice=u2B/\vB=u1B/\6=kC/\false=boC/\false=ngC/\[]=dgC/\0=exC/\0=tkC/\0=tdC/\0=tnC/\0=tzC/\[]=txC/\.nilSlice=u0C/\.nilSlice=u2C/\Ap st3 st'/\∃m':Nat,zn=(m':Int)/\m'<=W/\∃ys,Own st3.nt 13 st' u1C m' ys/\VsR St.zero (((GL q ty ((Av r).map AR)).take m').map Ce) ys,
   fun n _ _ _ _ _ _ _ _ _ _ _ _ _ _ _ _ _ _ _ _ _ _ _ _ _ _ _ _ _ _ _ _ _ _ _ _ _ _ _ _ _ _ _ _ _ _ _ _ _ _ _ _=>(W-n).toNat,⟨rfl,rfl,rfl,rfl,rfl,rfl,rfl,by rw[hrjl],rfl,rfl,rfl,rfl,rfl,rfl,rfl,rfl,rfl,rfl,rfl,rfl,rfl,rfl,rfl,rfl,rfl,rfl,rfl,rfl,rfl,rfl,rfl,rfl,rfl,rfl,rfl,rfl,rfl,Ap.refl _,0,rfl,Nat.zero_le _,[],Own.nil _ _ _,by rw[List.take_zero];exact VsR.nil _⟩,?_⟩
  rintro _ _ _ _ _ _ _ _ _ _ _ _ _ kA boA ngA dgA exA tkA tdA tnA tzA txA u0A u1A u2A _ _ _ _ _ _ _ _ _ _ _ _ _ _ _ _ _ _ _ _ _ _ _ _ vC _ st4 ⟨rfl,rfl,rfl,rfl,rfl,rfl,rfl,rfl,rfl,rfl,rfl,rfl,rfl,rfl,rfl,rfl,rfl,rfl,rfl,rfl,rfl,rfl,rfl,rfl,rfl,rfl,rfl,rfl,rfl,rfl,rfl,rfl,rfl,rfl,rfl,rfl,rfl,e4,m,rfl,hm,ys,hC,hCv⟩
  rw[tn,tn]
  refine Aa (fun g=>?_) fun g=>?_
  ·have hmlt:m<(Av r).length:=by omega
   obtain⟨k,hkm⟩:∃k,(Av r)[m]? =some k:=⟨_,List.getElem?_eq_getElem hmlt⟩
   have hkl:=hT.len r hmem k (List.mem_of_getElem? hkm)
   have l1:=Mz.ld rj st4 (i:=m) (a:=txt q (AR k)) (by rw[List.getElem?_map,hkm];rfl)
   have l2:=Mz.ld rq st4 (i:=m) (a:=CT q (AR k)) (by rw[List.getElem?_map,hkm];rfl)
   refine⟨⟨by omega,by rw[hrjz];omega⟩,Ad l1 (Aj ⟨⟨by omega,by rw[hr2.lenZ];omega⟩,Ad (hlq _) ⟨⟨by omega,by rw[hrqz];omega⟩,Ad l2 (Ao ?_)⟩⟩)⟩
   refine Ju (by omega) fun st5 e5=>⟨hlq _,Ab (D8 rfl rfl rfl) ?_⟩
   have hcb:=E8 ty (CT q (AR k)) (txt q (AR k))
   refine Et (e4.trans e5) rfl (hC.ext e5) (by omega) (fun h=>by cases h) fun v' st6 e6 _ ho'=>Ab (List.all_eq_true.2 fun x hx=>by rw[List.mem_singleton.1 hx];exact ho'.rd.one) ?_
   rw[w1 m (by omega)]
   refine⟨⟨rfl,rfl,rfl,rfl,rfl,rfl,rfl,rfl,rfl,rfl,rfl,rfl,rfl,rfl,rfl,rfl,rfl,rfl,rfl,rfl,rfl,rfl,rfl,rfl,rfl,rfl,rfl,rfl,rfl,rfl,rfl,rfl,rfl,rfl,rfl,rfl,rfl,e6,m+1,rfl,by omega,_,ho',?_⟩,by dsimp only;omega⟩
   rw[Vo hkm]
   exact hCv.snoc (KW _ hcb)
  ·have hmW:m=W:=by omega
   subst hmW
   have hfull:(GL q ty ((Av r).map AR)).take (Av r).length=GL q ty ((Av r).map AR):=List.take_of_length_le (by rw[Lj,List.length_map];omega)
   rw[<-hwid]at hC hCv
   rw[hfull]at hCv
   have hx:VlR St.zero (Po ((GL q ty ((Av r).map AR)).map Ce)) (A6 (scW 6) .nilSlice vC .nilSlice):=vr_list (by rw[List.length_map,Lj,List.length_map];exact hC.rd) hCv
   refine Ab (D8 rfl hC.rd.one rfl) ?_
   have hlen:(Kz q false ty ((Fx rs).take j)).length<=2000000:=by rw[Ky,List.length_map,List.length_take];omega
   refine Et (e3.trans e4) rfl (hB.ext e4) (by omega) (fun h=>by cases h) fun v' st6 e6 _ ho'=>Ab (List.all_eq_true.2 fun x hx=>by rw[List.mem_singleton.1 hx];exact ho'.rd.one) ?_
   rw[w1 j (by omega)]
   refine⟨⟨rfl,rfl,rfl,rfl,rfl,rfl,rfl,rfl,rfl,rfl,rfl,rfl,rfl,rfl,rfl,rfl,rfl,rfl,rfl,rfl,e6,j+1,rfl,by omega,xs++A6 (scW 6) .nilSlice vC .nilSlice,?_,?_⟩,by dsimp only;omega⟩
   ·rw[NP (hraw hjr),List.length_append];exact ho'
   ·rw[NP (hraw hjr)];exact hBv.snoc hx
 ·have hhd:hd=true:=by cases hd;exact absurd hh (by decide);rfl
  subst hhd
  obtain⟨r0,hj0⟩:∃r,rs[0]? =some r:=⟨_,List.getElem?_eq_getElem (by omega)⟩
  have hmem0:=List.mem_of_getElem? hj0
  have hwid0:=hT.wid r0 hmem0
  obtain⟨u0,hl0,rr0⟩:=g1.ldA (hget (txt q) hj0)
  have hr0z:=Rd.lenZ rr0
  rw[List.length_map,hwid0]at hr0z
  refine⟨fun zn zr zq zi zv zm n5 v3 n6 c1 c2 b7 b8 kA boA ngA dgA exA tkA tdA tnA tzA txA u0A u1A u2A kB boB ngB dgB exB tkB tdB tnB tzB txB u0B u1B u2B kC boC ngC dgC exC tkC tdC tnC tzC txC u0C u1C u2C st'=>v1=zr/\v2=zq/\(j:Int)=zi/\v1=zv/\(rs.length:Int)=zm/\(j:Int)=n5/\uj=v3/\(W:Int)=n6/\a=c1/\q=c2/\true=b7/\ty=b8/\6=kB/\false=boB/\false=ngB/\[]=dgB/\0=exB/\0=tkB/\0=tdB/\0=tnB/\0=tzB/\[]=txB/\.nilSlice=u0B/\.nilSlice=u2B/\vB=u1B/\7=kC/\false=boC/\false=ngC/\[]=dgC/\0=exC/\0=tkC/\0=tdC/\0=tnC/\0=tzC/\[]=txC/\.nilSlice=u0C/\.nilSlice=u1C/\Ap st3 st'/\∃m':Nat,zn=(m':Int)/\m'<=W/\∃ys,Own st3.nt 14 st' u2C m' ys/\FsR St.zero (SQ ((((Av r0).map AR).map (txt q)).take m') ((GL q ty ((Av r).map AR)).take m')) ys,
   fun n _ _ _ _ _ _ _ _ _ _ _ _ _ _ _ _ _ _ _ _ _ _ _ _ _ _ _ _ _ _ _ _ _ _ _ _ _ _ _ _ _ _ _ _ _ _ _ _ _ _ _ _=>(W-n).toNat,⟨rfl,rfl,rfl,rfl,rfl,rfl,rfl,by rw[hrjl],rfl,rfl,rfl,rfl,rfl,rfl,rfl,rfl,rfl,rfl,rfl,rfl,rfl,rfl,rfl,rfl,rfl,rfl,rfl,rfl,rfl,rfl,rfl,rfl,rfl,rfl,rfl,rfl,rfl,Ap.refl _,0,rfl,Nat.zero_le _,[],Own.nil _ _ _,by rw[List.take_zero,List.take_zero];exact FsR.nil _⟩,?_⟩
  rintro _ _ _ _ _ _ _ _ _ _ _ _ _ kA boA ngA dgA exA tkA tdA tnA tzA txA u0A u1A u2A _ _ _ _ _ _ _ _ _ _ _ _ _ _ _ _ _ _ _ _ _ _ _ _ _ vC st4 ⟨rfl,rfl,rfl,rfl,rfl,rfl,rfl,rfl,rfl,rfl,rfl,rfl,rfl,rfl,rfl,rfl,rfl,rfl,rfl,rfl,rfl,rfl,rfl,rfl,rfl,rfl,rfl,rfl,rfl,rfl,rfl,rfl,rfl,rfl,rfl,rfl,rfl,e4,m,rfl,hm,ys,hC,hCv⟩
  rw[tn,tn]
  refine Aa (fun g=>?_) fun g=>?_
  ·have hmlt:m<(Av r).length:=by omega
   have hmlt0:m<(Av r0).length:=by omega
   obtain⟨k,hkm⟩:∃k,(Av r)[m]? =some k:=⟨_,List.getElem?_eq_getElem hmlt⟩
   obtain⟨k0,hkm0⟩:∃k,(Av r0)[m]? =some k:=⟨_,List.getElem?_eq_getElem hmlt0⟩
   have hkl:=hT.len r hmem k (List.mem_of_getElem? hkm)
   have l1:=Mz.ld rj st4 (i:=m) (a:=txt q (AR k)) (by rw[List.getElem?_map,hkm];rfl)
   have l0:∀st,Ac st [] (.t (ixT 1 u0 m)) 0=some (.str (txt q (AR k0))):=fun st=>Mz.ld rr0 st (i:=m) (a:=txt q (AR k0)) (by rw[List.getElem?_map,hkm0];rfl)
   have l2:=Mz.ld rq st4 (i:=m) (a:=CT q (AR k)) (by rw[List.getElem?_map,hkm];rfl)
   refine⟨⟨by omega,by rw[hrjz];omega⟩,Ad l1 (Aj ⟨⟨by omega,by rw[hr1.lenZ];omega⟩,Ad (hl0 _) ⟨⟨by omega,by rw[hr0z];omega⟩,Ad (l0 _) (Aj ⟨⟨by omega,by rw[hr2.lenZ];omega⟩,Ad (hlq _) ⟨⟨by omega,by rw[hrqz];omega⟩,Ad l2 (Ao ?_)⟩⟩)⟩⟩)⟩
   refine Ju (by omega) fun st5 e5=>⟨hlq _,l0 _,hl0 _,Ab (one14 rfl rfl rfl) ?_⟩
   have hcb:=E8 ty (CT q (AR k)) (txt q (AR k))
   refine Et (e4.trans e5) rfl (hC.ext e5) (by omega) (fun h=>by cases h) fun v' st6 e6 _ ho'=>Ab (List.all_eq_true.2 fun x hx=>by rw[List.mem_singleton.1 hx];exact ho'.rd.one) ?_
   rw[w1 m (by omega)]
   refine⟨⟨rfl,rfl,rfl,rfl,rfl,rfl,rfl,rfl,rfl,rfl,rfl,rfl,rfl,rfl,rfl,rfl,rfl,rfl,rfl,rfl,rfl,rfl,rfl,rfl,rfl,rfl,rfl,rfl,rfl,rfl,rfl,rfl,rfl,rfl,rfl,rfl,rfl,e6,m+1,rfl,by omega,_,ho',?_⟩,by dsimp only;omega⟩
   rw[Vp (nm:=txt q (AR k0)) (by rw[List.getElem?_map,List.getElem?_map,hkm0];rfl) (RP hkm)]
   exact hCv.snoc0 (by unfold FdR;exact⟨_,rfl,KW _ hcb⟩)
  ·have hmW:m=W:=by omega
   subst hmW
   rw[<-hwid]at hC hCv
   have hfull:(GL q ty ((Av r).map AR)).take (Av r).length=GL q ty ((Av r).map AR):=List.take_of_length_le (by rw[Lj,List.length_map];omega)
   have hfull0:(((Av r0).map AR).map (txt q)).take (Av r).length=((Av r0).map AR).map (txt q):=List.take_of_length_le (by rw[List.length_map,List.length_map];omega)
   rw[hfull,hfull0]at hCv
   have hfl:(SQ (((Av r0).map AR).map (txt q)) (GL q ty ((Av r).map AR))).length=(Av r).length:=by unfold SQ;rw[List.length_zipWith,Lj,List.length_map,List.length_map,List.length_map];omega
   have hx:VlR St.zero (recV (((Av r0).map AR).map (txt q)) (GL q ty ((Av r).map AR))) (A6 (scW 7) .nilSlice .nilSlice vC):=vr_map (f:=SQ (((Av r0).map AR).map (txt q)) (GL q ty ((Av r).map AR))) (by rw[hfl];exact hC.rd) hCv
   refine Ab (D8 rfl rfl hC.rd.one) ?_
   have hlen:(Kz q true ty ((Fx rs).take j)).length<=2000000:=by
    cases hb:(Fx rs).take j with
    | nil=>exact Nat.zero_le _
    | cons x y=>
     have:=congrArg List.length hb
     rw[List.length_take,List.length_cons]at this
     show(y.map _).length<=_
     rw[List.length_map];omega
   refine Et (e3.trans e4) rfl (hB.ext e4) (by omega) (fun h=>by cases h) fun v' st6 e6 _ ho'=>Ab (List.all_eq_true.2 fun x hx=>by rw[List.mem_singleton.1 hx];exact ho'.rd.one) ?_
   rw[w1 j (by omega)]
   refine⟨⟨rfl,rfl,rfl,rfl,rfl,rfl,rfl,rfl,rfl,rfl,rfl,rfl,rfl,rfl,rfl,rfl,rfl,rfl,rfl,rfl,e6,j+1,rfl,by omega,xs++A6 (scW 7) .nilSlice .nilSlice vC,?_,?_⟩,by dsimp only;omega⟩
   ·rw[NO (hraw hjr) (by omega) (hraw hj0),List.length_append];exact ho'
   ·rw[NO (hraw hjr) (by omega) (hraw hj0)];exact hBv.snoc hx
 ·have hhd:hd=true:=by cases hd;exact absurd hh (by decide);rfl
  subst hhd
  have hj0:j=0:=by omega
  subst hj0
  rw[w1 0 (by omega)]
  refine⟨⟨rfl,rfl,rfl,rfl,rfl,rfl,rfl,rfl,rfl,rfl,rfl,rfl,rfl,rfl,rfl,rfl,rfl,rfl,rfl,rfl,e3,1,rfl,by omega,xs,?_,?_⟩,by dsimp only;omega⟩
  ·rw[Rs]
   rw[List.take_zero]at hB
   exact hB
  ·rw[Rs]
   rw[List.take_zero]at hBv
   exact hBv
end
end
theorem szl'' (s:Sc):(Ce s).sz=1+s.bytes.length+s.text.length+s.dg.length:=szl' s
theorem XL (ty qd:Bool) (s:B8):(Ce (Ft ty qd s)).sz<=1+s.length:=by
 have hd:=dcP_len s
 rw[szl'',E8]
 unfold Ft
 by_cases h1:ty=false∨qd=true
 ·rw[if_pos h1];simp[tkT]
 rw[if_neg h1]
 by_cases h2:s=[]
 ·rw[if_pos h2];simp[scK]
 rw[if_neg h2]
 by_cases h3:s=Jh
 ·rw[if_pos h3];simp[tkB]
 rw[if_neg h3]
 by_cases h4:s=HL
 ·rw[if_pos h4];simp[tkB]
 rw[if_neg h4]
 by_cases h5:(dcP s).2.2.2=0
 ·rw[if_pos h5];simp[tkN];omega
 rw[if_neg h5]
 by_cases h6:(tmP s).2.2.2.2=0
 ·rw[if_pos h6];simp[tkM]
 rw[if_neg h6];simp[tkT]
theorem Xx {a q:Int} {s:B8} {i:Nat} {ks:List Nd} {e n:Nat} (h:IL a q s i ks e n):i<=s.length->Qs (ks.map AR)+i<=e:=by
 induction h with
 | @last i e n h1 h2 h3=>
  intro hi
  have hl:=CC hi h1
  simp only[List.map_cons,List.map_nil,Dr,Qs]
  rw[Le hl.1 hl.2];omega
 | @more i e e' n ks h1 h2 h3 h4 ih=>
  intro hi
  have hl:=CC hi h1
  have:=ih (by omega)
  simp only[List.map_cons,Dr,Qs]
  rw[Le hl.1 hl.2];omega
theorem WD {a q:Int} {s:B8} {i:Nat} {rs:List Nd} (h:JE a q s i rs):i<=s.length->S3 (Fx rs)+i<=s.length/\Ni (Fx rs)+i<=s.length+1/\(i<s.length∨rs=[]->True)/\rs.length+i<=s.length:=by
 induction h with
 | nil h=>intro hi;simp[Fx,S3,Ni];omega
 | @cons i e n ks rs h1 h2 h3 ih=>
  intro hi
  have hle:=h2.le hi
  have hs:=Xx h2 hi
  have hn:=(FZ (by omega) hle.2.2.2.2).2.1
  obtain⟨a1,a2,_,a4⟩:=ih (by omega)
  have hk:Fx (.mk 8 [] [] ks (slc s e (e+n))::rs)=ks.map AR::Fx rs:=rfl
  rw[hk]
  simp only[S3,Ni,List.length_map,List.length_cons]
  have hc:n=0->rs=[]:=fun h0=>by
   have:=hn h0
   cases rs with
   | nil=>rfl
   | cons x y=>simp only[List.length_cons]at a4;omega
  refine⟨by omega,?_,fun _=>trivial,?_⟩
  ·rcases Nat.eq_zero_or_pos n with h0 | h0
   ·rw[hc h0];simp[Fx,Ni];omega
   ·omega
  ·rcases Nat.eq_zero_or_pos n with h0 | h0
   ·rw[hc h0];simp;omega
   ·omega
theorem tree_of {a q:Int} {s:B8} {rs:List Nd} (h:JE a q s 0 rs) (hs:s.length<=1400000) (hlen:∀r,r∈rs->∀k,k∈Av r->(txt q (AR k)).length<=65536) (hW:∃W:Int,∀r,r∈rs->((Av r).length:Int)=W):∃W,Uq a q rs W:=by
 obtain⟨W,hW⟩:=hW
 obtain⟨h1,h2,_,h4⟩:=WD h (Nat.zero_le _)
 have mem:∀r,r∈rs->Qs ((Av r).map AR)<=s.length/\(Av r).length<=s.length+1:=by
  intro r hr
  obtain⟨j,hj⟩:=List.getElem?_of_mem hr
  have hj2:(Fx rs)[j]? =some ((Av r).map AR):=by unfold Fx;rw[List.getElem?_map,hj];rfl
  have:=Wt hj2
  rw[List.length_map]at this
  omega
 by_cases hne:rs=[]
 ·subst hne
  exact⟨0,⟨fun r hr=>(by cases hr),fun r hr=>(by cases hr),fun r hr=>(by cases hr),by simp,by omega⟩⟩
 refine⟨W.toNat,⟨h.form (Nat.zero_le _),fun r hr=>by have:=hW r hr;omega,fun r hr k hk=>⟨hlen r hr k hk,?_⟩,by omega,?_⟩⟩
 ·have h5:=Wr (List.mem_map.2 ⟨k,hk,rfl⟩:AR k∈(Av r).map AR)
  have:=(mem r hr).1;omega
 ·obtain⟨r,t,rfl⟩:=List.exists_cons_of_ne_nil hne
  have:=hW r (.head _)
  have:=(mem r (.head _)).2
  omega
theorem VL {n:Nd} {a q:Int} {hd:Bool} (h:Jo n a q hd):∃rs W,n= .mk 1 [] [] rs []/\Uq a q rs W:=by
 obtain⟨rs,rfl,_,_,_,_,_,hr,hl,hW⟩:=EG h.2
 have hlen:=OK h.1
 have hn:=EI (.mk 1 [] [] rs [])
 obtain⟨W,hT⟩:=tree_of hr (by show(Du (.mk 1 [] [] rs [])).length<=_;omega) hl hW
 exact⟨rs,W,rfl,hT⟩
theorem R5 {x:Cx} {hd:Bool} {l2 l3 l4:Int} {n:Nd} (h:Bl x hd l2 l3 l4= .ok n):Oc x.s x.a x.q hd= .ok n:=by
 obtain⟨rs,rfl,hd1,hl,hle,hv,hdoc,hr,hlen,hW⟩:=EG h
 unfold lOk at hl
 rw[decide_eq_true_eq]at hl
 obtain⟨rs1,q1,_,_,_,q6⟩:=Sr _ (Nat.zero_le _) hdoc
 rw[List.nil_append]at q1
 subst q1
 obtain⟨rs2,j1,j2,_,_⟩:=XB (d':=48) (n':=65536) _ hdoc
 rw[List.nil_append]at j1
 subst j1
 have hdoc2:=j2 (.inr (by decide)) (by rcases q6 with q6 | q6<;>omega)
 show Bl (xU x.s x.a x.q) hd 1048576 1024 65536=_
 unfold Bl
 rw[if_neg (show ¬dOk x.a x.q=false by rw[hd1];decide),if_neg (show ¬lOk 48 65536 1048576 1024 65536=false by decide),if_neg (show ¬(1048576:Int)<(x.s.length:Int) by omega),if_neg (show ¬Bo x.s≠x.s.length by rw[hv];simp)]
 rw[show Ev (xU x.s x.a x.q) hd ((xU x.s x.a x.q).s.length+1) [] 0 1 [] 0= .ok rs from hdoc2]
section
section
variable {a q:Int} {hd ty:Bool} {st:St}
theorem Xn {s:B8} {l0 l1 l2 l3 l4:Int} (hl:s.length<=70000) {K:Int->Bool->Bool->B8->Int->Int->Int->Int->Int->B8->TV->TV->TV->Int->Int->St->Prop}
  (hk1:∀(p:Nat×Int) st',Ap st st'->Bl ⟨s,a,q,l0,l1⟩ hd l2 l3 l4= .error p->p.2≠0->K 0 false false [] 0 0 0 0 0 [] .nilSlice .nilSlice .nilSlice p.1 p.2 st')
  (hk2:∀rs u xs st',Ap st st'->Bl ⟨s,a,q,l0,l1⟩ hd l2 l3 l4= .ok (.mk 1 [] [] rs [])->Rd 13 u (Kz q hd ty (Fx rs)).length xs->VsR St.zero (Kz q hd ty (Fx rs)) xs->K 6 false false [] 0 0 0 0 0 [] .nilSlice u .nilSlice 0 0 st'):
  CallT PR HZ [.str s,.agg [.int .u8 a,.int .u8 q,.bool hd,.bool ty],.agg [.int .i64 l0,.int .i64 l1,.int .i64 l2,.int .i64 l3,.int .i64 l4]] [.agg Q9,.one (.int .i64),.one (.int .i64)] st K:=by
 refine Qn s a q hd ty l0 l1 l2 l3 l4 st K (PC (x:=⟨s,a,q,l0,l1⟩) (by show s.length<=_;omega) fun k kv st1 e1 hn=>?_)
 obtain⟨_,_,_,_,_,h5,ho⟩:=hn.five
 cases h5
 have hcn:Fe (pN (Bl ⟨s,a,q,l0,l1⟩ hd l2 l3 l4))<=1000000000000000:=WR (by show s.length<=_;omega)
 rcases hP:Bl ⟨s,a,q,l0,l1⟩ hd l2 l3 l4 with p | n
 ·rw[hP]at hk1
  have hne:=To hP
  exact Ab (EH ho) (Aa (fun _=>hk1 p st1 e1 rfl hne) fun g=>absurd hne g)
 ·rw[hP]at hn hcn hk2
  obtain⟨rs,hrs,_⟩:=EG hP
  subst hrs
  have hU:=R5 hP
  obtain⟨htx,_,hou⟩:=W4 (show s.length<=70000 from hl) hU
  have hnl:=EI (.mk 1 [] [] rs [])
  rw[htx]at hnl
  have hl':s.length<=70000:=hl
  refine Ab (EH ho) (Aa (fun g=>absurd rfl g) fun _=>VV hn (by show Eu (.mk 1 [] [] rs [])<=_;rw[<-hnl];show s.length<=_;omega) hcn (fun ho=>?_) (fun h=>absurd hou h) fun _ u xs st2 e2 hu hx=>?_)
  ·obtain⟨rs',W,he,hT⟩:=VL ho
   have he:Nd.mk 1 [] [] rs []= .mk 1 [] [] rs' []:=he
   cases he
   exact⟨W,hT⟩
  ·exact Ab (D8 rfl hu.one rfl) (Ab (D8 rfl hu.one rfl) (hk2 rs u xs st2 (e1.trans e2) rfl hu hx))
end
theorem SlR.zero {sz n:Nat} {v:TV} {xs:List TV} (h:SlR St.zero sz v n xs):Rd sz v n xs:=by
 rcases h with h | ⟨b,_,_,_,_,hb,_⟩
 ·exact h
 ·exact absurd hb (Nat.not_lt_zero _)
theorem UA {xs:List TV} {k n j:Nat} {cs:List TV} (h:(xs.drop k).take n=cs) {x:TV} (hx:cs[j]? =some x):xs[k+j]? =some x:=by
 rw[<-h,List.getElem?_take]at hx
 split at hx
 ·rwa [List.getElem?_drop]at hx
 ·cases hx
theorem Rd.isP {sz n i:Nat} {u:TV} {xs:List TV} (h:Rd sz u n xs) (hi:i<n):isPtr (ixT sz u i)=true:=(SlR.of_rd (st:=St.zero) h).isPtr hi
theorem ld13 {u:TV} {xs:List TV} {l:List Vl} (hr:Rd 13 u l.length xs) (hv:VsR St.zero l xs) {i:Nat} {s':Sc} {l':List Vl} {f':List Fd} (hi:l[i]? =some (.mk s' l' f')):
  isPtr (ixT 13 u i)=true/\∃ub ul uf xl xf,(∀st (j:Nat) x,(A6 s' ub ul uf)[j]? =some x->Ac st [] (.t (Am (ixT 13 u i) j)) 0=some x)/\Rd 13 ul l'.length xl/\VsR St.zero l' xl/\Rd 14 uf f'.length xf/\FsR St.zero f' xf:=by
 obtain⟨hlt,_⟩:=List.getElem?_eq_some_iff.1 hi
 obtain⟨cs,hc,hcx,_⟩:=hv.get hi
 obtain⟨ub,ul,uf,xl,xf,rfl,_,h2,h3,h4,h5⟩:=hc.cells
 exact⟨hr.isP hlt,ub,ul,uf,xl,xf,fun st j x hx=>hr.ldfx st i j (UA hcx hx),h2.zero,h3,h4.zero,h5⟩
theorem UO {sz n i:Nat} {u:TV} {xs:List TV} (h:Rd sz u n xs) (hi:i<n) (a b:Nat):Am (Am (ixT sz u i) a) b=Am (ixT sz u i) (a+b)/\isPtr (Am (ixT sz u i) a)=true:=by
 rcases h with⟨rfl,rfl,_⟩ | ⟨tip,rfl⟩
 ·omega
 ·refine⟨?_,rfl⟩
  simp only[ixT,Am,Nat.beq_refl,List.drop_drop,Nat.add_assoc]
theorem ld14 {u:TV} {xs:List TV} {l:List Fd} (hr:Rd 14 u l.length xs) (hv:FsR St.zero l xs) {i:Nat} {k:B8} {s':Sc} {l':List Vl} {f':List Fd} (hi:l[i]? =some (.mk k (.mk s' l' f'))):
  isPtr (ixT 14 u i)=true/\isPtr (Am (ixT 14 u i) 1)=true/\∃ub ul uf,∀st (j:Nat) x,(A6 s' ub ul uf)[j]? =some x->Ac st [] (.t (Am (Am (ixT 14 u i) 1) j)) 0=some x:=by
 obtain⟨hlt,_⟩:=List.getElem?_eq_some_iff.1 hi
 obtain⟨cs,hc,hcx,_⟩:=hv.get hi
 unfold FdR at hc
 obtain⟨c,rfl,hc⟩:=hc
 obtain⟨ub,ul,uf,xl,xf,rfl,_⟩:=hc.cells
 refine⟨hr.isP hlt,(UO hr hlt 1 0).2,ub,ul,uf,fun st j x hx=>?_⟩
 rw[(UO hr hlt 1 j).1]
 exact hr.ldfx st i (1+j) (UA hcx (by rw[Nat.add_comm 1 j];exact hx))
end
theorem WT {s:B8} (hu:U8 s) (hl:s.length<=65536):Qe (tkT s) [] [] where
 own:=⟨(by decide:(0:Int)<=4),(by decide:(4:Int)<=7),fun _=>rfl,fun _=>⟨rfl,rfl,rfl⟩,fun _=>⟨rfl,rfl,rfl,rfl⟩,fun h=>absurd rfl h,fun _=>rfl,fun _=>rfl,fun _=>rfl⟩
 dec:=by show D6 false [] 0;decide
 time:=fun h=>by cases h
 text:=hu
 tlen:=hl
 blen:=Nat.zero_le _
 keys:=rfl
theorem T8 {s:Sc} (h:Qe s [] []):Gc (Ce s)=0:=by
 have h0:=Md.2 h
 unfold Ce Gc Cu
 rw[if_neg (by omega),if_neg (by omega),if_neg (by omega)]
 unfold Fn Ci Dv
 rfl
def VF:List (List B8):=[[[97],[98]],[[49],[120]],[[34,49,34],[]]]
theorem textA:DX 44 VF=Vr:=by decide
theorem dA:dOk 44 34=true:=by decide
theorem plA (c:B8) (h:Fq 44 34 c=false/\(c.all fun x=>decide (x.toNat<128))=true/\(txt 34 c).length<=65536):JH 44 34 c/\Bo c=c.length/\(txt 34 c).length<=65536:=⟨Q2 (XC dA) h.1,EB c h.2.1,h.2.2⟩
theorem parseG:∃rs,Oc Vr 44 34 true= .ok (.mk 1 [] [] rs [])/\Fx rs=VF:=by
 have hF:JH 44 34 [34,49,34]/\Bo [34,49,34]=([34,49,34]:B8).length/\(txt 34 [34,49,34]).length<=65536:=⟨SE (XC dA) [49],EB _ rfl,by decide⟩
 have:=readX (a:=44) (q:=34) dA true (l:=VF) (W:=2) (fun r hr=>by
  simp only[VF,List.mem_cons,List.not_mem_nil,or_false]at hr
  rcases hr with rfl | rfl | rfl
  ·exact⟨by decide,rfl,fun c hc=>by
    simp only[List.mem_cons,List.not_mem_nil,or_false]at hc
    rcases hc with rfl | rfl<;>exact plA _ (by decide)⟩
  ·exact⟨by decide,rfl,fun c hc=>by
    simp only[List.mem_cons,List.not_mem_nil,or_false]at hc
    rcases hc with rfl | rfl<;>exact plA _ (by decide)⟩
  ·exact⟨by decide,rfl,fun c hc=>by
    simp only[List.mem_cons,List.not_mem_nil,or_false]at hc
    rcases hc with rfl | rfl
    ·exact hF
    ·exact plA _ (by decide)⟩) (by rw[textA];decide) (by decide) (fun _ r hr=>by
  simp only[VF,List.head?_cons,Option.some.injEq]at hr
  subst hr
  refine⟨by decide,fun c hc=>?_⟩
  simp only[List.mem_cons,List.not_mem_nil,or_false]at hc
  rcases hc with rfl | rfl<;>decide)
 rwa [textA]at this
def lA:List Vl:=[Wl [.mk [97] (Ce (tkN false [49] 0)),.mk [98] (Ce (tkT [120]))],Wl [.mk [97] (Ce (tkT [49])),.mk [98] (Ce (scK 0))]]
theorem valA:Kz 34 true true VF=lA:=by kernel_rfl
theorem Mo {st:St} {K:Bool->St->Prop} (hk:∀st',Ap st st'->K true st'):CallT PR Bk [] [.one .bool] st K:=by
 obtain⟨rs,hp,hraw⟩:=parseG
 refine IE st K (N9 (RX (Xn (s:=Vr) (by decide) (fun p st1 e1 h _=>?_) fun rs' u xs st1 e1 h hu hx=>?_)))
 ·rw[show Bl ⟨Vr,44,34,48,65536⟩ true 1048576 1024 65536=_ from hp]at h;cases h
 rw[show Bl ⟨Vr,44,34,48,65536⟩ true 1048576 1024 65536=_ from hp]at h
 cases h
 rw[hraw,valA]at hu hx
 have hu:Rd 13 u 2 xs:=hu
 obtain⟨p1,_,_,f1,_,xf1,ld1,_,_,hf1,hfx1⟩:=ld13 (l:=lA) hu hx (i:=1) rfl
 obtain⟨p0,_,_,f0,_,xf0,ld0,_,_,hf0,hfx0⟩:=ld13 (l:=lA) hu hx (i:=0) rfl
 obtain⟨a1,a2,_,_,_,la⟩:=ld14 hf1 hfx1 (i:=0) rfl
 obtain⟨b1,b2,_,_,_,lb⟩:=ld14 hf0 hfx0 (i:=0) rfl
 obtain⟨c1,c2,_,_,_,lc⟩:=ld14 hf1 hfx1 (i:=1) rfl
 have hf1:Rd 14 f1 2 xf1:=hf1
 have hf0:Rd 14 f0 2 xf0:=hf0
 have h49:Qe (tkT [49]) [] []:=WT (EB [49] rfl) (by decide)
 have hE:shE 44 34 true (Ce (tkT [49]))=0:=by
  unfold shE
  rw[if_neg (by rw[dA];decide),if_neg (by rw[T8 h49];decide)]
  decide
 have hT:shT 44 34 true (Ce (tkT [49]))=str11:=by
  unfold shT
  rw[if_pos hE]
  show FV 44 34 true (tkT [49])=_
  unfold FV
  rw[if_pos (show(tkT [49]).kind=4 from rfl),if_pos (by decide)]
  decide
 have hv:VlR St.zero (Ce (tkT [49])) (A6 (tkT [49]) .nilSlice .nilSlice .nilSlice):=KW _ rfl
 refine Ab (D8 rfl hu.one rfl) (N9 (Sl (v:=Ce (tkT [49])) (by rw[szl''];decide) hv fun st2 e2=>?_))
 rw[hE,hT]
 refine Aa (fun _=>Ab hu.isSl (Aa (fun _=>⟨⟨by decide,by rw[hu.lenZ];decide⟩,Ab p1 (Ad (ld1 _ 12 _ rfl) (Ab hf1.isSl (Aa (fun _=>⟨⟨by decide,by rw[hu.lenZ];decide⟩,Ab p1 (Ad (ld1 _ 12 _ rfl)
  ⟨⟨by decide,by rw[hf1.lenZ];decide⟩,Ab a1 (Ab a2 (Ad (la _ 9 _ rfl) (Aj (Aa (fun _=>⟨⟨by decide,by rw[hu.lenZ];decide⟩,Ab p0 (Ad (ld0 _ 12 _ rfl)
   ⟨⟨by decide,by rw[hf0.lenZ];decide⟩,Ab b1 (Ab b2 (Ad (lb _ 0 _ rfl) (AA (Aa (fun _=>⟨⟨by decide,by rw[hu.lenZ];decide⟩,Ab p1 (Ad (ld1 _ 12 _ rfl)
    ⟨⟨by decide,by rw[hf1.lenZ];decide⟩,Ab c1 (Ab c2 (Ad (lc _ 0 _ rfl) (AA (Aa (fun _=>Aa (fun _=>hk st2 (e1.trans e2)) fun g=>absurd rfl g) fun g=>absurd rfl g))))⟩)⟩) fun g=>absurd rfl g))))⟩)⟩) fun g=>absurd rfl g))))⟩)⟩) fun g=>absurd (by rw[hf1.lenS];rfl) g)))⟩) fun g=>absurd (by rw[hu.lenS];rfl) g)) fun g=>absurd rfl g
theorem Rn (l m:List Vl):CH (l++m)=CH l+CH m:=by
 induction l with
 | nil=>simp[CH]
 | cons v r ih=>simp only[List.cons_append,CH,ih];omega
theorem Sm (l m:List Fd):Cy (l++m)=Cy l+Cy m:=by
 induction l with
 | nil=>simp[Cy]
 | cons v r ih=>simp only[List.cons_append,Cy,ih];omega
theorem PW (l m:List Fd):D4 (l++m)=D4 l+D4 m:=by
 induction l with
 | nil=>simp[D4]
 | cons v r ih=>simp only[List.cons_append,D4,ih];omega
theorem Pi {l:List Vl} {k:Nat} {w:Vl} (h:l[k]? =some w):CH (l.take (k+1))=CH (l.take k)+w.sz:=by
 rw[List.take_add_one,h,Rn];simp[CH]
theorem PV {l:List Fd} {k:Nat} {w:Fd} (h:l[k]? =some w):Cy (l.take (k+1))=Cy (l.take k)+w.sz:=by
 rw[List.take_add_one,h,Sm];simp[Cy]
theorem Ou {l:List Fd} {k:Nat} {w:Fd} (h:l[k]? =some w):D4 (l.take (k+1))=D4 (l.take k)+w.cnt:=by
 rw[List.take_add_one,h,PW];simp[D4]
theorem vcnt (s:Sc) (l:List Vl) (f:List Fd):(Vl.mk s l f).cnt=1+CW l+D4 f:=by unfold Vl.cnt;rfl
theorem fcnt (k:B8) (v:Vl):(Fd.mk k v).cnt=v.cnt:=by unfold Fd.cnt;rfl
def RmOk (v:Vl) (n r:Int):Prop:=r= -1∨(0<=r/\(v.sz:Int)+3000+r*12001<=n*12001/\(v.cnt:Int)+r<=n)
theorem Vx:∀(N:Nat) (v:Vl),v.sz<=N->∀{st:St} {cs:List TV} {D n:Int} {K:Int->St->Prop},VlR St.zero v cs-> -1000<=D->D<=1000-> -1<=n->n<=1000->(∀r,RmOk v n r->K r st)->
  CallT PR A8 [.agg cs,.int .i64 D,.int .i64 n,.int .i64 3000] [.one (.int .i64)] st K:=by
 intro N
 induction N with
 | zero=>intro v h;have:=v.sz_pos;omega
 | succ N ih=>
 intro v hN st cs D n K h hD1 hD2 hn1 hn2 hk
 cases v with
 | mk s l f=>
 have hsz:=szs s l f
 have hct:=vcnt s l f
 obtain⟨ub,ul,uf,xl,xf,rfl,h1,h2,h3,h4,h5⟩:=h.cells
 have no:K (-1) st:=hk _ (.inl rfl)
 refine IX _ _ _ _ _ _ _ _ _ _ _ _ _ D n 3000 st K (Aa (fun _=>no) fun g1=>Aa (fun _=>no) fun g2=>Aa (fun _=>no) fun g3=>Ab h1.isSl (Aa (fun _=>no) fun g4=>Aa (fun _=>no) fun g5=>Ab h2.isSl (Aa (fun _=>no) fun g6=>Ab h4.isSl (Aa (fun _=>no) fun g7=>?_))))
 rw[h1.lenS]at g4
 rw[h2.lenS]at g6
 rw[h4.lenS]at g7
 rw[Af (n-1) (by omega) (by omega)]
 refine⟨fun zn zi zd zb k bo ng dg ex tk td tn tz tx u0 u1 u2 st'=>ul=u1/\uf=u2/\D=zd/\3000=zb/\st=st'/\∃k:Nat,zi=(k:Int)/\k<=l.length/\ -1<=zn/\zn<=n-1/\(0<=zn->(CH (l.take k):Int)+zn*12001<=(n-1)*12001/\(CW (l.take k):Int)+zn<=n-1),
  fun _ zi _ _ _ _ _ _ _ _ _ _ _ _ _ _ _ _=>(l.length-zi).toNat,⟨rfl,rfl,rfl,rfl,rfl,0,rfl,Nat.zero_le _,by omega,by omega,fun _=>by rw[List.take_zero];simp[CH,CW]⟩,?_⟩
 rintro zn _ _ _ _ _ _ _ _ _ _ _ _ _ _ _ _ _ ⟨rfl,rfl,rfl,rfl,rfl,k,rfl,hkl,z1,z2,z3⟩
 refine Ab h2.isSl (Aa (fun g=>Aa (fun g0=>?_) fun g0=>?q1) fun g=>?q2)
 ·rw[h2.lenS]at g
  refine V1 (HS _) h2 h3 rfl (by omega) fun s' l' f' ub1 ul1 uf1 gw hw on=>?_
  have hwsz:=FP gw
  have e1:=Pi gw
  have e2:=NA gw
  obtain⟨z4,z5⟩:=z3 g0
  rw[Af ((k:Int)+1) (by omega) (by omega),Af (D-1) (by omega) (by omega)]
  refine ih _ (by omega) hw (by omega) (by omega) (by omega) (by omega) fun r hr=>⟨⟨rfl,rfl,rfl,rfl,rfl,k+1,by omega,by omega,?_,?_,?_⟩,by dsimp only;omega⟩
  ·rcases hr with hr | hr<;>omega
  ·rcases hr with hr | hr
   ·omega
   ·have:=Vl.sz_pos (.mk s' l' f');omega
  ·intro hr0
   rcases hr with hr | hr
   ·omega
   ·rw[e1,e2];omega
 case q1 | q2=>
  have zz:zn= -1∨(CH l:Int)+zn*12001<=(n-1)*12001/\(CW l:Int)+zn<=n-1:=by
   by_cases hz:0<=zn
   ·right
    have hkk:k=l.length:=by
     first
      | (exfalso;exact g0 hz)
      | (rw[h2.lenS]at g;omega)
    rw[hkk,List.take_of_length_le (Nat.le_refl _)]at z3
    exact z3 hz
   ·left;omega
  refine⟨fun yn zi zd zb k bo ng dg ex tk td tn tz tx u0 u1 u2 st'=>uf=u2/\D=zd/\3000=zb/\st=st'/\∃k:Nat,zi=(k:Int)/\k<=f.length/\ -1<=yn/\yn<=n-1/\(0<=yn->(CH l:Int)+Cy (f.take k)+yn*12001<=(n-1)*12001/\(CW l:Int)+D4 (f.take k)+yn<=n-1),
   fun _ zi _ _ _ _ _ _ _ _ _ _ _ _ _ _ _ _=>(f.length-zi).toNat,⟨rfl,rfl,rfl,rfl,0,rfl,Nat.zero_le _,by omega,by omega,fun hz=>by rw[List.take_zero];simp only[Cy,D4];omega⟩,?_⟩
  rintro yn _ _ _ _ _ _ _ _ _ _ _ _ _ _ _ _ _ ⟨rfl,rfl,rfl,rfl,k2,rfl,hkl2,y1,y2,y3⟩
  have fin:(k2=f.length∨¬0<=yn)->K yn st:=by
   intro hor
   refine hk _ ?_
   by_cases hy:0<=yn
   ·rcases hor with hor | hor
    ·obtain⟨y4,y5⟩:=y3 hy
     rw[hor,List.take_of_length_le (Nat.le_refl _)]at y4 y5
     exact .inr ⟨hy,by rw[hsz];omega,by rw[hct];omega⟩
    ·exact absurd hy hor
   ·exact .inl (by omega)
  refine Ab h4.isSl (Aa (fun g8=>Aa (fun g9=>?_) fun g9=>fin (.inr g9)) fun g8=>fin (.inl (by rw[h4.lenS]at g8;omega)))
  rw[h4.lenS]at g8
  have hlt:k2<f.length:=by omega
  obtain⟨dd,hdd⟩:∃d,f[k2]? =some d:=⟨_,List.getElem?_eq_getElem hlt⟩
  obtain⟨key,w⟩:=dd
  obtain⟨s',l',f'⟩:=w
  have hky:=PQ (st:=st) (HS st) h4 h5 hdd
  refine⟨⟨by omega,by rw[h4.lenZ];omega⟩,Ab (h4.isPtr hlt) (Ad hky (Aj (Aa (fun _=>no) fun g10=>?_)))⟩
  refine Rt (HS _) h4 h5 rfl hlt fun key' s' l' f' ub1 ul1 uf1 gw hw on=>?_
  rw[hdd]at gw
  cases gw
  have hwsz:=E3 hdd
  have e1:=PV hdd
  have e2:=Ou hdd
  have e3:=szd key (.mk s' l' f')
  have e4:=fcnt key (.mk s' l' f')
  obtain⟨y4,y5⟩:=y3 g9
  have g10:¬3000<(key.length:Int):=g10
  rw[Af ((k2:Int)+1) (by omega) (by omega),Af (D-1) (by omega) (by omega)]
  refine ih _ (by omega) hw (by omega) (by omega) (by omega) (by omega) fun r hr=>⟨⟨rfl,rfl,rfl,rfl,k2+1,by omega,by omega,?_,?_,?_⟩,by dsimp only;omega⟩
  ·rcases hr with hr | hr<;>omega
  ·rcases hr with hr | hr
   ·omega
   ·have:=Vl.sz_pos (.mk s' l' f');omega
  ·intro hr0
   rcases hr with hr | hr
   ·omega
   ·rw[e1,e2];omega
theorem Rl:∀(N:Nat) (v:Vl),v.sz<=N->N<=2000000->∀{st:St} {cs:List TV} {K:Int->St->Prop},VlR St.zero v cs->(∀w:Int,(v.cnt:Int)+w=v.sz->K w st)->
  CallT PR Bd [.agg cs] [.one (.int .i64)] st K:=by
 intro N
 induction N with
 | zero=>intro v h;have:=v.sz_pos;omega
 | succ N ih=>
 intro v hN hN2 st cs K h hk
 cases v with
 | mk s l f=>
 have hsz:=szs s l f
 have hct:=vcnt s l f
 have hll:=G4 l
 have hfl:=Ed f
 have hc1:=Nv l
 have hc2:=Nw f
 obtain⟨ub,ul,uf,xl,xf,rfl,h1,h2,h3,h4,h5⟩:=h.cells
 refine Hw _ _ _ _ _ _ _ _ _ _ _ _ _ st K (Ab h1.isSl ?_)
 refine⟨fun zn zi k bo ng dg ex tk td tn tz tx u0 u1 u2 st'=>ul=u1/\uf=u2/\st=st'/\∃k:Nat,zi=(k:Int)/\k<=l.length/\zn+(CW (l.take k):Int)=(s.bytes.length:Int)+s.text.length+s.dg.length+CH (l.take k),
  fun _ zi _ _ _ _ _ _ _ _ _ _ _ _ _ _=>(l.length-zi).toNat,⟨rfl,rfl,rfl,0,rfl,Nat.zero_le _,?_⟩,?_⟩
 ·rw[h1.lenS,Af ((s.text.length:Int)+(s.bytes.length:Nat)) (by omega) (by omega),Af _ (by omega) (by omega),List.take_zero]
  simp only[CW,CH];omega
 rintro zn _ _ _ _ _ _ _ _ _ _ _ _ _ _ _ ⟨rfl,rfl,rfl,k,rfl,hkl,z1⟩
 have b1:=OS l k
 have b2:CH (l.take k)<=CH l:=by
  conv=>rhs;rw[<-List.take_append_drop k l,Rn]
  omega
 have b3:=Nv (l.take k)
 refine Ab h2.isSl (Aa (fun g=>?_) fun g=>?_)
 ·rw[h2.lenS]at g
  refine V1 (HS _) h2 h3 rfl (by omega) fun s' l' f' ub1 ul1 uf1 gw hw on=>?_
  have hwsz:=FP gw
  have e1:=Pi gw
  have e2:=NA gw
  have e3:=QX (.mk s' l' f')
  rw[Af ((k:Int)+1) (by omega) (by omega)]
  refine ih _ (by omega) (by omega) hw fun r hr=>⟨⟨rfl,rfl,rfl,k+1,by omega,by omega,?_⟩,by dsimp only;omega⟩
  rw[Af _ (by omega) (by omega),e1,e2];omega
 ·have hkk:k=l.length:=by rw[h2.lenS]at g;omega
  rw[hkk,List.take_of_length_le (Nat.le_refl _)]at z1
  refine⟨fun yn zi k bo ng dg ex tk td tn tz tx u0 u1 u2 st'=>uf=u2/\st=st'/\∃k:Nat,zi=(k:Int)/\k<=f.length/\yn+(CW l:Int)+D4 (f.take k)=(s.bytes.length:Int)+s.text.length+s.dg.length+CH l+Cy (f.take k),
   fun _ zi _ _ _ _ _ _ _ _ _ _ _ _ _ _=>(f.length-zi).toNat,⟨rfl,rfl,0,rfl,Nat.zero_le _,by rw[List.take_zero];simp only[D4,Cy];omega⟩,?_⟩
  rintro yn _ _ _ _ _ _ _ _ _ _ _ _ _ _ _ ⟨rfl,rfl,k2,rfl,hkl2,y1⟩
  have b4:D4 (f.take k2)<=D4 f:=by
   conv=>rhs;rw[<-List.take_append_drop k2 f,PW]
   omega
  have b5:Cy (f.take k2)<=Cy f:=by
   conv=>rhs;rw[<-List.take_append_drop k2 f,Sm]
   omega
  have b6:=Nw (f.take k2)
  refine Ab h4.isSl (Aa (fun g8=>?_) fun g8=>?_)
  case refine_2=>
   have hkk2:k2=f.length:=by rw[h4.lenS]at g8;omega
   rw[hkk2,List.take_of_length_le (Nat.le_refl _)]at y1
   exact hk _ (by rw[hsz,hct];omega)
  rw[h4.lenS]at g8
  have hlt:k2<f.length:=by omega
  obtain⟨dd,hdd⟩:∃d,f[k2]? =some d:=⟨_,List.getElem?_eq_getElem hlt⟩
  obtain⟨key,w⟩:=dd
  obtain⟨s',l',f'⟩:=w
  have hky:∀st,Ac st [] (.t (Am (ixT 14 uf k2) 0)) 0=some (.str key):=fun st=>PQ (st:=st) (HS st) h4 h5 hdd
  refine⟨⟨by omega,by rw[h4.lenZ];omega⟩,Ab (h4.isPtr hlt) (Ad (hky _) (Aj ?_))⟩
  refine Rt (HS _) h4 h5 rfl hlt fun key' s' l' f' ub1 ul1 uf1 gw hw on=>?_
  rw[hdd]at gw
  cases gw
  have hwsz:=E3 hdd
  have e1:=PV hdd
  have e2:=Ou hdd
  have e3:=szd key (.mk s' l' f')
  have e4:=fcnt key (.mk s' l' f')
  have e5:=QX (.mk s' l' f')
  rw[Af ((k2:Int)+1) (by omega) (by omega)]
  refine ih _ (by omega) (by omega) hw fun r hr=>⟨hky _,⟨rfl,rfl,k2+1,by omega,by omega,?_⟩,by dsimp only;omega⟩
  rw[Af (yn+_) (by omega) (by omega),Af _ (by omega) (by omega),e1,e2];omega
theorem S4 {v:Vl} {cs:List TV} {st:St} {K:Bool->St->Prop} (h:VlR St.zero v cs) (hk:∀b:Bool,(b=true->v.sz<=20150/\v.cnt<=150)->K b st):
  CallT PR CK [.agg cs] [.one .bool] st K:=by
 have h0:=h
 obtain⟨s,l,f⟩:=v
 obtain⟨ub,ul,uf,xl,xf,rfl,_⟩:=h.cells
 refine Im _ _ _ _ _ _ _ _ _ _ _ _ _ st K (Vx _ _ (Nat.le_refl _) h0 (by decide) (by decide) (by decide) (by decide) fun r hr=>Aa (fun g=>?_) fun g=>hk false (fun h=>by cases h))
 rcases hr with hr | ⟨hr0,hr1,hr2⟩
 ·omega
 refine Rl 2000000 _ (by omega) (Nat.le_refl _) h0 fun w hw=>hk _ fun hb=>?_
 rw[decide_eq_true_eq]at hb
 omega
theorem lcells_ok {s:B8} {v:Vl} {cs:List TV} {a q:Int} {hd ty:Bool} {st:St} {K:Bool->St->Prop} (h:VlR St.zero v cs) (hk:∀st',K true st'):
  CallT PR fn_datakitlaw28_GridCells [.str s,.agg cs,.agg [.int .u8 a,.int .u8 q,.bool hd,.bool ty]] [.one .bool] st K:=by
 have h0:=h
 obtain⟨s',l,f⟩:=v
 obtain⟨ub,ul,uf,xl,xf,rfl,_⟩:=h.cells
 refine Gk s _ _ _ _ _ _ _ _ _ _ _ _ _ a q hd ty st K (Aa (fun _=>Mo fun _ _=>hk _) fun g=>S4 h0 fun b hb=>Al (fun _=>Mo fun _ _=>hk _) fun g2=>?_)
 have hz:=hb (by simpa using g2)
 refine Sl (by omega) h0 fun st1 e1=>VW (by omega) h0 fun st2 e2=>?_
 have same:∀(x:Sc) (st:St) (K:Bool->St->Prop),x.bytes=[]->(Ce x).sz<=2000000->K true st->CallT PR A0 [.agg (A6 x .nilSlice .nilSlice .nilSlice),.agg (A6 x .nilSlice .nilSlice .nilSlice)] [.one .bool] st K:=fun x st K hx hz hK=>
  Same_ok 2000000 (Ce x) (Ce x) hz hz (Nat.le_refl _) (KW x hx) (KW x hx) (HS _) fun r hr=>by rw[hr.2 rfl];exact hK
 have cs:=fun qd=>XL ty qd s
 refine Ju (by omega) fun st3 e3=>Mp (by omega) ?_
 refine same (Ft ty false s) _ _ (E8 _ _ _) (by have:=cs false;omega) (Al (fun _=>?_) fun g=>by cases g)
 refine Ju (by omega) fun st4 e4=>Mp (by omega) ?_
 refine same (Ft ty true s) _ _ (E8 _ _ _) (by have:=cs true;omega) (Al (fun _=>?_) fun g=>by cases g)
 exact Aa (fun _=>Aa (fun _=>Mo fun _ _=>hk _) fun g=>absurd rfl g) fun g=>absurd rfl g
end Go.TVF
