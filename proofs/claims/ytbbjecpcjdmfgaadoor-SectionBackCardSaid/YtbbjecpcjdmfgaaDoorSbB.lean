/- What the laws below rest on: a framework for Go programs, and contracts of the functions that they reach. -/
import Derived.Test.YtbbjecpcjdmfgaaDoorSbA
import Derived.Orders
import Derived.Still
set_option maxRecDepth 20000
set_option linter.unusedVariables false
set_option linter.unusedSimpArgs false
section
namespace Go.TVF
open Go.IntKind(i64 u8)
open Go.RowKit (Below)
section
variable {P:Program} {g:Ghost} {st:St} {loc:List (Option (List TV))} {w:World}
theorem FQ {s:Sem Value} {R:Value->World->Prop} {u:Value} {w':World} (h:s.run P w= .ok u w') (hR:R u w'):Cy P (do pure (Next.value (<-s))) w R:=by
 simp[Cy,h]
 exact hR
theorem Jd (place:Nat->Option (Nat×Nat)):∀(parts:List (Nat×TV)) (cells out:List TV),Ic place cells parts=some out->out.length=cells.length
 | [],cells,out,h=>by simp only[Ic,Option.some.injEq]at h;rw[h]
 | (i,v)::rest,cells,out,h=>by
  simp only[Ic]at h
  split at h
  ·split at h
   ·rw[Jd place rest _ out h,FE]
   ·cases h
  ·cases h
theorem KA {ρ:Operand->SV} {ρc:Operand->Value}:∀(parts:List (Nat×Operand)),(∀p∈parts,Bp g w loc (ρ p.2) (ρc p.2))->PRel g w (parts.map fun p=>(p.1,(ρ p.2).tv)) (parts.map fun p=>(p.1,ρc p.2))
 | [],_=>trivial
 | p::ps,h=>⟨rfl,(h p (by simp)).tv,KA ps fun q hq=>h q (by simp[hq])⟩
theorem Oa (z:Value) (n:Nat) (hz:1<=z.cells.size∨n=0):AL g w (Ih (z.cells.toList.map I9) n) ((Array.range n).map (z.cells[·%z.cells.size]!)).toList:=by
 refine⟨by simp[Ih],fun i hi=>?_⟩
 have hin:i<n:=by simpa [Ih]using hi
 have hm:i%z.cells.size<z.cells.size:=Nat.mod_lt _ (by rcases hz with h | h<;>omega)
 simp only[Ih,List.getElem_map,List.getElem_range,List.length_map,Array.length_toList,List.getD_eq_getElem?_getD,List.getElem?_map,Array.toList_map,Array.toList_range,List.getElem?_range hin,Option.map_some,Option.getD_some]
 rw[List.getElem?_eq_getElem (by simpa using hm)]
 simp only[Option.map_some,Option.getD_some]
 rw[getElem!_pos z.cells _ hm]
 simp only[Array.getElem_toList]
 exact I8 g w _
theorem Rel.box_inv {b o:Nat} {u:Value} (h:Rel g w (.box b o) u):b<g.nb/\u= .pointer (some ⟨g.bk b,o,none⟩):=by cases h;exact⟨‹_›,rfl⟩
theorem NI (w:World) (c:Array Value) (T:TypeId) (n:Nat):(w.alloc (.cells c T)).freeze ⟨w.heap.size,n,none⟩ 1=w.alloc (.cells c T (n,n+1)):=by
 have hh:((w.heap.push (.cells c T)).modify w.heap.size fun
   | .cells c elem (lo,hi)=> .cells c elem (if lo==hi then(n,n+1)else(min lo n,max hi (n+1)))
   | o=>o)=w.heap.push (.cells c T (n,n+1)):=by
  apply Array.ext
  ·simp
  ·intro i h1 h2
   simp only[Array.getElem_modify,Array.getElem_push]
   by_cases hi:i<w.heap.size
   ·have:w.heap.size≠i:=by omega
    simp[hi,this]
   ·have hsz:i<w.heap.size+1:=by simpa using h2
    have:w.heap.size=i:=by omega
    subst this
    simp
 simp only[World.freeze,World.alloc]
 rw[if_neg (by omega)]
 congr 1
theorem Sx {t:TypeId} {i:TypeInfo} (h:P.info? t=some i) (w:World):(typeInfo t).run P w= .ok i w:=by simp[typeInfo,h]
theorem E6 {t e:TypeId} (h:Cr P t=some e):P.underlying t=some (.slice e):=by
 unfold Cr at h
 split at h
 ·rename_i e' hu;simp only[Option.some.injEq]at h;subst h;exact hu
 ·cases h
theorem Ii {t:TypeId} {z:List TV} (h:Fj P t=some z) {i:TypeInfo} (hi:P.info? t=some i):∃v,i.zero=some v/\z=v.cells.toList.map I9:=by
 unfold Fj at h
 rw[hi]at h
 simp only at h
 split at h
 ·rename_i v hv;simp only[Option.some.injEq]at h;exact⟨v,hv,h.symm⟩
 ·cases h
theorem Ke {d:Option TypeDesc} (h:O2 d=true):∃du,d=some du/\((∃e',du= .slice e')∨du= .string):=by
 cases d with
 | none=>simp[O2]at h
 | some du=>cases du<;>simp[O2]at h<;>exact⟨_,rfl,by simp⟩
theorem P6 {e:TypeId} (hc:P.cellsOf e=1) (count off n:Nat) (hn:off+n<=count):liesAt P P.depth e count off e n=true:=by
 have hd:P.depth=(2*(P.types.size+Made.depth)+1)+1:=rfl
 rw[hd]
 simp only[liesAt,Bool.or_eq_true]
 left
 rw[hd]
 simp[rowAt,hc,hn,sameLayout,Nat.mod_one]
theorem I0 (w:World):∀(ns:List Int) (a:Addr) (acc:ByteArray),(∀j x,ns[j]? =some x->w.cell? (a.add j)=some (.int .u8 x))->
  (loadBytes a acc ns.length).run P w= .ok ⟨acc.data++(ns.map fun n=>UInt8.ofNat n.toNat).toArray⟩ w
 | [],a,acc,_=>by simp[loadBytes]
 | x::l,a,acc,h=>by
  have h0:w.cell? a=some (.int .u8 x):=by
   have:=h 0 x rfl
   simpa [Addr.add]using this
  have ih:=I0 w l (a.add 1) (acc.push x.toNat.toUInt8) (fun j y hy=>by
   have:=h (j+1) y (by simpa using hy)
   have e:(a.add 1).add j=a.add (j+1):=by
    unfold Addr.add
    by_cases hj:j=0
    ·subst hj;simp
    ·simp[hj];omega
   rw[e];exact this)
  simp only[List.length_cons,loadBytes,Sem.run_bind,run_load,h0,Result.andThen]
  rw[ih]
  congr 1
  apply ByteArray.ext
  simp[ByteArray.push]
theorem Hb (pt it ty e:TypeId) (hp:P.underlying pt=some (.pointer e)) (hc:P.cellsOf e=1) (b o:Nat) (c:Array Value) (fz:Nat×Nat) (hrow:w.heap[b]? =some (.cells c e fz)) (ns:List Int) (h0:ns≠ []) (h63:ns.length<=9223372036854775807)
  (hcell:∀j x,ns[j]? =some x->w.cell? ((⟨b,o,none⟩:Addr).add j)=some (.int .u8 x)):
  (Builtin.unsafeString_ #[pt,it] ty #[.pointer (some ⟨b,o,none⟩),.int .i64 ns.length]).run P w= .ok (.string ⟨(ns.map fun n=>UInt8.ofNat n.toNat).toArray⟩) (w.freeze ⟨b,o,none⟩ ns.length):=by
 have hl:ns.length≠0:=by simpa using h0
 have hsh:w.shape? b=some (e,c.size):=by simp[World.shape?,hrow]
 have hon:o+ns.length<=c.size:=by
  have hlast:ns.length-1<ns.length:=by omega
  have:=hcell (ns.length-1) ns[ns.length-1] (List.getElem?_eq_getElem hlast)
  rw[Bl]at this
  unfold World.cell? at this
  simp only[hrow]at this
  simp at this
  have:=(Array.getElem?_eq_some_iff.1 this).1
  omega
 have hlb:=I0 (P:=P) w ns ⟨b,o,none⟩ .empty hcell
 have hlies:=P6 (P:=P) hc (c.size/P.cellsOf e) o ns.length (by rw[hc];simpa using hon)
 have h63':¬(9223372036854775807:Int)<(ns.length:Int):=by omega
 have hdef:Builtin.unsafeString_ #[pt,it] ty #[.pointer (some ⟨b,o,none⟩),.int .i64 ns.length]=
   (do
    let n<-asInt (.int .i64 ns.length)
    if n < 0 then runtimePanic (.error "unsafe.String: len out of range")
    if n > IntKind.i64.max then unsupported (.unsafePointer "String: a length above the largest int")
    if n=0 then pure (.string .empty)
    else if<-variablesAt ⟨b,o,none⟩ (<-elemOf pt) n.toNat then do
     let s<-loadBytes ⟨b,o,none⟩ .empty n.toNat
     freeze ⟨b,o,none⟩ n.toNat
     pure (.string s)
    else unsupported (.unsafePointer "String: not so many bytes at ptr")) := rfl
 rw[hdef]
 have hmax:IntKind.i64.max=9223372036854775807:=rfl
 have hneg:¬(ns.length:Int)<0:=by omega
 simp[asInt,asIntOf,hmax,h63',hneg,hl,variablesAt,hsh,elemOf,run_underlying hp,hlies,hlb]
def DA (w:World) (b:Nat) (o:Obj):World:={w with heap:=w.heap.setIfInBounds b o}
theorem Fq (w:World) (b:Nat) (o:Obj) (k:Nat) (h:k≠b):(DA w b o).heap[k]? =w.heap[k]? :=by
 simp only[DA]
 rw[Array.getElem?_setIfInBounds_ne (Ne.symm h)]
theorem GO {B:Nat} {a w:World} (h:Below B a w) {b:Nat} (hb:B<=b) (o:Obj):Below B a (DA w b o):=
 h.trans ⟨rfl,rfl,rfl,by simp[DA],fun k hk=>Fq _ _ _ _ (by omega)⟩
theorem JC {k:B8} {v:TV}:∀{es:List (B8×TV)},AA k es=none->FD k v es=es++[(k,v)]
 | [],_=>rfl
 | (k',v')::es,h=>by
  simp only[AA]at h
  split at h
  ·cases h
  ·rename_i hk;simp only[FD,hk];rw[JC h];rfl
theorem OD {k:B8} {v:TV}:∀{es:List (B8×TV)} {i:Nat} {u:TV},es[i]? =some (k,u)->(∀j,j<i->∀kk vv,es[j]? =some (kk,vv)->k≠kk)->FD k v es=es.set i (k,v)
 | [],i,u,h,_=>by simp at h
 | (k',v')::es,0,u,h,_=>by
  simp only[List.getElem?_cons_zero,Option.some.injEq,Prod.mk.injEq]at h
  simp[FD,h.1]
 | (k',v')::es,i+1,u,h,hj=>by
  have hne:k≠k':=hj 0 (by omega) k' v' rfl
  simp only[FD,hne,decide_false,List.set_cons_succ]
  rw[OD (by simpa using h) (fun j h1 kk vv h2=>hj (j+1) (by omega) kk vv (by simpa using h2))]
theorem L8 {t kt et:TypeId} (ht:P.underlying t=some (.map kt et)) (hkt:P.underlying kt=some .string) {b:Nat} {ms:Array MapEntry} {c:Nat} (hb:w.heap[b]? =some (.map ms c)) {es:List (B8×TV)} (hl:es.length=ms.toList.length)
  (hm:∀(i:Nat) (k:B8) (v:TV),es[i]? =some (k,v)->∃e:MapEntry,ms.toList[i]? =some e/\e.key=Value.string ⟨k.toArray⟩/\Rel g w v e.val) {k:B8} {v:TV} {vv:Value} (hv:Rel g w v vv):
  ∃(ms':Array MapEntry) (c':Nat),(Instr.mapUpdate t (.map (some b)) (.string ⟨k.toArray⟩) vv).run P w= .ok () (DA w b (.map ms' c'))/\(FD k v es).length=ms'.toList.length/\
   ∀(i:Nat) (kk:B8) (u:TV),(FD k v es)[i]? =some (kk,u)->∃e:MapEntry,ms'.toList[i]? =some e/\e.key=Value.string ⟨kk.toArray⟩/\Rel g w u e.val:=by
 have hg:(getObj b).run P w= .ok (.map ms c) w:=by simp[getObj,Sem.run,hb]
 rcases Ib (P:=P) hkt (k:=k) hl hm with⟨h1,h2⟩ | ⟨u,i,e,h1,h2,h3,h4,h5,⟨kk,h6,hkk⟩,h7⟩
 ·refine⟨ms.push {key:= .string ⟨k.toArray⟩,val:=vv,born:=c},c+1,?_,?_,?_⟩
  ·simp only[Instr.mapUpdate,Sem.run_bind,As ht,Result.andThen_ok,hg,DG hkt,h2]
   simp[setObj,Sem.run,hb,DA]
  ·rw[JC h1];simp;simpa using hl
  ·intro i kk u hi
   rw[JC h1]at hi
   by_cases hlt:i<es.length
   ·rw[List.getElem?_append_left hlt]at hi
    obtain⟨e,e1,e2,e3⟩:=hm i kk u hi
    exact⟨e,by rw[Array.toList_push,List.getElem?_append_left (by omega)];exact e1,e2,e3⟩
   ·rw[List.getElem?_append_right (by omega)]at hi
    have hi0:i-es.length=0:=by
     have:=(List.getElem?_eq_some_iff.1 hi).1
     simp at this;omega
    rw[hi0]at hi
    simp only[List.getElem?_cons_zero,Option.some.injEq,Prod.mk.injEq]at hi
    obtain⟨rfl,rfl⟩:=hi
    refine⟨{key:= .string ⟨k.toArray⟩,val:=vv,born:=c},?_,rfl,hv⟩
    rw[Array.toList_push,List.getElem?_append_right (by omega),show i-ms.toList.length=0 by omega];rfl
 ·subst hkk
  have hset:FD k v es=es.set i (k,v):=OD h6 h7
  have hil:i<ms.size:=by have:=(List.getElem?_eq_some_iff.1 h3).1;simpa using this
  have hme:ms[i]? =some e:=by rw[<-Array.getElem?_toList];exact h3
  refine⟨ms.modify i fun e=>{e with key:= .string ⟨k.toArray⟩,val:=vv},c,?_,?_,?_⟩
  ·have hstay:(Instr.keyThatStays (((ms[i]?).map (·.key)).getD (.string ⟨k.toArray⟩)) (.string ⟨k.toArray⟩)).run P w= .ok (.string ⟨k.toArray⟩) w:=by
    rw[hme]
    have hbb:((⟨k.toArray⟩:ByteArray)==⟨k.toArray⟩)=true:=by rw[beq_toListBytes];exact beq_self_eq_true _
    simp[Instr.keyThatStays,h4,Instr.sameBits,hbb]
   simp only[Instr.mapUpdate,Sem.run_bind,As ht,Result.andThen_ok,hg,DG hkt,h2,hstay]
   simp[setObj,Sem.run,hb,DA]
  ·rw[hset];simp;simpa using hl
  ·intro j kk' u' hj
   rw[hset]at hj
   by_cases hij:i=j
   ·subst hij
    have hlt:i<es.length:=by have:=(List.getElem?_eq_some_iff.1 h6).1;exact this
    rw[List.getElem?_set_self hlt]at hj
    simp only[Option.some.injEq,Prod.mk.injEq]at hj
    obtain⟨rfl,rfl⟩:=hj
    refine⟨{e with key:= .string ⟨k.toArray⟩,val:=vv},?_,rfl,hv⟩
    rw[Array.getElem?_toList,Array.getElem?_modify,if_pos rfl,hme];rfl
   ·rw[List.getElem?_set_ne hij]at hj
    obtain⟨e',e1,e2,e3⟩:=hm j kk' u' hj
    refine⟨e',?_,e2,e3⟩
    rw[Array.getElem?_toList,Array.getElem?_modify,if_neg hij,<-Array.getElem?_toList];exact e1
theorem JB {k:Nat} {v:TV}:∀{es:List (Nat×TV)},BD k es=none->Ew k v es=es++[(k,v)]
 | [],_=>rfl
 | (k',v')::es,h=>by
  simp only[BD]at h
  cases hk:Nat.beq k k' with
  | true=>rw[hk]at h;cases h
  | false=>rw[hk]at h;simp only[Ew,hk,List.cons_append,JB h]
theorem OC {k:Nat} {v:TV}:∀{es:List (Nat×TV)} {i:Nat} {u:TV},es[i]? =some (k,u)->(∀j,j<i->∀kk vv,es[j]? =some (kk,vv)->k≠kk)->Ew k v es=es.set i (k,v)
 | [],i,u,h,_=>by simp at h
 | (k',v')::es,0,u,h,_=>by
  simp only[List.getElem?_cons_zero,Option.some.injEq,Prod.mk.injEq]at h
  obtain⟨rfl,_⟩:=h
  simp[Ew]
 | (k',v')::es,i+1,u,h,hj=>by
  have hne:k≠k':=hj 0 (by omega) k' v' rfl
  simp only[Ew,Ey hne,List.set_cons_succ]
  rw[OC (by simpa using h) (fun j h1 kk vv h2=>hj (j+1) (by omega) kk vv (by simpa using h2))]
theorem MN {k:Nat}:∀{es:List (Nat×TV)},BD k es=none->GL k es=es
 | [],_=>rfl
 | (k',v')::es,h=>by
  simp only[BD]at h
  cases hk:Nat.beq k k' with
  | true=>rw[hk]at h;cases h
  | false=>rw[hk]at h;simp only[GL,hk,MN h]
theorem LB {k:Nat}:∀{es:List (Nat×TV)} {i:Nat} {u:TV},es[i]? =some (k,u)->(∀j,j<i->∀kk vv,es[j]? =some (kk,vv)->k≠kk)->GL k es=es.eraseIdx i
 | [],i,u,h,_=>by simp at h
 | (k',v')::es,0,u,h,_=>by
  simp only[List.getElem?_cons_zero,Option.some.injEq,Prod.mk.injEq]at h
  obtain⟨rfl,_⟩:=h
  simp[GL]
 | (k',v')::es,i+1,u,h,hj=>by
  have hne:k≠k':=hj 0 (by omega) k' v' rfl
  simp only[GL,Ey hne,List.eraseIdx_cons_succ]
  rw[LB (by simpa using h) (fun j h1 kk vv h2=>hj (j+1) (by omega) kk vv (by simpa using h2))]
def Sk (g:Ghost) (w:World) (es:List (Nat×TV)) (ms:Array MapEntry):Prop:=es.length=ms.toList.length/\∀(i k:Nat) (v:TV),es[i]? =some (k,v)->k<g.nb/\∃e:MapEntry,ms.toList[i]? =some e/\e.key=Value.pointer (some ⟨g.bk k,0,none⟩)/\Rel g w v e.val
theorem K7 (s:Sim g st loc w) {t kt et pe:TypeId} (ht:P.underlying t=some (.map kt et)) (hkt:P.underlying kt=some (.pointer pe)) (hp:P.cellsOf pe≠0) {b:Nat} {ms:Array MapEntry} {c:Nat} (hb:w.heap[b]? =some (.map ms c)) {es:List (Nat×TV)} (hm:Sk g w es ms)
  {k:Nat} (hkb:k<st.nb) (hkc:Ao st k=true) (hc:(es.all fun p=>Ao st p.1)=true) {v:TV} {vv:Value} (hv:Rel g w v vv):
  ∃(ms':Array MapEntry) (c':Nat),(Instr.mapUpdate t (.map (some b)) (.pointer (some ⟨g.bk k,0,none⟩)) vv).run P w= .ok () (DA w b (.map ms' c'))/\Sk g w (Ew k v es) ms':=by
 have hg:(getObj b).run P w= .ok (.map ms c) w:=by simp[getObj,Sem.run,hb]
 obtain⟨hl,hm⟩:=hm
 rcases FO (P:=P) s hkt hp hkb hkc hl hm hc with⟨h1,h2⟩ | ⟨u,i,e,h1,h2,h3,h4,h5,h6,h7⟩
 ·refine⟨ms.push {key:= .pointer (some ⟨g.bk k,0,none⟩),val:=vv,born:=c},c+1,?_,?_,?_⟩
  ·simp only[Instr.mapUpdate,Sem.run_bind,As ht,Result.andThen_ok,hg,B0 hkt,h2]
   simp[setObj,Sem.run,hb,DA]
  ·rw[JB h1];simp;simpa using hl
  ·intro i kk u hi
   rw[JB h1]at hi
   by_cases hlt:i<es.length
   ·rw[List.getElem?_append_left hlt]at hi
    obtain⟨e0,e,e1,e2,e3⟩:=hm i kk u hi
    exact⟨e0,e,by rw[Array.toList_push,List.getElem?_append_left (by omega)];exact e1,e2,e3⟩
   ·rw[List.getElem?_append_right (by omega)]at hi
    have hi0:i-es.length=0:=by
     have:=(List.getElem?_eq_some_iff.1 hi).1
     simp at this;omega
    rw[hi0]at hi
    simp only[List.getElem?_cons_zero,Option.some.injEq,Prod.mk.injEq]at hi
    obtain⟨rfl,rfl⟩:=hi
    refine⟨by rw[s.nb];exact hkb,{key:= .pointer (some ⟨g.bk k,0,none⟩),val:=vv,born:=c},?_,rfl,hv⟩
    rw[Array.toList_push,List.getElem?_append_right (by omega),show i-ms.toList.length=0 by omega];rfl
 ·have hset:Ew k v es=es.set i (k,v):=OC h6 h7
  have hme:ms[i]? =some e:=by rw[<-Array.getElem?_toList];exact h3
  refine⟨ms.modify i fun e=>{e with key:= .pointer (some ⟨g.bk k,0,none⟩),val:=vv},c,?_,?_,?_⟩
  ·have hstay:(Instr.keyThatStays (((ms[i]?).map (·.key)).getD (.pointer (some ⟨g.bk k,0,none⟩))) (.pointer (some ⟨g.bk k,0,none⟩))).run P w= .ok (.pointer (some ⟨g.bk k,0,none⟩)) w:=by
    rw[hme]
    simp[Instr.keyThatStays,h4,Instr.sameBits]
   simp only[Instr.mapUpdate,Sem.run_bind,As ht,Result.andThen_ok,hg,B0 hkt,h2,hstay]
   simp[setObj,Sem.run,hb,DA]
  ·rw[hset];simp;simpa using hl
  ·intro j kk' u' hj
   rw[hset]at hj
   by_cases hij:i=j
   ·subst hij
    have hlt:i<es.length:=(List.getElem?_eq_some_iff.1 h6).1
    rw[List.getElem?_set_self hlt]at hj
    simp only[Option.some.injEq,Prod.mk.injEq]at hj
    obtain⟨rfl,rfl⟩:=hj
    refine⟨by rw[s.nb];exact hkb,{e with key:= .pointer (some ⟨g.bk k,0,none⟩),val:=vv},?_,rfl,hv⟩
    rw[Array.getElem?_toList,Array.getElem?_modify,if_pos rfl,hme];rfl
   ·rw[List.getElem?_set_ne hij]at hj
    obtain⟨e0,e',e1,e2,e3⟩:=hm j kk' u' hj
    refine⟨e0,e',?_,e2,e3⟩
    rw[Array.getElem?_toList,Array.getElem?_modify,if_neg hij,<-Array.getElem?_toList];exact e1
theorem K9 (s:Sim g st loc w) {t kt et pe t2 ty:TypeId} (ht:P.underlying t=some (.map kt et)) (hkt:P.underlying kt=some (.pointer pe)) (hp:P.cellsOf pe≠0) {b:Nat} {ms:Array MapEntry} {c:Nat} (hb:w.heap[b]? =some (.map ms c)) {es:List (Nat×TV)} (hm:Sk g w es ms)
  {k:Nat} (hkb:k<st.nb) (hkc:Ao st k=true) (hc:(es.all fun p=>Ao st p.1)=true):
  ∃ms':Array MapEntry,(Builtin.delete_ #[t,t2] ty #[.map (some b),.pointer (some ⟨g.bk k,0,none⟩)]).run P w= .ok (.tuple #[]) (DA w b (.map ms' c))/\Sk g w (GL k es) ms':=by
 have hg:(getObj b).run P w= .ok (.map ms c) w:=by simp[getObj,Sem.run,hb]
 obtain⟨hl,hm⟩:=hm
 rcases FO (P:=P) s hkt hp hkb hkc hl hm hc with⟨h1,h2⟩ | ⟨u,i,e,h1,h2,h3,h4,h5,h6,h7⟩
 ·refine⟨ms,?_,by rw[MN h1];exact⟨hl,hm⟩⟩
  simp only[Builtin.delete_,List.getElem?_toArray,Sem.run_bind,As ht,Result.andThen_ok,hg,B0 hkt,h2]
  simp[setObj,Sem.run,hb,DA,As ht,hg,B0 hkt,h2]
 ·have hil:i<ms.size:=by have:=(List.getElem?_eq_some_iff.1 h3).1;simpa using this
  refine⟨ms.eraseIdxIfInBounds i,?_,?_,?_⟩
  ·simp only[Builtin.delete_,List.getElem?_toArray,Sem.run_bind,As ht,Result.andThen_ok,hg,B0 hkt,h2]
   simp[setObj,Sem.run,hb,DA,As ht,hg,B0 hkt,h2]
  ·rw[LB h6 h7]
   simp[Array.eraseIdxIfInBounds,hil,List.length_eraseIdx]
   have:=(List.getElem?_eq_some_iff.1 h6).1
   rw[if_pos this]
   simpa using congrArg (· -1) hl
  ·intro j kk u' hj
   rw[LB h6 h7,List.getElem?_eraseIdx]at hj
   have ha:(ms.eraseIdxIfInBounds i).toList=ms.toList.eraseIdx i:=by simp[Array.eraseIdxIfInBounds,hil]
   rw[ha,List.getElem?_eraseIdx]
   split at hj
   ·rename_i hji
    rw[if_pos hji];exact hm j kk u' hj
   ·rename_i hji
    rw[if_neg hji];exact hm (j+1) kk u' hj
set_option maxHeartbeats 2000000 in
theorem ML (s:Sim g st loc w) {cfg:Cfg} {ρ:Operand->SV} {ρc:Operand->Value} (o:Oper) (hρ:∀x,x∈o.op.operands->Bp g w loc (ρ x) (ρc x)) {K:SV->List (Option (List TV))->St->Prop}
  (h:eop cfg P o.dst o.type o.op ρ loc st K):Cy P (execOp ρc o) w (Em g w loc K):=by
 obtain⟨dst,op,type,pos,after,guard⟩:=o
 simp only at hρ h
 unfold eop at h
 split at h
 ·--alloc
  rename_i t
  split at h
  ·rename_i cells hz
   obtain⟨z,hrun,rfl⟩:=HE hz w
   refine FQ (u:= .pointer (some ⟨w.heap.size,0,none⟩)) (w':=w.alloc (.cells z.cells t)) ?_ (Fx s t (HF g w z.cells.toList) h)
   simp[Instr.alloc,hrun,newVar,newRow]
  ·exact h.elim
 ·--box
  rename_i t x
  have hx:=(hρ x (by simp[Op.operands])).tv
  have hgo:∀cells,Fb (ρ x).tv=some cells->C8 t (Dc cfg.loc dst) cells loc st K->Cy P (execOp ρc ⟨dst,.box t x,type,pos,after,guard⟩) w (Em g w loc K):=by
   intro cells hc h
   refine FQ (u:= .pointer (some ⟨w.heap.size,0,none⟩)) (w':=w.alloc (.cells (ρc x).cells t)) ?_ (Fx s t (GN hx hc) h)
   simp[Instr.box,newVar,newRow]
  split at h
  ·split at h
   ·rename_i cells hc
    exact hgo cells (by rw[hc];rfl) h
   ·exact h.elim
  ·rw[Ak]at h
   exact hgo _ (IH h.1) h.2
  ·exact h.elim
 ·--buildSlice
  rename_i t len parts
  split at h
  ·rename_i e he
   split at h
   ·rename_i sz z hsz hz
    rw[Ak]at h
    obtain⟨hchk,h⟩:=h
    simp only[Bool.and_eq_true]at hchk
    obtain⟨h1,h2,h3⟩:=hchk
    have h1':=Nat.le_of_ble_eq_true h1
    have h2':=Nat.eq_of_beq_eq_true h2
    have h3':=Nat.le_of_ble_eq_true h3
    split at h
    ·rename_i cells hfillS
     rw[Ak]at h
     obtain⟨hones,h⟩:=h
     have hfill:=HK _ _ _ _ _ hones hfillS
     obtain⟨zv,hzrun,rfl⟩:=HE hz w
     have hzs:zv.cells.size=sz:=by simpa using h2'
     have hp:=KA (g:=g) (w:=w) (loc:=loc) (ρ:=ρ) (ρc:=ρc) parts.toList (fun p hp=>hρ p.2 (by
      simp only[Op.operands,List.mem_toArray,List.mem_map];exact⟨p,hp,rfl⟩))
     have hzr:=Oa (g:=g) (w:=w) zv (len*sz) (.inl (by omega))
     obtain⟨us,hus,hru⟩:=GI _ _ _ _ _ _ hp hzr hfill
     have hlen:cells.length=len*sz:=by rw[Jd _ _ _ _ hfill];simp[Ih]
     refine FQ (u:= .slice (some ⟨w.heap.size,0,none⟩) len len) (w':=w.alloc (.cells us e)) ?_ (Qe s e hru hlen h)
     have hne:¬(len*sz>2^24):=by simp only[Nat.reducePow];omega
     simp only[Instr.buildSlice,Sem.run_bind,As (E6 he),Result.andThen_ok,DN hsz,hne,if_false]
     rw[show(parts.map fun (x:Nat×Operand)=>match x with | (i,x)=>(i,ρc x))=parts.map fun x=>(x.1,ρc x.2)from rfl]
     by_cases h0:len*sz=0
     ·have hfc:Instr.fill (fun i=>some (i*sz,sz)) ((Array.range (len*sz)).map ((#[]:Array Value)[·%(#[]:Array Value).size]!)) (parts.map fun x=>(x.1,ρc x.2)).toList=some us:=by
       have e0:∀f:Nat->Value,(Array.range 0).map f= #[]:=fun f=>by simp
       rw[<-hus,Array.toList_map,h0,e0,e0]
      rw[if_pos h0]
      simp only[Sem.run_bind,Sem.run_pure,Result.andThen_ok,hfc]
      simp[newRow]
     ·have hfc:Instr.fill (fun i=>some (i*sz,sz)) ((Array.range (len*sz)).map (zv.cells[·%zv.cells.size]!)) (parts.map fun x=>(x.1,ρc x.2)).toList=some us:=by
       rw[<-hus,Array.toList_map]
      rw[if_neg h0]
      simp only[Sem.run_bind,Sem.run_pure,hzrun,Result.andThen_ok,hfc]
      simp[newRow]
    ·exact h.elim
   ·exact h.elim
  ·exact h.elim
 ·--build
  rename_i t parts
  split at h
  ·rename_i z fs hz hu
   split at h
   ·rename_i cells hfillS
    rw[Ak,Ak]at h
    obtain⟨hall,hones,h⟩:=h
    have hfill:=HK _ _ _ _ _ hones hfillS
    obtain⟨zv,hzrun,rfl⟩:=HE hz w
    have hp:=KA (g:=g) (w:=w) (loc:=loc) (ρ:=ρ) (ρc:=ρc) parts.toList (fun p hp=>hρ p.2 (by
     simp only[Op.operands,List.mem_toArray,List.mem_map];exact⟨p,hp,rfl⟩))
    obtain⟨us,hus,hru⟩:=GI _ _ _ _ _ _ hp (HF g w zv.cells.toList) hfill
    have hplaces:(fs.mapM (fun (f:Field)=>(do pure (f.offset,<-sizeOf f.type):Sem (Nat×Nat))):Sem (Array (Nat×Nat))).run P w= .ok (fs.map fun (f:Field)=>(f.offset,(D1 P f.type).getD 0)) w:=by
     have hl:∀l:List Field,(l.all fun (f:Field)=>(D1 P f.type).isSome)=true->(l.mapM (fun (f:Field)=>(do pure (f.offset,<-sizeOf f.type):Sem (Nat×Nat))):Sem (List (Nat×Nat))).run P w= .ok (l.map fun (f:Field)=>(f.offset,(D1 P f.type).getD 0)) w:=by
      intro l
      induction l with
      | nil=>intro _;rfl
      | cons f l ih=>
       intro ha
       simp only[List.all_cons,Bool.and_eq_true]at ha
       obtain⟨n,hn⟩:=Option.isSome_iff_exists.1 ha.1
       simp only[List.mapM_cons,Sem.run_bind,DN hn,Result.andThen_ok,Sem.run_pure,ih ha.2,List.map_cons,hn,Option.getD_some]
     rw[<-Array.toArray_toList (xs:=fs)]
     rw[List.mapM_toArray]
     simp only[Sem.run_map,hl fs.toList hall,Result.andThen_ok,List.map_toArray]
    have hf:PX P fs=((fs.map fun (f:Field)=>(f.offset,(D1 P f.type).getD 0))[·]?):=by
     funext i
     simp only[Array.getElem?_map,PX]
     cases hfi:fs[i]? with
     | none=>rfl
     | some f=>
      have:=List.all_eq_true.1 hall f (by rw[Array.mem_toList_iff];exact Array.mem_of_getElem? hfi)
      obtain⟨n,hn⟩:=Option.isSome_iff_exists.1 this
      simp[hn]
    rw[hf]at hus
    refine FQ (u:= .agg us) (w':=w) ?_ ⟨_,_,_,g,h,s,?_,Ext.refl _ _,Bt.refl _ _⟩
    ·simp only[Instr.build,Sem.run_bind,hzrun,Result.andThen_ok,As hu,hplaces]
     rw[show(parts.map fun (x:Nat×Operand)=>match x with | (i,x)=>(i,ρc x)).toList=parts.toList.map fun x=>(x.1,ρc x.2)from by simp]
     rw[hus]
     rfl
    ·have:=Rel.agg (g:=g) (w:=w) cells us.toList hru.1 hru.2
     simp only[Array.toArray_toList]at this
     exact this
   ·exact h.elim
  ·rename_i z m e hz hu
   split at h
   ·rename_i sz hsz
    split at h
    ·rename_i cells hfillS
     rw[Ak]at h
     obtain⟨hones,h⟩:=h
     have hfill:=HK _ _ _ _ _ hones hfillS
     obtain⟨zv,hzrun,rfl⟩:=HE hz w
     have hp:=KA (g:=g) (w:=w) (loc:=loc) (ρ:=ρ) (ρc:=ρc) parts.toList (fun p hp=>hρ p.2 (by
      simp only[Op.operands,List.mem_toArray,List.mem_map];exact⟨p,hp,rfl⟩))
     obtain⟨us,hus,hru⟩:=GI _ _ _ _ _ _ hp (HF g w zv.cells.toList) hfill
     refine FQ (u:= .agg us) (w':=w) ?_ ⟨_,_,_,g,h,s,?_,Ext.refl _ _,Bt.refl _ _⟩
     ·simp only[Instr.build,Sem.run_bind,hzrun,Result.andThen_ok,As hu,DN hsz]
      rw[show(parts.map fun (x:Nat×Operand)=>match x with | (i,x)=>(i,ρc x)).toList=parts.toList.map fun x=>(x.1,ρc x.2)from by simp]
      rw[hus]
      rfl
     ·have:=Rel.agg (g:=g) (w:=w) cells us.toList hru.1 hru.2
      simp only[Array.toArray_toList]at this
      exact this
    ·exact h.elim
   ·exact h.elim
  ·exact h.elim
 ·--store
  rename_i t a x
  have hgo:∀xs d,Fb (ρ x).tv=some xs->P.underlying t=some d->xs.length=P.cellsOf t->xs.all At=true->(stK st loc (ρ a) xs fun loc' st'=>K (.t .undef) loc' st')->Cy P (execOp ρc ⟨dst,.store t a x,type,pos,after,guard⟩) w (Em g w loc K):=by
   intro xs d hxs hd h1 h2 h
   obtain⟨w',loc',st',hrun,hk,s',e',hkeep⟩:=Om (P:=P) hd s (hρ a (by simp[Op.operands])) (hρ x (by simp[Op.operands])).tv hxs h1 h2 h
   have:Em g w loc K Go.undef w':=⟨_,loc',st',g,hk,s',Rel.undef,e',fun i y hi=>⟨rfl,hkeep i y hi⟩⟩
   simpa [Cy,execOp,hrun]using this
  have hund:∀b,II P t=some b->∃d,P.underlying t=some d:=fun b hb=>(FY hb w).2
  split at h
  ·rename_i hag
   obtain⟨d,hd⟩:=hund _ hag
   split at h
   ·rename_i xs hxs
    rw[Ak,Ak]at h
    exact hgo xs d (by rw[hxs];rfl) hd (Nat.eq_of_beq_eq_true h.1) h.2.1 h.2.2
   ·exact h.elim
  ·rename_i hag
   obtain⟨d,hd⟩:=hund _ hag
   rw[Ak,Ak]at h
   exact hgo _ d (IH (by simpa using h.2.1)) hd (Nat.eq_of_beq_eq_true h.1) h.2.1 h.2.2
  ·exact h.elim
 ·--call
  rename_i f args ts
  unfold Et at h
  split at h
  ·rename_i fid caps hf
   have hfv:=(hρ f (by simp[Op.operands,Call.operands])).tv
   rw[hf]at hfv
   generalize hq:ρc f=q at hfv
   cases hfv with
   | func _ _ vs hl hr=>
    have hargs:AL g w (args.toList.map (fun x=>(ρ x).tv)++caps) (args.toList.map ρc++vs):=by
     refine AL.append ⟨by simp,fun i hi=>?_⟩ ⟨hl,hr⟩
     have hi':i<args.toList.length:=by simpa using hi
     simp only[List.getElem_map,List.getD_eq_getElem?_getD,List.getElem?_map,List.getElem?_eq_getElem hi',Option.map_some,Option.getD_some]
     exact(hρ _ (by simp only[Op.operands,Call.operands,Array.mem_append];right;exact Array.mem_toList_iff.1 (List.getElem_mem hi'))).tv
    have hc:=Qy s hargs h
    have hrun:(execOp ρc ⟨dst,.call {callee:= .value f,args:=args,argTypes:=ts},type,pos,after,guard⟩).run P w=(callFunc fid (args.toList.map ρc++vs).toArray).run P w:=by
     simp only[execOp,resolve,Sem.run_bind,hq,Deferred.ofValue,Sem.run_pure,Result.andThen_ok,invoke]
     rw[show(#[]++args.map ρc++vs.toArray)=(args.toList.map ρc++vs).toArray from Array.ext' (by simp)]
    refine Cy.congr hrun (hc.mono ?_)
    rintro v w' ⟨sv,loc',st',g',⟨r,rfl,rfl,hR⟩,h2,h3,h4,h5⟩
    exact⟨_,_,st',g',Jn (F:=fun v st'=>K (.t v) loc' st') (k:=fun p=>p st') hR,h2,h3,h4,h5⟩
  ·exact h.elim
 ·--makeMap
  rename_i t r
  have hnewO:∀o:HU,FS g (w.alloc (.map #[] 0)) w.heap.size o->K (.t (.map st.nb)) loc (st.push o none)->Em g w loc K (.map (some w.heap.size)) (w.alloc (.map #[] 0)):=by
   intro o ho hK
   obtain⟨s1,e1,fr⟩:=s.alloc (.map #[] 0)
   obtain⟨s2,e2,hbk⟩:=s1.push fr (by simp) ho (T:=none) (fun t ht=>by cases ht)
   refine⟨_,_,_,_,hK,s2,?_,e1.trans e2,fun i x hi=>⟨rfl,x,hi⟩⟩
   have:=Rel.map (g:=g.push w.heap.size) (w:=w.alloc (.map #[] 0)) st.nb (by simp only[Ghost.push,s.nb];omega)
   rw[hbk]at this
   exact this
  have hnew:K (.t (.map st.nb)) loc (st.push (.map []) none)->Em g w loc K (.map (some w.heap.size)) (w.alloc (.map #[] 0)):=hnewO _ ⟨#[],0,BK _ _,rfl,fun i k v hi=>by simp at hi⟩
  have hnewP:K (.t (.map st.nb)) loc (st.push (.pmap []) none)->Em g w loc K (.map (some w.heap.size)) (w.alloc (.map #[] 0)):=hnewO _ ⟨#[],0,BK _ _,rfl,fun i k v hi=>by simp at hi⟩
  split at h
  ·rename_i kt e ht hr
   have hrn:r=none:=by cases r<;>simp at hr⊢
   subst hrn
   refine FQ (u:= .map (some w.heap.size)) (w':=w.alloc (.map #[] 0)) ?_ (by split at h;exact hnewP h;exact hnew h)
   simp[Instr.makeMap]
  ·rename_i kt e k n ht hr
   obtain⟨x,hx,hxe⟩:=Option.map_eq_some_iff.1 hr
   subst hx
   have hxr:=(hρ x (by simp[Op.operands])).tv
   rw[hxe]at hxr
   have hxc:ρc x= .int k n:=by generalize ρc x=q at hxr;cases hxr;rfl
   refine FQ (u:= .map (some w.heap.size)) (w':=w.alloc (.map #[] 0)) ?_ (hnew h)
   simp[Instr.makeMap,hxc,As ht,asInt,asIntOf]
  ·exact h.elim
 ·--mapUpdate
  rename_i t m k v
  have hput:∀{b:Nat} {es:List (Nat×TV)} {ms':Array MapEntry} {c c':Nat} {ms:Array MapEntry} {es':List (Nat×TV)},b<st.nb->st.box b= .pmap es->w.heap[g.bk b]? =some (.map ms c)->Sk g w es' ms'->Sim g (st.put b (.pmap es')) loc (DA w (g.bk b) (.map ms' c'))/\Ext g w g (DA w (g.bk b) (.map ms' c')):=by
   intro b es ms' c c' ms es' hlt' hes hb hm
   exact s.putKey (st':=st.put b (.pmap es')) (loc':=loc) (w':=DA w (g.bk b) (.map ms' c')) (.box b) hlt' rfl rfl rfl rfl rfl (fun k d=>by cases k<;>exact d)
    (fun k _ hne=>by
     cases k with
     | box i=>have:i≠b:=fun h=>hne (by rw[h]);simp[A3,St.put,this]
     | loc i=>rfl) (by simp[DA]) (fun k hk=>Fq _ _ _ _ hk) (GO s.below (s.lo (.box b) hlt').1 _)
    (fun e=>by
     simp only[A3,St.put,if_true,Ghost.at]
     refine⟨ms',c',?_,hm.1,fun i k v hi=>?_⟩
     ·simp only[DA]
      have:=(Array.getElem?_eq_some_iff.1 hb).1
      simp[this]
     ·obtain⟨h0,e',h1,h2,h3⟩:=hm.2 i k v hi
      exact⟨h0,e',h1,h2,h3.ext e⟩)
    (fun T hT=>by obtain⟨c2,fz,h2⟩:=hT;simp only[Ghost.at]at h2;rw[hb]at h2;cases h2)
  split at h
  ·rename_i kt e ht
   split at h
   ·rename_i hkt
    split at h
    ·rename_i key hk
     rw[Ak]at h
     obtain⟨hone,h⟩:=h
     unfold muK at h
     split at h<;>first | exact h.elim | skip
     rename_i b hm
     obtain⟨es,hes,hK⟩:=h
     have hmr:=(hρ m (by simp[Op.operands])).tv
     have hkr:=(hρ k (by simp[Op.operands])).tv
     have hvr:=(hρ v (by simp[Op.operands])).tv
     rw[hm]at hmr
     rw[hk]at hkr
     have hkc:ρc k= .string ⟨key.toArray⟩:=by generalize ρc k=q at hkr;cases hkr;rfl
     generalize hq:ρc m=q at hmr
     cases hmr with
     | map _ hlt=>
      have hlt':b<st.nb:=by rw[<-s.nb];exact hlt
      have ob:=s.obj (.box b) hlt'
      simp only[A3,hes,Ghost.at]at ob
      obtain⟨ms,c,hb,hl,hmm⟩:=ob
      obtain⟨ms',c',hrun,hl',hmm'⟩:=L8 (P:=P) ht hkt hb hl hmm hvr
      have hput:=s.putKey (st':=st.put b (.map (FD key (ρ v).tv es))) (loc':=loc) (w':=DA w (g.bk b) (.map ms' c')) (.box b) hlt' rfl rfl rfl rfl rfl (fun k d=>by cases k<;>exact d)
       (fun k _ hne=>by
        cases k with
        | box i=>have:i≠b:=fun h=>hne (by rw[h]);simp[A3,St.put,this]
        | loc i=>rfl) (by simp[DA]) (fun k hk=>Fq _ _ _ _ hk) (GO s.below (s.lo (.box b) hlt').1 _)
       (fun e=>by
        simp only[A3,St.put,if_true,Ghost.at]
        refine⟨ms',c',?_,hl',fun i k v hi=>?_⟩
        ·simp only[DA]
         have:=(Array.getElem?_eq_some_iff.1 hb).1
         simp[this]
        ·obtain⟨e',h1,h2,h3⟩:=hmm' i k v hi
         exact⟨e',h1,h2,h3.ext e⟩)
       (fun T hT=>by obtain⟨c2,fz,h2⟩:=hT;simp only[Ghost.at]at h2;rw[hb]at h2;cases h2)
      have:Em g w loc K Go.undef (DA w (g.bk b) (.map ms' c')):=⟨_,loc,_,g,hK,hput.1,Rel.undef,hput.2,fun i y hi=>⟨rfl,y,hi⟩⟩
      simpa [Cy,execOp,hq,hkc,hrun]using this
    ·exact h.elim
   ·rename_i pe hkt
    split at h
    ·rename_i n hn
     rw[Ak]at h
     obtain⟨hone,h⟩:=h
     unfold puK at h
     obtain⟨⟨es,kk⟩,hp,hK⟩:=BY.1 h
     have hmr:=(hρ m (by simp[Op.operands])).tv
     have hkr:=(hρ k (by simp[Op.operands])).tv
     have hvr:=(hρ v (by simp[Op.operands])).tv
     obtain⟨hkc,hk1,hk2,hc,mb,b,ms,c,hmb,hlt',hes,rfl,hq,hb,hl,hmm⟩:=Iw s hmr hkr hp
     obtain⟨ms',c',hrun,hm'⟩:=K7 (P:=P) s ht hkt (by omega) hb ⟨hl,hmm⟩ hk1 hk2 hc hvr
     obtain⟨s2,e2⟩:=hput (c':=c') hlt' hes hb hm'
     rw[hmb]at hK
     have:Em g w loc K Go.undef (DA w (g.bk mb) (.map ms' c')):=⟨_,loc,_,g,hK,s2,Rel.undef,e2,fun i y hi=>⟨rfl,y,hi⟩⟩
     simpa [Cy,execOp,hq,hkc,hrun]using this
    ·exact h.elim
   ·exact h.elim
  ·exact h.elim
 ·--delete
  rename_i args ts
  have hput:∀{b:Nat} {es:List (Nat×TV)} {ms':Array MapEntry} {c c':Nat} {ms:Array MapEntry} {es':List (Nat×TV)},b<st.nb->st.box b= .pmap es->w.heap[g.bk b]? =some (.map ms c)->Sk g w es' ms'->Sim g (st.put b (.pmap es')) loc (DA w (g.bk b) (.map ms' c'))/\Ext g w g (DA w (g.bk b) (.map ms' c')):=by
   intro b es ms' c c' ms es' hlt' hes hb hm
   exact s.putKey (st':=st.put b (.pmap es')) (loc':=loc) (w':=DA w (g.bk b) (.map ms' c')) (.box b) hlt' rfl rfl rfl rfl rfl (fun k d=>by cases k<;>exact d)
    (fun k _ hne=>by
     cases k with
     | box i=>have:i≠b:=fun h=>hne (by rw[h]);simp[A3,St.put,this]
     | loc i=>rfl) (by simp[DA]) (fun k hk=>Fq _ _ _ _ hk) (GO s.below (s.lo (.box b) hlt').1 _)
    (fun e=>by
     simp only[A3,St.put,if_true,Ghost.at]
     refine⟨ms',c',?_,hm.1,fun i k v hi=>?_⟩
     ·simp only[DA]
      have:=(Array.getElem?_eq_some_iff.1 hb).1
      simp[this]
     ·obtain⟨h0,e',h1,h2,h3⟩:=hm.2 i k v hi
      exact⟨h0,e',h1,h2,h3.ext e⟩)
    (fun T hT=>by obtain⟨c2,fz,h2⟩:=hT;simp only[Ghost.at]at h2;rw[hb]at h2;cases h2)
  split at h
  ·rename_i m k t t2 hargs hts
   have ha:args= #[m,k]:=by rw[<-Array.toArray_toList (xs:=args),hargs]
   have hta:ts= #[t,t2]:=by rw[<-Array.toArray_toList (xs:=ts),hts]
   subst ha hta
   have hmr:=(hρ m (by simp[Op.operands,Call.operands])).tv
   have hkr:=(hρ k (by simp[Op.operands,Call.operands])).tv
   split at h
   ·rename_i kt e ht
    split at h
    ·rename_i pe hkt
     split at h
     ·rename_i n hn
      unfold pdK at h
      obtain⟨⟨es,kk⟩,hp,hK⟩:=BY.1 h
      obtain⟨hkc,hk1,hk2,hc,mb,b,ms,c,hmb,hlt',hes,rfl,hq,hb,hl,hmm⟩:=Iw s hmr hkr hp
      obtain⟨ms',hrun,hm'⟩:=K9 (P:=P) s (t2:=t2) (ty:=type) ht hkt (by omega) hb ⟨hl,hmm⟩ hk1 hk2 hc
      obtain⟨s2,e2⟩:=hput (c':=c) hlt' hes hb hm'
      rw[hmb]at hK
      have:Em g w loc K (.tuple #[]) (DA w (g.bk mb) (.map ms' c)):=⟨_,loc,_,g,hK,s2,Rel.tuple [] [] rfl fun i h=>absurd h (Nat.not_lt_zero _),e2,fun i y hi=>⟨rfl,y,hi⟩⟩
      simpa [Cy,execOp,resolve,invoke,Go.builtin,hq,hkc,hrun]using this
     ·exact h.elim
    ·exact h.elim
   ·exact h.elim
  ·exact h.elim
 ·--unsafeString
  rename_i args ts
  split at h
  ·rename_i p n pt it hargs hts
   have ha:args= #[p,n]:=by rw[<-Array.toArray_toList (xs:=args),hargs]
   have hta:ts= #[pt,it]:=by rw[<-Array.toArray_toList (xs:=ts),hts]
   subst ha hta
   have hp:=(hρ p (by simp[Op.operands,Call.operands])).tv
   have hn:=(hρ n (by simp[Op.operands,Call.operands])).tv
   split at h
   ·rename_i u hu
    split at h<;>first | exact h.elim | skip
    rename_i m hc hne
    unfold usK at h
    split at h
    ·rename_i hpe
     obtain⟨rfl,hK⟩:=h
     rw[hpe]at hp
     rw[hne]at hn
     have hpc:ρc p= .pointer none:=by generalize ρc p=q at hp;cases hp;rfl
     have hnc:ρc n= .int .i64 0:=by generalize ρc n=q at hn;cases hn;rfl
     have hr:=Lib.run_unsafeString_none (P:=P) w pt it type none
     have:Em g w loc K (.string .empty) w:=⟨_,loc,st,g,hK,s,Rel.str [],Ext.refl _ _,Bt.refl _ _⟩
     simpa [Cy,execOp,resolve,invoke,Go.builtin,hpc,hnc,hr]using this
    ·rename_i id k xs hpe
     obtain⟨⟨hmk,hk63,hlive,hty⟩,h⟩:=h
     obtain⟨l,hl,hK⟩:=BY.1 h
     rw[hpe]at hp
     rw[hne]at hn
     have hnc:ρc n= .int .i64 m:=by generalize ρc n=q at hn;cases hn;rfl
     generalize hq:ρc p=q at hp
     cases hp with
     | sptr _ a n' cap hcap hrel=>
      cases hrel with
      | listE=>exact absurd rfl hcap
      | list _ _ _ _ b o _ us hxl hnc' hcell hr htip=>
       have hid:id<st.nt:=s.nt▸htip.1
       obtain⟨r0,hr0⟩:=Option.ne_none_iff_exists'.1 (s.own id hid hlive)
       have hreq:=htip.2 r0 hr0
       subst hreq
       obtain⟨cc,fz,hrow⟩:=s.spTy id _ _ _ u hr0 hty
       obtain⟨s2,e2⟩:=s.freezeTip hr0 o k
       simp only at hrow
       obtain⟨ns,rfl,rfl⟩:=EJ hl
       have hxl':ns.length=k:=by simpa using hxl
       have hcells:∀j x,ns[j]? =some x->w.cell? ((⟨b,o,none⟩:Addr).add j)=some (.int .u8 x):=fun j x hj=>by
        have hjl:j<ns.length:=(List.getElem?_eq_some_iff.1 hj).1
        rw[Bl,(hcell j (by simpa using hjl)).2]
        have:=hr j (by simpa using hjl)
        simp only[List.getElem_map]at this
        rw[(List.getElem?_eq_some_iff.1 hj).2]at this
        rw[this.int_inv]
       have:Em g w loc K (.string ⟨(ns.map fun n=>UInt8.ofNat n.toNat).toArray⟩) (w.freeze ⟨b,o,none⟩ k):=⟨_,loc,_,_,hK,s2,Rel.str _,e2,fun i x hi=>⟨rfl,x,hi⟩⟩
       by_cases h0:ns=[]
       ·subst h0
        simp only[List.length_nil]at hxl'
        subst hxl'
        have hm0:m=0:=by simpa using hmk
        subst hm0
        have hrun:=Lib.run_unsafeString_none (P:=P) w pt it type (some ⟨b,o,none⟩)
        have hf:w.freeze ⟨b,o,none⟩ 0=w:=by simp[World.freeze]
        rw[hf]at this
        have this':Em g w loc K (.string .empty) w:=this
        simpa [Cy,execOp,resolve,invoke,Go.builtin,hq,hnc,hrun]using this'
       ·have hrun:=Hb (P:=P) (w:=w) pt it type u hu (of_decide_eq_true hc) b o cc fz hrow ns h0 (by omega) hcells
        rw[hxl']at hrun
        subst hmk
        simpa [Cy,execOp,resolve,invoke,Go.builtin,hq,hnc,hrun]using this
    ·exact h.elim
   ·exact h.elim
  ·exact h.elim
 ·--append
  rename_i args ts
  split at h
  ·rename_i a x t u hargs hts
   have ha:args= #[a,x]:=by rw[<-Array.toArray_toList (xs:=args),hargs]
   have hta:ts= #[t,u]:=by rw[<-Array.toArray_toList (xs:=ts),hts]
   subst ha hta
   split at h
   ·rename_i e he
    split at h
    ·rename_i i z hi hz
     rw[Ak]at h
     obtain⟨hchk,h⟩:=h
     simp only[Bool.and_eq_true]at hchk
     obtain⟨h1,h2,h3,h4⟩:=hchk
     obtain⟨du,hdu,hcase⟩:=Ke h1
     obtain⟨zv,hzv,rfl⟩:=Ii hz hi
     rw[BY]at h
     obtain⟨⟨k,ys⟩,hsrc,h⟩:=h
     rw[Ak]at h
     have hzs:zv.cells.size=i.size:=by have:=Nat.eq_of_beq_eq_true h2;simpa using this
     obtain⟨hone,h⟩:=h
     split at h
     ·obtain⟨r,w',hrun,hL⟩:=QD (P:=P) (ty:=type) s (E6 he) hdu hcase hi hzv hzs (Nat.le_of_ble_eq_true h3) (Nat.le_of_ble_eq_true h4) (hρ a (by simp[Op.operands,Call.operands])).tv (hρ x (by simp[Op.operands,Call.operands])).tv hsrc hone h
      simpa [Cy,execOp,resolve,invoke,Go.builtin,hrun]using hL
     ·obtain⟨r,w',hrun,hL⟩:=NZ (P:=P) (ty:=type) s (E6 he) hdu hcase hi hzv hzs (Nat.le_of_ble_eq_true h3) (Nat.le_of_ble_eq_true h4) (hρ a (by simp[Op.operands,Call.operands])).tv (hρ x (by simp[Op.operands,Call.operands])).tv hsrc hone h
      simpa [Cy,execOp,resolve,invoke,Go.builtin,hrun]using hL
    ·exact h.elim
   ·exact h.elim
  ·exact h.elim
 ·--convert
  rename_i sT d x
  split at h
  ·rename_i e l hs he hl
   split at h
   ·rename_i hu8
    have hx:=(hρ x (by simp[Op.operands])).tv
    rw[hl]at hx
    have hxc:ρc x= .string ⟨l.toArray⟩:=by generalize ρc x=q at hx;cases hx;rfl
    obtain⟨sd,ed⟩:=s.drew
    have hge:=grownCap_ge w l.length 0 e
    have hsz:((l.map fun b=>Value.int .u8 (b.toNat:Int)).toArray++Array.replicate (grownCap w l.length 0 e-l.length) (Value.int .u8 0)).size=grownCap w l.length 0 e*1:=by simp;omega
    have hrl:AL g w.drew (A5 l) (l.map fun b=>Value.int .u8 (b.toNat:Int)):=by
     refine⟨by simp[A5],fun i hi=>?_⟩
     have hi':i<l.length:=by simpa [A5]using hi
     simp only[A5,List.getElem_map,List.getD_eq_getElem?_getD,List.getElem?_map,List.getElem?_eq_getElem hi',Option.map_some,Option.getD_some]
     exact Rel.int _ _
    have hfr:=Du (sz:=1) (n:=l.length) (cap:=grownCap w l.length 0 e) (cells:=A5 l) (vs:=(l.map fun b=>Value.int .u8 (b.toNat:Int)).toArray++Array.replicate (grownCap w l.length 0 e-l.length) (Value.int .u8 0)) sd e
     (grownCap w l.length 0 e,grownCap w l.length 0 e+1) (by
      have:((l.map fun b=>Value.int .u8 (b.toNat:Int)).toArray++Array.replicate (grownCap w l.length 0 e-l.length) (Value.int .u8 0)).toList.take (A5 l).length=l.map fun b=>Value.int .u8 (b.toNat:Int):=by
       simp only[Array.toList_append,List.toList_toArray]
       rw[hrl.1];exact List.take_left
      rw[this];exact hrl) (by simp[A5]) hge hsz (fun o ho=>by simp only;omega) (fun t ht=>by cases ht;rfl) (K:=K) h
    obtain⟨sv,l',st',g',k1,k2,k3,k4,k5⟩:=hfr
    refine FQ (u:= .slice (some ⟨w.heap.size,0,none⟩) l.length (grownCap w l.length 0 e)) ?_ ⟨sv,l',st',g',k1,k2,k3,ed.trans k4,k5⟩
    rw[hxc]
    simp only[Go.convert,Sem.run_bind,As hs,As (E6 he),As hu8,Result.andThen_ok]
    have hch:(choose (.appendCap l.length 0 e)).run P w= .ok (grownCap w l.length 0 e) w.drew:=rfl
    have hel:((ByteArray.mk l.toArray).data.map fun b=>Value.int .u8 (b.toNat:Int))=(l.map fun b=>Value.int .u8 (b.toNat:Int)).toArray:=by simp
    simp only[Conv.stringToBytes,Sem.run_bind,hch,Result.andThen_ok,hel,Dt,newRow,run_newObj,Sem.run_pure,markStringish,run_shape,World.alloc_eq]
    have hshape:(w.drew.alloc (.cells ((l.map fun b=>Value.int .u8 (b.toNat:Int)).toArray++Array.replicate (grownCap w l.length 0 e-l.length) (Value.int .u8 0)) e)).shape? w.heap.size=some (e,grownCap w l.length 0 e):=by
     unfold World.shape?
     rw[show w.heap.size=w.drew.heap.size from rfl,BK]
     simp;omega
    have hshape':=hshape
    rw[show w.heap.size=w.drew.heap.size from rfl]at hshape'
    rw[hshape']
    simp only[run_freeze,Result.andThen_ok]
    have hfreeze:(w.drew.alloc (.cells ((l.map fun b=>Value.int .u8 (b.toNat:Int)).toArray++Array.replicate (grownCap w l.length 0 e-l.length) (Value.int .u8 0)) e)).freeze ⟨w.drew.heap.size,grownCap w l.length 0 e,none⟩ 1=
      w.drew.alloc (.cells ((l.map fun b=>Value.int .u8 (b.toNat:Int)).toArray++Array.replicate (grownCap w l.length 0 e-l.length) (Value.int .u8 0)) e (grownCap w l.length 0 e,grownCap w l.length 0 e+1)):=by
     exact NI w.drew _ e _
    rw[hfreeze]
    rfl
   ·exact h.elim
  ·rename_i hs he
   split at h
   ·rename_i u hd
    split at h
    ·exact h.elim
    ·rename_i n hn
     unfold unsK at h
     split at h<;>first | exact h.elim | skip
     rename_i b off hl
     obtain⟨⟨rfl,hbt,l,hl',hll⟩,hK⟩:=h
     have hx:=(hρ x (by simp[Op.operands])).tv
     rw[hl]at hx
     obtain⟨hb,hxc⟩:=hx.box_inv'
     have hb':b<st.nb:=by rw[<-s.nb];exact hb
     obtain⟨c,fz,hrow⟩:=s.bTy b u hb' hbt
     have ob:=s.obj (.box b) hb'
     simp only[A3,hl',Ghost.at]at ob
     obtain⟨cs,⟨T,lo,hi,hh,_⟩,hrl⟩:=ob
     rw[hrow]at hh
     simp only[Option.some.injEq,Obj.cells.injEq]at hh
     obtain⟨rfl,rfl,_⟩:=hh
     have hrun:=Me hs hd (by omega) hrow (by have:=hrl.1;simp at this⊢;omega)
     refine FQ (w':=w) (by rw[hxc];exact hrun) ⟨_,loc,st,g,hK,s,Rel.box b 0 hb,Ext.refl _ _,Bt.refl _ _⟩
   ·exact h.elim
  ·exact h.elim
 ·--makeSlice
  rename_i t lo co
  split at h
  ·rename_i e k1 n k2 m he hn hm
   split at h
   ·rename_i i z hi hz
    rw[Ak]at h
    obtain⟨hchk,⟨h0,hnm,hby⟩,h⟩:=h
    simp only[Bool.and_eq_true]at hchk
    obtain⟨h1,h2,h3⟩:=hchk
    have h2':=Nat.le_of_ble_eq_true h2
    have h3':=Nat.le_of_ble_eq_true h3
    obtain⟨zv,hzv,rfl⟩:=Ii hz hi
    have hzs:zv.cells.size=i.size:=by have:=Nat.eq_of_beq_eq_true h1;simpa using this
    have hlo:=(hρ lo (by simp[Op.operands])).tv
    have hco:=(hρ co (by simp[Op.operands])).tv
    rw[hn]at hlo
    rw[hm]at hco
    have hloc:ρc lo= .int k1 n:=by generalize ρc lo=q at hlo;cases hlo;rfl
    have hcoc:ρc co= .int k2 m:=by generalize ρc co=q at hco;cases hco;rfl
    have hmle:m.toNat<=140737488355328:=Nat.le_trans (Nat.le_mul_of_pos_right _ (by omega)) hby
    have hwn:i64.wrap n=n:=by unfold IntKind.wrap;simp only[IntKind.signed,IntKind.bits];simp;omega
    have hwm:i64.wrap m=m:=by unfold IntKind.wrap;simp only[IntKind.signed,IntKind.bits];simp;omega
    have hbyI:¬((i.bytes:Int)*m>2^48):=by
     have:((m.toNat*i.bytes:Nat):Int)<=140737488355328:=by omega
     rw[Int.natCast_mul,Int.toNat_of_nonneg (by omega),Int.mul_comm]at this
     simp only[Int.reducePow];omega
    have hrun:(Instr.makeSlice t (.int k1 n) (.int k2 m)).run P w= .ok (.slice (some ⟨w.heap.size,0,none⟩) n.toNat m.toNat) (w.alloc (.cells ((Array.range (m.toNat*i.size)).map (zv.cells[·%zv.cells.size]!)) e)):=by
     have c1:(decide (m<0) || decide ((i.bytes:Int)*m>2^48))=false:=by simp only[Bool.or_eq_false_iff,decide_eq_false_iff_not];exact⟨by omega,hbyI⟩
     have c2:((decide (m<0) || decide ((i.bytes:Int)*m>2^48)) || decide (n<0) || decide (n>m))=false:=by
      rw[c1];simp;omega
     simp only[Instr.makeSlice,Sem.run_bind,As (E6 he),Result.andThen_ok,asInt,asIntOf,Sem.run_pure,Sx hi,hwn,hwm,c2,Bool.false_eq_true,if_false,run_askRoom,sizeOf]
     by_cases hz0:m.toNat*i.size=0
     ·have e0:∀f:Nat->Value,(Array.range 0).map f= #[]:=fun f=>by simp
      simp only[hz0,if_true,Sem.run_pure,Sem.run_bind,Result.andThen_ok,e0]
      simp[newRow]
     ·have hzv':(zeroValue e).run P w= .ok zv w:=by simp[zeroValue,typeInfo,hi,hzv]
      simp only[hz0,if_false,Sem.run_pure,Sem.run_bind,Result.andThen_ok,hzv']
      simp[newRow]
    have hzr:∀q,AL g w (Ih (zv.cells.toList.map I9) q) ((Array.range q).map (zv.cells[·%zv.cells.size]!)).toList:=fun q=>Oa zv q (.inl (by omega))
    refine FQ (u:= .slice (some ⟨w.heap.size,0,none⟩) n.toNat m.toNat) (w':=w.alloc (.cells ((Array.range (m.toNat*i.size)).map (zv.cells[·%zv.cells.size]!)) e)) (by rw[hloc,hcoc];exact hrun) ?_
    split at h
    ·have hal:=Fx (ix:=none) (cells:=Ih (zv.cells.toList.map I9) (m.toNat*i.size)) s e (hzr _) (K:=fun sv loc' st'=>sv= .t (.box st.nb 0)/\loc'=loc/\st'=st.push (.cells (Ih (zv.cells.toList.map I9) (m.toNat*i.size))) (some e)) ⟨rfl,rfl,rfl⟩
     obtain⟨sv,loc',st',g',⟨rfl,rfl,rfl⟩,k2,k3,k4,k5⟩:=hal
     refine⟨_,_,_,g',h,k2,?_,k4,k5⟩
     have k3':Rel g' _ (.box st.nb 0) _:=k3
     obtain⟨hb,heq⟩:=k3'.box_inv
     have:=Rel.ms (g:=g') (w:=w.alloc (.cells ((Array.range (m.toNat*i.size)).map (zv.cells[·%zv.cells.size]!)) e)) i.size st.nb 0 n.toNat m.toNat hb (by omega)
     simp only[Value.pointer.injEq,Option.some.injEq,Addr.mk.injEq]at heq
     rw[<-heq.1]at this
     exact this
    ·refine Du s e (0,0) ?_ (by simp[Ih]) (by omega) (by simp) (fun o _=>by simp) (fun t ht=>by cases ht;rfl) h
     have hle:n.toNat*i.size<=m.toNat*i.size:=Nat.mul_le_mul_right _ (by omega)
     have:=hzr (n.toNat*i.size)
     have e1:((Array.range (m.toNat*i.size)).map (zv.cells[·%zv.cells.size]!)).toList.take (Ih (zv.cells.toList.map I9) (n.toNat*i.size)).length=((Array.range (n.toNat*i.size)).map (zv.cells[·%zv.cells.size]!)).toList:=by
      simp only[Ih,List.length_map,List.length_range,Array.toList_map,Array.toList_range]
      rw[<-List.map_take,List.take_range,Nat.min_eq_left hle]
     rw[e1];exact this
   ·exact h.elim
  ·exact h.elim
 ·exact h.elim
end
end Go.TVF
end
section
namespace Go.TVF
open Go.IntKind(i64 u8)
open Go.RowKit (Below)
def isN (P:Program):Op->Bool
 | .move _=>true
 | .assign _=>true
 | .pick _ _ _=>true
 | .load _ _=>true
 | .nilCheck _=>true
 | .binOp _ _ _ _ _=>true
 | .unOp _ _ _=>true
 | .convert s d _=>match Cr P d,P.underlying s with | some _,_=>false | none,some .unsafePointer=>false | none,_=>true
 | .makeFunc _ _ _=>true
 | .slice _ _ _ _ _=>true
 | .fieldAddr _ _ _=>true
 | .field _ _ _=>true
 | .indexAddr _ _ _=>true
 | .index _ _ _=>true
 | .extract _ _=>true
 | .call {callee:= .builtin .len,.. }=>true
 | .call {callee:= .builtin .min,.. }=>true
 | .call {callee:= .builtin .unsafeSliceData,.. }=>true
 | .lookup _ _ _ _=>true
 | .buildSlice _ _ _=>true
 | .call {callee:= .builtin .max,.. }=>true
 | _=>false
def Rn (P:Program) (t:TypeId) (v:SV) (k:SV->Prop):Prop:=
 match v with
 | .loc i off=>k (.loc i off)
 | .t x=>decV (Sz P t) x fun y=>k (.t y)
theorem Ho {P:Program} {t:TypeId} {v:SV} {k:SV->Prop} (h:Rn P t v k):k v:=by
 cases v with
 | loc i off=>exact h
 | t x=>exact Qp (f:=fun y=>k (.t y)) h
def KW (cfg:Cfg) (P:Program) (dst:Option Nat) (type:TypeId) (op:Op) (ρ:Operand->SV) (loc:List (Option (List TV))) (st:St) (K:SV->List (Option (List TV))->St->Prop):Prop:=
 match isN P op with
 | true=>(BB P st loc ρ op).K fun v=>Rn P type v fun v'=>K v' loc st
 | false=>eop cfg P dst type op ρ loc st K
def GT (cfg:Cfg) (P:Program) (dst:Option Nat) (type:TypeId) (op:Op) (ρ:Operand->SV) (loc:List (Option (List TV))) (st:St) (K:SV->List (Option (List TV))->St->Prop):Prop:=
 match isN P op with
 | true=>∃v,(BB P st loc ρ op).Is v/\K v loc st
 | false=>eop cfg P dst type op ρ loc st K
theorem Oq {cfg:Cfg} {P:Program} {dst:Option Nat} {type:TypeId} {op:Op} {ρ:Operand->SV} {loc:List (Option (List TV))} {st:St} {K:SV->List (Option (List TV))->St->Prop}
  (h:KW cfg P dst type op ρ loc st K):GT cfg P dst type op ρ loc st K:=by
 unfold KW at h
 unfold GT
 split
 ·rename_i hn
  rw[hn]at h
  obtain⟨v,hv,hk⟩:=AY.K_iff.1 h
  exact⟨v,hv,Ho hk⟩
 ·rename_i hn
  rw[hn]at h
  exact h
def Pd (ops:Array Oper) (j:Nat):Option Nat:=(ops[j]?).bind (·.dst)
def A2 (slots:AP) (dst:Option Nat) (v:SV):AP:=
 match dst with
 | some d=>slots.set d v
 | none=>slots
def Qd (b:Bool) (run skip:Fr->Prop) (fr:Fr):Prop:=match b with | true=>run fr | false=>skip fr
def JT (ops:Array Oper) (fr:Fr) (g:Option (Nat×Bool)) (run skip:Fr->Prop):Prop:=
 match g with
 | none=>run fr
 | some (j,want)=>match Pd ops j with
  | none=>skip fr
  | some d=>match fr.slots.f d with
   | .t (.bool b)=>BIf b (Qd want run skip ⟨fr.slots.set d (.t (.bool true)),fr.loc⟩) (Qd (!want) run skip ⟨fr.slots.set d (.t (.bool false)),fr.loc⟩)
   | .t .undef=>skip fr
   | _=>False
def C4 (ops:Array Oper) (slots:AP):Option (Nat×Bool)->Option Bool
 | none=>some true
 | some (j,want)=>match Pd ops j with
  | none=>some false
  | some d=>match slots.f d with
   | .t (.bool b)=>some (b==want)
   | .t .undef=>some false
   | _=>none
theorem Fs {ops:Array Oper} {fr:Fr} {g:Option (Nat×Bool)} {run skip:Fr->Prop} (h:JT ops fr g run skip):
  ∃t,C4 ops fr.slots g=some t/\Qd t run skip fr:=by
 unfold JT at h
 unfold C4
 split at h
 ·exact⟨true,rfl,h⟩
 ·rename_i j want
  split at h
  ·rename_i hd;exact⟨false,by simp[hd],h⟩
  ·rename_i d hd
   split at h
   ·rename_i b hb
    refine⟨b==want,by simp[hd,hb],?_⟩
    cases b<;>simp only[BIf]at h<;>rw[AP.set_self hb]at h<;>cases want<;>exact h
   ·rename_i hb
    exact⟨false,by simp[hd,hb],h⟩
   ·exact h.elim
theorem Od {g:Ghost} {w:World} {ops:Array Oper} {fr:Fr} {tmps:Array Value} (hf:Fe g w fr tmps) (o:Oper) {t:Bool} (h:C4 ops fr.slots o.guard=some t):
  Region.wanted o (yielded ops tmps)=t:=by
 unfold C4 at h
 unfold Region.wanted
 split at h
 ·rename_i hg;simp only[Option.some.injEq]at h;subst h;simp[hg]
 ·rename_i j want hg
  simp only[hg]
  have hdst:Pd ops j=(ops[j]?).bind (·.dst):=rfl
  split at h
  ·rename_i hd
   simp only[Option.some.injEq]at h;subst h
   rw[hdst]at hd
   simp[yielded,hd]
  ·rename_i d hd
   rw[hdst]at hd
   have hget:=hf.2 d
   split at h
   ·rename_i b hb
    simp only[Option.some.injEq]at h;subst h
    rw[hb]at hget
    have hr':Rel g w (.bool b) (tmps.getD d Go.undef):=hget
    generalize hq:tmps.getD d Go.undef=u at hr'
    cases hr'
    have hu:tmps[d]? =some (.bool b):=by
     by_cases hlt:d<tmps.size
     ·rw[Array.getElem?_eq_getElem hlt];simp only[Array.getD,hlt,dif_pos]at hq;rw[<-hq];rfl
     ·simp[Array.getD,hlt,Go.undef]at hq
    simp[yielded,hd,hu]
   ·rename_i hb
    simp only[Option.some.injEq]at h;subst h
    rw[hb]at hget
    have hr':Rel g w .undef (tmps.getD d Go.undef):=hget
    generalize hq:tmps.getD d Go.undef=u at hr'
    cases hr'
    by_cases hlt:d<tmps.size
    ·have hu:tmps[d]? =some Go.undef:=by
      rw[Array.getElem?_eq_getElem hlt];simp only[Array.getD,hlt,dif_pos]at hq;rw[<-hq];rfl
     simp[yielded,hd,hu,Go.undef]
    ·simp[yielded,hd,Array.getElem?_eq_none (Nat.le_of_not_lt hlt)]
   ·cases h
section
variable {P:Program} {g:Ghost} {st:St} {w:World}
theorem bsl_eop {loc:List (Option (List TV))} {cfg:Cfg} {dst:Option Nat} {type:TypeId} {ρ:Operand->SV} {K:SV->List (Option (List TV))->St->Prop} {t:TypeId} {len:Nat} {parts:Array (Nat×Operand)} {v:SV}
  (h:(BB P st loc ρ (.buildSlice t len parts)).Is v) (hK:K v loc st):eop cfg P dst type (.buildSlice t len parts) ρ loc st K:=by
 simp only[BB,bslN]at h
 simp only[eop]
 split at h<;>first | exact h.elim | skip
 rename_i e he
 try simp only[he]
 split at h<;>first | exact h.elim | skip
 rename_i sz z hsz hz
 try simp only[hsz,hz]
 split at h<;>first | exact h.elim | skip
 rename_i cells hc
 try simp only[hc]
 obtain⟨hb,rfl⟩:=h
 rw[Bool.and_eq_true]at hb
 rw[Ak,Ak]
 exact⟨hb.1,hb.2,hK⟩
theorem Oo {loc:List (Option (List TV))} (s:Sim g st loc w) {cfg:Cfg} {ρ:Operand->SV} {ρc:Operand->Value} (o:Oper) (hρ:∀x,x∈o.op.operands->Bp g w loc (ρ x) (ρc x)) {K:SV->List (Option (List TV))->St->Prop}
  (h:GT cfg P o.dst o.type o.op ρ loc st K):Cy P (execOp ρc o) w (Em g w loc K):=by
 unfold GT at h
 split at h
 ·obtain⟨v,hv,hK⟩:=h
  cases hb:Q6 o.op with
  | true=>
   refine ML s o hρ (cfg:=cfg) ?_
   obtain⟨dst,op,type,pos,after,guard⟩:=o
   simp only at hb hv⊢
   cases op<;>simp only[Q6]at hb<;>try cases hb
   exact bsl_eop hv hK
  | false=>
  obtain⟨u,hu,hr⟩:=Gw s o hb hρ hv
  simp only[Cy,hu]
  exact⟨v,loc,st,g,hK,s,hr,Ext.refl _ _,Bt.refl _ _⟩
 ·exact ML s o hρ h
theorem Rg {o:Oper} {a:Act} {R:Value->World->Prop} {next:Act->World->Prop} {Q:Exit->Act->World->Prop} (h:Cy P (execOp a.eval o) w R) (hn:∀v w',R v w'->next (a.put o.dst v) w'):o.wp P a w next Q:=by
 unfold Cy at h
 unfold Oper.wp Oper.upon
 split at h
 ·rename_i v w' hr;simp only[hr];exact hn _ _ h
 ·rename_i w' hr;simp only[hr];exact hn _ _ h
 ·rename_i f args w' hr
  simp only[hr]
  exact h.mono fun e w'' ⟨v,he,hR⟩=>by subst he;exact hn _ _ hR
 ·exact h.elim
theorem Fe.put {fr:Fr} {tmps:Array Value} (h:Fe g w fr tmps) {dst:Option Nat} {v:SV} {u:Value} (hv:Bp g w fr.loc v u):
  Fe g w ⟨A2 fr.slots dst v,fr.loc⟩ (match dst with | some d=>tmps.setIfInBounds d u | none=>tmps):=by
 cases dst with
 | none=>exact h
 | some d=>
  refine⟨by simp[A2,AP.set_n,h.1],fun i=>?_⟩
  simp only[A2]
  by_cases hd:i=d
  ·subst hd
   by_cases hlt:i<fr.slots.n
   ·rw[AP.set_eq hlt]
    have hit:i<tmps.size:=h.1▸hlt
    simp[hit,hv]
   ·rw[AP.set_out hlt]
    have:=h.2 i
    have hit:¬i<tmps.size:=h.1▸hlt
    simpa [Array.getD,hit]using this
  ·rw[AP.set_ne hd]
   have hd':¬d=i:=fun e=>hd e.symm
   have:=h.2 i
   rw[show(tmps.setIfInBounds d u).getD i Go.undef=tmps.getD i Go.undef from by
    by_cases hit:i<tmps.size
    ·simp[Array.getD,hit,Array.getElem_setIfInBounds,hd']
    ·simp[Array.getD,hit]]
   exact this
theorem Fe.keep {g':Ghost} {w':World} {fr:Fr} {loc':List (Option (List TV))} {tmps:Array Value} (h:Fe g w fr tmps) (e:Ext g w g' w') (k:Bt g fr.loc g' loc'):Fe g' w' ⟨fr.slots,loc'⟩ tmps:=
 ⟨h.1,fun i=>(h.2 i).keep e k⟩
def Ig (g:Ghost) (w:World) (a0:Act) (K:Fr->St->Prop) (a:Act) (w':World):Prop:=
 ∃fr st g',K fr st/\Sim g' st fr.loc w'/\Fe g' w' fr a.tmps/\Ext g w g' w'/\a.defers=a0.defers/\a.tmps.size=a0.tmps.size
theorem Ig.ext {g0:Ghost} {w0:World} {a0 a1:Act} {K:Fr->St->Prop} {a:Act} {w':World} (e:Ext g0 w0 g w) (h5:a1.defers=a0.defers/\a1.tmps.size=a0.tmps.size) (h:Ig g w a1 K a w'):Ig g0 w0 a0 K a w':=by
 obtain⟨fr,st,g',h1,h2,h3,h4,h6,h7⟩:=h
 exact⟨fr,st,g',h1,h2,h3,e.trans h4,h6.trans h5.1,h7.trans h5.2⟩
theorem KV {cfg:Cfg} (ops:Array Oper) (o:Oper) {fr:Fr} {a:Act} {K:Fr->St->Prop} {t:Bool} (hw:C4 ops fr.slots o.guard=some t)
  (h:match t with
   | true=>GT cfg P o.dst o.type o.op (opS fr.slots) fr.loc st fun v loc' st'=>K ⟨A2 fr.slots o.dst v,loc'⟩ st'
   | false=>K ⟨A2 fr.slots o.dst (.t .undef),fr.loc⟩ st)
  (s:Sim g st fr.loc w) (hf:Fe g w fr a.tmps) {next:Act->World->Prop} {Q:Exit->Act->World->Prop} (hn:∀a' w',Ig g w a K a' w'->next a' w'):
  if Region.wanted o (yielded ops a.tmps)then o.wp P a w next Q else next (a.put o.dst Go.undef) w:=by
 rw[Od hf o hw]
 cases t with
 | true=>
  simp only[if_true]
  have hd:=Oo s o (ρc:=a.eval) (fun x _=>Ns hf x) h
  refine Rg hd fun v w' hL=>hn _ _ ?_
  obtain⟨sv,loc',st',g',hK,s',hr,e',k'⟩:=hL
  refine⟨_,st',g',hK,s',?_,e',?_⟩
  ·have:=(hf.keep e' k').put (dst:=o.dst) hr
   cases hd:o.dst with
   | none=>rw[hd]at this;exact this
   | some d=>rw[hd]at this;exact this
  ·cases o.dst<;>simp[Act.put]
 | false=>
  simp only[Bool.false_eq_true,if_false]
  refine hn _ _ ⟨_,st,g,h,s,?_,Ext.refl _ _,?_⟩
  ·have:=hf.put (dst:=o.dst) (v:= .t .undef) (u:=Go.undef) Rel.undef
   cases hd:o.dst with
   | none=>rw[hd]at this;exact this
   | some d=>rw[hd]at this;exact this
  ·cases o.dst<;>simp[Act.put]
def OI (cfg:Cfg) (P:Program) (ops:Array Oper) (K:Fr->St->Prop):List Oper->Fr->St->Prop
 | [],fr,st=>K fr st
 | o::rest,fr,st=>JT ops fr o.guard
   (fun fr=>KW cfg P o.dst o.type o.op (opS fr.slots) fr.loc st fun v loc' st'=>OI cfg P ops K rest ⟨A2 fr.slots o.dst v,loc'⟩ st')
   (fun fr=>OI cfg P ops K rest ⟨A2 fr.slots o.dst (.t .undef),fr.loc⟩ st)
theorem J8 {cfg:Cfg} {ops:Array Oper} {K:Fr->St->Prop} {Q:Exit->Act->World->Prop}:∀(l:List Oper) (fr:Fr) (st:St) (g:Ghost) (w:World) (a:Act),OI cfg P ops K l fr st->Sim g st fr.loc w->Fe g w fr a.tmps->
  (∀a' w',Ig g w a K a' w'->Q .normal a' w')->wpList P ops Q l a w
 | [],fr,st,g,w,a,h,s,hf,hq=>hq a w ⟨fr,st,g,h,s,hf,Ext.refl _ _,rfl,rfl⟩
 | o::rest,fr,st,g,w,a,h,s,hf,hq=>by
  obtain⟨t,hw,hg⟩:=Fs h
  refine wpList_step fun next hnext=>?_
  refine KV (cfg:=cfg) (K:=OI cfg P ops K rest) ops o hw ?_ s hf (fun a' w' hp=>?_)
  ·cases t with
   | true=>exact Oq hg
   | false=>exact hg
  ·obtain⟨fr',st',g',h1,h2,h3,h4,h5⟩:=hp
   refine hnext _ _ (J8 rest fr' st' g' w' a' h1 h2 h3 fun a'' w'' hp'=>hq _ _ (hp'.ext h4 h5))
end
end Go.TVF
end
section
namespace Go.TVF
open Go.IntKind(i64 u8)
open Go.RowKit (Below)
def FZ:Op->Bool
 | .load _ _=>true
 | .convert _ _ _=>true
 | .lookup _ _ _ _=>true
 | _=>false
def DQ:Op->Bool
 | .call {callee:= .value _,.. }=>true
 | _=>false
def Dh (cfg:Cfg) (o:Oper):Bool:=
 match o.op with
 | .store _ _ _=>true
 | .alloc _=>true
 | .box _ _=>true
 | .makeSlice _ _ _=>Ta cfg.ms o.dst
 | .call {callee:= .builtin .append,.. }=>Ta cfg.ms o.dst
 | .makeMap _ _=>true
 | .mapUpdate _ _ _ _=>true
 | .call {callee:= .builtin .delete,.. }=>true
 | _=>false
def CU (s s':St):Prop:=∀b,s.box b= .dead∨s'.box b=s.box b
def Rp:St:={nb:=0,box:=fun _=> .dead,nt:=0,live:=fun _=>false,ty:=fun _=>none,bt:=fun _=>none}
theorem CU.refl (s:St):CU s s:=fun _=> .inr rfl
theorem CU.blind (s:St):CU Rp s:=fun _=> .inl rfl
theorem CU.of_box {s st st':St} (h:CU s st) (e:st'.box=st.box):CU s st':=fun b=>by rw[e];exact h b
theorem JQ {s s':St} (h:CU s s') {loc:List (Option (List TV))} {p:SV} {j:Nat} {x:TV} (hx:Ac s loc p j=some x):Ac s' loc p j=some x:=by
 unfold Ac at hx⊢
 split at hx<;>first | exact hx | skip
 rename_i b off
 rcases h b with hd | he
 ·rw[hd]at hx;cases hx
 ·rw[he];exact hx
theorem Ll {s s':St} (h:CU s s') {loc:List (Option (List TV))} {p:SV}:∀{n j:Nat} {xs:List TV},Aj s loc p j n=some xs->Aj s' loc p j n=some xs:=by
 intro n
 induction n with
 | zero=>intro j xs hx;exact hx
 | succ n ih=>
  intro j xs hx
  simp only[Aj]at hx⊢
  split at hx
  ·rename_i x hc
   rw[JQ h hc]
   obtain⟨ys,hys,rfl⟩:=Option.map_eq_some_iff.1 hx
   simp[ih hys]
  ·cases hx
theorem PG {s s':St} (h:CU s s') {v:TV} {l:B8} (hx:HA s v=some l):HA s' v=some l:=by
 unfold HA at hx⊢
 split at hx<;>first | exact hx | skip
 split at hx
 ·rename_i hsz
  split at hx
  ·rename_i xs hc;simp[hsz,Ll h hc,hx]
  ·cases hx
 ·cases hx
theorem ST {s s':St} (h:CU s s') {v:TV} {l:List (B8×TV)} (hx:Er s v=some l):Er s' v=some l:=by
 unfold Er at hx⊢
 split at hx
 ·exact hx
 ·rename_i b
  rcases h b with hd | he
  ·rw[hd]at hx;cases hx
  ·rw[he];exact hx
 ·cases hx
theorem Ln {s s':St} (h:CU s s') {b:Nat} (hb:Ao s b=true):Ao s' b=true:=by
 rcases h b with hd | he
 ·unfold Ao at hb
  rw[hd]at hb
  cases hb
 ·unfold Ao at hb⊢
  rw[he];exact hb
theorem pgot_le {s s':St} (h:CU s s') {x i:TV} {p:List (Nat×TV)×Nat} (hp:Lb s x i=some p):Lb s' x i=some p:=by
 unfold Lb at hp⊢
 split at hp
 ·rename_i es k hes hk
  have he:K8 s' x=some es:=by
   unfold K8 at hes⊢
   split at hes
   ·rename_i b
    rcases h b with hd | he
    ·rw[hd]at hes;cases hes
    ·rw[he];exact hes
   ·cases hes
  rw[he,hk]
  split at hp
  ·rename_i hc
   have hc2:((Ao s' k).and (es.all fun p=>Ao s' p.1))=true:=by
    rw[Bool.and_eq_true]at hc⊢
    exact⟨Ln h hc.1,List.all_eq_true.2 fun y hy=>Ln h (List.all_eq_true.1 hc.2 y hy)⟩
   simp only[hc2];exact hp
  ·cases hp
 ·cases hp
theorem nres_le {P:Program} {s s':St} (h:CU s s') {loc:List (Option (List TV))} {ρ:Operand->SV} {op:Op} {v:SV} (hv:(BB P s loc ρ op).Is v):(BB P s' loc ρ op).Is v:=by
 unfold BB at hv⊢
 split at hv<;>first | exact hv | skip
 ·--load
  unfold DC at hv⊢
  split at hv
  ·obtain⟨x,hx,rfl⟩:=hv
   split at hx
   ·cases hx
   ·obtain⟨ys,hys,rfl⟩:=Option.map_eq_some_iff.1 hx
    exact⟨_,by simp[Ll h hys],rfl⟩
  ·obtain⟨x,hx,rfl⟩:=hv
   exact⟨x,JQ h hx,rfl⟩
  ·exact hv
 ·--convert
  unfold MP at hv⊢
  split at hv<;>first | exact hv | skip
  ·split at hv<;>first | exact hv | skip
   obtain⟨x,hx,rfl⟩:=hv
   obtain⟨l,hl,rfl⟩:=Option.map_eq_some_iff.1 hx
   exact⟨_,by simp[PG h hl],rfl⟩
  ·split at hv<;>first | exact hv | skip
   obtain⟨hx,rfl⟩:=hv
   obtain⟨l,hl⟩:=Option.isSome_iff_exists.1 hx
   exact⟨by simp[JQ h hl],rfl⟩
 ·--lookup
  unfold My at hv⊢
  split at hv<;>first | exact hv | skip
  split at hv<;>first | exact hv | skip
  ·split at hv<;>first | exact hv | skip
   obtain⟨x,hx,rfl⟩:=hv
   exact⟨_,ST h hx,rfl⟩
  ·split at hv<;>first | exact hv | skip
   obtain⟨y,hy,rfl⟩:=hv
   refine⟨y,?_,rfl⟩
   unfold plook at hy⊢
   obtain⟨p,hp,rfl⟩:=Option.map_eq_some_iff.1 hy
   rw[pgot_le h hp];rfl
theorem HG {ρ ρ':Operand->SV} (o:Option Operand) (h:∀y,o=some y->ρ y=ρ' y):(o.map fun x=>(ρ x).tv)=o.map fun x=>(ρ' x).tv:=by
 cases o with
 | none=>rfl
 | some y=>simp[h y rfl]
set_option maxHeartbeats 1000000 in
theorem Ix {P:Program} {s:St} {loc:List (Option (List TV))} {ρ ρ':Operand->SV} {op:Op} (h:∀x,x∈op.operands->ρ x=ρ' x):BB P s loc ρ op=BB P s loc ρ' op:=by
 cases op with
 | move x=>simp only[BB,h x (by simp[Op.operands])]
 | assign x=>simp only[BB,h x (by simp[Op.operands])]
 | pick c a b=>simp only[BB,h c (by simp[Op.operands]),h a (by simp[Op.operands]),h b (by simp[Op.operands])]
 | load t a=>simp only[BB,h a (by simp[Op.operands])]
 | nilCheck x=>simp only[BB,h x (by simp[Op.operands])]
 | binOp op t x y _=>simp only[BB,h x (by simp[Op.operands]),h y (by simp[Op.operands])]
 | unOp op t x=>cases op<;>simp only[BB,h x (by simp[Op.operands])]
 | convert a d x=>simp only[BB,h x (by simp[Op.operands])]
 | makeFunc fn first cap=>
  cases fn<;>simp only[BB]
  rw[List.map_congr_left (l:=cap.toList) (f:=fun x=>(ρ x).tv) (g:=fun x=>(ρ' x).tv) fun x hx=>by rw[h x (by simp only[Op.operands,Array.mem_append];right;exact Array.mem_toList_iff.1 hx)]]
 | slice t x lo hi mx=>
  simp only[BB,h x (by simp[Op.operands])]
  rw[HG (ρ:=ρ) (ρ':=ρ') lo fun y hy=>h y (by simp[Op.operands,hy]),HG (ρ:=ρ) (ρ':=ρ') hi fun y hy=>h y (by simp[Op.operands,hy]),HG (ρ:=ρ) (ρ':=ρ') mx fun y hy=>h y (by simp[Op.operands,hy])]
 | fieldAddr t x f=>simp only[BB,h x (by simp[Op.operands])]
 | field t x f=>simp only[BB,h x (by simp[Op.operands])]
 | indexAddr t x i=>simp only[BB,h x (by simp[Op.operands]),h i (by simp[Op.operands])]
 | index t x i=>simp only[BB,h x (by simp[Op.operands]),h i (by simp[Op.operands])]
 | extract x i=>simp only[BB,h x (by simp[Op.operands])]
 | call c=>
  obtain⟨callee,args,ts⟩:=c
  have ha:∀x,x∈args->ρ x=ρ' x:=fun x hx=>h x (by simp only[Op.operands,Call.operands];exact Array.mem_append.2 (.inr hx))
  cases callee with
  | value f=>rfl
  | invoke r m=>rfl
  | builtin b=>
   cases b<;>try rfl
   case unsafeSliceData=>
    simp only[BB]
    split
    ·rename_i x hx
     rw[ha x (by rw[<-Array.mem_toList_iff,hx];simp)]
    ·rfl
   ·simp only[BB]
    cases h0:args[0]? with
    | none=>rfl
    | some x=>cases h1:ts[0]? with
     | none=>rfl
     | some t=>simp only[ha x (Array.mem_of_getElem? h0)]
   ·simp only[BB]
    split
    ·rename_i x y hxy
     have hx:x∈args:=by rw[<-Array.mem_toList_iff,hxy];simp
     have hy:y∈args:=by rw[<-Array.mem_toList_iff,hxy];simp
     rw[ha x hx,ha y hy]
    ·rfl
   ·simp only[BB]
    split
    ·rename_i x y hxy
     have hx:x∈args:=by rw[<-Array.mem_toList_iff,hxy];simp
     have hy:y∈args:=by rw[<-Array.mem_toList_iff,hxy];simp
     rw[ha x hx,ha y hy]
    ·rfl
 | buildSlice t len ps=>
  simp only[BB]
  rw[List.map_congr_left (l:=ps.toList) (f:=fun p=>(p.1,(ρ p.2).tv)) (g:=fun p=>(p.1,(ρ' p.2).tv)) fun p hp=>by rw[h p.2 (by simp only[Op.operands,List.mem_toArray,List.mem_map];exact⟨p,hp,rfl⟩)]]
 | lookup t x i ok=>simp only[BB,h x (by simp[Op.operands]),h i (by simp[Op.operands])]
 | _=>rfl
theorem LC:∀{cs:List CTy} {R R':Type} {vs:List TV} {F:List TV->R} {F':List TV->R'} {k:R->Prop} {k':R'->Prop},(∀l,k (F l)->k' (F' l))->If cs vs (LE cs F) k->If cs vs (LE cs F') k'
 | [],_,_,[],F,F',k,k',h,hk=>h _ hk
 | [],_,_,_::_,F,F',k,k',h,hk=>hk.elim
 | _::_,_,_,[],F,F',k,k',h,hk=>hk.elim
 | c::cs,_,_,v::vs,F,F',k,k',h,hk=>by
  have key:∀{f f':c.I->Prop},(∀y,f y->f' y)->Bj c v f->Bj c v f':=by
   intro f f' hf hd
   cases c with
   | int k=>cases v<;>simp only[Bj]at hd⊢<;>first | exact hd.elim | (rw[Ak]at hd⊢;exact⟨hd.1,hf _ hd.2⟩)
   | bool=>cases v<;>simp only[Bj]at hd⊢<;>first | exact hd.elim | exact hf _ hd
   | str=>cases v<;>simp only[Bj]at hd⊢<;>first | exact hd.elim | exact hf _ hd
   | tv=>exact hf _ hd
  exact key (fun y hy=>LC (F:=fun l=>F (enc c y::l)) (F':=fun l=>F' (enc c y::l)) (fun l=>h _) hy) hk
theorem R6 {c:CTy} {v:TV} {f f':c.I->Prop} (hf:∀y,f y->f' y) (hd:Bj c v f):Bj c v f':=by
 cases c with
 | int k=>cases v<;>simp only[Bj]at hd⊢<;>first | exact hd.elim | (rw[Ak]at hd⊢;exact⟨hd.1,hf _ hd.2⟩)
 | bool=>cases v<;>simp only[Bj]at hd⊢<;>first | exact hd.elim | exact hf _ hd
 | str=>cases v<;>simp only[Bj]at hd⊢<;>first | exact hd.elim | exact hf _ hd
 | tv=>exact hf _ hd
theorem E8:∀{sh:List RTy} {R R':Type} {vs:List TV} {F:List TV->R} {F':List TV->R'} {k:R->Prop} {k':R'->Prop},(∀l,k (F l)->k' (F' l))->E9 sh vs (El sh F) k->E9 sh vs (El sh F') k'
 | [],_,_,[],F,F',k,k',h,hk=>h _ hk
 | [],_,_,_::_,F,F',k,k',h,hk=>hk.elim
 | _::_,_,_,[],F,F',k,k',h,hk=>by cases ‹RTy›<;>exact hk.elim
 | .one c::sh,_,_,v::vs,F,F',k,k',h,hk=>
  R6 (fun y hy=>E8 (F:=fun l=>F (enc c y::l)) (F':=fun l=>F' (enc c y::l)) (fun l=>h _) hy) hk
 | .agg cs::sh,_,_,v::vs,F,F',k,k',h,hk=>by
  cases v<;>simp only[E9]at hk⊢
  rename_i l
  exact LC (F:=fun l=>El sh fun r=>F (.agg l::r)) (F':=fun l=>El sh fun r=>F' (.agg l::r)) (k:=fun r=>E9 sh vs r k) (k':=fun r=>E9 sh vs r k')
   (fun l=>E8 (F:=fun r=>F (.agg l::r)) (F':=fun r=>F' (.agg l::r)) fun r=>h _) hk
theorem Pg {sh:List RTy} {R R':Type} {v:TV} {F:TV->R} {F':TV->R'} {k:R->Prop} {k':R'->Prop} (h:∀x,k (F x)->k' (F' x)) (hk:Ek sh v (Fa sh F) k):Ek sh v (Fa sh F') k':=by
 match sh,hk with
 | [s],hk=>exact E8 (F:=O8 F) (F':=O8 F') (fun l=>by cases l<;>exact h _) hk
 | [],hk=>
  cases v<;>simp only[Ek]at hk⊢<;>first | exact hk.elim | skip
  exact E8 (sh:=[]) (F:=fun l=>F (.tuple l)) (F':=fun l=>F' (.tuple l)) (fun l=>h _) hk
 | s::s'::sh,hk=>
  cases v<;>simp only[Ek]at hk⊢<;>first | exact hk.elim | skip
  exact E8 (sh:=s::s'::sh) (F:=fun l=>F (.tuple l)) (F':=fun l=>F' (.tuple l)) (fun l=>h _) hk
theorem MS {T sz bytes:Nat} {v:TV} {k:Nat} {ys:List TV} {st:St} {K K':TV->St->Prop} (h:∀r st',st'.box=st.box->K r st'->K' r st') (hk:Cx T sz bytes v k ys st K):Cx T sz bytes v k ys st K':=by
 cases v<;>simp only[Cx]at hk⊢<;>try exact hk
 ·cases k with
  | zero=>exact h _ _ rfl hk
  | succ m=>simp only[Ak]at hk⊢;exact⟨hk.1,h _ _ rfl hk.2⟩
 ·rename_i s tip n xs
  cases hs:s.beq sz with
  | false=>rw[hs]at hk;exact hk.elim
  | true=>
   rw[hs]at hk
   refine⟨hk.1,?_⟩
   have hk2:=hk.2
   cases tip with
   | non=>exact hk2.elim
   | full=>cases k with
    | zero=>exact h _ _ rfl hk2
    | succ m=>exact h _ _ rfl hk2
   | own id=>exact⟨hk2.1,h _ _ rfl hk2.2⟩
theorem QI {P:Program} {f:FuncId} {args:List TV} {sh:List RTy} {st:St} {F F':TV->St->Prop} (h:∀v st',F v st'->F' v st') (hk:CallT P f args sh st (Fa sh F)):CallT P f args sh st (Fa sh F'):=
 C9.mono hk fun r st' hr=>Pg (F:=F) (F':=F') (k:=fun p=>p st') (k':=fun p=>p st') (fun x=>h x st') hr
theorem Ot {st:St} {loc:List (Option (List TV))} {p:SV} {xs:List TV} {k k':List (Option (List TV))->St->Prop} (h:∀loc' st',k loc' st'->k' loc' st') (hk:stK st loc p xs k):stK st loc p xs k':=by
 cases p with
 | loc i off=>
  simp only[stK]at hk⊢
  cases hl:loc[i]? with
  | none=>rw[hl]at hk;exact hk.elim
  | some q=>cases q with
   | none=>rw[hl]at hk;exact hk.elim
   | some l=>rw[hl]at hk;simp only[Ak]at hk⊢;exact⟨hk.1,h _ _ hk.2⟩
 | t v=>
  cases v<;>simp only[stK]at hk⊢<;>try exact hk
  obtain⟨l,e1,e2,e3⟩:=hk
  exact⟨l,e1,e2,h _ _ e3⟩
def F0 (cfg:Cfg) (o:Oper):Bool:= !(Dh cfg o)&& !(DQ o.op)
def DV:Op->Bool
 | .store _ _ _=>true
 | .alloc _=>true
 | .box _ _=>true
 | _=>false
set_option maxHeartbeats 1000000 in
theorem DF {cfg:Cfg} {P:Program} (o:Oper) {ρ ρ':Operand->SV} {loc:List (Option (List TV))} {st:St} {K K':SV->List (Option (List TV))->St->Prop} (hρ:∀x,x∈o.op.operands->ρ x=ρ' x)
  (h:∀v loc' st',(F0 cfg o=true->st'.box=st.box)->(DV o.op=false->loc'=loc/\∃x,v= .t x)->K v loc' st'->K' v loc' st') (hk:eop cfg P o.dst o.type o.op ρ loc st K):eop cfg P o.dst o.type o.op ρ' loc st K':=by
 obtain⟨dst,op,type,pos,after,guard⟩:=o
 simp only at hρ hk⊢
 have parts:∀ps:Array (Nat×Operand),(∀p∈ps.toList,ρ p.2=ρ' p.2)->(ps.toList.map fun p=>(p.1,(ρ p.2).tv))=ps.toList.map fun p=>(p.1,(ρ' p.2).tv):=fun ps hp=>
  List.map_congr_left fun p hm=>by rw[hp p hm]
 have alK:∀T ix cells,(Dh cfg ⟨dst,op,type,pos,after,guard⟩=true/\DV op=true)->C8 T ix cells loc st K->C8 T ix cells loc st K':=by
  intro T ix cells hw ha
  unfold C8 at ha⊢
  split
  ·simp only at ha
   split at ha
   ·exact h _ _ _ (by simp[F0,hw.1]) (by simp[hw.2]) ha
   ·exact ha.elim
  ·exact h _ _ _ (by simp[F0,hw.1]) (by simp[hw.2]) ha
 cases op with
 | alloc t=>
  simp only[eop]at hk⊢
  cases hz:Fj P t with
  | none=>rw[hz]at hk;exact hk
  | some cells=>rw[hz]at hk;exact alK _ _ _ ⟨rfl,rfl⟩ hk
 | box t x=>
  simp only[eop]at hk⊢
  rw[<-hρ x (by simp[Op.operands])]
  split at hk
  ·rename_i hag
   try simp only[hag]
   split at hk
   ·exact alK _ _ _ ⟨rfl,rfl⟩ hk
   ·exact hk.elim
  ·rename_i hag
   try simp only[hag]
   rw[Ak]at hk⊢
   exact⟨hk.1,alK _ _ _ ⟨rfl,rfl⟩ hk.2⟩
  ·exact hk.elim
 | buildSlice t len ps=>
  simp only[eop]at hk⊢
  rw[<-parts ps fun p hp=>hρ p.2 (by simp only[Op.operands,List.mem_toArray,List.mem_map];exact⟨p,hp,rfl⟩)]
  split at hk
  ·rename_i e he
   try simp only[he]
   split at hk
   ·rename_i sz z h1 h2
    try simp only[h1,h2]
    rw[Ak]at hk⊢
    refine⟨hk.1,?_⟩
    have hk2:=hk.2
    split at hk2
    ·rename_i cells hc
     try simp only[hc]
     rw[Ak]at hk2⊢
     exact⟨hk2.1,h _ _ _ (fun _=>rfl) (fun _=>⟨rfl,_,rfl⟩) hk2.2⟩
    ·exact hk2.elim
   ·exact hk.elim
  ·exact hk.elim
 | build t ps=>
  simp only[eop]at hk⊢
  rw[<-parts ps fun p hp=>hρ p.2 (by simp only[Op.operands,List.mem_toArray,List.mem_map];exact⟨p,hp,rfl⟩)]
  split at hk
  ·rename_i z fs h1 h2
   try simp only[h1,h2]
   split at hk
   ·rename_i cells hc
    try simp only[hc]
    rw[Ak,Ak]at hk⊢
    exact⟨hk.1,hk.2.1,h _ _ _ (fun _=>rfl) (fun _=>⟨rfl,_,rfl⟩) hk.2.2⟩
   ·exact hk.elim
  ·rename_i z m e h1 h2
   try simp only[h1,h2]
   split at hk
   ·rename_i sz h3
    try simp only[h3]
    split at hk
    ·rename_i cells hc
     try simp only[hc]
     rw[Ak]at hk⊢
     exact⟨hk.1,h _ _ _ (fun _=>rfl) (fun _=>⟨rfl,_,rfl⟩) hk.2⟩
    ·exact hk.elim
   ·exact hk.elim
  ·exact hk.elim
 | store t a x=>
  simp only[eop]at hk⊢
  rw[<-hρ x (by simp[Op.operands]),<-hρ a (by simp[Op.operands])]
  split at hk
  ·rename_i hag
   try simp only[hag]
   split at hk
   ·rw[Ak,Ak]at hk⊢
    exact⟨hk.1,hk.2.1,Ot (fun loc' st' hq=>h _ _ _ (fun hp=>by cases hp) (fun hp=>by cases hp) hq) hk.2.2⟩
   ·exact hk.elim
  ·rename_i hag
   try simp only[hag]
   rw[Ak,Ak]at hk⊢
   exact⟨hk.1,hk.2.1,Ot (fun loc' st' hq=>h _ _ _ (fun hp=>by cases hp) (fun hp=>by cases hp) hq) hk.2.2⟩
  ·exact hk.elim
 | makeMap t r=>
  simp only[eop]at hk⊢
  have hr:(r.map fun x=>(ρ x).tv)=r.map fun x=>(ρ' x).tv:=HG r fun y hy=>hρ y (by simp[Op.operands,hy])
  rw[<-hr]
  split at hk
  ·rename_i h1 h2
   try simp only[h1,h2]
   split at hk
   ·rename_i h3
    try simp only[h3]
    exact h _ _ _ (by simp[F0,Dh]) (fun _=>⟨rfl,_,rfl⟩) hk
   ·exact h _ _ _ (by simp[F0,Dh]) (fun _=>⟨rfl,_,rfl⟩) hk
  ·rename_i h1 h2
   try simp only[h1,h2]
   exact h _ _ _ (by simp[F0,Dh]) (fun _=>⟨rfl,_,rfl⟩) hk
  ·exact hk.elim
 | mapUpdate t m k x=>
  simp only[eop]at hk⊢
  rw[<-hρ m (by simp[Op.operands]),<-hρ k (by simp[Op.operands]),<-hρ x (by simp[Op.operands])]
  split at hk
  ·rename_i h1
   try simp only[h1]
   split at hk
   ·rename_i h2
    try simp only[h2]
    split at hk
    ·rename_i h3
     try simp only[h3]
     rw[Ak]at hk⊢
     refine⟨hk.1,?_⟩
     have hk2:=hk.2
     unfold muK at hk2⊢
     split at hk2
     ·obtain⟨es,he,hk2⟩:=hk2
      exact⟨es,he,h _ _ _ (by simp[F0,Dh]) (fun _=>⟨rfl,_,rfl⟩) hk2⟩
     ·exact hk2.elim
    ·exact hk.elim
   ·rename_i h2
    try simp only[h2]
    split at hk
    ·rename_i h3
     try simp only[h3]
     rw[Ak]at hk⊢
     refine⟨hk.1,?_⟩
     have hk2:=hk.2
     unfold puK at hk2⊢
     rw[BY]at hk2⊢
     obtain⟨p,hp,hk2⟩:=hk2
     exact⟨p,hp,h _ _ _ (by simp[F0,Dh]) (fun _=>⟨rfl,_,rfl⟩) hk2⟩
    ·exact hk.elim
   ·exact hk.elim
  ·exact hk.elim
 | convert sT d x=>
  simp only[eop]at hk⊢
  rw[<-hρ x (by simp[Op.operands])]
  split at hk
  ·rename_i e l h1 h2 h3
   try simp only[h1,h2,h3]
   split at hk
   ·exact h _ _ _ (fun _=>rfl) (fun _=>⟨rfl,_,rfl⟩) hk
   ·exact hk.elim
  ·rename_i h1 h2
   try simp only[h1,h2]
   split at hk
   ·rename_i u h4
    try simp only[h4]
    split at hk
    ·exact hk.elim
    ·rename_i n hn
     try simp only[hn]
     unfold unsK at hk⊢
     split at hk
     ·exact⟨hk.1,h _ _ _ (fun _=>rfl) (fun _=>⟨rfl,_,rfl⟩) hk.2⟩
     ·exact hk.elim
   ·exact hk.elim
  ·exact hk.elim
 | makeSlice t l c=>
  simp only[eop]at hk⊢
  rw[<-hρ l (by simp[Op.operands]),<-hρ c (by simp[Op.operands])]
  split at hk
  ·rename_i e k1 n k2 m h1 h2 h3
   try simp only[h1,h2,h3]
   split at hk
   ·rename_i i z h4 h5
    try simp only[h4,h5]
    rw[Ak]at hk⊢
    refine⟨hk.1,hk.2.1,?_⟩
    have hk2:=hk.2.2
    split at hk2
    ·rename_i hm
     try simp only[hm]
     exact h _ _ _ (fun hp=>by simp[F0,Dh,hm]at hp) (fun _=>⟨rfl,_,rfl⟩) hk2
    ·rename_i hm
     try simp only[hm]at hk2
     exact h _ _ _ (fun _=>rfl) (fun _=>⟨rfl,_,rfl⟩) hk2
   ·exact hk.elim
  ·exact hk.elim
 | call c=>
  obtain⟨callee,args,ts⟩:=c
  have ha:∀x,x∈args->ρ x=ρ' x:=fun x hx=>hρ x (by simp only[Op.operands,Call.operands];exact Array.mem_append.2 (.inr hx))
  cases callee with
  | value f=>
   simp only[eop]at hk⊢
   rw[<-hρ f (by simp[Op.operands,Call.operands])]
   rw[<-List.map_congr_left (l:=args.toList) (f:=fun x=>(ρ x).tv) (g:=fun x=>(ρ' x).tv) fun x hx=>by rw[ha x (Array.mem_toList_iff.1 hx)]]
   cases hf:(ρ f).tv<;>rw[hf]at hk<;>simp only[Et]at hk⊢
   exact QI (fun v st' hv=>h _ _ _ (fun hp=>by simp[F0,DQ]at hp) (fun _=>⟨rfl,_,rfl⟩) hv) hk
  | invoke r m=>exact hk
  | builtin b=>
   cases b<;>try exact hk
   case delete=>
    simp only[eop]at hk⊢
    split at hk
    ·rename_i m k t t2 h1 h2
     try simp only[h1,h2]
     rw[<-ha m (by rw[<-Array.mem_toList_iff,h1];simp),<-ha k (by rw[<-Array.mem_toList_iff,h1];simp)]
     split at hk
     ·rename_i h3
      try simp only[h3]
      split at hk
      ·rename_i h4
       try simp only[h4]
       split at hk
       ·rename_i h5
        try simp only[h5]
        unfold pdK at hk⊢
        rw[BY]at hk⊢
        obtain⟨p,hp,hk⟩:=hk
        exact⟨p,hp,h _ _ _ (by simp[F0,Dh]) (fun _=>⟨rfl,_,rfl⟩) hk⟩
       ·exact hk.elim
      ·exact hk.elim
     ·exact hk.elim
    ·exact hk.elim
   case unsafeString=>
    simp only[eop]at hk⊢
    split at hk
    ·rename_i p n pt it h1 h2
     try simp only[h1,h2]
     rw[<-ha p (by rw[<-Array.mem_toList_iff,h1];simp),<-ha n (by rw[<-Array.mem_toList_iff,h1];simp)]
     split at hk
     ·rename_i u h3
      try simp only[h3]
      split at hk
      ·rename_i h4 h5
       try simp only[h4,h5]
       unfold usK at hk⊢
       split at hk
       ·exact⟨hk.1,h _ _ _ (fun _=>rfl) (fun _=>⟨rfl,_,rfl⟩) hk.2⟩
       ·obtain⟨hc,hk⟩:=hk
        rw[BY]at hk⊢
        obtain⟨l,hl,hk⟩:=hk
        exact⟨hc,l,hl,h _ _ _ (fun _=>rfl) (fun _=>⟨rfl,_,rfl⟩) hk⟩
       ·exact hk.elim
      ·exact hk.elim
     ·exact hk.elim
    ·exact hk.elim
   simp only[eop]at hk⊢
   split at hk
   ·rename_i a x t u h1 h2
    try simp only[h1,h2]
    have hax:ρ a=ρ' a:=ha a (by rw[<-Array.mem_toList_iff,h1];simp)
    have hxx:ρ x=ρ' x:=ha x (by rw[<-Array.mem_toList_iff,h1];simp)
    rw[<-hax,<-hxx]
    split at hk
    ·rename_i e h3
     try simp only[h3]
     split at hk
     ·rename_i i z h4 h5
      try simp only[h4,h5]
      rw[Ak,BY]at hk⊢
      obtain⟨hc,p,hp,hk2⟩:=hk
      rw[Ak]at hk2
      refine⟨hc,p,hp,?_⟩
      rw[Ak]
      refine⟨hk2.1,?_⟩
      have hk3:=hk2.2
      split at hk3
      ·rename_i hms
       exact Sj (fun r st' hr=>h _ _ _ (fun hp=>by simp[F0,Dh,hms]at hp) (fun _=>⟨rfl,_,rfl⟩) hr) hk3
      ·exact MS (fun r st' hb hr=>h _ _ _ (fun _=>hb) (fun _=>⟨rfl,_,rfl⟩) hr) hk3
     ·exact hk.elim
    ·exact hk.elim
   ·exact hk.elim
 | _=>exact hk
theorem H8 {st:St} {loc:List (Option (List TV))} {k:Nat} {c:Option (List TV)} {p:SV} (hp:∀off,p≠.loc k off) (j:Nat):Ac st (loc.set k c) p j=Ac st loc p j:=by
 cases p with
 | t v=>unfold Ac;split<;>simp_all
 | loc i off=>
  have hik:k≠i:=fun h=>hp off (by rw[h])
  simp only[Ac,List.getElem?_set_ne hik]
theorem Hj {st:St} {loc:List (Option (List TV))} {k:Nat} {c:Option (List TV)} {p:SV} (hp:∀off,p≠.loc k off):∀(n j:Nat),Aj st (loc.set k c) p j n=Aj st loc p j n
 | 0,j=>rfl
 | n+1,j=>by simp only[Aj,H8 hp,Hj hp n]
theorem OQ {P:Program} {st:St} {loc:List (Option (List TV))} {k:Nat} {c:Option (List TV)} {ρ:Operand->SV} {op:Op} (hρ:∀x,x∈op.operands->∀off,ρ x≠.loc k off):BB P st (loc.set k c) ρ op=BB P st loc ρ op:=by
 cases op with
 | load t a=>
  simp only[BB,DC]
  have:=hρ a (by simp[Op.operands])
  simp only[H8 this,Hj this]
 | unOp op t x=>cases op<;>rfl
 | makeFunc fn first cap=>cases fn<;>rfl
 | call c'=>
  obtain⟨callee,args,ts⟩:=c'
  cases callee<;>first | rfl | skip
  rename_i b;cases b<;>rfl
 | _=>rfl
theorem JK {o:Option TV} {v:SV} (h:(AY.opt o).Is v) {k off:Nat}:v≠.loc k off:=by obtain⟨x,_,rfl⟩:=h;simp
theorem B9 {x:TV} {v:SV} (h:(AY.ok (.t x)).Is v) {k off:Nat}:v≠.loc k off:=by simp only[AY.Is]at h;subst h;simp
theorem EH {b:Bool} {x:TV} {v:SV} (h:(AY.chk b (.t x)).Is v) {k off:Nat}:v≠.loc k off:=by obtain⟨_,rfl⟩:=h;simp
theorem Gv {c:Prop} {x:TV} {v:SV} (h:(AY.pre c (.t x)).Is v) {k off:Nat}:v≠.loc k off:=by obtain⟨_,rfl⟩:=h;simp
theorem binT_ne {P:Program} {op:BinOp} {t:TypeId} {x y:TV} {v:SV} (h:(TL P op t x y).Is v) {k off:Nat}:v≠.loc k off:=by
 unfold TL at h
 split at h
 ·unfold nilP at h;split at h;exact h.elim;split at h;exact EH h;exact h.elim
 ·unfold nilS at h;split at h;exact h.elim;split at h;exact EH h;exact h.elim
 ·unfold aggN at h
  split at h
  ·split at h
   ·split at h
    ·exact B9 h
    ·exact h.elim
   ·exact h.elim
  ·exact h.elim
 ·unfold ptrN at h
  split at h
  ·split at h
   ·exact h.elim
   ·exact Gv h
  ·exact h.elim
 ·unfold binV at h
  split at h
  ·split at h
   ·unfold shI at h;split at h;exact EH h;exact EH h;exact h.elim
   ·split at h
    ·unfold binI at h
     split at h
     ·exact B9 h
     ·exact B9 h
     ·exact B9 h
     ·exact EH h
     ·exact EH h
     ·exact B9 h
     ·exact B9 h
     ·exact B9 h
     ·exact B9 h
     ·split at h
      ·exact B9 h
      ·exact h.elim
    ·exact h.elim
  ·unfold binS at h
   split at h<;>first | exact B9 h | exact Gv h | exact h.elim
  ·split at h
   ·split at h<;>first | exact B9 h | exact h.elim
   ·exact h.elim
  ·exact h.elim
theorem TB {P:Program} {st:St} {a b:TypeId} {x:TV} {v:SV} (h:(MP P st a b x).Is v) {k off:Nat}:v≠.loc k off:=by
 unfold MP at h
 split at h
 ·exact B9 h
 ·exact B9 h
 ·split at h
  ·exact JK h
  ·exact h.elim
 ·split at h
  ·exact h.elim
  ·exact Gv h
 ·exact h.elim
theorem RJ {P:Program} {t:TypeId} {x:TV} {lo hi mx:Option TV} {v:SV} (h:(K0 P t x lo hi mx).Is v) {k off:Nat}:v≠.loc k off:=by
 unfold K0 at h
 split at h
 ·split at h<;>first | exact B9 h | exact Gv h | exact h.elim
 ·split at h
  ·exact h.elim
  ·split at h<;>first | exact Gv h | exact h.elim
 ·exact h.elim
theorem lenN_ne {P:Program} {t:TypeId} {x:TV} {v:SV} (h:(S4 P t x).Is v) {k off:Nat}:v≠.loc k off:=by
 unfold S4 at h
 split at h<;>first | exact B9 h | exact EH h | exact h.elim
theorem SY {P:Program} {st:St} {t:TypeId} {x i:TV} {ok:Bool} {v:SV} (h:(My P st t x i ok).Is v) {k off:Nat}:v≠.loc k off:=by
 unfold My at h
 split at h
 ·split at h
  ·split at h
   ·obtain⟨x,_,rfl⟩:=h;simp
   ·exact h.elim
  ·split at h
   ·obtain⟨x,_,rfl⟩:=h;simp
   ·exact h.elim
  ·exact h.elim
 ·exact h.elim
theorem QV {mx:Bool} {x y:TV} {v:SV} (h:(RU mx x y).Is v) {k off:Nat}:v≠.loc k off:=by
 unfold RU at h
 split at h
 ·split at h
  ·exact B9 h
  ·exact h.elim
 ·exact h.elim
theorem P1 {P:Program} {st:St} {loc:List (Option (List TV))} {k:Nat} {ρ:Operand->SV} {op:Op} (hρ:∀x,x∈op.operands->∀off,ρ x≠.loc k off) {v:SV} (h:(BB P st loc ρ op).Is v):∀off,v≠.loc k off:=by
 intro off
 have close:∀{r:AY},r.Is v->(∀u,r.Is u->u≠.loc k off)->v≠.loc k off:=fun h k=>k _ h
 unfold BB at h
 split at h
 ·rename_i x;simp only[AY.Is]at h;subst h;exact hρ x (by simp[Op.operands]) off
 ·rename_i x;simp only[AY.Is]at h;subst h;exact hρ x (by simp[Op.operands]) off
 ·rename_i c a b
  split at h
  ·rename_i x y h1 h2 h3;simp only[AY.Is]at h;subst h;exact hρ a (by simp[Op.operands]) off
  ·rename_i x y h1 h2 h3;simp only[AY.Is]at h;subst h;exact hρ b (by simp[Op.operands]) off
  ·exact h.elim
 ·unfold DC at h
  split at h
  ·exact JK h
  ·exact JK h
  ·exact h.elim
 ·rename_i x
  split at h
  ·rename_i i o he;simp only[AY.Is]at h;subst h
   have:=hρ x (by simp[Op.operands]) off
   rw[he]at this;exact this
  ·exact EH h
 ·rename_i op t x y yt
  split at h
  ·split at h
   ·exact B9 h
   ·exact h.elim
  ·exact binT_ne h
 ·split at h
  ·exact B9 h
  ·exact h.elim
 ·split at h
  ·exact B9 h
  ·exact h.elim
 ·exact TB h
 ·split at h
  ·exact B9 h
  ·exact h.elim
 ·exact RJ h
 ·rename_i t x f
  split at h
  ·rename_i fd hfd
   split at h
   ·exact h.elim
   ·split at h
    ·rename_i i o he;simp only[AY.Is]at h;subst h
     have:=hρ x (by simp[Op.operands])
     rw[he]at this
     intro hh
     simp only[SV.loc.injEq]at hh
     exact this o (by rw[hh.1])
    ·exact EH h
  ·exact h.elim
 ·split at h
  ·exact JK h
  ·exact h.elim
 ·rename_i t x i
  split at h
  ·rename_i kl off he
   split at h
   ·split at h
    ·obtain⟨_,rfl⟩:=h
     have:=hρ x (by simp[Op.operands])
     rw[he]at this
     intro hh
     simp only[SV.loc.injEq]at hh
     exact this _ (by rw[hh.1])
    ·exact h.elim
   ·exact h.elim
  ·split at h
   ·split at h
    ·exact Gv h
    ·exact h.elim
   ·exact h.elim
 ·split at h
  ·exact Gv h
  ·exact h.elim
 ·split at h
  ·exact JK h
  ·exact h.elim
 ·split at h
  ·exact lenN_ne h
  ·exact h.elim
 ·split at h
  ·exact JK h
  ·exact h.elim
 ·exact SY h
 ·unfold bslN at h
  split at h<;>first | exact h.elim | skip
  split at h<;>first | exact h.elim | skip
  split at h<;>first | exact h.elim | skip
  obtain⟨_,rfl⟩:=h
  simp
 ·split at h
  ·exact QV h
  ·exact h.elim
 ·split at h
  ·exact QV h
  ·exact h.elim
 ·exact h.elim
theorem Qj {cfg:Cfg} {P:Program} (o:Oper) {ρ:Operand->SV} {loc:List (Option (List TV))} {k:Nat} {c:List TV} {st:St} {K:SV->List (Option (List TV))->St->Prop} (hρ:∀x,x∈o.op.operands->∀off,ρ x≠.loc k off)
  (hk0:loc[k]? =some none) (hal:Dc cfg.loc o.dst≠some k) (hk:eop cfg P o.dst o.type o.op ρ (loc.set k (some c)) st K):
  eop cfg P o.dst o.type o.op ρ loc st (fun v loc' st'=>(∀off,v≠.loc k off)/\loc'[k]? =some none/\K v (loc'.set k (some c)) st'):=by
 have alK:∀T cells,C8 T (Dc cfg.loc o.dst) cells (loc.set k (some c)) st K->C8 T (Dc cfg.loc o.dst) cells loc st (fun v loc' st'=>(∀off,v≠.loc k off)/\loc'[k]? =some none/\K v (loc'.set k (some c)) st'):=by
  intro T cells ha
  unfold C8 at ha⊢
  split
  ·rename_i k' hk'
   have hne:k≠k':=fun h=>hal (by rw[hk',h])
   rw[hk']at ha
   simp only[List.getElem?_set_ne hne]at ha
   split at ha
   ·rename_i hl
    simp only[hl]
    exact⟨fun off hh=>hne (by simp only[SV.loc.injEq]at hh;exact hh.1.symm),by rw[List.getElem?_set_ne (Ne.symm hne)];exact hk0,by rw[List.set_comm _ _ (Ne.symm hne)];exact ha⟩
   ·exact ha.elim
  ·rename_i hk'
   rw[hk']at ha
   exact⟨fun off hh=>(by cases hh),hk0,ha⟩
 cases hl:DV o.op with
 | true=>
  obtain⟨dst,op,type,pos,after,guard⟩:=o
  cases op<;>simp only[DV,Bool.false_eq_true]at hl
  ·simp only[eop]at hk⊢
   split at hk
   ·rename_i cells hz;exact alK _ _ hk
   ·exact hk.elim
  ·simp only[eop]at hk⊢
   split at hk
   ·rename_i hag
    split at hk
    ·exact alK _ _ hk
    ·exact hk.elim
   ·rename_i hag
    rw[Ak]at hk⊢
    exact⟨hk.1,alK _ _ hk.2⟩
   ·exact hk.elim
  ·rename_i t a x
   simp only[eop]at hk⊢
   have ha:=hρ a (by simp[Op.operands])
   have hst:∀xs,stK st (loc.set k (some c)) (ρ a) xs (fun loc' st'=>K (.t .undef) loc' st')->stK st loc (ρ a) xs fun loc' st'=>(∀off,SV.t .undef≠.loc k off)/\loc'[k]? =some none/\K (.t .undef) (loc'.set k (some c)) st':=by
    intro xs hk2
    unfold stK at hk2⊢
    split at hk2
    ·rename_i i off he
     have hne:k≠i:=fun h=>ha off (by rw[he,h])
     rw[List.getElem?_set_ne hne]at hk2
     split at hk2
     ·rename_i l hl'
      simp only[hl']
      rw[Ak]at hk2⊢
      refine⟨hk2.1,fun off hh=>(by cases hh),by rw[List.getElem?_set_ne (Ne.symm hne)];exact hk0,?_⟩
      rw[List.set_comm _ _ (Ne.symm hne)];exact hk2.2
     ·exact hk2.elim
    ·rename_i b off he
     obtain⟨l,e1,e2,e3⟩:=hk2
     exact⟨l,e1,e2,fun off hh=>(by cases hh),hk0,e3⟩
    ·exact hk2.elim
   split at hk
   ·split at hk
    ·rw[Ak,Ak]at hk⊢
     exact⟨hk.1,hk.2.1,hst _ hk.2.2⟩
    ·exact hk.elim
   ·rw[Ak,Ak]at hk⊢
    exact⟨hk.1,hk.2.1,hst _ hk.2.2⟩
   ·exact hk.elim
 | false=>
  have h1:=DF (cfg:=cfg) (K':=fun v _ st'=>(∀off,v≠.loc k off)/\loc[k]? =some none/\K v (loc.set k (some c)) st') o (ρ':=ρ) (fun _ _=>rfl) (fun v loc' st' _ hloc hK=>by
   obtain⟨e1,x,e2⟩:=hloc hl
   subst e2
   exact⟨fun off hh=>(by cases hh),hk0,by rw[<-e1];exact hK⟩) hk
  have h2:eop cfg P o.dst o.type o.op ρ loc st (fun v _ st'=>(∀off,v≠.loc k off)/\loc[k]? =some none/\K v (loc.set k (some c)) st'):=by
   obtain⟨dst,op,type,pos,after,guard⟩:=o
   cases op<;>simp only[DV,Bool.true_eq_false]at hl<;>first | exact h1 | skip
   rename_i cl
   obtain⟨callee,args,ts⟩:=cl
   cases callee<;>first | exact h1 | skip
   rename_i b
   cases b<;>exact h1
  refine DF (K:=fun v _ st'=>(∀off,v≠.loc k off)/\loc[k]? =some none/\K v (loc.set k (some c)) st') o (ρ:=ρ) (fun _ _=>rfl) (fun v loc' st' _ hloc hK=>?_) h2
  obtain⟨e1,_⟩:=hloc hl
  subst e1
  exact hK
end Go.TVF
end
section
namespace Go.TVF
open Go.IntKind(i64 u8)
open Go.RowKit (Below)
theorem Nr (w:World) (a b:Addr) (u v:Value) (h:a.block≠b.block):(w.setCell a u).setCell b v=(w.setCell b v).setCell a u:=by
 unfold World.setCell
 congr 1
 apply Array.ext_getElem?
 intro k
 simp only[Array.getElem?_modify]
 by_cases h1:a.block=k
 ·by_cases h2:b.block=k
  ·exact absurd (h1.trans h2.symm) h
  ·simp[h1,h2]
 ·by_cases h2:b.block=k<;>simp[h1,h2]
theorem L6 (w:World) (b o o':Nat) (u v:Value) (h:o≠o'):(w.setCell ⟨b,o,none⟩ u).setCell ⟨b,o',none⟩ v=(w.setCell ⟨b,o',none⟩ v).setCell ⟨b,o,none⟩ u:=by
 unfold World.setCell
 congr 1
 apply Array.ext_getElem?
 intro k
 simp only[Array.getElem?_modify]
 by_cases h1:b=k
 ·simp only[h1,if_true,Option.map_map]
  congr 1
  funext x
  cases x<;>simp[Array.setIfInBounds_comm _ _ h]
 ·simp[h1]
theorem Nq (w:World) (b o:Nat) (u v:Value):(w.setCell ⟨b,o,none⟩ u).setCell ⟨b,o,none⟩ v=w.setCell ⟨b,o,none⟩ v:=by
 unfold World.setCell
 congr 1
 apply Array.ext_getElem?
 intro k
 simp only[Array.getElem?_modify]
 by_cases h1:b=k
 ·simp only[h1,if_true,Option.map_map]
  congr 1
  funext x
  cases x<;>simp
 ·simp[h1]
theorem HX (b:Nat) (p:Addr) (u:Value) (h:p.block≠b):∀(vs:List Value) (o:Nat) (w:World),(w.setCell p u).setCells b o vs=(w.setCells b o vs).setCell p u
 | [],_,_=>rfl
 | v::r,o,w=>by
  rw[World.setCells,World.setCells,Nr _ p ⟨b,o,none⟩ u v h,HX b p u h r]
theorem G9 (b o':Nat) (u:Value):∀(vs:List Value) (o:Nat) (w:World),o'<o->(w.setCell ⟨b,o',none⟩ u).setCells b o vs=(w.setCells b o vs).setCell ⟨b,o',none⟩ u
 | [],_,_,_=>rfl
 | v::r,o,w,h=>by
  rw[World.setCells,World.setCells,L6 _ b o' o u v (by omega),G9 b o' u r _ _ (by omega)]
theorem HW (b:Nat):∀(zs vs:List Value) (o:Nat) (w:World),zs.length=vs.length->(w.setCells b o zs).setCells b o vs=w.setCells b o vs
 | [],[],_,_,_=>rfl
 | [],_::_,_,_,h=>by simp at h
 | _::_,[],_,_,h=>by simp at h
 | z::zs,v::vs,o,w,h=>by
  rw[World.setCells,World.setCells,World.setCells,<-G9 b o v zs (o+1) _ (by omega),Nq,HW b zs vs (o+1) _ (by simpa using h)]
theorem Ha:∀(vs zs os rs:List Value) (w:World) (T:TypeId),vs.length=zs.length->
  (w.alloc (.cells (os++zs++rs).toArray T)).setCells w.heap.size os.length vs=w.alloc (.cells (os++vs++rs).toArray T)
 | [],[],os,rs,w,T,h=>rfl
 | [],_::_,_,_,_,_,h=>by simp at h
 | _::_,[],_,_,_,_,h=>by simp at h
 | v::vs,z::zs,os,rs,w,T,h=>by
  rw[World.setCells,World.setCell_alloc_at _ _ _ _ _ rfl]
  have e:(os++z::zs++rs).toArray.setIfInBounds os.length v=((os++[v])++zs++rs).toArray:=by
   simp
  rw[e]
  have:=Ha vs zs (os++[v]) rs w T (by simpa using h)
  rw[List.length_append]at this
  simp only[List.length_singleton]at this
  rw[this]
  simp
section
variable {P:Program} {g:Ghost} {st:St} {loc:List (Option (List TV))} {w:World}
theorem Py (s:Sim g st loc w) {t u ty e:TypeId} {i:TypeInfo} {z:Value} {du:TypeDesc} (ht:P.underlying t=some (.slice e)) (hu:P.underlying u=some du) (hdu:(∃e',du= .slice e')∨du= .string)
  (hi:P.info? e=some i) (hz0:i.zero=some z) (hzs:z.cells.size=i.size) (hs1:1<=i.size) (hb1:1<=i.bytes) {v:TV} {vv xv:Value} (hv:Rel g w v vv) {k:Nat} {zs:List Value}
  (hlen:(Builtin.lenOf xv).run P w= .ok k w) (hf:(Builtin.firstCells i.size k xv).run P w= .ok zs.toArray w) (hfd:(Builtin.firstCells i.size k xv).run P w.drew= .ok zs.toArray w.drew)
  (hzl:zs.length=k*i.size) (hz1:∀c∈zs,c.oneCell'=true) {ys:List TV} {vs:List Value} (hrv:AL g w ys vs) (hvl:vs.length=k*i.size) (hone:ys.all At=true) (hk0:0<k)
  {K:SV->List (Option (List TV))->St->Prop} (h:Cx e i.size i.bytes v k ys st fun r st'=>K (.t r) loc st'):
  ∃b o n cap w1,(Builtin.append_ #[t,u] ty #[vv,xv]).run P w= .ok (.slice (some ⟨b,o,none⟩) (n+k) cap) w1/\n=lenS v/\
   (∀j,j<k*i.size->(w1.cell? ⟨b,o+n*i.size+j,none⟩).isSome=true/\w1.frozen? ⟨b,o+n*i.size+j,none⟩=false)/\(∀q,Dom st loc q->g.at q≠b)/\Sim g st loc w1/\Ext g w g w1/\
   Em g w loc K (.slice (some ⟨b,o,none⟩) (n+k) cap) (w1.setCells b (o+n*i.size) vs):=by
 have hyl:ys.length=k*i.size:=hrv.1.trans hvl
 obtain⟨sd,ed⟩:=s.drew
 --a new row
 have hnew:∀(g1:Ghost) (st1:St) (T':Option Nat) (n:Nat) (os:List Value) (xs:List TV) (base:Option Addr) (cap:Nat),(∀t,T'=some t->t=e)->Sim g1 st1 loc w.drew->Ext g w g1 w.drew->g1.lam=g.lam->AL g w xs os->os.length=n*i.size->
   (Builtin.append_ #[t,u] ty #[vv,xv]).run P w= .ok (.slice (some ⟨w.heap.size,0,none⟩) (n+k) (grownCap w (n+k) cap e)) (w.drew.alloc (.cells ((os++zs).toArray++Builtin.zeroCells z.cells (grownCap w (n+k) cap e-(n+k))) e))->n=lenS v->
   K (.t (.list i.size (.own st1.nt) (n+k) (xs++ys))) loc (st1.fresh T')->
   ∃b o n cap w1,(Builtin.append_ #[t,u] ty #[vv,xv]).run P w= .ok (.slice (some ⟨b,o,none⟩) (n+k) cap) w1/\n=lenS v/\
    (∀j,j<k*i.size->(w1.cell? ⟨b,o+n*i.size+j,none⟩).isSome=true/\w1.frozen? ⟨b,o+n*i.size+j,none⟩=false)/\(∀q,Dom st loc q->g.at q≠b)/\Sim g st loc w1/\Ext g w g w1/\
    Em g w loc K (.slice (some ⟨b,o,none⟩) (n+k) cap) (w1.setCells b (o+n*i.size) vs):=by
  intro g1 st1 T' n os xs base cap hT' s1 e1 hlam hro hol hrun hn hK
  obtain⟨Z,hZ⟩:∃Z:Array Value,Z=Builtin.zeroCells z.cells (grownCap w (n+k) cap e-(n+k)):=⟨_,rfl⟩
  rw[<-hZ]at hrun
  have hsh:∀cs:List Value,(os++cs).toArray++Z=(os++cs++Z.toList).toArray:=fun cs=>by apply Array.ext';simp
  rw[hsh]at hrun
  have hset:=Ha vs zs os Z.toList w.drew e (by omega)
  have hdh:w.drew.heap.size=w.heap.size:=rfl
  obtain⟨sa,ea,fa⟩:=sd.alloc (.cells (os++zs++Z.toList).toArray e)
  have hcells:=BQ.alloc w.drew (os++zs++Z.toList) e
  have hlt:∀j,j<k*i.size->0+n*i.size+j<(os++zs++Z.toList).length:=fun j hj=>by simp only[List.length_append];omega
  refine⟨w.heap.size,0,n,grownCap w (n+k) cap e,_,hrun,hn,fun j hj=>⟨?_,?_⟩,fun q d hq=>?_,sa,ed.trans ea,?_⟩
  ·have:=hcells.get (List.getElem?_eq_getElem (hlt j hj))
   rw[hdh]at this;rw[this];rfl
  ·have:=hcells.unfrozen (hlt j hj)
   rw[hdh]at this;exact this
  ·have:=(s.lo q d).2;omega
  ·have hos:0+n*i.size=os.length:=by omega
   rw[hos,<-hdh,hset]
   have hsz:((os++vs).toArray++Z).size=grownCap w (n+k) cap e*i.size:=by
    rw[hZ];exact ET os vs z.cells n k _ i.size hol hvl hzs (grownCap_ge _ _ _ _)
   have hfr:=Du (sz:=i.size) (n:=n+k) (cap:=grownCap w (n+k) cap e) (cells:=xs++ys) (vs:=(os++vs).toArray++Z) s1 e (0,0)
    (by
     have:((os++vs).toArray++Z).toList.take (xs++ys).length=os++vs:=by
      simp only[Array.toList_append,List.toList_toArray]
      rw[show(xs++ys).length=(os++vs).length from by simp[hrv.1,hro.1]]
      exact List.take_left
     rw[this];exact(hro.append hrv).ext e1) (by rw[List.length_append,hro.1,hol,hyl,Nat.add_mul]) (grownCap_ge _ _ _ _)
    hsz (fun o _=>by simp) hT' (K:=K) hK
   rw[hsh]at hfr
   obtain⟨sv,l',st',g',h1,h2,h3,h4,h5⟩:=hfr
   exact⟨sv,l',st',g',h1,h2,h3,e1.trans h4,fun i x hx=>by rw[<-hlam];exact h5 i x hx⟩
 unfold Cx at h
 split at h
 ·--nil
  cases hv
  split at h
  ·omega
  ·rename_i m
   rw[Ak]at h
   obtain⟨hble,hK⟩:=h
   have hb:=Nat.le_of_ble_eq_true hble
   have hrun:=Ci t u ty e i z du ht hu hdu hi hz0 none 0 0 (m+1) xv [] zs hlen hfd (by simp[Builtin.firstCells]) (by omega) (by simpa using hb) hb1
   exact hnew g st (some e) 0 [] [] none 0 (fun t ht=>by cases ht;rfl) sd ed rfl (AL.nil _ _) (by simp) hrun rfl (by simpa using hK)
 ·rename_i s' tip n xs
  split at h
  ·rename_i hss
   have hs':s'=i.size:=Nat.eq_of_beq_eq_true hss
   subst hs'
   obtain⟨hbytes,h⟩:=h
   cases hv with
   | listE _ _ a htip=>
    have hfo:∀w:World,(Builtin.firstCells i.size 0 (.slice (some a) 0 0)).run P w= .ok ([]:List Value).toArray w:=fun w=>run_firstCells_some (P:=P) w i.size 0 a 0 0 [] (by simp) (fun j v hj=>by simp at hj)
    split at h
    ·split at h
     ·omega
     ·rename_i m
      exact hnew g st _ 0 [] [] (some a) 0 (fun t ht=>by cases ht;rfl) sd ed rfl (AL.nil _ _) (by simp) (Ci t u ty e i z du ht hu hdu hi hz0 (some a) 0 0 (m+1) xv [] zs hlen hfd (hfo _) (by omega) (by simpa using hbytes) hb1) rfl h
    ·exact absurd rfl (htip _)
    ·exact h.elim
   | list _ _ _ _ b o cap us hl hn hc hr htip=>
    obtain⟨hro,hfo⟩:=IA (P:=P) (cap:=cap) hl hc hr
    have hol:((List.range xs.length).map us).length=n*i.size:=by simp[hl]
    have hgrow:∀(g1:Ghost) (st1:St) (T':Option Nat),(∀t,T'=some t->t=e)->Sim g1 st1 loc w.drew->Ext g w g1 w.drew->g1.lam=g.lam->¬n+k<=cap->K (.t (.list i.size (.own st1.nt) (n+k) (xs++ys))) loc (st1.fresh T')->_:=
     fun g1 st1 T' hT' s1 e1 hlam hroom hK=>hnew g1 st1 T' n _ xs (some ⟨b,o,none⟩) cap hT' s1 e1 hlam hro hol (Ci t u ty e i z du ht hu hdu hi hz0 (some ⟨b,o,none⟩) n cap k xv _ zs hlen hfd hfo hroom hbytes hb1) rfl hK
    split at h
    ·--full
     have hcn:cap=n:=htip
     split at h
     ·omega
     ·exact hgrow g st _ (fun t ht=>by cases ht;rfl) sd ed rfl (by omega) h
    ·--own
     rename_i id
     obtain⟨hlive,hK⟩:=h
     have hid:id<st.nt:=s.nt▸htip.1
     have hne:=s.own id hid hlive
     obtain⟨r0,hr0⟩:=Option.ne_none_iff_exists'.1 hne
     have hreq:=htip.2 r0 hr0
     subst hreq
     simp only at hr0
     by_cases hroom:n+k<=cap
     ·obtain⟨c1,c2,c3,c4,c5⟩:=s.spCell id b _ _ hr0
      have hns:n*i.size<=(n+k)*i.size:=Nat.mul_le_mul_right _ (by omega)
      have hks:(n+k)*i.size<=cap*i.size:=Nat.mul_le_mul_right _ hroom
      have hnk:(n+k)*i.size=n*i.size+k*i.size:=Nat.add_mul _ _ _
      have hkp:0<k*i.size:=Nat.mul_pos hk0 hs1
      have hst:∀cs:List Value,cs.length=k*i.size->(∀c∈cs,c.oneCell'=true)->(storeCells ⟨b,o+n*i.size,none⟩ cs).run P w= .ok () (w.setCells b (o+n*i.size) cs):=fun cs hcl hc1=>by
       have:=run_storeCells_cells (P:=P) b (o+n*i.size) cs 0 w (fun j hj=>by
        obtain⟨v,hv⟩:=(c5 (o+n*i.size+j) (by omega) (by omega)).1
        simp only[Nat.add_zero];rw[hv];rfl) (fun j hj=>by
        simp only[Nat.add_zero];exact(c5 (o+n*i.size+j) (by omega) (by omega)).2) hc1
       simpa using this
      have hin:∀cs:List Value,cs.length=k*i.size->∀j,j<cs.length->(w.setCells b (o+n*i.size) cs).cell? ⟨b,o+n*i.size+j,none⟩=some (cs.getD j Go.undef):=by
       intro cs hcl j hj
       have:=World.cell?_setCells_in b cs (o+n*i.size) w (fun j hj=>by
        obtain⟨v,hv⟩:=(c5 (o+n*i.size+j) (by omega) (by omega)).1
        rw[hv];rfl) j hj
       rw[this,List.getD_eq_getElem?_getD,List.getElem?_eq_getElem hj,Option.getD_some]
      have hstep:∀cs:List Value,cs.length=k*i.size->Sim g st loc (w.setCells b (o+n*i.size) cs)/\Ext g w g (w.setCells b (o+n*i.size) cs):=by
       intro cs hcl
       refine s.spWrite hr0 (by omega) (Db _ _ _ _) (fun k hk=>FI b k hk _ _ _) (fun o' ho'=>?_) (fun o' h1 h2=>?_) (fun o'=>World.frozen?_setCells _ _ _ _ _) (Below.setCells c1 _ _ _ s.below) (fun T=>CM b T _ _ _)
       ·exact World.cell?_setCells_out b cs _ w _ (fun _ _=>by simp only;omega)
       ·by_cases hlt:o'<o+n*i.size+cs.length
        ·have:=hin cs hcl (o'-(o+n*i.size)) (by omega)
         rw[show o+n*i.size+(o'-(o+n*i.size))=o' from by omega]at this
         exact⟨_,this⟩
        ·rw[World.cell?_setCells_out b cs _ w _ (fun _ _=>by simp only;omega)]
         exact(c5 o' h1 h2).1
      refine⟨b,o,n,cap,w.setCells b (o+n*i.size) zs,?_,rfl,fun j hj=>⟨?_,?_⟩,c4,(hstep zs hzl).1,(hstep zs hzl).2,?_⟩
      ·rw[BG t u ty e i du ht hu hdu hi (some ⟨b,o,none⟩) n cap k xv zs hlen hf hroom]
       simp only[Bl,hst zs hzl hz1,Result.andThen_ok]
      ·rw[hin zs hzl j (by omega)];rfl
      ·rw[World.frozen?_setCells];exact(c5 (o+n*i.size+j) (by omega) (by omega)).2
      ·rw[HW b zs vs _ _ (by omega)]
       have hin:=hin vs hvl
       obtain⟨s1,e1⟩:=hstep vs hvl
       obtain⟨s2,e2⟩:=s1.retire id
       have hnprot:¬g.prot b:=fun hp=>(s.protOk b hp).2.2.1 id _ _ hr0
       have hspr:∀j r,(g.retire id).sp j=some r->j≠id/\g.sp j=some r:=by
        intro j r hj
        simp only[Ghost.retire]at hj
        split at hj
        ·cases hj
        ·exact⟨‹_›,hj⟩
       obtain⟨s3,e3⟩:=s2.settle (fun a=>a.block=b/\a.spot=none/\o+n*i.size<=a.off/\a.off<o+(n+k)*i.size) (fun a ha=>by
        obtain⟨h1,h2,h3,h4⟩:=ha
        refine⟨h2,⟨vs.getD (a.off-(o+n*i.size)) Go.undef,?_⟩,fun q d=>by rw[h1];exact c4 q d,fun j l' h' hj=>?_⟩
        ·have:=hin (a.off-(o+n*i.size)) (by omega)
         rw[show o+n*i.size+(a.off-(o+n*i.size))=a.off from by omega]at this
         cases a;simp only at h1 h2 this⊢;subst h1 h2;exact this
        ·obtain⟨hji,hj'⟩:=hspr j _ hj
         rw[h1]at hj'
         have:=s.spApart j id b _ _ _ _ hji hj' hr0
         omega) (fun a ha=>by rw[ha.1];exact hnprot)
       have hS3:∀a,((g.retire id).settle fun a=>a.block=b/\a.spot=none/\o+n*i.size<=a.off/\a.off<o+(n+k)*i.size).S a->a.block=b->¬(o+(n+k)*i.size<=a.off/\a.off<o+cap*i.size):=by
        intro a ha hab hh
        rcases ha with ha | ha
        ·have:=(s.sCell a ha).2.2.2 id (o+n*i.size) (o+cap*i.size) (by rw[hab];exact hr0)
         omega
        ·have:=ha.2.2.2;omega
       obtain⟨s4,e4,hsp4⟩:=s3.fresh b (o+(n+k)*i.size) (o+cap*i.size) (.inl c1) c1 (by rw[Db];exact c2) (by omega) c4 (fun o' h1 h2=>by
         rw[World.cell?_setCells_out b vs _ w _ (fun _ _=>by simp only;omega),World.frozen?_setCells]
         exact c5 o' (by omega) h2) hS3 hnprot (fun j l' h' hj=>by
         obtain⟨hji,hj'⟩:=hspr j _ hj
         have:=s.spApart j id b _ _ _ _ hji hj' hr0
         omega) (fun j r hj=>by obtain⟨hji,hj'⟩:=hspr j _ hj;exact s.spTop id b _ _ hr0 j r hji hj') (T:=KS e (st.ty id)) (fun t ht=>by rw[(Dr ht).1];exact CM b e _ _ _ (s.spTy id b _ _ e hr0 (Dr ht).2))
       have eall:=e1.trans (e2.trans (e3.trans e4))
       refine⟨_,_,_,_,hK,s4,?_,eall,fun j x hj=>⟨rfl,x,hj⟩⟩
       refine Rel.list i.size (.own st.nt) (n+k) (xs++ys) b o cap (fun j=>if j<xs.length then us j else vs.getD (j-xs.length) Go.undef) (by rw[List.length_append,hl,hyl,Nat.add_mul]) hroom (fun j hj=>?_) (fun j hj=>?_) ⟨?_,fun r hr'=>?_⟩
       ·by_cases hjx:j<xs.length
        ·rw[if_pos hjx]
         have:=eall.S _ (hc j hjx).1
         exact⟨this.1,this.2.trans (hc j hjx).2⟩
        ·rw[if_neg hjx]
         rw[List.length_append]at hj
         have hjv:j-xs.length<vs.length:=by rw[<-hrv.1];omega
         have:=hin (j-xs.length) hjv
         rw[show o+n*i.size+(j-xs.length)=o+j from by omega]at this
         exact⟨.inr ⟨rfl,rfl,by simp only;omega,by simp only;omega⟩,this⟩
       ·by_cases hjx:j<xs.length
        ·rw[if_pos hjx,List.getElem_append_left hjx]
         exact(hr j hjx).ext eall
        ·rw[if_neg hjx,List.getElem_append_right (by omega)]
         exact(hrv.2 _ (by rw[List.length_append]at hj;omega)).ext eall
       ·show st.nt<g.nt+1
        rw[s.nt];omega
       ·have hsp4':=hsp4
        simp only[St.retire]at hsp4'
        rw[hsp4']at hr'
        simp only[Option.some.injEq]at hr'
        exact hr'.symm
     ·obtain⟨s2,e2⟩:=sd.retire id
      exact hgrow (g.retire id) (st.retire id) _ (fun t ht=>(Dr ht).1) s2 (ed.trans e2) rfl hroom hK
    ·exact h.elim
  ·exact h.elim
 ·exact h.elim
end
theorem Ts {cfg:Cfg} {P:Program} (o:Oper) {ρ:Operand->SV} {loc:List (Option (List TV))} {st:St} {K:SV->List (Option (List TV))->St->Prop} (hk:eop cfg P o.dst o.type o.op ρ loc st K):
  eop cfg P o.dst o.type o.op ρ loc st (fun v loc' st'=>K v loc' st'/\(∀(k:Nat) (l:List TV),loc[k]? =some (some l)->(∀t a x,o.op= .store t a x->∀off,ρ a≠.loc k off)->loc'[k]? =loc[k]?)/\
   ((∀t a x,o.op= .store t a x->∃m off,ρ a= .loc m off)->(∀t,o.op= .alloc t->(Dc cfg.loc o.dst).isSome=true)->(∀t x,o.op≠.box t x)->DV o.op=true->st'=st)):=by
 rcases Bool.eq_false_or_eq_true (DV o.op)with hl | hl
 case inr=>exact DF o (fun _ _=>rfl) (fun v loc' st' hbx hlc hK=>⟨hK,fun k l _ _=>by rw[(hlc hl).1],fun _ _ _ h=>by rw[hl]at h;cases h⟩) hk
 case inl=>
  obtain⟨dst,op,type,pos,after,guard⟩:=o
  have alK:∀T cells,C8 T (Dc cfg.loc dst) cells loc st K->((∀t x,op≠.box t x)->(∃t,op= .alloc t))->C8 T (Dc cfg.loc dst) cells loc st (fun v loc' st'=>K v loc' st'/\(∀(k:Nat) (l:List TV),loc[k]? =some (some l)->(∀t a x,op= .store t a x->∀off,ρ a≠.loc k off)->loc'[k]? =loc[k]?)/\
    ((∀t a x,op= .store t a x->∃m off,ρ a= .loc m off)->(∀t,op= .alloc t->(Dc cfg.loc dst).isSome=true)->(∀t x,op≠.box t x)->DV op=true->st'=st)):=by
   intro T cells ha hop
   unfold C8 at ha⊢
   split
   ·rename_i k' hk'
    rw[hk']at ha
    simp only at ha
    split at ha
    ·rename_i hl'
     simp only[hl']
     refine⟨ha,fun k l hkl _=>?_,fun _ _ _ _=>trivial⟩
     have hne:k'≠k:=fun h=>by subst h;rw[hl']at hkl;cases hkl
     rw[List.getElem?_set_ne hne]
    ·exact ha.elim
   ·rename_i hk'
    rw[hk']at ha
    refine⟨ha,fun k l _ _=>rfl,fun _ h2 h3 _=>?_⟩
    obtain⟨t,ht⟩:=hop h3
    have:=h2 t ht
    rw[hk']at this;cases this
  cases op<;>simp only[DV,Bool.false_eq_true]at hl
  ·simp only[eop]at hk⊢
   split at hk
   ·rename_i cells hz;exact alK _ _ hk fun _=>⟨_,rfl⟩
   ·exact hk.elim
  ·rename_i tb xb
   simp only[eop]at hk⊢
   have hop:(∀t x,Op.box tb xb≠.box t x)->∃t,Op.box tb xb= .alloc t:=fun h=>absurd rfl (h tb xb)
   split at hk
   ·rename_i hag
    split at hk
    ·exact alK _ _ hk hop
    ·exact hk.elim
   ·rename_i hag
    rw[Ak]at hk⊢
    exact⟨hk.1,alK _ _ hk.2 hop⟩
   ·exact hk.elim
  ·rename_i t a x
   simp only[eop]at hk⊢
   have hst:∀xs,stK st loc (ρ a) xs (fun loc' st'=>K (.t .undef) loc' st')->stK st loc (ρ a) xs fun loc' st'=>K (.t .undef) loc' st'/\(∀(k:Nat) (l:List TV),loc[k]? =some (some l)->(∀t' a' x',Op.store t a x= .store t' a' x'->∀off,ρ a'≠.loc k off)->loc'[k]? =loc[k]?)/\
     ((∀t' a' x',Op.store t a x= .store t' a' x'->∃m off,ρ a'= .loc m off)->(∀t',Op.store t a x= .alloc t'->(Dc cfg.loc dst).isSome=true)->(∀t' x',Op.store t a x≠.box t' x')->DV (Op.store t a x)=true->st'=st):=by
    intro xs hk2
    unfold stK at hk2⊢
    split at hk2
    ·rename_i i off he
     split at hk2
     ·rename_i l hl'
      simp only[hl']
      rw[Ak]at hk2⊢
      refine⟨hk2.1,hk2.2,fun k l' hkl hne=>?_,fun _ _ _ _=>trivial⟩
      have hne':i≠k:=fun h=>hne t a x rfl off (by rw[he,h])
      rw[List.getElem?_set_ne hne']
     ·exact hk2.elim
    ·rename_i b off he
     obtain⟨l,e1,e2,e3⟩:=hk2
     refine⟨l,e1,e2,e3,fun k l' _ _=>rfl,fun h1 _ _ _=>?_⟩
     obtain⟨m,off',hm⟩:=h1 t a x rfl
     rw[he]at hm;cases hm
    ·exact hk2.elim
   split at hk
   ·split at hk
    ·rw[Ak,Ak]at hk⊢;exact⟨hk.1,hk.2.1,hst _ hk.2.2⟩
    ·exact hk.elim
   ·rw[Ak,Ak]at hk⊢;exact⟨hk.1,hk.2.1,hst _ hk.2.2⟩
   ·exact hk.elim
inductive Rk where
 | none
 | loc (k:Nat)
 | mem
def It (slots:AP):Op->Rk
 | .load _ a=>match opS slots a with | .loc k _=> .loc k | .t _=> .mem
 | .convert _ _ _=> .mem
 | .lookup _ _ _ _=> .mem
 | _=> .none
theorem RN {slots:AP} {op:Op} (h:It slots op= .none):FZ op=false:=by
 cases op<;>simp only[It,FZ]at h⊢<;>try cases h
 split at h<;>cases h
theorem OJ {slots:AP} {op:Op} {k:Nat} (h:It slots op= .loc k):∃t a off,op= .load t a/\opS slots a= .loc k off:=by
 cases op<;>simp only[It]at h<;>try cases h
 rename_i t a
 split at h
 ·rename_i k' off he;simp only[Rk.loc.injEq]at h;subst h;exact⟨t,a,off,rfl,he⟩
 ·cases h
theorem MB {st st':St} {loc loc':List (Option (List TV))} {k off:Nat} (h:loc'[k]? =loc[k]?) (j:Nat):Ac st loc (.loc k off) j=Ac st' loc' (.loc k off) j:=by
 simp only[Ac,h]
theorem Lm {st st':St} {loc loc':List (Option (List TV))} {k off:Nat} (h:loc'[k]? =loc[k]?):∀(n j:Nat),Aj st loc (.loc k off) j n=Aj st' loc' (.loc k off) j n
 | 0,j=>rfl
 | n+1,j=>by simp only[Aj,MB (st':=st') h,Lm (st':=st') h n (j+1)]
theorem SZ {P:Program} {st st':St} {loc loc':List (Option (List TV))} {k off:Nat} (h:loc'[k]? =loc[k]?) (t:TypeId):DC P st loc t (.loc k off)=DC P st' loc' t (.loc k off):=by
 unfold DC
 split
 ·split
  ·rfl
  ·rw[Lm (st':=st') h]
 ·rw[MB (st':=st') h]
 ·rfl
theorem OV {P:Program} {st:St} {loc:List (Option (List TV))} {k off:Nat} {t:TypeId} {v:SV} (h:(DC P st loc t (.loc k off)).Is v):∃l,loc[k]? =some (some l):=by
 have key:∀j x,Ac st loc (.loc k off) j=some x->∃l,loc[k]? =some (some l):=fun j x hx=>by
  simp only[Ac]at hx
  split at hx
  ·rename_i l hl;exact⟨l,hl⟩
  ·cases hx
 unfold DC at h
 split at h
 ·obtain⟨x,hx,_⟩:=h
  cases hc:P.cellsOf t with
  | zero=>rw[hc]at hx;cases hx
  | succ n=>
   rw[hc]at hx
   simp only[Aj]at hx
   split at hx
   ·exact key _ _ ‹_›
   ·cases hx
 ·obtain⟨x,hx,_⟩:=h
  exact key _ _ hx
 ·exact h.elim
theorem SM {P:Program} {s:St} {loc loc':List (Option (List TV))} {slots:AP} {op:Op} (h:It slots op= .mem):BB P s loc (opS slots) op=BB P s loc' (opS slots) op:=by
 cases op<;>simp only[It]at h<;>try cases h
 ·rename_i t a
  split at h
  ·cases h
  ·rename_i q he
   simp only[BB,he,DC,IC s loc loc',Fp s loc loc']
 ·rfl
 ·rfl
end Go.TVF
end
section
namespace Go.TVF
open Go.IntKind(i64 u8)
open Go.RowKit (Below)
section
variable {P:Program} {ops:Array Oper} {Q:Exit->Act->World->Prop}
def Dq (P:Program) (a:Act) (o:Oper) (w:World) (u:Value) (w':World):Prop:=Cy P (execOp a.eval o) w fun v w''=>v=u/\w''=w'
theorem EP {i:Nat} {o:Oper} {a:Act} {w w':World} {u:Value} {next:Act->World->Prop} (ho:ops[i]? =some o) (hg:o.guard=none) (h:Dq P a o w u w') (hn:next (a.put o.dst u) w'):wpOp P ops Q i next a w:=by
 unfold wpOp
 simp only[ho]
 rw[if_pos (by simp[Region.wanted,hg])]
 exact .inl (Rg h fun v w'' hv=>by obtain⟨rfl,rfl⟩:=hv;exact hn)
def A8 (b:Bool) (a:Act) (d:Nat) (v:Value):Act:=match b with | true=>a.put (some d) v | false=>a
def onAt (i:Nat) (o:Oper):Prop:=∃e∈o.after,Region.binds .any e=true/\e.on=i
def Lst (r:Nat) (x s f h:Bool) (listed:Array Bool):Prop:=
 listed.size=r+5/\(∀j,j<=r->listed.getD j false=true)/\listed.getD (r+1) false=x/\listed.getD (r+2) false=s/\listed.getD (r+3) false=f/\listed.getD (r+4) false=h
theorem JU {listed:Array Bool} {i:Nat} (h:i<listed.size):(listed.setIfInBounds i true).getD i false=true:=by
 simp[Array.getD,h]
theorem KC {listed:Array Bool} {i:Nat} (h:i<listed.size):listed.getD i true=listed.getD i false:=by
 simp[Array.getD,h]
theorem hole4 {r:Nat} {oX oS oF oH:Oper} {dX dF:Nat} {pX pF:Value} {a1:Act} {W:Bool->Bool->World}
  (hX:ops[r+1]? =some oX) (hS:ops[r+2]? =some oS) (hF:ops[r+3]? =some oF) (hH:ops[r+4]? =some oH) (hsz:ops.size=r+5)
  (gX:oX.guard=none) (gS:oS.guard=none) (gF:oF.guard=none) (gH:oH.guard=none)
  (xX:oX.dst=some dX) (xS:oS.dst=none) (xF:oF.dst=some dF) (xH:oH.dst=none) (hne:dX≠dF)
  (eX:∀e∈oX.after,Region.binds .any e=true->e.on<=r) (eS:∀e∈oS.after,Region.binds .any e=true->e.on<=r+1)
  (eF:∀e∈oF.after,Region.binds .any e=true->e.on<=r) (eH:∀e∈oH.after,Region.binds .any e=true->e.on<=r∨e.on=r+3)
  (bS:onAt (r+1) oS) (bH:onAt (r+3) oH)
  (vX:∀f h,Dq P (A8 f a1 dF pF) oX (W false h) pX (W false h))
  (vS:∀f h,Dq P (A8 true (A8 f a1 dF pF) dX pX) oS (W false h) Go.undef (W true h))
  (vF:∀x s,Dq P (A8 x a1 dX pX) oF (W s false) pF (W s false))
  (vH:∀x s,Dq P (A8 x (A8 true a1 dF pF) dX pX) oH (W s false) Go.undef (W s true))
  (hQ:Q .normal (A8 true (A8 true a1 dF pF) dX pX) (W true true)):
  ∀(n:Nat) (x s f h:Bool) (listed:Array Bool),(!x).toNat+(!s).toNat+(!f).toNat+(!h).toNat=n->(s=true->x=true)->(h=true->f=true)->Lst r x s f h listed->
   wpAny P .any ops Q n listed (A8 x (A8 f a1 dF pF) dX pX) (W s h):=by
 have comm:∀x,(A8 x a1 dX pX).put (some dF) pF=A8 x (A8 true a1 dF pF) dX pX:=by
  intro x
  cases x with
  | false=>rfl
  | true=>exact Act.put_comm (x:=some dX) (y:=some dF) a1 pX pF (fun d hd h'=>by cases hd;cases h';exact hne rfl)
 intro n
 induction n with
 | zero=>
  intro x s f h listed hn hsx hhf hL
  obtain⟨l1,l2,l3,l4,l5,l6⟩:=hL
  have hx:x=true:=by cases x<;>simp at hn⊢
  have hs:s=true:=by cases s<;>simp[hx]at hn⊢
  have hf:f=true:=by cases f<;>simp[hx,hs]at hn⊢
  have hh:h=true:=by cases h<;>simp[hx,hs,hf]at hn⊢
  subst hx hs hf hh
  refine⟨?_,hQ⟩
  rw[List.eq_nil_iff_forall_not_mem]
  intro j hj
  obtain⟨h0,o,ho,_⟩:=mem_ready.1 hj
  have hlt:j<r+5:=hsz▸(Array.getElem?_eq_some_iff.1 ho).1
  rw[KC (by omega)]at h0
  rcases Nat.lt_or_ge r j with hj | hj
  ·rcases (by omega:j=r+1∨j=r+2∨j=r+3∨j=r+4)with h | h | h | h<;>subst h<;>simp_all
  ·rw[l2 j hj]at h0;cases h0
 | succ n ih=>
  intro x s f h listed hn hsx hhf hL
  have hL0:=hL
  obtain⟨l1,l2,l3,l4,l5,l6⟩:=hL
  have rd:∀(i:Nat) (o:Oper),ops[i]? =some o->i<r+5->listed.getD i false=false->(∀e∈o.after,Region.binds .any e=true->listed.getD e.on false=true)->i∈Region.ready .any ops listed:=fun i o ho hi h0 hall=>
   mem_ready.2 ⟨by rw[KC (by omega)];exact h0,o,ho,hall⟩
  refine⟨fun h0=>?_,fun i hi=>?_⟩
  ·exfalso
   have no:∀i,i∉Region.ready .any ops listed:=fun i hi=>by rw[h0]at hi;cases hi
   cases x with
   | false=>exact no _ (rd (r+1) oX hX (by omega) l3 fun e he hb=>l2 _ (eX e he hb))
   | true=>
    cases s with
    | false=>
     refine no _ (rd (r+2) oS hS (by omega) l4 fun e he hb=>?_)
     rcases Nat.lt_or_ge r e.on with hlt | hle
     ·have:e.on=r+1:=by have:=eS e he hb;omega
      rw[this];exact l3
     ·exact l2 _ hle
    | true=>
     cases f with
     | false=>exact no _ (rd (r+3) oF hF (by omega) l5 fun e he hb=>l2 _ (eF e he hb))
     | true=>
      cases h with
      | false=>
       refine no _ (rd (r+4) oH hH (by omega) l6 fun e he hb=>?_)
       rcases eH e he hb with h | h
       ·exact l2 _ h
       ·rw[h];exact l5
      | true=>simp at hn
  ·obtain⟨h0,o,ho,hall⟩:=mem_ready.1 hi
   have hlt:i<r+5:=hsz▸(Array.getElem?_eq_some_iff.1 ho).1
   rw[KC (by omega)]at h0
   have hr:r<i:=by
    rcases Nat.lt_or_ge r i with h | h
    ·exact h
    ·rw[l2 i h]at h0;cases h0
   have setL:∀j,j≠i->(listed.setIfInBounds i true).getD j false=listed.getD j false:=fun j hj=>getD_set_ne false (Ne.symm hj)
   have self:=JU (listed:=listed) (i:=i) (by omega)
   have low:∀j,j<=r->(listed.setIfInBounds i true).getD j false=true:=fun j hj=>by rw[setL j (by omega)];exact l2 j hj
   have size:(listed.setIfInBounds i true).size=r+5:=by simpa using l1
   rcases (by omega:i=r+1∨i=r+2∨i=r+3∨i=r+4)with hi' | hi' | hi' | hi'
   ·subst hi'
    rw[l3]at h0;subst h0
    have hs:s=false:=by cases s with | false=>rfl | true=>exact absurd (hsx rfl) (by simp)
    subst hs
    refine EP hX gX (vX f h) ?_
    rw[xX]
    exact ih true false f h _ (by simp at hn⊢;omega) (fun h=>by cases h) hhf ⟨size,low,self,(setL _ (by omega)).trans l4,(setL _ (by omega)).trans l5,(setL _ (by omega)).trans l6⟩
   ·subst hi'
    rw[l4]at h0;subst h0
    have hx:x=true:=by
     obtain⟨e,he,hb,hon⟩:=bS
     rw[hS]at ho;cases ho
     have:=hall e he hb
     rw[hon,l3]at this;exact this
    subst hx
    refine EP hS gS (vS f h) ?_
    rw[xS]
    exact ih true true f h _ (by simp at hn⊢;omega) (fun _=>rfl) hhf ⟨size,low,(setL _ (by omega)).trans l3,self,(setL _ (by omega)).trans l5,(setL _ (by omega)).trans l6⟩
   ·subst hi'
    rw[l5]at h0;subst h0
    have hh:h=false:=by cases h with | false=>rfl | true=>exact absurd (hhf rfl) (by simp)
    subst hh
    refine EP hF gF (vF x s) ?_
    rw[xF]
    show wpAny P .any ops Q n _ ((A8 x a1 dX pX).put (some dF) pF) (W s false)
    rw[comm]
    exact ih x s true false _ (by simp at hn⊢;omega) hsx (fun h=>by cases h) ⟨size,low,(setL _ (by omega)).trans l3,(setL _ (by omega)).trans l4,self,(setL _ (by omega)).trans l6⟩
   ·subst hi'
    rw[l6]at h0;subst h0
    have hf:f=true:=by
     obtain⟨e,he,hb,hon⟩:=bH
     rw[hH]at ho;cases ho
     have:=hall e he hb
     rw[hon,l5]at this;exact this
    subst hf
    refine EP hH gH (vH x s) ?_
    rw[xH]
    exact ih x s true true _ (by simp at hn⊢;omega) hsx (fun _=>rfl) ⟨size,low,(setL _ (by omega)).trans l3,(setL _ (by omega)).trans l4,(setL _ (by omega)).trans l5,self⟩
end
section
variable {P:Program} {g:Ghost} {st:St} {loc:List (Option (List TV))} {w:World}
theorem RF (s:Sim g st loc w) {p:SV} {pv:Value} (hp:Bp g w loc p pv) {xs:List TV} {vs:List Value} (hcs:AL g w xs vs) {k:List (Option (List TV))->St->Prop} (h:stK st loc p xs k):
  ∃b o q loc' st',pv= .pointer (some ⟨b,o,none⟩)/\Dom st loc q/\g.at q=b/\(∀j,j<vs.length->(w.cell? ⟨b,o+j,none⟩).isSome=true/\w.frozen? ⟨b,o+j,none⟩=false)/\
   k loc' st'/\Sim g st' loc' (w.setCells b o vs)/\Ext g w g (w.setCells b o vs)/\(∀(i:Nat) (y:List TV),loc[i]? =some (some y)->∃z,loc'[i]? =some (some z)):=by
 have hvl:vs.length=xs.length:=hcs.1.symm
 have cells:∀(q:Key) (l:List TV) (o:Nat),Dom st loc q->A3 st loc q= .cells l->o+xs.length<=l.length->∀j,j<vs.length->(w.cell? ⟨g.at q,o+j,none⟩).isSome=true/\w.frozen? ⟨g.at q,o+j,none⟩=false:=by
  intro q l o d hl ho j hj
  have ob:=s.obj q d
  rw[hl]at ob
  obtain⟨cs,hc,hrc⟩:=ob
  have hlen:cs.length=l.length:=hrc.1.symm
  have:o+j<cs.length:=by omega
  exact⟨by rw[hc.get (List.getElem?_eq_getElem this)];rfl,hc.unfrozen this⟩
 unfold stK at h
 split at h
 ·rename_i i off
  obtain⟨⟨l,hl⟩,rfl⟩:=hp
  rw[hl]at h
  simp only[Ak]at h
  obtain⟨hle,hk⟩:=h
  have hle':=Nat.le_of_ble_eq_true hle
  obtain⟨s',e'⟩:=Gu xs vs loc l w i off s hl hle' hcs
  refine⟨_,off,.loc i,_,_,rfl,⟨l,hl⟩,rfl,cells (.loc i) l off ⟨l,hl⟩ (by simp only[A3,hl]) hle',hk,s',e',fun j y hj=>?_⟩
  by_cases hij:i=j
  ·subst hij
   obtain⟨hi,_⟩:=List.getElem?_eq_some_iff.1 hl
   exact⟨_,List.getElem?_set_self hi⟩
  ·exact⟨y,by rw[List.getElem?_set_ne hij];exact hj⟩
 ·rename_i b off
  cases hp with
  | box _ _ hb=>
   obtain⟨l,hl,hle,hk⟩:=h
   have hb':b<st.nb:=s.nb▸hb
   obtain⟨s',e'⟩:=Ex xs vs st l w b off s hb' hl hle hcs
   exact⟨_,off,.box b,_,_,rfl,hb',rfl,cells (.box b) l off hb' (by simp only[A3,hl]) hle,hk,s',e',fun j y hj=>⟨y,hj⟩⟩
 ·exact h.elim
theorem Fm {t:TypeId} {d:TypeDesc} (hd:P.underlying t=some d) {v:Value} {b o:Nat} (hsz:v.cells.size=P.cellsOf t) (hone:∀c∈v.cells.toList,c.oneCell'=true)
  (hc:∀j,j<v.cells.toList.length->(w.cell? ⟨b,o+j,none⟩).isSome=true/\w.frozen? ⟨b,o+j,none⟩=false):
  (Instr.storeAt t (.pointer (some ⟨b,o,none⟩)) v).run P w= .ok () (w.setCells b o v.cells.toList):=by
 have:=run_storeCells_cells (P:=P) b o v.cells.toList 0 w (fun j hj=>by simpa using (hc j hj).1) (fun j hj=>by simpa using (hc j hj).2) hone
 simp only[Nat.add_zero]at this
 have hsz':¬(v.cells.size≠P.cellsOf t):=by omega
 simp[Instr.storeAt,Instr.sureAddr,storeVar,Hc hd,hsz',this]
def appP (o:Oper):Option (Nat×Operand×Operand×TypeId×TypeId):=
 match o.guard,o.dst,o.op with
 | none,some d,.call {callee:= .builtin .append,args,argTypes}=>match args.toList,argTypes.toList with
  | [a,x],[t,u]=>some (d,a,x,t,u)
  | _,_=>none
 | _,_,_=>none
def ixP (o:Oper):Option (Nat×TypeId×Nat×Operand):=match o.guard,o.dst,o.op with
 | none,some d,.indexAddr t (.tmp a) i=>some (d,t,a,i)
 | _,_,_=>none
def stP (o:Oper):Option (TypeId×Nat×Operand):=match o.guard,o.dst,o.op with
 | none,none,.store t (.tmp a) v=>some (t,a,v)
 | _,_,_=>none
def faP (o:Oper):Option (Nat×TypeId×Operand×Nat):=match o.guard,o.dst,o.op with
 | none,some d,.fieldAddr t x f=>some (d,t,x,f)
 | _,_,_=>none
theorem Si {o:Oper} {d:Nat} {a x:Operand} {t u:TypeId} (h:appP o=some (d,a,x,t,u)):o.guard=none/\o.dst=some d/\o.op= .call {callee:= .builtin .append,args:= #[a,x],argTypes:= #[t,u]}:=by
 unfold appP at h
 split at h
 ·rename_i args ts hg hd ho
  split at h
  ·rename_i a' x' t' u' hargs hts
   have ha:args= #[a',x']:=by rw[<-Array.toArray_toList (xs:=args),hargs]
   have hta:ts= #[t',u']:=by rw[<-Array.toArray_toList (xs:=ts),hts]
   simp only[Option.some.injEq,Prod.mk.injEq]at h
   obtain⟨rfl,rfl,rfl,rfl,rfl⟩:=h
   exact⟨hg,hd,by rw[ho,ha,hta]⟩
  ·cases h
 ·cases h
theorem S7 {o:Oper} {d:Nat} {t:TypeId} {a:Nat} {i:Operand} (h:ixP o=some (d,t,a,i)):o.guard=none/\o.dst=some d/\o.op= .indexAddr t (.tmp a) i:=by
 unfold ixP at h
 split at h
 ·rename_i hg hd ho
  simp only[Option.some.injEq,Prod.mk.injEq]at h
  obtain⟨rfl,rfl,rfl,rfl⟩:=h
  exact⟨hg,hd,ho⟩
 ·cases h
theorem Os {o:Oper} {t:TypeId} {a:Nat} {v:Operand} (h:stP o=some (t,a,v)):o.guard=none/\o.dst=none/\o.op= .store t (.tmp a) v:=by
 unfold stP at h
 split at h
 ·rename_i hg hd ho
  simp only[Option.some.injEq,Prod.mk.injEq]at h
  obtain⟨rfl,rfl,rfl⟩:=h
  exact⟨hg,hd,ho⟩
 ·cases h
theorem Tn {o:Oper} {d:Nat} {t:TypeId} {x:Operand} {f:Nat} (h:faP o=some (d,t,x,f)):o.guard=none/\o.dst=some d/\o.op= .fieldAddr t x f:=by
 unfold faP at h
 split at h
 ·rename_i hg hd ho
  simp only[Option.some.injEq,Prod.mk.injEq]at h
  obtain⟨rfl,rfl,rfl,rfl⟩:=h
  exact⟨hg,hd,ho⟩
 ·cases h
def PA (f:Nat->Bool):List Edge->Bool
 | []=>true
 | e::es=>match Region.binds .any e with | true=>(f e.on).and (PA f es) | false=>PA f es
def N0 (i:Nat):List Edge->Bool
 | []=>false
 | e::es=>(Region.binds .any e).and (e.on.beq i) |>.or (N0 i es)
theorem EO {f:Nat->Bool}:∀{l:List Edge},PA f l=true->∀e∈l,Region.binds .any e=true->f e.on=true
 | [],_,e,he,_=>by cases he
 | a::l,h,e,he,hb=>by
  simp only[PA]at h
  rcases List.mem_cons.1 he with rfl | he
  ·rw[hb]at h;simp only[Bool.and_eq_true]at h;exact h.1
  ·split at h
   ·simp only[Bool.and_eq_true]at h;exact EO h.2 e he hb
   ·exact EO h e he hb
theorem HQ {i:Nat}:∀{l:List Edge},N0 i l=true->∃e∈l,Region.binds .any e=true/\e.on=i
 | [],h=>by cases h
 | a::l,h=>by
  simp only[N0,Bool.or_eq_true,Bool.and_eq_true]at h
  rcases h with⟨h1,h2⟩ | h
  ·exact⟨a,List.mem_cons_self ..,h1,Nat.eq_of_beq_eq_true h2⟩
  ·obtain⟨e,he,h1⟩:=HQ h;exact⟨e,List.mem_cons_of_mem _ he,h1⟩
def Gx (d:Nat):Operand->Bool
 | .tmp t=> !(t.beq d)
 | _=>true
theorem CL {d:Nat} {x:Operand} (h:Gx d x=true):x≠.tmp d:=by
 intro he;subst he;simp[Gx,Nat.beq_refl]at h
def isS:Option TypeDesc->Bool
 | some _=>true
 | none=>false
def Rf:Nat->List Edge->Bool
 | 0,_=>true
 | n+1,l=>(N0 n l).and (Rf n l)
theorem Ly:∀{n:Nat} {l:List Edge},Rf n l=true->∀i,i<n->N0 i l=true
 | 0,l,_,i,hi=>absurd hi (Nat.not_lt_zero _)
 | n+1,l,h,i,hi=>by
  simp only[Rf,Bool.and_eq_true]at h
  rcases Nat.lt_or_ge i n with hlt | hge
  ·exact Ly h.2 i hlt
  ·rw[show i=n from by omega];exact h.1
def Th (r n:Nat) (oA oX oS oF oH:Oper) (dA dX dF a1 x1 f1:Nat) (iX vS xF vH:Operand):Bool:=
 (PA (fun j=>j.ble r) oX.after.toList).and <| (PA (fun j=>j.ble (r+1)) oS.after.toList).and <| (PA (fun j=>j.ble r) oF.after.toList).and <| (PA (fun j=>(j.ble r).or (j.beq (r+3))) oH.after.toList).and <|
 (Rf r oA.after.toList).and <| (N0 r oX.after.toList).and <| (N0 (r+1) oS.after.toList).and <| (N0 r oF.after.toList).and <| (N0 (r+3) oH.after.toList).and <|
 (a1.beq dA).and <| (x1.beq dX).and <| (f1.beq dF).and <| (!(dX.beq dF)).and <| (!(dA.beq dX)).and <| (!(dA.beq dF)).and <|
 ((dA+1).ble n).and <| ((dX+1).ble n).and <| ((dF+1).ble n).and <|
 (Gx dA iX).and <| (Gx dF iX).and <| (Gx dA vS).and <| (Gx dX vS).and <| (Gx dF vS).and <| (Gx dA xF).and <| (Gx dX xF).and <|
 match vH with | .tmp t=>t.beq dA | _=>false
def Ti (P:Program) (l:List Oper) (r:Nat) (K:Fr->St->Prop) (fr:Fr) (st:St):Prop:=
 match l with
 | [oA,oX,oS,oF,oH]=>match appP oA,ixP oX,stP oS,faP oF,stP oH with
  | some (dA,a,x,t,u),some (dX,tX,a1,iX),some (tS,x1,vS),some (dF,tF,xF,fF),some (tH,f1,vH)=>
   need (Th r fr.slots.n oA oX oS oF oH dA dX dF a1 x1 f1 iX vS xF vH) (match Cr P t,Cr P tX with
   | some e,some e'=>match P.info? e,Fj P e with
    | some i,some z=>need ((e'.beq e).and <| (O2 (P.underlying u)).and <| (z.length.beq i.size).and <| (Nat.ble 1 i.size).and <| (Nat.ble 1 i.bytes).and <| (isS (P.underlying tS)).and <| (isS (P.underlying tH)).and <| ((P.cellsOf tS).beq i.size).and ((P.cellsOf tH).beq 1))
     ((BB P st fr.loc (opS fr.slots) oF.op).K fun q=>Ar (DH st i.size (opS fr.slots x).tv) fun p=>need ((p.1.beq 1).and (p.2.all At)) (match (opS fr.slots iX).tv with
      | .int _ ix=>Ar (Fb (opS fr.slots vS).tv) fun ys=>need (ys.length.beq i.size) (need (ys.all At) (ix=(lenS (opS fr.slots a).tv:Int)/\
        Cx e i.size i.bytes (opS fr.slots a).tv 1 ys st fun v st1=>stK st1 fr.loc q [v] fun loc' st'=>K ⟨A2 (A2 (A2 fr.slots (some dA) (.t v)) (some dF) q) (some dX) (.t .junk),loc'⟩ st'))
      | _=>False))
    | _,_=>False
   | _,_=>False)
  | _,_,_,_,_=>False
 | _=>False
theorem JM {P:Program} {s s':St} {loc loc':List (Option (List TV))} {ρ:Operand->SV} {op:Op} (h:FZ op=false):BB P s loc ρ op=BB P s' loc' ρ op:=by
 cases op<;>first | (simp[FZ]at h;done) | rfl | skip
 ·rename_i a b c;cases a<;>rfl
 ·rename_i a b c;cases a<;>rfl
 ·rename_i c;obtain⟨callee,args,ts⟩:=c;cases callee<;>first | rfl | skip
  rename_i b;cases b<;>rfl
theorem Cj {b:Bool} {a:Act} {d:Nat} {v:Value} {x:Operand} (h:x≠.tmp d):(A8 b a d v).eval x=a.eval x:=by
 cases b with
 | false=>rfl
 | true=>exact Act.eval_put (fun d' hd=>by cases hd;exact h)
theorem Iu {a:Act} {d:Nat} {v:Value} (h:d<a.tmps.size):(A8 true a d v).eval (.tmp d)=v:=by
 simp[A8,Act.put,Act.eval,h]
theorem K5 {b:Bool} {a:Act} {d:Nat} {v:Value}:(A8 b a d v).tmps.size=a.tmps.size:=by
 cases b<;>simp[A8,Act.put]
theorem OK {loc:List (Option (List TV))} {q:SV} {xs:List TV} {k:List (Option (List TV))->St->Prop} (h:stK st loc q xs k) {u u':Value} (h1:Bp g w loc q u) (h2:Bp g w loc q u'):u=u':=by
 unfold stK at h
 split at h
 ·exact h1.2.trans h2.2.symm
 ·exact(Rel.box_inv h1).2.trans (Rel.box_inv h2).2.symm
 ·exact h.elim
theorem ptr_dom {st1:St} (s:Sim g st loc w) {q:SV} {xs:List TV} {k:List (Option (List TV))->St->Prop} (h:stK st1 loc q xs k) {b o:Nat} (h1:Bp g w loc q (.pointer (some ⟨b,o,none⟩))):∃qk,Dom st loc qk/\g.at qk=b:=by
 unfold stK at h
 split at h
 ·rename_i i off
  obtain⟨⟨l,hl⟩,hv⟩:=h1
  simp only[Value.pointer.injEq,Option.some.injEq,Addr.mk.injEq]at hv
  exact⟨.loc i,⟨l,hl⟩,hv.1.symm⟩
 ·rename_i i off
  obtain⟨hb,hv⟩:=Rel.box_inv h1
  simp only[Value.pointer.injEq,Option.some.injEq,Addr.mk.injEq]at hv
  exact⟨.box i,(s.nb▸hb:i<st.nb),hv.1.symm⟩
 ·exact h.elim
theorem Qb {ops:Array Oper} {K:Fr->St->Prop} {fr:Fr} {r:Nat} {listed:Array Bool} (hsz:ops.size=r+5) (hmem:r∈Region.ready .any ops listed) (hone:∀i∈Region.ready .any ops listed,i=r)
  (hls:listed.size=ops.size) (hlo:∀j,j<r->listed.getD j false=true) (hhi:∀j,r<=j->listed.getD j false=false) (h:Ti P (ops.toList.drop r) r K fr st):
  (∀(i:Nat) (l0:Array Bool),l0.setIfInBounds i true=listed->i∈Region.ready .any ops l0->∀j∈Region.ready .any ops l0,j=i)/\
  ∀(g:Ghost) (w:World) (a:Act) (Q:Exit->Act->World->Prop),Sim g st fr.loc w->Fe g w fr a.tmps->(∀a' w',Ig g w a K a' w'->Q .normal a' w')->wpAny P .any ops Q 5 listed a w:=by
 unfold Ti at h
 split at h
 case h_2=>exact h.elim
 rename_i oA oX oS oF oH hdrop
 have at_:∀k,k<5->ops[r+k]? =[oA,oX,oS,oF,oH][k]? :=fun k hk=>by
  rw[<-hdrop,List.getElem?_drop,Array.getElem?_toList]
 have hA:ops[r]? =some oA:=at_ 0 (by omega)
 have hX:ops[r+1]? =some oX:=at_ 1 (by omega)
 have hS:ops[r+2]? =some oS:=at_ 2 (by omega)
 have hF:ops[r+3]? =some oF:=at_ 3 (by omega)
 have hH:ops[r+4]? =some oH:=at_ 4 (by omega)
 split at h
 case h_2=>exact h.elim
 rename_i dA sa sx t u dX tX a1 iX tS x1 vS dF tF xF fF tH f1 vH pA pX pS pF pH
 obtain⟨gA,xA,qA⟩:=Si pA
 obtain⟨gX,xX,qX⟩:=S7 pX
 obtain⟨gS,xS,qS⟩:=Os pS
 obtain⟨gF,xFd,qF⟩:=Tn pF
 obtain⟨gH,xH,qH⟩:=Os pH
 rw[Ak]at h
 obtain⟨hok,h⟩:=h
 simp only[Th,Bool.and_eq_true]at hok
 obtain⟨k1,k2,k3,k4,k5,k6,k7,k8,k9,k10,k11,k12,k13,k14,k15,k16,k17,k18,k19,k20,k21,k22,k23,k24,k25,k26⟩:=hok
 simp only[Bool.not_eq_true']at k13 k14 k15
 have j10:=Nat.eq_of_beq_eq_true k10
 have j11:=Nat.eq_of_beq_eq_true k11
 have j12:=Nat.eq_of_beq_eq_true k12
 have hXF:dX≠dF:=fun e=>by rw[e,Nat.beq_refl]at k13;cases k13
 have hAX:dA≠dX:=fun e=>by rw[e,Nat.beq_refl]at k14;cases k14
 have hAF:dA≠dF:=fun e=>by rw[e,Nat.beq_refl]at k15;cases k15
 subst a1 x1 f1
 have hvH:vH= .tmp dA:=by
  cases vH<;>simp only[Bool.false_eq_true]at k26
  rw[Nat.eq_of_beq_eq_true k26]
 subst hvH
 have n16:dA<fr.slots.n:=Nat.le_of_ble_eq_true k16
 have n17:dX<fr.slots.n:=Nat.le_of_ble_eq_true k17
 have n18:dF<fr.slots.n:=Nat.le_of_ble_eq_true k18
 refine⟨fun i l0 hset hi j hj=>?_,fun g w a Q s hf hq=>?_⟩
 ·--the last come last
  rcases Nat.decEq j i with hne | he
  case isTrue=>exact he
  exfalso
  have hj':=ready_mono hj hne
  rw[hset]at hj'
  have hjr:=hone j hj'
  subst hjr
  obtain⟨hu,oi,hoi,_⟩:=mem_ready.1 hi
  have hil:i<l0.size:=by
   have:i<ops.size:=(Array.getElem?_eq_some_iff.1 hoi).1
   have hs2:l0.size=listed.size:=by rw[<-hset];simp
   omega
  have hir:i<j:=by
   rcases Nat.lt_or_ge i j with h | h
   ·exact h
   ·have:=hhi i h
    rw[<-hset,JU hil]at this
    cases this
  obtain⟨e,he,hb,hon⟩:=HQ (Ly k5 i hir)
  obtain⟨_,oj,hoj,hall⟩:=mem_ready.1 hj
  rw[hA]at hoj;cases hoj
  have:=hall e (Array.mem_toList_iff.1 he) hb
  rw[hon,<-KC hil,hu]at this
  cases this
 ·split at h
  case h_2=>exact h.elim
  rename_i e e' he he'
  split at h
  case h_2=>exact h.elim
  rename_i i z hi hz
  rw[Ak]at h
  obtain⟨hty,h⟩:=h
  simp only[Bool.and_eq_true]at hty
  obtain⟨t1,t2,t3,t4,t5,t6,t7,t8,t9⟩:=hty
  have te:=Nat.eq_of_beq_eq_true t1
  subst te
  obtain⟨q,hqn,h⟩:=AY.K_iff.1 h
  rw[BY]at h
  obtain⟨⟨k,zs⟩,hsrc,h⟩:=h
  rw[Ak]at h
  obtain⟨hkz,h⟩:=h
  simp only[Bool.and_eq_true]at hkz
  obtain⟨hk1,hzone⟩:=hkz
  have hk:k=1:=Nat.eq_of_beq_eq_true hk1
  subst hk
  split at h
  case h_2=>exact h.elim
  rename_i ik ix hix
  rw[BY]at h
  obtain⟨ys,hys,h⟩:=h
  rw[Ak,Ak]at h
  obtain⟨hyl,hyone,hixe,h⟩:=h
  have hyl:=Nat.eq_of_beq_eq_true hyl
  obtain⟨du,hdu,hcase⟩:=Ke t2
  obtain⟨zv,hzv,hze⟩:=Ii hz hi
  have hzs:zv.cells.size=i.size:=by have:=Nat.eq_of_beq_eq_true t3;rw[hze]at this;simpa using this
  have hop:=fun x=>Ns hf x
  obtain⟨zc,hzr,hzl,hlen,hfc,hfd⟩:=GR (P:=P) s (hop sx).tv hsrc
  have hvr:=GN (hop vS).tv hys
  generalize hxv:a.eval vS=xv at hvr
  have hvl:xv.cells.toList.length=1*i.size:=by rw[<-hvr.1,hyl,Nat.one_mul]
  obtain⟨b,o,n,cap,w1,hrun,hn,hcell,hdom,s1,e1,hleft⟩:=Py (P:=P) (ty:=oA.type) s (E6 he) hdu hcase hi hzv hzs (Nat.le_of_ble_eq_true t4) (Nat.le_of_ble_eq_true t5) (hop sa).tv hlen hfc hfd hzl (LM hzr hzone) hvr hvl hyone (by omega)
   (K:=fun sv l st'=>l=fr.loc/\∃v,sv= .t v/\stK st' fr.loc q [v] fun loc' st''=>K ⟨A2 (A2 (A2 fr.slots (some dA) (.t v)) (some dF) q) (some dX) (.t .junk),loc'⟩ st'')
   (MS (fun v st' _ hv=>⟨rfl,v,rfl,hv⟩) h)
  obtain⟨sv,loc1,st1,g1,⟨rfl,v,rfl,hst⟩,S1,r1,E1,L1⟩:=hleft
  obtain⟨sl,hsl⟩:∃sl,sl=Value.slice (some ⟨b,o,none⟩) (n+1) cap:=⟨_,rfl⟩
  rw[<-hsl]at hrun r1
  have hslc:sl.cells.toList=[sl]:=by rw[hsl];rfl
  have hslo:sl.oneCell'=true:=by rw[hsl];rfl
  have readF:FZ oF.op=false:=by rw[qF];rfl
  have opsF:∀x,x∈oF.op.operands->x=xF:=fun x hx=>by rw[qF]at hx;simpa [Op.operands]using hx
  have runF:∀(ρc ρc':Operand->Value) (w':World) (u:Value),ρc xF=ρc' xF->(execOp ρc oF).run P w'= .ok (.value u) w'->(execOp ρc' oF).run P w'= .ok (.value u) w':=by
   intro ρc ρc' w' u hh hr
   obtain⟨a1,a2,a3,a4,a5,a6⟩:=oF
   simp only at qF
   subst qF
   simp only[execOp]at hr⊢
   rw[<-hh];exact hr
  obtain⟨u0,hu0,ru0⟩:=Gw (P:=P) s oF (by rw[qF];rfl) (fun x _=>hop x) hqn
  have hsr:AL g1 (w1.setCells b (o+n*i.size) xv.cells.toList) [v] [sl]:=⟨rfl,fun j hj=>by
   have:j=0:=by simp at hj;omega
   subst this;exact r1⟩
  obtain⟨bH,oH',qk,loc',st',hp,_,hqk,hcH,hKf,S2,E2,L2⟩:=RF S1 (Bp.keep E1 L1 ru0) hsr hst
  subst hp
  obtain⟨qk0,dqk0,hqk0⟩:=ptr_dom s hst ru0
  have hbH:bH≠b:=by rw[<-hqk0];exact hdom qk0 dqk0
  --the pointer of the header,at each time
  have hF1:(execOp a.eval oF).run P w1= .ok (.value (.pointer (some ⟨bH,oH',none⟩))) w1:=by
   obtain⟨u,hu,ru⟩:=Gw (P:=P) s1 oF (by rw[qF];rfl) (fun x _=>Bp.keep e1 (Bt.refl _ _) (hop x)) hqn
   rw[OK hst ru (Bp.keep e1 (Bt.refl _ _) ru0)]at hu
   exact hu
  have hF2:(execOp a.eval oF).run P (w1.setCells b (o+n*i.size) xv.cells.toList)= .ok (.value (.pointer (some ⟨bH,oH',none⟩))) (w1.setCells b (o+n*i.size) xv.cells.toList):=by
   obtain⟨u,hu,ru⟩:=Gw (P:=P) S1 oF (by rw[qF];rfl) (fun x _=>Bp.keep E1 L1 (hop x)) (by rw[JM (s':=st) (loc':=fr.loc) readF];exact hqn)
   rw[OK hst ru (Bp.keep E1 L1 ru0)]at hu
   exact hu
  --the worlds
  obtain⟨off,hoff⟩:∃off,off=o+n*i.size:=⟨_,rfl⟩
  rw[<-hoff]at S1 hsr E1 hcH S2 E2 hF2 r1
  simp only[<-hoff]at hcell
  obtain⟨vs,hvs⟩:∃vs,vs=xv.cells.toList:=⟨_,rfl⟩
  rw[<-hvs]at hvl S1 hsr E1 hcH S2 E2 hF2 r1 hvr
  obtain⟨W,hW⟩:∃W:Bool->Bool->World,W=fun s h=>match s,h with
   | false,false=>w1 | true,false=>w1.setCells b off vs | false,true=>w1.setCells bH oH' [sl] | true,true=>(w1.setCells b off vs).setCells bH oH' [sl]:=⟨_,rfl⟩
  have W00:W false false=w1:=by rw[hW]
  have W10:W true false=w1.setCells b off vs:=by rw[hW]
  have W01:W false true=w1.setCells bH oH' [sl]:=by rw[hW]
  have W11:W true true=(w1.setCells b off vs).setCells bH oH' [sl]:=by rw[hW]
  have Ws:∀h,(W false h).setCells b off vs=W true h:=by
   intro h
   cases h with
   | false=>rw[W00,W10]
   | true=>
    rw[W01,W11]
    exact HX b ⟨bH,oH',none⟩ sl hbH vs off w1
  have Wh:∀s,(W s false).setCells bH oH' [sl]=W s true:=by
   intro s
   cases s with
   | false=>rw[W00,W01]
   | true=>rw[W10,W11]
  have cS:∀h j,j<vs.length->((W false h).cell? ⟨b,off+j,none⟩).isSome=true/\(W false h).frozen? ⟨b,off+j,none⟩=false:=by
   intro h j hj
   have:=hcell j (by omega)
   cases h with
   | false=>rw[W00];exact this
   | true=>rw[W01,World.cell?_setCells_out bH [sl] oH' w1 _ (fun h _=>absurd h.symm hbH),World.frozen?_setCells];exact this
  have cH:∀s j,j< [sl].length->((W s false).cell? ⟨bH,oH'+j,none⟩).isSome=true/\(W s false).frozen? ⟨bH,oH'+j,none⟩=false:=by
   intro s j hj
   have:=hcH j hj
   cases s with
   | true=>rw[W10];exact this
   | false=>
    rw[World.cell?_setCells_out b vs off w1 _ (fun h _=>absurd h hbH),World.frozen?_setCells]at this
    rw[W00];exact this
  have allv:∀c∈vs,c.oneCell'=true:=LM hvr hyone
  obtain⟨dS,hdS⟩:∃d,P.underlying tS=some d:=by
   cases hq:P.underlying tS with
   | none=>rw[hq]at t6;cases t6
   | some d=>exact⟨d,rfl⟩
  obtain⟨dH,hdH⟩:∃d,P.underlying tH=some d:=by
   cases hq:P.underlying tH with
   | none=>rw[hq]at t7;cases t7
   | some d=>exact⟨d,rfl⟩
  have hcS:xv.cells.size=P.cellsOf tS:=by
   have h1:=Nat.eq_of_beq_eq_true t8
   have h2:xv.cells.size=vs.length:=by rw[hvs];simp
   omega
  have hcHs:sl.cells.size=P.cellsOf tH:=by
   have h1:=Nat.eq_of_beq_eq_true t9
   have h2:sl.cells.size=sl.cells.toList.length:=by simp
   rw[hslc]at h2
   simp at h2;omega
  --the operations
  have asz:a.tmps.size=fr.slots.n:=hf.1.symm
  obtain⟨a1,ha1⟩:∃a1,a1=A8 true a dA sl:=⟨_,rfl⟩
  have ha1s:a1.tmps.size=fr.slots.n:=by rw[ha1,K5,asz]
  have evA:a1.eval (.tmp dA)=sl:=by rw[ha1];exact Iu (by omega)
  have ev1:∀x,x≠.tmp dA->a1.eval x=a.eval x:=fun x hx=>by rw[ha1];exact Cj hx
  have vA:Dq P a oA w sl w1:=by
   obtain⟨c1,c2,c3,c4,c5,c6⟩:=oA
   simp only at qA
   subst qA
   simp[Dq,Cy,execOp,resolve,invoke,Go.builtin,hrun]
  have vX:∀f h,Dq P (A8 f a1 dF (.pointer (some ⟨bH,oH',none⟩))) oX (W false h) (.pointer (some ⟨b,off,none⟩)) (W false h):=by
   intro f h
   have h1:(A8 f a1 dF (.pointer (some ⟨bH,oH',none⟩))).eval (.tmp dA)=sl:=by rw[Cj (fun e=>by cases e;exact hAF rfl),evA]
   have h2:(A8 f a1 dF (.pointer (some ⟨bH,oH',none⟩))).eval iX= .int ik ix:=by
    rw[Cj (CL k20),ev1 _ (CL k19)]
    have:=(hop iX).tv
    rw[hix]at this
    generalize a.eval iX=y at this
    cases this;rfl
   have hu:P.underlying tX=some (.slice e'):=E6 he'
   have hsz':(sizeOf e').run P (W false h)= .ok i.size (W false h):=DN (by unfold D1;rw[hi]) _
   have hi0:0<=ix:=by omega
   have hi1:ix<(n:Int)+1:=by omega
   have hi2:ix.toNat=n:=by omega
   obtain⟨c1,c2,c3,c4,c5,c6⟩:=oX
   simp only at qX
   subst qX
   simp[Dq,Cy,execOp,h1,h2,hsl,Instr.indexAt,asIntOf,As hu,hi0,hi1,hi2,hsz',Bl,hoff]
  have vS:∀f h,Dq P (A8 true (A8 f a1 dF (.pointer (some ⟨bH,oH',none⟩))) dX (.pointer (some ⟨b,off,none⟩))) oS (W false h) Go.undef (W true h):=by
   intro f h
   have h1:(A8 true (A8 f a1 dF (.pointer (some ⟨bH,oH',none⟩))) dX (.pointer (some ⟨b,off,none⟩))).eval (.tmp dX)= .pointer (some ⟨b,off,none⟩):=Iu (by rw[K5,ha1s];exact n17)
   have h2:(A8 true (A8 f a1 dF (.pointer (some ⟨bH,oH',none⟩))) dX (.pointer (some ⟨b,off,none⟩))).eval vS=xv:=by
    rw[Cj (CL k22),Cj (CL k23),ev1 _ (CL k21),hxv]
   have h3:=Fm (P:=P) (w:=W false h) hdS (v:=xv) (b:=b) (o:=off) hcS (by rw[<-hvs];exact allv) (by rw[<-hvs];exact cS h)
   rw[<-hvs,Ws]at h3
   obtain⟨c1,c2,c3,c4,c5,c6⟩:=oS
   simp only at qS
   subst qS
   simp[Dq,Cy,execOp,h1,h2,h3]
  have vF:∀x s,Dq P (A8 x a1 dX (.pointer (some ⟨b,off,none⟩))) oF (W s false) (.pointer (some ⟨bH,oH',none⟩)) (W s false):=by
   intro x s
   have h1:(A8 x a1 dX (.pointer (some ⟨b,off,none⟩))).eval xF=a.eval xF:=by rw[Cj (CL k25),ev1 _ (CL k24)]
   have h2:(execOp (A8 x a1 dX (.pointer (some ⟨b,off,none⟩))).eval oF).run P (W s false)= .ok (.value (.pointer (some ⟨bH,oH',none⟩))) (W s false):=by
    refine runF a.eval _ _ _ h1.symm ?_
    cases s with
    | false=>rw[W00];exact hF1
    | true=>rw[W10];exact hF2
   simp[Dq,Cy,h2]
  have vH:∀x s,Dq P (A8 x (A8 true a1 dF (.pointer (some ⟨bH,oH',none⟩))) dX (.pointer (some ⟨b,off,none⟩))) oH (W s false) Go.undef (W s true):=by
   intro x s
   have h1:(A8 x (A8 true a1 dF (.pointer (some ⟨bH,oH',none⟩))) dX (.pointer (some ⟨b,off,none⟩))).eval (.tmp dF)= .pointer (some ⟨bH,oH',none⟩):=by
    rw[Cj (fun e=>by cases e;exact hXF rfl)]
    exact Iu (by rw[ha1s];exact n18)
   have h2:(A8 x (A8 true a1 dF (.pointer (some ⟨bH,oH',none⟩))) dX (.pointer (some ⟨b,off,none⟩))).eval (.tmp dA)=sl:=by
    rw[Cj (fun e=>by cases e;exact hAX rfl),Cj (fun e=>by cases e;exact hAF rfl),evA]
   have h3:=Fm (P:=P) (w:=W s false) hdH (v:=sl) (b:=bH) (o:=oH') hcHs (by rw[hslc];intro c hc;have:=List.mem_singleton.1 hc;rw[this];exact hslo) (by rw[hslc];exact cH s)
   rw[hslc,Wh]at h3
   obtain⟨c1,c2,c3,c4,c5,c6⟩:=oH
   simp only at qH
   subst qH
   simp[Dq,Cy,execOp,h1,h2,h3]
  --the end
  have hQ:Q .normal (A8 true (A8 true a1 dF (.pointer (some ⟨bH,oH',none⟩))) dX (.pointer (some ⟨b,off,none⟩))) (W true true):=by
   rw[W11]
   have LK:Bt g fr.loc g1 loc':=fun j x hj=>by
    obtain⟨h1,y,hy⟩:=L1 j x hj
    exact⟨h1,L2 j y hy⟩
   have hf1:=hf.keep (E1.trans E2) LK
   have hv1:Bp g1 ((w1.setCells b off vs).setCells bH oH' [sl]) loc' (.t v) sl:=Bp.keep E2 (fun j x hj=>⟨rfl,L2 j x hj⟩) r1
   have hq1:Bp g1 ((w1.setCells b off vs).setCells bH oH' [sl]) loc' q (.pointer (some ⟨bH,oH',none⟩)):=Bp.keep (E1.trans E2) LK ru0
   have hf2:=hf1.put (dst:=some dA) (v:= .t v) (u:=sl) hv1
   have hf3:=hf2.put (dst:=some dF) (v:=q) (u:= .pointer (some ⟨bH,oH',none⟩)) hq1
   have hf4:=hf3.put (dst:=some dX) (v:= .t .junk) (u:= .pointer (some ⟨b,off,none⟩)) (Rel.junk _)
   refine hq _ _ ⟨_,st',g1,hKf,S2,?_,E1.trans E2,?_⟩
   ·rw[ha1];exact hf4
   ·rw[ha1];simp[A8,Act.put]
  refine⟨fun h0=>by rw[h0]at hmem;exact absurd hmem (List.not_mem_nil),fun i' hi'=>?_⟩
  have hir:=hone i' hi'
  subst hir
  refine EP hA gA vA ?_
  have ha1':a.put oA.dst sl=A8 false (A8 false a1 dF (.pointer (some ⟨bH,oH',none⟩))) dX (.pointer (some ⟨b,off,none⟩)):=by rw[ha1,xA];rfl
  rw[ha1',<-W00]
  refine hole4 hX hS hF hH hsz gX gS gF gH xX xS xFd xH hXF ?_ ?_ ?_ ?_ ?_ ?_ vX vS vF vH hQ 4 false false false false _ rfl (fun h=>by cases h) (fun h=>by cases h) ?_
  ·exact fun e he hb=>Nat.le_of_ble_eq_true (EO k1 e (by simpa using he) hb)
  ·exact fun e he hb=>Nat.le_of_ble_eq_true (EO k2 e (by simpa using he) hb)
  ·exact fun e he hb=>Nat.le_of_ble_eq_true (EO k3 e (by simpa using he) hb)
  ·intro e he hb
   have:=EO k4 e (by simpa using he) hb
   simp only[Bool.or_eq_true]at this
   exact this.imp Nat.le_of_ble_eq_true Nat.eq_of_beq_eq_true
  ·obtain⟨e,he,h1,h2⟩:=HQ k7
   exact⟨e,by simpa using he,h1,h2⟩
  ·obtain⟨e,he,h1,h2⟩:=HQ k9
   exact⟨e,by simpa using he,h1,h2⟩
  ·refine⟨by simp;omega,fun j hj=>?_,?_,?_,?_,?_⟩
   ·rcases Nat.lt_or_ge j i' with h | h
    ·rw[getD_set_ne false (by omega)];exact hlo j h
    ·have:j=i':=by omega
     subst this;exact JU (by omega)
   all_goals (rw[getD_set_ne false (by omega)];exact hhi _ (by omega))
end
end Go.TVF
end
section
namespace Go.TVF
open Go.IntKind(i64 u8)
open Go.RowKit (Below)
section
variable {P:Program} {cfg:Cfg} {ops:Array Oper}
def stepA (cfg:Cfg) (P:Program) (ops:Array Oper) (o:Oper) (K:Fr->St->Prop) (fr:Fr) (st:St):Prop:=
 match C4 ops fr.slots o.guard with
 | some true=>GT cfg P o.dst o.type o.op (opS fr.slots) fr.loc st fun v loc' st'=>K ⟨A2 fr.slots o.dst v,loc'⟩ st'
 | some false=>K ⟨A2 fr.slots o.dst (.t .undef),fr.loc⟩ st
 | none=>False
def LeafC (ops:Array Oper) (listed:Array Bool):Prop:=
 ∀(i:Nat) (l0:Array Bool),l0.setIfInBounds i true=listed->i∈Region.ready .any ops l0->∀j∈Region.ready .any ops l0,j=i
def SemOk (P:Program) (ops:Array Oper) (K:Fr->St->Prop) (n:Nat) (listed:Array Bool) (fr:Fr) (st:St):Prop:=
 ∀(g:Ghost) (w:World) (a:Act) (Q:Exit->Act->World->Prop),Sim g st fr.loc w->Fe g w fr a.tmps->(∀a' w',Ig g w a K a' w'->Q .normal a' w')->wpAny P .any ops Q n listed a w
def CT (cfg:Cfg) (P:Program) (ops:Array Oper) (I:Nat->St->Prop) (K:Fr->St->Prop):Nat->Array Bool->Fr->St->Prop
 | 0,listed,fr,st=>Region.ready .any ops listed=[]/\K fr st
 | n+1,listed,fr,st=>(LeafC ops listed/\SemOk P ops K (n+1) listed fr st)∨((Region.ready .any ops listed=[]->K fr st)/\
  ∀i∈Region.ready .any ops listed,∀o,ops[i]? =some o->stepA cfg P ops o (fun fr' st'=>I i st'/\CT cfg P ops I K n (listed.setIfInBounds i true) fr' st') fr st)
theorem MX {I:Nat->St->Prop} {K:Fr->St->Prop} {Q:Exit->Act->World->Prop}:∀(n:Nat) (listed:Array Bool) (fr:Fr) (st:St) (g:Ghost) (w:World) (a:Act),CT cfg P ops I K n listed fr st->Sim g st fr.loc w->Fe g w fr a.tmps->
  (∀a' w',Ig g w a K a' w'->Q .normal a' w')->wpAny P .any ops Q n listed a w
 | 0,listed,fr,st,g,w,a,h,s,hf,hq=>⟨h.1,hq a w ⟨fr,st,g,h.2,s,hf,Ext.refl _ _,rfl,rfl⟩⟩
 | n+1,listed,fr,st,g,w,a,h,s,hf,hq=>by
  rcases h with⟨_,h⟩ | h
  ·exact h g w a Q s hf hq
  refine⟨fun h0=>hq a w ⟨fr,st,g,h.1 h0,s,hf,Ext.refl _ _,rfl,rfl⟩,fun i hi=>?_⟩
  obtain⟨hun,o,ho,hall⟩:=mem_ready.1 hi
  have hs:=h.2 i hi o ho
  unfold stepA at hs
  unfold wpOp
  simp only[ho]
  cases hw:C4 ops fr.slots o.guard with
  | none=>rw[hw]at hs;exact hs.elim
  | some t=>
   rw[hw]at hs
   have:=KV (P:=P) (cfg:=cfg) (Q:=Q) (K:=fun fr' st'=>I i st'/\CT cfg P ops I K n (listed.setIfInBounds i true) fr' st') (next:=wpAny P .any ops Q n (listed.setIfInBounds i true)) ops o hw (by cases t<;>exact hs) s hf (fun a' w' hp=>by
    obtain⟨fr',st',g',h1,h2,h3,h4,h5⟩:=hp
    refine MX n _ fr' st' g' w' a' h1.2 h2 h3 fun a'' w'' hp'=>hq _ _ (hp'.ext h4 h5))
   split
   ·rename_i hwant;rw[if_pos hwant]at this;exact .inl this
   ·rename_i hwant;rw[if_neg hwant]at this;exact this
theorem opS_put {slots:AP} {dst:Option Nat} {v:SV} {x:Operand} (h:∀d,dst=some d->x≠.tmp d):opS (A2 slots dst v) x=opS slots x:=by
 cases dst with
 | none=>rfl
 | some d=>
  cases x with
  | tmp t=>
   have hne:d≠t:=fun e=>h d rfl (e▸rfl)
   simp only[opS,A2,AP.set_ne (Ne.symm hne)]
  | _=>rfl
theorem Cu {slots:AP} {dst:Option Nat} {v:SV} {o:Oper} (h:∀d,dst=some d->d∉o.looksAt ops):∀x,x∈o.op.operands->opS (A2 slots dst v) x=opS slots x:=
 fun x hx=>opS_put fun d hd hxd=>h d hd (by
  subst hxd
  exact List.mem_append_left _ (List.mem_filterMap.2 ⟨.tmp d,by simpa using hx,rfl⟩))
theorem FT {slots:AP} {dst:Option Nat} {v:SV} {o:Oper} (h:∀d,dst=some d->d∉o.looksAt ops):C4 ops (A2 slots dst v) o.guard=C4 ops slots o.guard:=by
 cases dst with
 | none=>rfl
 | some d=>
  unfold C4
  cases hg:o.guard with
  | none=>rfl
  | some gw=>
   obtain⟨j,want⟩:=gw
   simp only
   cases hd:Pd ops j with
   | none=>rfl
   | some t=>
    have hne:d≠t:=fun e=>h d rfl (by subst e;simp only[Oper.looksAt,hg];apply List.mem_append_right;simpa [Pd]using hd)
    simp only[A2,AP.set_ne (Ne.symm hne)]
theorem Mq (slots:AP) {x y:Option Nat} (v u:SV) (h:∀d,x=some d->y≠some d):A2 (A2 slots x v) y u=A2 (A2 slots y u) x v:=by
 cases x with
 | none=>rfl
 | some d=>
  cases y with
  | none=>rfl
  | some e=>
   have hne:d≠e:=fun he=>h d rfl (he▸rfl)
   simp only[A2]
   exact AP.set_comm _ _ hne
def NY (P:Program) (ops:Array Oper) (o:Oper) (v:SV) (s:St) (fr:Fr):Prop:=
 (C4 ops fr.slots o.guard=some true/\(BB P s fr.loc (opS fr.slots) o.op).Is v)∨(C4 ops fr.slots o.guard=some false/\v= .t .undef)
theorem NY.stepA {o:Oper} {v:SV} {s st:St} {fr:Fr} (hN:isN P o.op=true) (h:NY P ops o v s fr) (hs:CU s st) {K:Fr->St->Prop} (hK:K ⟨A2 fr.slots o.dst v,fr.loc⟩ st):stepA cfg P ops o K fr st:=by
 unfold TVF.stepA
 rcases h with⟨hw,hv⟩ | ⟨hw,rfl⟩
 ·rw[hw]
  simp only[GT,hN]
  exact⟨v,nres_le hs hv,hK⟩
 ·rw[hw];exact hK
theorem NY.put {o oj:Oper} {v u:SV} {s:St} {fr:Fr} {loc':List (Option (List TV))} (h:NY P ops o v s fr) (h3:∀d,oj.dst=some d->d∉o.looksAt ops) (hl:FZ o.op=false∨loc'=fr.loc):
  NY P ops o v s ⟨A2 fr.slots oj.dst u,loc'⟩:=by
 rcases h with⟨hw,hv⟩ | ⟨hw,rfl⟩
 ·refine .inl ⟨by rw[FT h3];exact hw,?_⟩
  show(BB P s loc' (opS (A2 fr.slots oj.dst u)) o.op).Is v
  rw[Ix (ρ':=opS fr.slots) (Cu h3)]
  rcases hl with hl | hl
  ·rw[JM (s':=s) (loc':=fr.loc) hl];exact hv
  ·rw[hl];exact hv
 ·exact .inr ⟨by rw[FT h3];exact hw,rfl⟩
def Ds (ops:Array Oper) (listed:Array Bool) (d:Nat):Bool:=(List.range ops.size).all fun j=>listed.getD j true || match ops[j]? with | some o=> !(o.dst==some d) | none=>true
def G8 (slots:AP) (d:Nat):SV:=slots.f d
def KB (k:Nat):SV->Bool | .loc m _=> !(m.beq k) | .t _=>true
def KZ:SV->Bool | .loc _ _=>true | .t _=>false
def okG (cfg:Cfg) (calls:Bool) (ops:Array Oper) (listed:Array Bool) (slots:AP) (rk:Rk) (oj:Oper):Bool:=
 match rk with
 | .none=>true
 | .loc k=>match oj.op with
  | .store _ (.tmp d) _=>Ds ops listed d&&KB k (G8 slots d)
  | .store _ _ _=>false
  | _=>true
 | .mem=>(calls || !(DQ oj.op))&&(!(Dh cfg oj) || match oj.op with
  | .store _ (.tmp d) _=>Ds ops listed d&&KZ (G8 slots d)
  | .alloc _=>(Dc cfg.loc oj.dst).isSome
  | _=>false)
theorem RE {listed:Array Bool} {d j:Nat} {oj:Oper} (h:Ds ops listed d=true) (hj:ops[j]? =some oj) (hun:listed.getD j true=false):oj.dst≠some d:=by
 simp only[Ds,List.all_eq_true,List.mem_range]at h
 have:=h j (Array.getElem?_eq_some_iff.1 hj).1
 simp only[hun,hj,Bool.false_or,Bool.not_eq_true',beq_eq_false_iff_ne]at this
 exact this
theorem RI {slots:AP} {dst:Option Nat} {v:SV} {d:Nat} (h:dst≠some d):G8 (A2 slots dst v) d=G8 slots d:=by
 cases dst with
 | none=>rfl
 | some e=>
  have:e≠d:=fun hh=>h (by rw[hh])
  simp only[G8,A2,AP.set_ne (Ne.symm this)]
theorem Ny {k:Nat} {s:SV} (h:KB k s=true) (off:Nat):s≠.loc k off:=by
 intro hs
 subst hs
 simp[KB]at h
theorem NY.stab {o:Oper} {v:SV} {s s':St} {fr:Fr} {loc':List (Option (List TV))} {rk:Rk} (h:NY P ops o v s fr) (hrk:It fr.slots o.op=rk) (hl:C4 ops fr.slots o.guard=some true->∀k,rk= .loc k->loc'[k]? =fr.loc[k]?) (hs:rk= .mem->s'=s):NY P ops o v s' ⟨fr.slots,loc'⟩:=by
 rcases h with⟨hw,hv⟩ | h
 ·refine .inl ⟨hw,?_⟩
  cases rk with
  | none=>rw[JM (s':=s) (loc':=fr.loc) (RN hrk)];exact hv
  | mem=>
   rw[hs rfl]
   show(BB P s loc' (opS fr.slots) o.op).Is v
   rw[SM (loc':=fr.loc) hrk];exact hv
  | loc k=>
   obtain⟨t,a,off,hop,ha⟩:=OJ hrk
   have hk:=hl hw k rfl
   rw[hop]at hv⊢
   simp only[BB,ha]at hv⊢
   rw[SZ (st':=s) hk.symm];exact hv
 ·exact .inr h
theorem NH {I I':Nat->St->Prop} {S:St->Prop} {K:Fr->St->Prop} {calls:Bool} {i:Nat} {oi:Oper} {v:SV} {rk:Rk} {slots0:AP} {listed0:Array Bool} (hi:ops[i]? =some oi) (hN:isN P oi.op=true) (hIi:∀st,I i st) (hII:∀j st,I' j st->I j st)
  (hb:calls=true->rk= .mem->∀j oj st' s fr',ops[j]? =some oj->DQ oj.op=true->(∀e∈oj.after,Region.binds .any e=true->e.on≠i)->I' j st'->S s->NY P ops oi v s fr'->(∀x,x∈oi.op.operands->opS fr'.slots x=opS slots0 x)->∃s',S s'/\NY P ops oi v s' fr'/\CU s' st'):
  ∀(fuel:Nat) (listed:Array Bool) (fr:Fr) (st:St),(∀j,listed.getD j true=false->listed0.getD j true=false)->(∀d,Ds ops listed0 d=true->G8 fr.slots d=G8 slots0 d)->It fr.slots oi.op=rk->(∀x,x∈oi.op.operands->opS fr.slots x=opS slots0 x)->
   (∀j oj,ops[j]? =some oj->j≠i->listed.getD j true=false->(∀e∈oj.after,Region.binds .any e=true->e.on≠i)->oi.apart ops oj=true/\okG cfg calls ops listed0 slots0 rk oj=true)->
   i∈Region.ready .any ops listed->(∃s,S s/\NY P ops oi v s fr/\(rk= .mem->CU s st))->
   CT cfg P ops I' K fuel (listed.setIfInBounds i true) ⟨A2 fr.slots oi.dst v,fr.loc⟩ st->CT cfg P ops I K (fuel+1) listed fr st:=by
 have weak:∀(fuel:Nat) (listed:Array Bool) (fr:Fr) (st:St),CT cfg P ops I' K fuel listed fr st->CT cfg P ops I K fuel listed fr st:=by
  intro fuel
  induction fuel with
  | zero=>exact fun _ _ _ h=>h
  | succ fuel ih=>
   intro listed fr st h
   rcases h with h | h
   ·exact .inl h
   ·refine .inr ⟨h.1,fun j hj oj hoj=>?_⟩
    have h2:=h.2 j hj oj hoj
    unfold stepA at h2⊢
    split at h2
    ·simp only[GT]at h2⊢
     split at h2
     ·obtain⟨u,hu,hK⟩:=h2;exact⟨u,hu,hII _ _ hK.1,ih _ _ _ hK.2⟩
     ·exact DF oj (fun _ _=>rfl) (fun u loc' st' _ _ hK=>⟨hII _ _ hK.1,ih _ _ _ hK.2⟩) h2
    ·exact⟨hII _ _ h2.1,ih _ _ _ h2.2⟩
    ·exact h2
 have now:∀(fr:Fr) (st:St) (K:Fr->St->Prop),It fr.slots oi.op=rk->(∃s,S s/\NY P ops oi v s fr/\(rk= .mem->CU s st))->K ⟨A2 fr.slots oi.dst v,fr.loc⟩ st->stepA cfg P ops oi K fr st:=by
  intro fr st K hrk ⟨s,_,hy,hs⟩ hK
  by_cases hr:rk= .mem
  ·exact hy.stepA hN (hs hr) hK
  ·exact(hy.stab (s':=st) hrk (fun _ _ _=>rfl) (fun h=>absurd h hr)).stepA hN (CU.refl st) hK
 intro fuel
 induction fuel with
 | zero=>
  intro listed fr st _ _ hrk _ _ hr hy H
  refine .inr ⟨fun h=>(by rw[h]at hr;cases hr),fun j hj oj hoj=>?_⟩
  by_cases hji:j=i
  ·subst hji
   rw[hi]at hoj;cases hoj
   exact now fr st _ hrk hy ⟨hIi _,weak _ _ _ _ H⟩
  ·have:=ready_mono hj hji
   rw[H.1]at this
   cases this
 | succ fuel ih=>
  intro listed fr st hsub hsl hrk hops hfree hr hy H
  refine .inr ?_
  have H0:=H
  rcases H with⟨hlf,_⟩ | H
  ·refine⟨fun h=>(by rw[h]at hr;cases hr),fun j hj oj hoj=>?_⟩
   have hji:=hlf i listed rfl hr j hj
   subst hji
   rw[hi]at hoj;cases hoj
   exact now fr st _ hrk hy ⟨hIi _,weak _ _ _ _ H0⟩
  refine⟨fun h=>(by rw[h]at hr;cases hr),fun j hj oj hoj=>?_⟩
  by_cases hji:j=i
  ·subst hji
   rw[hi]at hoj;cases hoj
   exact now fr st _ hrk hy ⟨hIi _,weak _ _ _ _ H0⟩
  ·have h1:=H.2 j (ready_mono hj hji) oj hoj
   obtain⟨hjun,oj',hoj',hall⟩:=mem_ready.1 hj
   rw[hoj]at hoj';cases hoj'
   have hnot:∀e∈oj.after,Region.binds .any e=true->e.on≠i:=fun e he hb heq=>by
    have h1:=hall e he hb
    have h0:=(mem_ready.1 hr).1
    rw[heq]at h1
    rcases Nat.lt_or_ge i listed.size with h' | h'
    ·simp[h']at h0 h1;rw[h0]at h1;cases h1
    ·simp[Array.getElem?_eq_none h']at h1
   obtain⟨hap,hok⟩:=hfree j oj hoj hji hjun hnot
   obtain⟨a1,a2,a3⟩:=Oper.apart_spec hap
   have hsub':∀k,(listed.setIfInBounds j true).getD k true=false->listed.getD k true=false:=fun k hun=>by
    by_cases hjk:j=k
    ·subst hjk;exact hjun
    ·rw[getD_set_ne true hjk]at hun;exact hun
   have hfree':∀k ok,ops[k]? =some ok->k≠i->(listed.setIfInBounds j true).getD k true=false->
     (∀e∈ok.after,Region.binds .any e=true->e.on≠i)->oi.apart ops ok=true/\okG cfg calls ops listed0 slots0 rk ok=true:=fun k ok hk hki hun hno=>hfree k ok hk hki (hsub' k hun) hno
   have go:∀(u:SV) (loc':List (Option (List TV))) (st':St),(C4 ops fr.slots oi.guard=some true->∀k,rk= .loc k->loc'[k]? =fr.loc[k]?)->(∃s,S s/\NY P ops oi v s ⟨A2 fr.slots oj.dst u,fr.loc⟩/\(rk= .mem->CU s st'))->
     I' j st'/\CT cfg P ops I' K fuel ((listed.setIfInBounds i true).setIfInBounds j true) ⟨A2 (A2 fr.slots oi.dst v) oj.dst u,loc'⟩ st'->I j st'/\CT cfg P ops I K (fuel+1) (listed.setIfInBounds j true) ⟨A2 fr.slots oj.dst u,loc'⟩ st':=by
    intro u loc' st' hl ⟨s,hS,hy',hs'⟩ hab
    have hrk':It (A2 fr.slots oj.dst u) oi.op=rk:=by
     rw[<-hrk]
     have hop:∀x,x∈oi.op.operands->opS (A2 fr.slots oj.dst u) x=opS fr.slots x:=Cu a3
     cases hq:oi.op with
     | load t a=>rw[hq]at hop;simp only[It,hop a (by simp[Op.operands])]
     | _=>rfl
    refine⟨hII _ _ hab.1,ih (listed.setIfInBounds j true) ⟨A2 fr.slots oj.dst u,loc'⟩ st' (fun k hk=>hsub k (hsub' k hk)) (fun d hd=>?_) hrk' (fun x hx=>(Cu a3 x hx).trans (hops x hx)) hfree' (ready_mono hr (Ne.symm hji)) ⟨s,hS,hy'.stab hrk' (fun hw=>hl (by rw[<-hw];exact(FT a3).symm)) (fun _=>rfl),hs'⟩ ?_⟩
    ·rw[<-hsl d hd]
     exact RI (RE hd hoj (hsub j hjun))
    ·rw[Array.setIfInBounds_comm _ _ hji]
     show CT cfg P ops I' K fuel _ ⟨A2 (A2 fr.slots oj.dst u) oi.dst v,loc'⟩ st'
     rw[<-Mq fr.slots v u a2]
     exact hab.2
   obtain⟨s,hS,hys,hs⟩:=hy
   have same:∀u st',(rk= .mem->CU s st')->∃s,S s/\NY P ops oi v s ⟨A2 fr.slots oj.dst u,fr.loc⟩/\(rk= .mem->CU s st'):=fun u st' h=>⟨s,hS,hys.put a3 (.inr rfl),h⟩
   unfold stepA at h1⊢
   have hwp:C4 ops (A2 fr.slots oi.dst v) oj.guard=C4 ops fr.slots oj.guard:=FT a1
   simp only[hwp]at h1
   cases hw:C4 ops fr.slots oj.guard with
   | none=>rw[hw]at h1;exact h1.elim
   | some t=>
    rw[hw]at h1
    cases t with
    | false=>exact go _ _ _ (fun _ _ _=>rfl) (same _ _ hs) h1
    | true=>
     have hcong:=Cu (slots:=fr.slots) (v:=v) a1
     simp only[GT]at h1⊢
     cases hNj:isN P oj.op with
     | true=>
      simp only[hNj]at h1⊢
      obtain⟨u,hu,hK⟩:=h1
      rw[Ix (ρ':=opS fr.slots) hcong]at hu
      exact⟨u,hu,go _ _ _ (fun _ _ _=>rfl) (same _ _ hs) hK⟩
     | false=>
      simp only[hNj]at h1⊢
      have h2:=DF oj (ρ':=opS fr.slots) hcong (fun u loc' st' _ _ hK=>hK) h1
      have h3:=Ts oj h2
      have hptr:∀d,Ds ops listed0 d=true->opS fr.slots (.tmp d)=G8 slots0 d:=fun d hd=>by rw[<-hsl d hd];rfl
      refine DF oj (fun _ _=>rfl) (fun u loc' st' hbx hlc hK=>go u loc' st' ?_ ?_ hK.1) h3
      ·intro hwi k hk
       obtain⟨hK1,hK2,hK3⟩:=hK
       by_cases hlive:∃l,fr.loc[k]? =some (some l)
       ·obtain⟨l,hl⟩:=hlive
        refine hK2 k l hl fun t a x hst off=>?_
        rw[hk]at hok
        simp only[okG,hst]at hok
        cases a<;>simp only[Bool.false_eq_true]at hok
        rename_i d
        simp only[Bool.and_eq_true]at hok
        rw[hptr d hok.1]
        exact Ny hok.2 off
       ·exfalso
        rcases hys with⟨_,hv⟩ | ⟨hwf,_⟩
        ·rw[hk]at hrk
         obtain⟨t,a,off,hop,ha⟩:=OJ hrk
         rw[hop]at hv
         simp only[BB,ha]at hv
         exact hlive (OV hv)
        ·rw[hwf]at hwi;cases hwi
      ·by_cases hrm:rk= .mem
       case neg=>exact same _ _ fun h=>absurd h hrm
       rw[hrm]at hok
       simp only[okG,Bool.and_eq_true,Bool.or_eq_true,Bool.not_eq_true']at hok
       obtain⟨hok1,hok2⟩:=hok
       rcases Bool.eq_false_or_eq_true (DQ oj.op)with hc | hc
       ·have hcl:calls=true:=hok1.resolve_right (by rw[hc];simp)
        obtain⟨s',hS',hy',hl'⟩:=hb hcl hrm j oj st' s ⟨A2 fr.slots oj.dst u,fr.loc⟩ hoj hc hnot hK.1.1 hS (hys.put a3 (.inr rfl)) (fun x hx=>(Cu a3 x hx).trans (hops x hx))
        exact⟨s',hS',hy',fun _=>hl'⟩
       ·refine same _ _ fun _=>?_
        rcases hok2 with h | h
        ·exact(hs hrm).of_box (hbx (by simp[F0,h,hc]))
        ·have hst:st'=st:=by
          cases hq:oj.op<;>rw[hq]at h<;>try (simp only[Bool.false_eq_true]at h;done)
          ·rename_i t
           exact hK.2.2 (fun t a x hh=>by rw[hq]at hh;cases hh) (fun _ _=>h) (fun t x hh=>by rw[hq]at hh;cases hh) (by rw[hq];rfl)
          ·rename_i t a x
           cases a<;>try (simp only[Bool.false_eq_true]at h;done)
           rename_i d
           simp only[Bool.and_eq_true]at h
           refine hK.2.2 (fun t' a' x' hh=>?_) (fun t' hh=>by rw[hq]at hh;cases hh) (fun t x hh=>by rw[hq]at hh;cases hh) (by rw[hq];rfl)
           rw[hq]at hh
           simp only[Op.store.injEq]at hh
           rw[<-hh.2.1,hptr d h.1]
           cases hsd:G8 slots0 d with
           | loc m off=>exact⟨m,off,rfl⟩
           | t q=>rw[hsd]at h;simp[KZ]at h
         rw[hst];exact hs hrm
def Qa (k:Nat):SV->Bool
 | .loc i _=>i.beq k
 | _=>false
def Iy (ops:Array Oper) (k:Nat) (slots:AP):Bool:=ops.toList.all fun o=>o.op.operands.toList.all fun x=> !(Qa k (opS slots x))
theorem OR {k:Nat} {slots:AP} (h:Iy ops k slots=true) {j:Nat} {oj:Oper} (hj:ops[j]? =some oj) (x:Operand) (hx:x∈oj.op.operands) (off:Nat):opS slots x≠.loc k off:=by
 intro he
 simp only[Iy,List.all_eq_true]at h
 have:=h oj (by rw[Array.mem_toList_iff];exact Array.mem_of_getElem? hj) x (by simpa using hx)
 rw[he]at this
 simp[Qa]at this
theorem P3 {k:Nat} {slots:AP} (h:Iy ops k slots=true) {v:SV} (hv:∀off,v≠.loc k off) (dst:Option Nat):Iy ops k (A2 slots dst v)=true:=by
 cases dst with
 | none=>exact h
 | some d=>
  simp only[Iy,List.all_eq_true]at h⊢
  intro o ho x hx
  have h1:=h o ho x hx
  cases x with
  | tmp t=>
   by_cases htd:t=d
   ·subst htd
    by_cases hlt:t<slots.n
    ·have he:opS (A2 slots (some t) v) (.tmp t)=v:=by simp only[opS,A2];exact AP.set_eq hlt
     rw[he]
     cases v with
     | t v=>rfl
     | loc i off=>
      have:i≠k:=fun h=>hv off (by rw[h])
      simp[Qa,Ey this]
    ·have he:A2 slots (some t) v=slots:=by simp only[A2];exact AP.set_out hlt
     rw[he];exact h1
   ·have he:opS (A2 slots (some d) v) (.tmp t)=opS slots (.tmp t):=by simp only[opS,A2];exact AP.set_ne htd
    rw[he];exact h1
  | _=>exact h1
theorem afirst {I:Nat->St->Prop} {K:Fr->St->Prop} {i k:Nat} {oi:Oper} {t:TypeId} {cells:List TV} (hi:ops[i]? =some oi) (hop:oi.op= .alloc t) (hgd:oi.guard=none) (hix:Dc cfg.loc oi.dst=some k) (hz:Fj P t=some cells) (hIi:∀st,I i st):
  ∀(fuel:Nat) (listed:Array Bool) (fr:Fr) (st:St),
   (∀j oj,ops[j]? =some oj->j≠i->listed.getD j true=false->(∀e∈oj.after,Region.binds .any e=true->e.on≠i)->oi.apart ops oj=true/\Dc cfg.loc oj.dst≠some k)->
   i∈Region.ready .any ops listed->fr.loc[k]? =some none->Iy ops k fr.slots=true->
   CT cfg P ops I K fuel (listed.setIfInBounds i true) ⟨A2 fr.slots oi.dst (.loc k 0),fr.loc.set k (some cells)⟩ st->CT cfg P ops I K (fuel+1) listed fr st:=by
 have now:∀(fr:Fr) (st:St) (K:Fr->St->Prop),fr.loc[k]? =some none->K ⟨A2 fr.slots oi.dst (.loc k 0),fr.loc.set k (some cells)⟩ st->stepA cfg P ops oi K fr st:=by
  intro fr st K hl hK
  unfold stepA
  simp only[hgd,C4,GT,hop,isN,eop,hz,C8,hix,hl]
  exact hK
 intro fuel
 induction fuel with
 | zero=>
  intro listed fr st _ hr hl hn H
  refine .inr ⟨fun h=>(by rw[h]at hr;cases hr),fun j hj oj hoj=>?_⟩
  by_cases hji:j=i
  ·subst hji
   rw[hi]at hoj;cases hoj
   exact now fr st _ hl ⟨hIi _,H⟩
  ·have:=ready_mono hj hji
   rw[H.1]at this
   cases this
 | succ fuel ih=>
  intro listed fr st hfree hr hl hn H
  refine .inr ?_
  have H0:=H
  rcases H with⟨hlf,_⟩ | H
  ·refine⟨fun h=>(by rw[h]at hr;cases hr),fun j hj oj hoj=>?_⟩
   have hji:=hlf i listed rfl hr j hj
   subst hji
   rw[hi]at hoj;cases hoj
   exact now fr st _ hl ⟨hIi _,H0⟩
  refine⟨fun h=>(by rw[h]at hr;cases hr),fun j hj oj hoj=>?_⟩
  by_cases hji:j=i
  ·subst hji
   rw[hi]at hoj;cases hoj
   exact now fr st _ hl ⟨hIi _,H0⟩
  ·have h1:=H.2 j (ready_mono hj hji) oj hoj
   obtain⟨hjun,oj',hoj',hall⟩:=mem_ready.1 hj
   rw[hoj]at hoj';cases hoj'
   have hnot:∀e∈oj.after,Region.binds .any e=true->e.on≠i:=fun e he hb heq=>by
    have h1:=hall e he hb
    have h0:=(mem_ready.1 hr).1
    rw[heq]at h1
    rcases Nat.lt_or_ge i listed.size with h' | h'
    ·simp[h']at h0 h1;rw[h0]at h1;cases h1
    ·simp[Array.getElem?_eq_none h']at h1
   obtain⟨hap,hixj⟩:=hfree j oj hoj hji hjun hnot
   obtain⟨a1,a2,a3⟩:=Oper.apart_spec hap
   have hfree':∀k' ok,ops[k']? =some ok->k'≠i->(listed.setIfInBounds j true).getD k' true=false->
     (∀e∈ok.after,Region.binds .any e=true->e.on≠i)->oi.apart ops ok=true/\Dc cfg.loc ok.dst≠some k:=fun k' ok hk hki hun hno=>by
    refine hfree k' ok hk hki ?_ hno
    by_cases hjk:j=k'
    ·subst hjk;exact hjun
    ·rw[getD_set_ne true hjk]at hun;exact hun
   have go:∀(u:SV) (loc':List (Option (List TV))) (st':St),loc'[k]? =some none->(∀off,u≠.loc k off)->
     I j st'/\CT cfg P ops I K fuel ((listed.setIfInBounds i true).setIfInBounds j true) ⟨A2 (A2 fr.slots oi.dst (.loc k 0)) oj.dst u,loc'.set k (some cells)⟩ st'->I j st'/\CT cfg P ops I K (fuel+1) (listed.setIfInBounds j true) ⟨A2 fr.slots oj.dst u,loc'⟩ st':=by
    intro u loc' st' hl' hu hab
    refine⟨hab.1,ih (listed.setIfInBounds j true) ⟨A2 fr.slots oj.dst u,loc'⟩ st' hfree' (ready_mono hr (Ne.symm hji)) hl' (P3 hn hu _) ?_⟩
    rw[Array.setIfInBounds_comm _ _ hji]
    show CT cfg P ops I K fuel _ ⟨A2 (A2 fr.slots oj.dst u) oi.dst (.loc k 0),loc'.set k (some cells)⟩ st'
    rw[<-Mq fr.slots (.loc k 0) u a2]
    exact hab.2
   unfold stepA at h1⊢
   have hwp:C4 ops (A2 fr.slots oi.dst (.loc k 0)) oj.guard=C4 ops fr.slots oj.guard:=FT a1
   simp only[hwp]at h1
   cases hw:C4 ops fr.slots oj.guard with
   | none=>rw[hw]at h1;exact h1.elim
   | some t=>
    rw[hw]at h1
    cases t with
    | false=>exact go _ _ _ hl (fun off hh=>(by cases hh)) h1
    | true=>
     have hcong:=Cu (slots:=fr.slots) (v:= .loc k 0) a1
     have hno:∀x,x∈oj.op.operands->∀off,opS fr.slots x≠.loc k off:=fun x hx off=>OR hn hoj x hx off
     simp only[GT]at h1⊢
     cases hNj:isN P oj.op with
     | true=>
      simp only[hNj]at h1⊢
      obtain⟨u,hu,hK⟩:=h1
      rw[Ix (ρ':=opS fr.slots) hcong,OQ hno]at hu
      exact⟨u,hu,go _ _ _ hl (P1 hno hu) hK⟩
     | false=>
      simp only[hNj]at h1⊢
      have h2:=DF oj (ρ':=opS fr.slots) hcong (fun u loc' st' _ _ hK=>hK) h1
      have h3:=Qj oj hno hl hixj h2
      exact DF oj (fun _ _=>rfl) (fun u loc' st' _ _ hK=>go u loc' st' hK.2.1 hK.1 hK.2.2) h3
def GZ (m i:Nat):Bool:=(Nat.mod (Nat.shiftRight m i) 2).beq 1
def JE (m i:Nat):Nat:=Nat.lor m (Nat.shiftLeft 1 i)
def Ms:List Edge->Nat
 | []=>0
 | e::es=>match Region.binds .any e with | true=>JE (Ms es) e.on | false=>Ms es
def DJ (o:Oper):Nat:=Ms o.after.toList
def He (m i:Nat) (o:Oper):Bool:=(!(GZ m i)).and ((Nat.land (DJ o) m).beq (DJ o))
def GU (f:Nat->Oper->Bool):List Oper->Nat->Option (Nat×Oper)
 | [],_=>none
 | o::l,i=>match f i o with | true=>some (i,o) | false=>GU f l (Nat.succ i)
def QE (f:Nat->Oper->Bool):List Oper->Nat->Bool
 | [],_=>true
 | o::l,i=>match f i o with | true=>QE f l (Nat.succ i) | false=>false
theorem EI (m i:Nat):GZ m i=m.testBit i:=by
 have h1:Nat.shiftRight m i=m>>>i:=rfl
 have h2:∀a:Nat,(Nat.mod a 2).beq 1=(a%2==1):=fun a=>by
  show(a%2).beq 1=_
  cases hq:(a%2).beq 1 with
  | true=>rw[Nat.eq_of_beq_eq_true hq];rfl
  | false=>
   have:a%2≠1:=fun he=>by rw[he]at hq;cases hq
   have h0:a%2=0:=by omega
   rw[h0];rfl
 simp only[GZ,h1,h2,Nat.testBit,Nat.one_and_eq_mod_two]
 rcases Nat.mod_two_eq_zero_or_one (m>>>i)with h | h<;>simp[h]
theorem Pv (m i j:Nat):GZ (JE m i) j=(GZ m j || i==j):=by
 have h1:JE m i=m ||| 1<<<i:=rfl
 rw[EI,EI,h1,Nat.testBit_or,Nat.testBit_shiftLeft]
 congr 1
 by_cases h:i=j
 ·subst h;simp
 ·have hb:(i==j)=false:=by simpa using h
  rw[hb]
  by_cases hle:i<=j
  ·have:j-i≠0:=by omega
   cases hq:j-i with
   | zero=>omega
   | succ n=>simp[Nat.testBit_succ]
  ·simp[hle]
theorem JN:∀(l:List Edge) (j:Nat),GZ (Ms l) j=true↔∃e∈l,Region.binds .any e=true/\e.on=j
 | [],j=>by simp[Ms,EI]
 | e::es,j=>by
  simp only[Ms]
  cases hb:Region.binds .any e with
  | true=>simp[Pv,JN es j,hb,Or.comm]
  | false=>simp[JN es j,hb]
theorem Gb (o:Oper) (j:Nat):GZ (DJ o) j=true↔∃e∈o.after,Region.binds .any e=true/\e.on=j:=by
 rw[DJ,JN];simp
theorem Lu {f:Nat->Oper->Bool}:∀{l:List Oper} {i k:Nat} {o:Oper},GU f l k=some (i,o)->k<=i/\l[i-k]? =some o/\f i o=true
 | [],i,k,o,h=>by cases h
 | a::l,i,k,o,h=>by
  simp only[GU]at h
  split at h
  ·rename_i hf;simp only[Option.some.injEq,Prod.mk.injEq]at h;obtain⟨rfl,rfl⟩:=h;exact⟨Nat.le_refl _,by simp,hf⟩
  ·obtain⟨h1,h2,h3⟩:=Lu h
   refine⟨by omega,?_,h3⟩
   rw[show i-k=(i-Nat.succ k)+1 from by omega,List.getElem?_cons_succ]
   exact h2
theorem Lv {f:Nat->Oper->Bool}:∀{l:List Oper} {k:Nat},GU f l k=none->∀(i:Nat) (o:Oper),l[i]? =some o->f (k+i) o=false
 | [],k,h,i,o,ho=>by simp at ho
 | a::l,k,h,i,o,ho=>by
  simp only[GU]at h
  split at h
  ·cases h
  ·rename_i hf
   cases i with
   | zero=>simp at ho;subst ho;exact hf
   | succ i=>
    have:=Lv h i o (by simpa using ho)
    rw[show k+(i+1)=Nat.succ k+i from by omega];exact this
theorem MT {f:Nat->Oper->Bool}:∀{l:List Oper} {k:Nat},QE f l k=true->∀(i:Nat) (o:Oper),l[i]? =some o->f (k+i) o=true
 | [],k,h,i,o,ho=>by simp at ho
 | a::l,k,h,i,o,ho=>by
  simp only[QE]at h
  split at h
  ·rename_i hf
   cases i with
   | zero=>simp at ho;subst ho;exact hf
   | succ i=>
    have:=MT h i o (by simpa using ho)
    rw[show k+(i+1)=Nat.succ k+i from by omega];exact this
  ·cases h
theorem Ls {f:Nat->Oper->Bool} {i:Nat} {o:Oper} (h:GU f ops.toList 0=some (i,o)):ops[i]? =some o/\f i o=true:=by
 obtain⟨_,h2,h3⟩:=Lu h
 exact⟨by simpa using h2,h3⟩
theorem NK {f:Nat->Oper->Bool} (h:GU f ops.toList 0=none) {i:Nat} {o:Oper} (ho:ops[i]? =some o):f i o=false:=by
 have:=Lv h i o (by simpa using ho)
 rwa [Nat.zero_add]at this
theorem N1 {f:Nat->Oper->Bool} (h:QE f ops.toList 0=true) {i:Nat} {o:Oper} (ho:ops[i]? =some o):f i o=true:=by
 have:=MT h i o (by simpa using ho)
 rwa [Nat.zero_add]at this
def IJ (ops:Array Oper) (m:Nat) (listed:Array Bool):Prop:=listed.size=ops.size/\∀j,listed.getD j false=GZ m j
theorem IJ.start:IJ ops 0 (Array.replicate ops.size false):=by
 refine⟨by simp,fun j=>?_⟩
 rw[EI,Nat.zero_testBit]
 by_cases h:j<ops.size<;>simp[Array.getD,h]
theorem IJ.set {m i:Nat} {listed:Array Bool} (h:IJ ops m listed) (hi:i<ops.size):IJ ops (JE m i) (listed.setIfInBounds i true):=by
 refine⟨by simpa using h.1,fun j=>?_⟩
 rw[Pv,<-h.2 j]
 by_cases hij:i=j
 ·subst hij
  have:i<listed.size:=h.1▸hi
  simp[Array.getD,this]
 ·have hb:(i==j)=false:=by simpa using hij
  rw[hb,Bool.or_false,getD_set_ne false hij]
theorem IJ.un {m j:Nat} {listed:Array Bool} (h:IJ ops m listed):listed.getD j true=false↔j<ops.size/\GZ m j=false:=by
 rw[<-h.2 j,<-h.1]
 by_cases hj:j<listed.size<;>simp[Array.getD,hj]
theorem IJ.ready {m j:Nat} {listed:Array Bool} (h:IJ ops m listed):j∈Region.ready .any ops listed↔∃o,ops[j]? =some o/\He m j o=true:=by
 rw[mem_ready,h.un]
 constructor
 ·rintro⟨⟨h1,h2⟩,o,ho,hall⟩
  refine⟨o,ho,?_⟩
  simp only[He,h2,Bool.not_false,Bool.true_and]
  have:Nat.land (DJ o) m=DJ o:=by
   show DJ o&&&m=DJ o
   apply Nat.eq_of_testBit_eq
   intro i
   rw[Nat.testBit_and]
   cases hq:(DJ o).testBit i with
   | false=>rfl
   | true=>
    rw[<-EI]at hq
    obtain⟨e,he,hb,hon⟩:=(Gb o i).1 hq
    have:=hall e he hb
    rw[h.2,hon,EI]at this
    simp[this]
  rw[this];exact Nat.beq_refl _
 ·rintro⟨o,ho,hr⟩
  simp only[He,Bool.and_eq_true,Bool.not_eq_true']at hr
  refine⟨⟨(Array.getElem?_eq_some_iff.1 ho).1,hr.1⟩,o,ho,fun e he hb=>?_⟩
  rw[h.2,EI]
  have h1:DJ o&&&m=DJ o:=Nat.eq_of_beq_eq_true hr.2
  have h2:(DJ o).testBit e.on=true:=by rw[<-EI];exact(Gb o e.on).2 ⟨e,he,hb,rfl⟩
  rw[<-h1,Nat.testBit_and]at h2
  simp only[Bool.and_eq_true]at h2
  exact h2.2
def Nz (d:Nat) (o:Oper):Bool:=match o.dst with | some e=> !(e.beq d) | none=>true
def Nj (ops:Array Oper) (m d:Nat):Bool:=QE (fun j o=>(GZ m j).or (Nz d o)) ops.toList 0
def okM (cfg:Cfg) (calls:Bool) (ops:Array Oper) (m:Nat) (slots:AP) (rk:Rk) (oj:Oper):Bool:=
 match rk with
 | .none=>true
 | .loc k=>match oj.op with
  | .store _ (.tmp d) _=>(Nj ops m d).and (KB k (G8 slots d))
  | .store _ _ _=>false
  | _=>true
 | .mem=>(calls.or (!(DQ oj.op))).and ((!(Dh cfg oj)).or (match oj.op with
  | .store _ (.tmp d) _=>(Nj ops m d).and (KZ (G8 slots d))
  | .alloc _=>(Dc cfg.loc oj.dst).isSome
  | _=>false))
def freeM (cfg:Cfg) (calls:Bool) (ops:Array Oper) (m:Nat) (slots:AP) (i:Nat) (oi:Oper):Bool:=
 QE (fun j oj=>(GZ m j).or ((j.beq i).or ((GZ (DJ oj) i).or ((oi.apart ops oj).and (okM cfg calls ops m slots (It slots oi.op) oj))))) ops.toList 0
def loB (cfg:Cfg) (o:Oper):Option (Nat×TypeId):=match o.guard,o.op with
  | none,.alloc t=>match Dc cfg.loc o.dst with
   | some k=>some (k,t)
   | none=>none
  | _,_=>none
def isKix (k:Nat):Option Nat->Bool
 | some j=>j.beq k
 | none=>false
def Tl (cfg:Cfg) (ops:Array Oper) (m:Nat) (i k:Nat) (oi:Oper):Bool:=
 QE (fun j oj=>(GZ m j).or ((j.beq i).or ((GZ (DJ oj) i).or ((oi.apart ops oj).and (!(isKix k (Dc cfg.loc oj.dst))))))) ops.toList 0
theorem IS {m d:Nat} {listed:Array Bool} (hr:IJ ops m listed) (h:Nj ops m d=true):Ds ops listed d=true:=by
 simp only[Ds,List.all_eq_true,List.mem_range]
 intro j hj
 have h1:=N1 h (Array.getElem?_eq_getElem hj)
 rw[Array.getElem?_eq_getElem hj]
 cases hu:listed.getD j true with
 | true=>rfl
 | false=>
  rw[(hr.un.1 hu).2]at h1
  have h2:Nz d ops[j]=true:=by cases hq:Nz d ops[j]<;>rw[hq]at h1<;>first | rfl | exact h1
  simp only[Bool.false_or,Bool.not_eq_true']
  unfold Nz at h2
  cases hd:(ops[j]).dst with
  | none=>rfl
  | some e=>
   rw[hd]at h2
   simp only at h2
   have hne:e≠d:=fun he=>by subst he;simp[Nat.beq_refl]at h2
   simpa using hne
theorem SL {m:Nat} {listed:Array Bool} (hr:IJ ops m listed) {calls:Bool} {slots:AP} {rk:Rk} {oj:Oper} (h:okM cfg calls ops m slots rk oj=true):okG cfg calls ops listed slots rk oj=true:=by
 unfold okM at h
 unfold okG
 cases rk with
 | none=>rfl
 | loc k=>
  simp only at h⊢
  split at h
  ·simp only[Bool.and_eq_true]at h⊢;exact⟨IS hr h.1,h.2⟩
  ·exact h
  ·exact h
 | mem=>
  simp only[Bool.and_eq_true,Bool.or_eq_true]at h⊢
  refine⟨h.1,h.2.imp id fun h=>?_⟩
  split at h
  ·simp only[Bool.and_eq_true]at h⊢;exact⟨IS hr h.1,h.2⟩
  ·exact h
  ·cases h
theorem or4 {a b c d:Bool} (h:a.or (b.or (c.or d))=true):a=true∨b=true∨c=true∨d=true:=by
 cases a<;>cases b<;>cases c<;>cases d<;>simp at h⊢
theorem GF {calls:Bool} {m i:Nat} {oi:Oper} {listed:Array Bool} {slots:AP} (hr:IJ ops m listed) (h:freeM cfg calls ops m slots i oi=true) (j:Nat) (oj:Oper)
  (hj:ops[j]? =some oj) (hne:j≠i) (hun:listed.getD j true=false) (hno:∀e∈oj.after,Region.binds .any e=true->e.on≠i):
  oi.apart ops oj=true/\okG cfg calls ops listed slots (It slots oi.op) oj=true:=by
 rcases or4 (N1 h hj)with h1 | h1 | h1 | h1
 ·rw[(hr.un.1 hun).2]at h1;cases h1
 ·exact absurd (Nat.eq_of_beq_eq_true h1) hne
 ·obtain⟨e,he,hb,hon⟩:=(Gb oj i).1 h1
  exact absurd hon (hno e he hb)
 ·simp only[Bool.and_eq_true]at h1
  exact⟨h1.1,SL hr h1.2⟩
theorem O9 {m i k:Nat} {oi:Oper} {listed:Array Bool} (hr:IJ ops m listed) (h:Tl cfg ops m i k oi=true) (j:Nat) (oj:Oper)
  (hj:ops[j]? =some oj) (hne:j≠i) (hun:listed.getD j true=false) (hno:∀e∈oj.after,Region.binds .any e=true->e.on≠i):
  oi.apart ops oj=true/\Dc cfg.loc oj.dst≠some k:=by
 rcases or4 (N1 h hj)with h1 | h1 | h1 | h1
 ·rw[(hr.un.1 hun).2]at h1;cases h1
 ·exact absurd (Nat.eq_of_beq_eq_true h1) hne
 ·obtain⟨e,he,hb,hon⟩:=(Gb oj i).1 h1
  exact absurd hon (hno e he hb)
 ·simp only[Bool.and_eq_true]at h1
  refine⟨h1.1,fun hk=>?_⟩
  rw[hk]at h1
  simp[isKix,Nat.beq_refl]at h1
theorem S0 {o:Oper} {k:Nat} {t:TypeId} (h:loB cfg o=some (k,t)):o.guard=none/\o.op= .alloc t/\Dc cfg.loc o.dst=some k:=by
 unfold loB at h
 split at h
 ·rename_i t' hg hop
  split at h
  ·rename_i k' hk
   simp only[Option.some.injEq,Prod.mk.injEq]at h
   obtain⟨rfl,rfl⟩:=h
   exact⟨hg,hop,hk⟩
  ·cases h
 ·cases h
def Tc (l:List Oper):Bool:=match l with
 | [oA,oX,oS,oF,oH]=>match appP oA,ixP oX,stP oS,faP oF,stP oH with
  | some _,some (dX,_,_,_),some (_,x1,_),some (dF,_,_,_),some (_,f1,_)=>(x1.beq dX).and (f1.beq dF)
  | _,_,_,_,_=>false
 | _=>false
def Lp (ops:Array Oper) (n r m:Nat):Bool:=(n.beq 4).and (((m+1).beq (Nat.shiftLeft 1 r)).and (Tc (ops.toList.drop r)))
theorem L9 {n r m:Nat} (h:Lp ops n r m=true):n=4/\m+1=2^r/\ops.size=r+5:=by
 simp only[Lp,Bool.and_eq_true]at h
 obtain⟨h1,h2,h3⟩:=h
 refine⟨Nat.eq_of_beq_eq_true h1,?_,?_⟩
 ·have:=Nat.eq_of_beq_eq_true h2
  rw[this]
  show 1<<<r=2^r
  rw[Nat.one_shiftLeft]
 ·unfold Tc at h3
  split at h3
  ·rename_i hd
   have:=congrArg List.length hd
   simp at this
   omega
  ·cases h3
def Mb (calls:Bool) (st:St):St:=match calls with | true=>Rp | false=>st
structure QG where
 i:Nat
 t:TypeId
 q:TV
 v:SV
def TD (P:Program) (p:QG) (st:St):Prop:=
 match p.v with
 | .t x=>match II P p.t with
  | some true=>match P.cellsOf p.t,x with
   | n+1,.agg xs=>Aj st [] (.t p.q) 0 (n+1)=some xs
   | _,_=>False
  | some false=>Ac st [] (.t p.q) 0=some x
  | none=>False
 | .loc _ _=>False
def Pj (P:Program) (oj:Oper) (st:St) (X:Prop):List QG->Prop
 | []=>X
 | p::ps=>match (DQ oj.op).and (!(GZ (DJ oj) p.i))with
  | true=>TD P p st/\Pj P oj st X ps
  | false=>Pj P oj st X ps
theorem LF {P:Program} {oj:Oper} {st:St} {X:Prop}:∀{l:List QG},Pj P oj st X l->X/\∀p∈l,DQ oj.op=true->GZ (DJ oj) p.i=false->TD P p st
 | [],h=>⟨h,fun p hp=>by cases hp⟩
 | p::ps,h=>by
  unfold Pj at h
  split at h
  ·obtain⟨h1,h2⟩:=LF h.2
   refine⟨h1,fun q hq hc hb=>?_⟩
   rcases List.mem_cons.1 hq with rfl | hq
   ·exact h.1
   ·exact h2 q hq hc hb
  ·rename_i hf
   obtain⟨h1,h2⟩:=LF h
   refine⟨h1,fun q hq hc hb=>?_⟩
   rcases List.mem_cons.1 hq with rfl | hq
   ·rw[hc,hb]at hf;cases hf
   ·exact h2 q hq hc hb
theorem chk1_is {p:QG} {st:St} {loc:List (Option (List TV))} (h:TD P p st):(DC P st loc p.t (.t p.q)).Is p.v:=by
 obtain⟨i,t,q,v⟩:=p
 unfold TD at h
 unfold DC
 simp only at h⊢
 cases v with
 | loc _ _=>exact h.elim
 | t x=>
  simp only at h⊢
  split at h
  ·rename_i ha
   rw[ha]
   split at h
   ·rename_i n xs hc
    rw[hc]
    exact⟨.agg xs,by simp only;rw[Fp st loc []];rw[h];rfl,rfl⟩
   ·exact h.elim
  ·rename_i ha
   rw[ha]
   exact⟨x,by rw[IC st loc []];exact h,rfl⟩
  ·exact h.elim
def IP (P:Program) (ops:Array Oper) (l:List QG):Nat->St->Prop:=fun j st=>∀oj,ops[j]? =some oj->DQ oj.op=true->∀p∈l,GZ (DJ oj) p.i=false->TD P p st
theorem S9 {o:Oper} (h:isN P o.op=true):DQ o.op=false:=by
 cases hq:o.op<;>rw[hq]at h<;>first | rfl | skip
 rename_i c
 obtain⟨callee,args,ts⟩:=c
 cases callee<;>first | rfl | (simp[isN]at h)
def pnOp (cfg:Cfg) (slots:AP) (o:Oper):Option (TypeId×TV):=match Ta cfg.pn o.dst with
 | false=>none
 | true=>match o.op with
  | .load t a=>match opS slots a with
   | .t q=>some (t,q)
   | .loc _ _=>none
  | _=>none
theorem RP {slots:AP} {o:Oper} {t:TypeId} {q:TV} (h:pnOp cfg slots o=some (t,q)):∃a,o.op= .load t a/\opS slots a= .t q:=by
 unfold pnOp at h
 split at h
 ·cases h
 ·split at h
  ·rename_i t' a hop
   split at h
   ·rename_i q' hq
    simp only[Option.some.injEq,Prod.mk.injEq]at h
    obtain⟨rfl,rfl⟩:=h
    exact⟨a,hop,hq⟩
   ·cases h
  ·cases h
def JH (cfg:Cfg) (P:Program) (ops:Array Oper) (calls:Bool) (K:Fr->St->Prop):Nat->Nat->List QG->Fr->St->Prop
 | 0,m,_,fr,st=>match GU (He m) ops.toList 0 with
  | none=>K fr st
  | some _=>False
 | n+1,m,pend,fr,st=>match GU (fun i o=>(He m i o).and ((isN P o.op).and (freeM cfg calls ops m fr.slots i o))) ops.toList 0 with
  | some (i,o)=>match pnOp cfg fr.slots o with
   | some (t,q)=>JT ops fr o.guard
      (fun fr=>(DC P st fr.loc t (.t q)).K fun v=>Rn P o.type v fun v'=>JH cfg P ops calls K n (JE m i) (⟨i,t,q,v'⟩::pend) ⟨A2 fr.slots o.dst v',fr.loc⟩ st)
      (fun fr=>JH cfg P ops calls K n (JE m i) pend ⟨A2 fr.slots o.dst (.t .undef),fr.loc⟩ st)
   | none=>JT ops fr o.guard
      (fun fr=>(BB P (Mb calls st) fr.loc (opS fr.slots) o.op).K fun v=>Rn P o.type v fun v'=>JH cfg P ops calls K n (JE m i) pend ⟨A2 fr.slots o.dst v',fr.loc⟩ st)
      (fun fr=>JH cfg P ops calls K n (JE m i) pend ⟨A2 fr.slots o.dst (.t .undef),fr.loc⟩ st)
  | none=>match GU (He m) ops.toList 0 with
   | none=>K fr st
   | some (r,o)=>match GU (fun i o=>(He m i o).and (!(i.beq r))) ops.toList 0 with
    | none=>match Lp ops n r m with
     | true=>Ti P (ops.toList.drop r) r K fr st
     | false=>JT ops fr o.guard
       (fun fr=>KW cfg P o.dst o.type o.op (opS fr.slots) fr.loc st fun v loc' st'=>Pj P o st' (JH cfg P ops calls K n (JE m r) pend ⟨A2 fr.slots o.dst v,loc'⟩ st') pend)
       (fun fr=>Pj P o st (JH cfg P ops calls K n (JE m r) pend ⟨A2 fr.slots o.dst (.t .undef),fr.loc⟩ st) pend)
    | some _=>match GU (fun i o=>(He m i o).and (loB cfg o).isSome) ops.toList 0 with
     | some (i,o)=>match loB cfg o with
      | some (k,t)=>match Fj P t,fr.loc[k]? with
       | some cells,some none=>need ((Tl cfg ops m i k o).and (Iy ops k fr.slots)) (JH cfg P ops calls K n (JE m i) pend ⟨A2 fr.slots o.dst (.loc k 0),fr.loc.set k (some cells)⟩ st)
       | _,_=>False
      | none=>False
     | none=>False
theorem EU {K:Fr->St->Prop} {calls:Bool}:∀(n m:Nat) (pend:List QG) (listed:Array Bool) (fr:Fr) (st:St),IJ ops m listed->JH cfg P ops calls K n m pend fr st->CT cfg P ops (IP P ops pend) K n listed fr st
 | 0,m,pend,listed,fr,st,hr,h=>by
  simp only[JH]at h
  split at h
  ·rename_i hf
   refine⟨?_,h⟩
   rw[List.eq_nil_iff_forall_not_mem]
   intro j hj
   obtain⟨o,ho,hrd⟩:=hr.ready.1 hj
   rw[NK hf ho]at hrd
   cases hrd
  ·exact h.elim
 | n+1,m,pend,listed,fr,st,hr,h=>by
  simp only[JH]at h
  split at h
  ·rename_i i o hfind
   obtain⟨ho,hf⟩:=Ls hfind
   simp only[Bool.and_eq_true]at hf
   obtain⟨hrd,hN,hfree⟩:=hf
   have hmem:i∈Region.ready .any ops listed:=hr.ready.2 ⟨o,ho,hrd⟩
   have hr':=hr.set (Array.getElem?_eq_some_iff.1 ho).1
   have hIi:∀st,IP P ops pend i st:=fun st oj hoj hc=>by
    rw[ho]at hoj;cases hoj
    rw[S9 hN]at hc;cases hc
   split at h
   ·--a reading that is checked behind calls
    rename_i t q hpn
    obtain⟨a,hop,hq⟩:=RP hpn
    obtain⟨tt,hw,hg⟩:=Fs h
    cases tt with
    | true=>
     obtain⟨v,hv,hk⟩:=AY.K_iff.1 hg
     have hk:=Ho hk
     have hab:=EU n _ _ _ _ st hr' hk
     have hny:∀(s:St) (fr':Fr),C4 ops fr'.slots o.guard=some true->(∀x,x∈o.op.operands->opS fr'.slots x=opS fr.slots x)->(DC P s fr'.loc t (.t q)).Is v->NY P ops o v s fr':=fun s fr' hw hx hl=>by
      refine .inl ⟨hw,?_⟩
      rw[hop]
      simp only[BB]
      rw[hx a (by rw[hop];simp[Op.operands]),hq]
      exact hl
     refine NH (I':=IP P ops (⟨i,t,q,v⟩::pend)) (S:=fun _=>True) ho hN hIi (fun j st hI oj hoj hc p hp hb=>hI oj hoj hc p (List.mem_cons_of_mem _ hp) hb) ?_ n listed fr st (fun _ h=>h) (fun _ _=>rfl) rfl (fun _ _=>rfl) (GF hr hfree) hmem ⟨st,trivial,hny st fr hw (fun _ _=>rfl) hv,fun _=>CU.refl st⟩ hab
     intro _ _ j oj st' s fr' hoj hc hno hI _ hy hx
     rcases hy with hy | hy
     ·refine⟨st',trivial,hny st' fr' hy.1 hx ?_,CU.refl _⟩
      refine chk1_is (p:=⟨i,t,q,v⟩) (hI oj hoj hc ⟨i,t,q,v⟩ (List.mem_cons_self ..) ?_)
      cases hbt:GZ (DJ oj) i with
      | false=>rfl
      | true=>
       obtain⟨e,he,hb,hon⟩:=(Gb oj i).1 hbt
       exact absurd hon (hno e he hb)
     ·exact⟨st',trivial,.inr hy,CU.refl _⟩
    | false=>
     have hle:CU (Mb calls st) st:=by cases calls;exact CU.refl st;exact CU.blind st
     have hcall:calls=true->It fr.slots o.op= .mem->∀j oj st' s fr',ops[j]? =some oj->DQ oj.op=true->(∀e∈oj.after,Region.binds .any e=true->e.on≠i)->IP P ops pend j st'->s=Mb calls st->∀v,NY P ops o v s fr'->(∀x,x∈o.op.operands->opS fr'.slots x=opS fr.slots x)->∃s',s'=Mb calls st/\NY P ops o v s' fr'/\CU s' st':=by
      intro hcl _ j oj st' s fr' _ _ _ _ hs v hy _
      subst hs
      exact⟨_,rfl,hy,by rw[hcl];exact CU.blind st'⟩
     exact NH (S:=fun s=>s=Mb calls st) (v:= .t .undef) ho hN hIi (fun _ _ h=>h) (fun a1 a2 a3 a4 a5 a6 a7 a8 a9 a10 a11 a12 a13 a14=>hcall a1 a2 a3 a4 a5 a6 a7 a8 a9 a10 a11 a12 _ a13 a14) n listed fr st (fun _ h=>h) (fun _ _=>rfl) rfl (fun _ _=>rfl) (GF hr hfree) hmem ⟨_,rfl,.inr ⟨hw,rfl⟩,fun _=>hle⟩ (EU n _ _ _ _ st hr' hg)
   ·have hle:CU (Mb calls st) st:=by cases calls;exact CU.refl st;exact CU.blind st
    have hcall:calls=true->It fr.slots o.op= .mem->∀j oj st' s fr',ops[j]? =some oj->DQ oj.op=true->(∀e∈oj.after,Region.binds .any e=true->e.on≠i)->IP P ops pend j st'->s=Mb calls st->∀v,NY P ops o v s fr'->(∀x,x∈o.op.operands->opS fr'.slots x=opS fr.slots x)->∃s',s'=Mb calls st/\NY P ops o v s' fr'/\CU s' st':=by
     intro hcl _ j oj st' s fr' _ _ _ _ hs v hy _
     subst hs
     exact⟨_,rfl,hy,by rw[hcl];exact CU.blind st'⟩
    obtain⟨t,hw,hg⟩:=Fs h
    cases t with
    | true=>
     obtain⟨v,hv,hk⟩:=AY.K_iff.1 hg
     exact NH (S:=fun s=>s=Mb calls st) ho hN hIi (fun _ _ h=>h) (fun a1 a2 a3 a4 a5 a6 a7 a8 a9 a10 a11 a12 a13 a14=>hcall a1 a2 a3 a4 a5 a6 a7 a8 a9 a10 a11 a12 _ a13 a14) n listed fr st (fun _ h=>h) (fun _ _=>rfl) rfl (fun _ _=>rfl) (GF hr hfree) hmem ⟨_,rfl,.inl ⟨hw,hv⟩,fun _=>hle⟩ (EU n _ _ _ _ st hr' (Ho hk))
    | false=>
     exact NH (S:=fun s=>s=Mb calls st) (v:= .t .undef) ho hN hIi (fun _ _ h=>h) (fun a1 a2 a3 a4 a5 a6 a7 a8 a9 a10 a11 a12 a13 a14=>hcall a1 a2 a3 a4 a5 a6 a7 a8 a9 a10 a11 a12 _ a13 a14) n listed fr st (fun _ h=>h) (fun _ _=>rfl) rfl (fun _ _=>rfl) (GF hr hfree) hmem ⟨_,rfl,.inr ⟨hw,rfl⟩,fun _=>hle⟩ (EU n _ _ _ _ st hr' hg)
  ·split at h
   ·rename_i hf
    refine .inr ⟨fun _=>h,fun i hi=>?_⟩
    obtain⟨o,ho,hrd⟩:=hr.ready.1 hi
    rw[NK hf ho]at hrd
    cases hrd
   ·rename_i r o hfr
    obtain⟨ho,hrd⟩:=Ls hfr
    have hmem:r∈Region.ready .any ops listed:=hr.ready.2 ⟨o,ho,hrd⟩
    split at h
    ·rename_i hone
     have hr':=hr.set (Array.getElem?_eq_some_iff.1 ho).1
     have only:∀i∈Region.ready .any ops listed,i=r:=fun i hi=>by
      obtain⟨o2,ho2,hrd2⟩:=hr.ready.1 hi
      have:=NK hone ho2
      rw[hrd2]at this
      simp only[Bool.true_and,Bool.not_eq_false']at this
      exact Nat.eq_of_beq_eq_true this
     split at h
     ·rename_i hhole
      obtain⟨rfl,hm1,hsz⟩:=L9 hhole
      have hbit:∀j,listed.getD j false=decide (j<r):=fun j=>by
       rw[hr.2,EI,show m=2^r-1 from by omega,Nat.testBit_two_pow_sub_one]
      obtain⟨h1,h2⟩:=Qb hsz hmem only hr.1 (fun j hj=>by rw[hbit];simpa using hj) (fun j hj=>by rw[hbit];simpa using hj) h
      exact .inl ⟨h1,h2⟩
     refine .inr ⟨fun h0=>(by rw[h0]at hmem;cases hmem),fun i hi o' ho'=>?_⟩
     have hir:i=r:=only i hi
     subst hir
     rw[ho]at ho';cases ho'
     obtain⟨t,hw,hg⟩:=Fs h
     have fin:∀(fr':Fr) (st':St),Pj P o st' (JH cfg P ops calls K n (JE m i) pend fr' st') pend->IP P ops pend i st'/\CT cfg P ops (IP P ops pend) K n (listed.setIfInBounds i true) fr' st':=fun fr' st' hc=>by
      obtain⟨h1,h2⟩:=LF hc
      refine⟨fun oj hoj hcl p hp hb=>?_,EU n _ _ _ _ _ hr' h1⟩
      rw[ho]at hoj;cases hoj
      exact h2 p hp hcl hb
     unfold stepA
     rw[hw]
     cases t with
     | true=>
      have:=Oq (show KW cfg P o.dst o.type o.op (opS fr.slots) fr.loc st (fun v loc' st'=>Pj P o st' (JH cfg P ops calls K n (JE m i) pend ⟨A2 fr.slots o.dst v,loc'⟩ st') pend)from hg)
      simp only[GT]at this⊢
      cases hN:isN P o.op with
      | true=>
       simp only[hN]at this⊢
       obtain⟨v,hv,hk⟩:=this
       exact⟨v,hv,fin _ _ hk⟩
      | false=>
       simp only[hN]at this⊢
       exact DF o (fun _ _=>rfl) (fun v loc' st' _ _ hk=>fin _ _ hk) this
     | false=>exact fin _ _ hg
    ·split at h
     ·rename_i i o' hlo
      obtain⟨ho',hq⟩:=Ls hlo
      simp only[Bool.and_eq_true]at hq
      split at h
      ·rename_i k t hkt
       split at h
       ·rename_i cells hz hl
        rw[Ak]at h
        obtain⟨hc,hk⟩:=h
        simp only[Bool.and_eq_true]at hc
        obtain⟨hg,hop,hix⟩:=S0 hkt
        refine afirst ho' hop hg hix hz (fun st oj hoj hcl=>?_) n listed fr st (O9 hr hc.1) (hr.ready.2 ⟨o',ho',hq.1⟩) hl hc.2 (EU n _ _ _ _ st (hr.set (Array.getElem?_eq_some_iff.1 ho').1) hk)
        rw[ho']at hoj;cases hoj
        rw[hop]at hcl;cases hcl
       ·exact h.elim
      ·exact h.elim
     ·exact h.elim
def hasCall (ops:Array Oper):Bool:=ops.any fun o=>DQ o.op
def Tx (cfg:Cfg) (P:Program) (ops:Array Oper) (K:Fr->St->Prop) (fr:Fr) (st:St):Prop:=
 JH cfg P ops (hasCall ops) K ops.size 0 [] fr st
theorem NN {K:Fr->St->Prop} {Q:Exit->Act->World->Prop} (hm:P.follows .mixedOrders=true) {id:Nat} {fr:Fr} {st:St} {g:Ghost} {w:World} {a:Act} (h:Tx cfg P ops K fr st) (s:Sim g st fr.loc w) (hf:Fe g w fr a.tmps)
  (hq:∀a' w',Ig g w a K a' w'->Q .normal a' w'):(Code.region id ops true).wp P Q a w:=by
 obtain⟨sd,ed⟩:=s.drew
 refine wp_region_any hm (MX _ _ fr st g w.drew a (EU _ _ _ _ _ _ IJ.start h) sd ?_ fun a' w' hp=>hq _ _ (hp.ext ed ⟨rfl,rfl⟩))
 exact⟨hf.1,fun i=>(hf.2 i).keep ed (Bt.refl _ _)⟩
end
end Go.TVF
end
section
namespace Go.TVF
open Go.IntKind(i64 u8)
open Go.RowKit (Below)
structure Ec where
 slots:List (Nat×CTy)
 ptrs:List (Nat×Nat×Nat)
 locs:List (Nat×Nat)
 cells:List (Nat×Nat×CTy)
inductive Hu where
 | none
 | seq (a b:Hu)
 | cut (k:Ec) (a b:Hu)
 | cond (a b:Hu)
 | block (a:Hu)
 | loop (k:Ec) (a:Hu)
def Hu.l:Hu->Hu
 | .seq a _=>a
 | .cut _ a _=>a
 | .cond a _=>a
 | .block a=>a
 | .loop _ a=>a
 | .none=> .none
def Hu.r:Hu->Hu
 | .seq _ b=>b
 | .cut _ _ b=>b
 | .cond _ b=>b
 | _=> .none
def Ec.tys (k:Ec):List CTy:=k.slots.map (·.2)++k.cells.map (·.2.2)
def JA (fr:Fr) (s:Nat):TV:=(fr.slots.f s).tv
def J0 (fr:Fr) (i o:Nat):TV:=match fr.loc[i]? with | some (some l)=>l.getD o .junk | _=> .junk
def Ec.vals (k:Ec) (fr:Fr):List TV:=(k.slots.map fun p=>JA fr p.1)++k.cells.map fun p=>J0 fr p.1 p.2.1
def Q5 (fr:Fr) (s i o:Nat):Bool:=match fr.slots.f s with | .loc j p=>(j.beq i).and (p.beq o) | _=>false
def S8 (fr:Fr) (i n:Nat):Bool:=match fr.loc[i]? with | some (some l)=>l.length.beq n | _=>false
def P5 (s:Nat):List (Nat×CTy)->List TV->Option TV
 | p::ps,v::vs=>match p.1.beq s with | true=>some v | false=>P5 s ps vs
 | _,_=>none
def MA (i o:Nat):List (Nat×Nat×CTy)->List TV->Option TV
 | p::ps,v::vs=>match (p.1.beq i).and (p.2.1.beq o)with | true=>some v | false=>MA i o ps vs
 | _,_=>none
def OU (s:Nat):List (Nat×Nat×Nat)->Option (Nat×Nat)
 | p::ps=>match p.1.beq s with | true=>some p.2 | false=>OU s ps
 | []=>none
def Kc (i:Nat):List (Nat×Nat)->Option Nat
 | p::ps=>match p.1.beq i with | true=>some p.2 | false=>Kc i ps
 | []=>none
def Tj (k:Ec) (nl i:Nat):Bool:=match Kc i k.locs with | some _=>(i+1).ble nl | none=>false
def Ec.ok (k:Ec) (nl:Nat) (fr:Fr):Bool:=(k.ptrs.all fun p=>(Q5 fr p.1 p.2.1 p.2.2).and (Tj k nl p.2.1)).and (k.locs.all fun p=>S8 fr p.1 p.2)
def PN (k:Ec) (vals:List TV) (s:Nat):SV:=
 match P5 s k.slots vals with
 | some v=> .t v
 | none=>match OU s k.ptrs with
  | some p=> .loc p.1 p.2
  | none=> .t .junk
def Qw (k:Ec) (vals:List TV) (i o:Nat):TV:=match MA i o k.cells (vals.drop k.slots.length)with | some v=>v | none=> .junk
def Ez (k:Ec) (vals:List TV) (i:Nat):Nat->Nat->List TV
 | 0,_=>[]
 | n+1,o=>Qw k vals i o::Ez k vals i n (o+1)
def H7 (k:Ec) (vals:List TV):Nat->Nat->List (Option (List TV))
 | 0,_=>[]
 | n+1,i=>(match Kc i k.locs with | some m=>some (Ez k vals i m 0) | none=>none)::H7 k vals n (i+1)
def Ec.frame (k:Ec) (ns nl:Nat) (vals:List TV):Fr:=⟨⟨ns,PN k vals⟩,H7 k vals nl 0⟩
def Ph:(cs:List CTy)->{A B:Type}->List TV->Fun cs A->Fun cs B->(A->B->Prop)->Prop
 | [],_,_,[],f,g,k=>k f g
 | [],_,_,_::_,_,_,_=>False
 | _::_,_,_,[],_,_,_=>False
 | c::cs,_,_,v::vs,f,g,k=>Bj c v fun y=>Ph cs vs (f y) (g y) k
def AllC:(cs:List CTy)->Fun cs (St->Prop)->Fun cs (St->Nat)->(List TV->Nat->St->Prop)->Prop
 | [],I,M,B=>∀st,I st->B [] (M st) st
 | c::cs,I,M,B=>∀y:c.I,AllC cs (I y) (M y) fun l=>B (enc c y::l)
def T4:(cs:List CTy)->Fun cs (St->Prop)->(List TV->St->Prop)->Prop
 | [],I,B=>∀st,I st->B [] st
 | c::cs,I,B=>∀y:c.I,T4 cs (I y) fun l=>B (enc c y::l)
def Oj (next:Fr->St->Prop) (Q:Exit->Fr->St->Prop):Exit->Fr->St->Prop
 | .normal,fr,st=>next fr st
 | e,fr,st=>Q e fr st
def QA (id:Nat) (Q:Exit->Fr->St->Prop):Exit->Fr->St->Prop
 | .exit id',fr,st=>match id'.beq id with | true=>Q .normal fr st | false=>Q (.exit id') fr st
 | e,fr,st=>Q e fr st
def cwp (cfg:Cfg) (P:Program) (ns nl:Nat):Code->Hu->(Exit->Fr->St->Prop)->Fr->St->Prop
 | .skip,_,Q,fr,st=>Q .normal fr st
 | .region _ ops draw,_,Q,fr,st=>match draw with
  | false=>OI cfg P ops (Q .normal) ops.toList fr st
  | true=>Tx cfg P ops (Q .normal) fr st
 | .seq a b,h,Q,fr,st=>match h with
  | .cut k ha hb=>∃R:Fun k.tys (St->Prop),cwp cfg P ns nl a ha (Oj (fun fr st=>need (k.ok nl fr) (If k.tys (k.vals fr) R fun p=>p st)) Q) fr st/\
    T4 k.tys R fun vals st=>cwp cfg P ns nl b hb Q (k.frame ns nl vals) st
  | h=>cwp cfg P ns nl a h.l (Oj (cwp cfg P ns nl b h.r Q) Q) fr st
 | .cond c a b,h,Q,fr,st=>match opS fr.slots c with
  | .t (.bool x)=>BIf x (cwp cfg P ns nl a h.l Q fr st) (cwp cfg P ns nl b h.r Q fr st)
  | _=>False
 | .block id a,h,Q,fr,st=>cwp cfg P ns nl a h.l (QA id Q) fr st
 | .loop a,h,Q,fr,st=>match h with
  | .loop k ha=>∃(I:Fun k.tys (St->Prop)) (M:Fun k.tys (St->Nat)),need (k.ok nl fr) (If k.tys (k.vals fr) I fun p=>p st)/\
    AllC k.tys I M fun vals m st=>cwp cfg P ns nl a ha (Oj (fun fr st=>need (k.ok nl fr) (Ph k.tys (k.vals fr) I M fun p q=>p st/\q st<m)) Q) (k.frame ns nl vals) st
  | _=>False
 | .exit id,_,Q,fr,st=>Q (.exit id) fr st
 | .ret,_,Q,fr,st=>Q .ret fr st
 | _,_,_,_,_=>False
end Go.TVF
end
