/- What the laws below rest on: a framework for Go programs, and contracts of the functions that they reach. -/
import Derived.Test.YtahjbepjlconkaaGreatDoorZqA
import Derived.Orders
import Derived.Still
set_option maxRecDepth 20000
set_option linter.unusedVariables false
set_option linter.unusedSimpArgs false
section
namespace Go.TVF
open Go.IntKind(i64 u8)
open Go.RowKit (Below)
section
variable {P:Program} {g:Ak} {st:St} {loc:List (Option (List TV))} {w:World}
theorem HB {X:Value->World->Prop} {s:Sem Value} {R:Value->World->Prop} {u:Value} {w':World} (h:s.run P w= .ok u w') (hR:R u w'):Cs X P (do pure (Next.value (<-s))) w R:=by
 simp_all[Cs]
theorem TO (place:Nat->Option (Nat×Nat)):∀(parts:List (Nat×TV)) (cells out:List TV),OU place cells parts=some out->out.length=cells.length
 :=by intro a0;induction a0<;>grind [OU,RV]
theorem Py {ρ:Operand->SV} {ρc:Operand->Value}:∀(parts:List (Nat×Operand)),(∀p∈parts,Cd g w loc (ρ p.2) (ρc p.2))->PRel g w (parts.map λp=>(p.1,(ρ p.2).tv)) (parts.map λp=>(p.1,ρc p.2))
 | [],_=>trivial
 | p::ps,h=>⟨rfl,(h p (by simp)).tv,Py ps λq hq=>h q (by simp[hq])⟩
theorem UB (z:Value) (n:Nat) (hz:1<=z.cells.size∨n=0):AP g w (ML (z.cells.toList.map Nj) n) ((Array.range n).map (z.cells[·%z.cells.size]!)).toList:=by
 refine⟨by simp[ML],λi hi=>?_⟩;grind [ML,Ni,Nat.mod_lt]
theorem Rel.box_inv {b o:Nat} {u:Value} (h:Rel g w (.box b o) u):b<g.nb/\u= .pointer (some ⟨g.bk b,o,none⟩):=by cases h;grind
theorem TZ (w:World) (c:Array Value) (T:TypeId) (n:Nat):(w.alloc (.cells c T)).freeze ⟨w.heap.size,n,none⟩ 1=w.alloc (.cells c T (n,n+1)):=by
 have hh:((w.heap.push (.cells c T)).modify w.heap.size fun
   | .cells c elem (lo,hi)=> .cells c elem (if lo==hi then(n,n+1)else(min lo n,max hi (n+1)))
   | o=>o)=w.heap.push (.cells c T (n,n+1)):=by
  grind
 grind [Go.World.freeze,Go.World.alloc]
theorem run_info {t:TypeId} {i:TypeInfo} (h:P.info? t=some i) (w:World):(typeInfo t).run P w= .ok i w:=by simp[typeInfo,h]
theorem HA {t e:TypeId} (h:DK P t=some e):P.underlying t=some (.slice e):=by
 grind [DK]
theorem L9 {t:TypeId} {z:List TV} (h:GN P t=some z) {i:TypeInfo} (hi:P.info? t=some i):∃v,i.zero=some v/\z=v.cells.toList.map Nj:=by
 grind [GN]
theorem OS {d:Option TypeDesc} (h:VT d=true):∃du,d=some du/\((∃e',du= .slice e')∨du= .string):=by
 cases d with
 | none=>grind [VT]
 | some du=>cases du<;>simp[VT]at h<;>exact⟨_,rfl,by simp⟩
theorem XA {e:TypeId} (hc:P.cellsOf e=1) (count off n:Nat) (hn:off+n<=count):liesAt P P.depth e count off e n=true:=by
 have hd:P.depth=(2*(P.types.size+Made.depth)+1)+1:=rfl;rw[hd];simp[liesAt,Bool.or_eq_true];rw[hd];simp[rowAt,hc,hn,sameLayout,Nat.mod_one]
theorem Ng (w:World):∀(ns:List Int) (a:Addr) (acc:ByteArray),(∀j x,ns[j]? =some x->w.cell? (a.add j)=some (.int .u8 x))->
  (loadBytes a acc ns.length).run P w= .ok ⟨acc.data++(ns.map λn=>UInt8.ofNat n.toNat).toArray⟩ w
 | [],a,acc,_=>by simp[loadBytes]
 | x::l,a,acc,h=>by
  have h0:w.cell? a=some (.int .u8 x):=by
   have:=h 0 x rfl;simpa [Addr.add]using this
  have ih:=Ng w l (a.add 1) (acc.push x.toNat.toUInt8) (λj y hy=>by
   have:=h (j+1) y (by simpa using hy);have e:(a.add 1).add j=a.add (j+1):=by
    unfold Addr.add;by_cases hj:j=0
    ·subst hj;simp
    ·simp[hj];omega
   rw[e];exact this)
  simp[List.length_cons,loadBytes,Sem.run_bind,run_load,h0,Result.andThen];rw[ih];simp
theorem KC (pt it ty e:TypeId) (hp:P.underlying pt=some (.pointer e)) (hc:P.cellsOf e=1) (b o:Nat) (c:Array Value) (fz:Nat×Nat) (hrow:w.heap[b]? =some (.cells c e fz)) (ns:List Int) (h0:ns≠ []) (h63:ns.length<=9223372036854775807)
  (hcell:∀j x,ns[j]? =some x->w.cell? ((⟨b,o,none⟩:Addr).add j)=some (.int .u8 x)):
  (Builtin.unsafeString_ #[pt,it] ty #[.pointer (some ⟨b,o,none⟩),.int .i64 ns.length]).run P w= .ok (.string ⟨(ns.map λn=>UInt8.ofNat n.toNat).toArray⟩) (w.freeze ⟨b,o,none⟩ ns.length):=by
 have hl:ns.length≠0:=by simp_all
 have hsh:w.shape? b=some (e,c.size):=by simp[World.shape?,hrow]
 have hon:o+ns.length<=c.size:=by
  have hlast:ns.length-1<ns.length:=by omega
  have:=hcell (ns.length-1) ns[ns.length-1] (List.getElem?_eq_getElem hlast);grind [Cf,Go.World.cell?]
 have hlb:=Ng (P:=P) w ns ⟨b,o,none⟩ .empty hcell;have hlies:=XA (P:=P) hc (c.size/P.cellsOf e) o ns.length (by simp_all);have h63':¬(9223372036854775807:Int)<(ns.length:Int):=by omega
 have hdef:Builtin.unsafeString_ #[pt,it] ty #[.pointer (some ⟨b,o,none⟩),.int .i64 ns.length]=
   (do
    let n<-asInt (.int .i64 ns.length)
    if n < 0 then runtimePanic (.error "unsafe.String: len out of range")
    if n > IntKind.i64.max then unsupported (.unsafePointer "String: a length above the largest int")
    if n=0 then pure (.string .empty)
    else if<-variablesAt ⟨b,o,none⟩ (<-elemOf pt) n.toNat then do
     let s<-loadBytes ⟨b,o,none⟩ .empty n.toNat
     freeze ⟨b,o,none⟩ n.toNat
     pure (.string s)
    else unsupported (.unsafePointer "String: not so many bytes at ptr")) := rfl
 rw[hdef];have hmax:IntKind.i64.max=9223372036854775807:=rfl;have hneg:¬(ns.length:Int)<0:=by omega
 simp[asInt,asIntOf,hmax,h63',hneg,hl,variablesAt,hsh,elemOf,run_underlying hp,hlies,hlb]
def Fu (w:World) (b:Nat) (o:Obj):World:={w with heap:=w.heap.setIfInBounds b o}
theorem Ib (w:World) (b:Nat) (o:Obj) (k:Nat) (h:k≠b):(Fu w b o).heap[k]? =w.heap[k]? :=by
 grind [Fu]
theorem JL {B:Nat} {a w:World} (h:Below B a w) {b:Nat} (hb:B<=b) (o:Obj):Below B a (Fu w b o):=
 h.trans ⟨rfl,rfl,rfl,by simp[Fu],λk hk=>Ib _ _ _ _ (by omega)⟩
theorem So {k:B8} {v:TV}:∀{es:List (B8×TV)},AG k es=none->Gk k v es=es++[(k,v)]
 :=by intro a0;induction a0<;>grind [AG,Gk]
theorem Vc {k:B8} {v:TV}:∀{es:List (B8×TV)} {i:Nat} {u:TV},es[i]? =some (k,u)->(∀j,j<i->∀kk vv,es[j]? =some (kk,vv)->k≠kk)->Gk k v es=es.set i (k,v)
 | [],i,u,h,_=>by simp at h
 | (k',v')::es,0,u,h,_=>by
  grind [Gk]
 | (k',v')::es,i+1,u,h,hj=>by
  have hne:=hj 0 (by omega) k' v' rfl;simp[Gk,hne,decide_false,List.set_cons_succ];rw[Vc (by simpa using h) (λj h1 kk vv h2=>hj (j+1) (by omega) kk vv (by simpa using h2))]
theorem RU {t kt et:TypeId} (ht:P.underlying t=some (.map kt et)) (hkt:P.underlying kt=some .string) {b:Nat} {ms:Array MapEntry} {c:Nat} (hb:w.heap[b]? =some (.map ms c)) {es:List (B8×TV)} (hl:es.length=ms.toList.length)
  (hm:∀(i:Nat) (k:B8) (v:TV),es[i]? =some (k,v)->∃e:MapEntry,ms.toList[i]? =some e/\e.key=Value.string ⟨k.toArray⟩/\Rel g w v e.val) {k:B8} {v:TV} {vv:Value} (hv:Rel g w v vv):
  ∃(ms':Array MapEntry) (c':Nat),(Instr.mapUpdate t (.map (some b)) (.string ⟨k.toArray⟩) vv).run P w= .ok () (Fu w b (.map ms' c'))/\(Gk k v es).length=ms'.toList.length/\
   ∀(i:Nat) (kk:B8) (u:TV),(Gk k v es)[i]? =some (kk,u)->∃e:MapEntry,ms'.toList[i]? =some e/\e.key=Value.string ⟨kk.toArray⟩/\Rel g w u e.val:=by
 have hg:(getObj b).run P w= .ok (.map ms c) w:=by simp[getObj,Sem.run,hb]
 rcases LZ (P:=P) hkt (k:=k) hl hm with⟨h1,h2⟩ | ⟨u,i,e,h1,h2,h3,h4,h5,⟨kk,h6,hkk⟩,h7⟩
 ·refine⟨ms.push {key:= .string ⟨k.toArray⟩,val:=vv,born:=c},c+1,?_,?_,?_⟩
  ·simp_all[Fu,Ax,FH,Go.Instr.mapUpdate,Go.setObj,Go.Sem.run]
  ·grind [So]
  ·intro i kk u hi
   rw[So h1]at hi;by_cases hlt:i<es.length
   ·grind
   ·rw[List.getElem?_append_right (by omega)]at hi
    simp_all[List.getElem?_eq_some_iff,List.getElem?_append_right]
 ·subst hkk
  have hset:Gk k v es=es.set i (k,v):=Vc h6 h7;refine⟨ms.modify i λe=>{e with key:= .string ⟨k.toArray⟩,val:=vv},c,?_,?_,?_⟩
  ·have hstay:(Instr.keyThatStays (((ms[i]?).map (·.key)).getD (.string ⟨k.toArray⟩)) (.string ⟨k.toArray⟩)).run P w= .ok (.string ⟨k.toArray⟩) w:=by
    simp_all[Go.beq_toListBytes,Go.Instr.keyThatStays,Go.Instr.sameBits]
   simp_all[Fu,Ax,FH,Go.Instr.mapUpdate,Go.setObj,Go.Sem.run]
  all_goals grind
theorem Sn {k:Nat} {v:TV}:∀{es:List (Nat×TV)},CF k es=none->GS k v es=es++[(k,v)]
 :=by intro a0;induction a0<;>grind [CF,GS]
theorem Vb {k:Nat} {v:TV}:∀{es:List (Nat×TV)} {i:Nat} {u:TV},es[i]? =some (k,u)->(∀j,j<i->∀kk vv,es[j]? =some (kk,vv)->k≠kk)->GS k v es=es.set i (k,v)
 | [],i,u,h,_=>by simp at h
 | (k',v')::es,0,u,h,_=>by
  simp_all[GS]
 | (k',v')::es,i+1,u,h,hj=>by
  have hne:=hj 0 (by omega) k' v' rfl;simp[GS,HX hne,List.set_cons_succ];rw[Vb (by simpa using h) (λj h1 kk vv h2=>hj (j+1) (by omega) kk vv (by simpa using h2))]
theorem AaE {k:Nat}:∀{es:List (Nat×TV)},CF k es=none->JG k es=es
 :=by intro a0;induction a0<;>grind [CF,JG]
theorem Q5 {k:Nat}:∀{es:List (Nat×TV)} {i:Nat} {u:TV},es[i]? =some (k,u)->(∀j,j<i->∀kk vv,es[j]? =some (kk,vv)->k≠kk)->JG k es=es.eraseIdx i
 | [],i,u,h,_=>by simp at h
 | (k',v')::es,0,u,h,_=>by
  simp_all[JG]
 | (k',v')::es,i+1,u,h,hj=>by
  have hne:=hj 0 (by omega) k' v' rfl;simp[JG,HX hne,List.eraseIdx_cons_succ];rw[Q5 (by simpa using h) (λj h1 kk vv h2=>hj (j+1) (by omega) kk vv (by simpa using h2))]
def PmOk (g:Ak) (w:World) (es:List (Nat×TV)) (ms:Array MapEntry):Prop:=es.length=ms.toList.length/\∀(i k:Nat) (v:TV),es[i]? =some (k,v)->k<g.nb/\∃e:MapEntry,ms.toList[i]? =some e/\e.key=Value.pointer (some ⟨g.bk k,0,none⟩)/\Rel g w v e.val
theorem Qq (s:Sim g st loc w) {t kt et pe:TypeId} (ht:P.underlying t=some (.map kt et)) (hkt:P.underlying kt=some (.pointer pe)) (hp:P.cellsOf pe≠0) {b:Nat} {ms:Array MapEntry} {c:Nat} (hb:w.heap[b]? =some (.map ms c)) {es:List (Nat×TV)} (hm:PmOk g w es ms)
  {k:Nat} (hkb:k<st.nb) (hkc:Au st k=true) (hc:(es.all λp=>Au st p.1)=true) {v:TV} {vv:Value} (hv:Rel g w v vv):
  ∃(ms':Array MapEntry) (c':Nat),(Instr.mapUpdate t (.map (some b)) (.pointer (some ⟨g.bk k,0,none⟩)) vv).run P w= .ok () (Fu w b (.map ms' c'))/\PmOk g w (GS k v es) ms':=by
 have hg:(getObj b).run P w= .ok (.map ms c) w:=by simp[getObj,Sem.run,hb]
 obtain⟨hl,hm⟩:=hm;rcases IA (P:=P) s hkt hp hkb hkc hl hm hc with⟨h1,h2⟩ | ⟨u,i,e,h1,h2,h3,h4,h5,h6,h7⟩
 ·refine⟨ms.push {key:= .pointer (some ⟨g.bk k,0,none⟩),val:=vv,born:=c},c+1,?_,?_,?_⟩
  ·simp_all[Fu,Ax,EB,Go.Instr.mapUpdate,Go.setObj,Go.Sem.run]
  ·grind [Sn]
  ·intro i kk u hi
   rw[Sn h1]at hi;by_cases hlt:i<es.length
   ·grind
   ·rw[List.getElem?_append_right (by omega)]at hi
    have hi0:i-es.length=0:=by
     grind
    rw[hi0]at hi;obtain⟨rfl,rfl⟩:=hi;refine⟨by grind [Sim.nb],{key:= .pointer (some ⟨g.bk k,0,none⟩),val:=vv,born:=c},?_,rfl,hv⟩;grind
 ·have hset:GS k v es=es.set i (k,v):=Vb h6 h7
  have hme:ms[i]? =some e:=by grind
  refine⟨ms.modify i λe=>{e with key:= .pointer (some ⟨g.bk k,0,none⟩),val:=vv},c,?_,?_,?_⟩
  ·have hstay:(Instr.keyThatStays (((ms[i]?).map (·.key)).getD (.pointer (some ⟨g.bk k,0,none⟩))) (.pointer (some ⟨g.bk k,0,none⟩))).run P w= .ok (.pointer (some ⟨g.bk k,0,none⟩)) w:=by
    rw[hme];simp[Instr.keyThatStays,h4,Instr.sameBits]
   simp_all[Fu,Ax,EB,Go.Instr.mapUpdate,Go.setObj,Go.Sem.run]
  ·simp_all
  grind
theorem Qs (s:Sim g st loc w) {t kt et pe t2 ty:TypeId} (ht:P.underlying t=some (.map kt et)) (hkt:P.underlying kt=some (.pointer pe)) (hp:P.cellsOf pe≠0) {b:Nat} {ms:Array MapEntry} {c:Nat} (hb:w.heap[b]? =some (.map ms c)) {es:List (Nat×TV)} (hm:PmOk g w es ms)
  {k:Nat} (hkb:k<st.nb) (hkc:Au st k=true) (hc:(es.all λp=>Au st p.1)=true):
  ∃ms':Array MapEntry,(Builtin.delete_ #[t,t2] ty #[.map (some b),.pointer (some ⟨g.bk k,0,none⟩)]).run P w= .ok (.tuple #[]) (Fu w b (.map ms' c))/\PmOk g w (JG k es) ms':=by
 have hg:(getObj b).run P w= .ok (.map ms c) w:=by simp[getObj,Sem.run,hb]
 obtain⟨hl,hm⟩:=hm;rcases IA (P:=P) s hkt hp hkb hkc hl hm hc with⟨h1,h2⟩ | ⟨u,i,e,h1,h2,h3,h4,h5,h6,h7⟩
 ·refine⟨ms,?_,by rw[AaE h1];exact⟨hl,hm⟩⟩
  simp_all[Fu,Ax,EB,Go.Builtin.delete_,Go.setObj,Go.Sem.run]
 ·refine⟨ms.eraseIdxIfInBounds i,?_,?_,?_⟩
  ·simp_all[Fu,Ax,EB,Go.Builtin.delete_,Go.setObj,Go.Sem.run]
  ·rw[Q5 h6 h7]
   grind
  ·intro j kk u' hj
   rw[Q5 h6 h7,List.getElem?_eraseIdx]at hj;grind
set_option maxHeartbeats 2000000 in
theorem SL (s:Sim g st loc w) {cfg:Cfg} {ρ:Operand->SV} {ρc:Operand->Value} (o:Oper) (hρ:∀x,x∈o.op.operands->Cd g w loc (ρ x) (ρc x)) {K:SV->List (Option (List TV))->St->Prop}
  (h:eop cfg P o.dst o.type o.op ρ loc st K):Cs (Du g w cfg.exc) P (execOp ρc o) w (GL g w loc K):=by
 obtain⟨dst,op,type,pos,after,guard⟩:=o;simp only at hρ h;unfold eop at h;split at h
 ·--alloc
  rename_i t;split at h
  ·rename_i cells hz
   obtain⟨z,hrun,rfl⟩:=Lc hz w;refine HB (u:= .pointer (some ⟨w.heap.size,0,none⟩)) (w':=w.alloc (.cells z.cells t)) ?_ (Ih s t (Ld g w z.cells.toList) h);simp[Instr.alloc,hrun,newVar,newRow]
  ·exact h.elim
 ·--box
  rename_i t x;have hx:=(hρ x (by simp[Op.operands])).tv;have hgo:∀cells,HE (ρ x).tv=some cells->Es t (EG cfg.loc dst) cells loc st K->Cs (Du g w cfg.exc) P (execOp ρc ⟨dst,.box t x,type,pos,after,guard⟩) w (GL g w loc K):=by
   intro cells hc h;refine HB (u:= .pointer (some ⟨w.heap.size,0,none⟩)) (w':=w.alloc (.cells (ρc x).cells t)) ?_ (Ih s t (JJ hx hc) h);simp[Instr.box,newVar,newRow]
  split at h
  ·split at h
   ·rename_i cells hc
    exact hgo cells (by rw[hc];rfl) h
   ·exact h.elim
  ·rw[Al]at h
   exact hgo _ (MG h.1) h.2
  ·exact h.elim
 ·--buildSlice
  rename_i t len parts;split at h
  ·rename_i e he
   split at h
   ·rename_i sz z hsz hz
    rw[Al]at h;obtain⟨hchk,h⟩:=h;simp only[Bool.and_eq_true]at hchk;obtain⟨h1,h2,h3⟩:=hchk;have h1':=Nat.le_of_ble_eq_true h1;have h2':=Nat.eq_of_beq_eq_true h2;have h3':=Nat.le_of_ble_eq_true h3;split at h
    ·rename_i cells hfillS
     rw[Al]at h;obtain⟨hones,h⟩:=h;have hfill:=Ou _ _ _ _ _ hones hfillS;obtain⟨zv,hzrun,rfl⟩:=Lc hz w;have hzs:zv.cells.size=sz:=by simpa using h2'
     have hp:=Py (g:=g) (w:=w) (loc:=loc) (ρ:=ρ) (ρc:=ρc) parts.toList (λp hp=>hρ p.2 (by
      simp only[Op.operands,List.mem_toArray,List.mem_map];exact⟨p,hp,rfl⟩))
     have hzr:=UB (g:=g) (w:=w) zv (len*sz) (.inl (by omega));obtain⟨us,hus,hru⟩:=JE _ _ _ _ _ _ hp hzr hfill;have hlen:cells.length=len*sz:=by rw[TO _ _ _ _ hfill];simp[ML]
     refine HB (u:= .slice (some ⟨w.heap.size,0,none⟩) len len) (w':=w.alloc (.cells us e)) ?_ (XP s e hru hlen h);have hne:¬(len*sz>2^24):=by simp only[Nat.reducePow];omega
     simp only[Instr.buildSlice,Sem.run_bind,Ax (HA he),Result.andThen_ok,FR hsz,hne,if_false];rw[show(parts.map λ(x:Nat×Operand)=>match x with | (i,x)=>(i,ρc x))=parts.map λx=>(x.1,ρc x.2)from rfl]
     by_cases h0:len*sz=0
     ·have hfc:Instr.fill (λi=>some (i*sz,sz)) ((Array.range (len*sz)).map ((#[]:Array Value)[·%(#[]:Array Value).size]!)) (parts.map λx=>(x.1,ρc x.2)).toList=some us:=by
       have e0:∀f:Nat->Value,(Array.range 0).map f= #[]:=λf=>by simp
       rw[<-hus,Array.toList_map,h0,e0,e0]
      rw[if_pos h0];simp only[Sem.run_bind,Sem.run_pure,Result.andThen_ok,hfc];simp[newRow]
     ·have hfc:Instr.fill (λi=>some (i*sz,sz)) ((Array.range (len*sz)).map (zv.cells[·%zv.cells.size]!)) (parts.map λx=>(x.1,ρc x.2)).toList=some us:=by
       rw[<-hus,Array.toList_map]
      rw[if_neg h0];simp only[Sem.run_bind,Sem.run_pure,hzrun,Result.andThen_ok,hfc];simp[newRow]
    ·exact h.elim
   ·exact h.elim
  ·exact h.elim
 ·--build
  rename_i t parts;split at h
  ·rename_i z fs hz hu
   split at h
   ·rename_i cells hfillS
    rw[Al,Al]at h;obtain⟨hall,hones,h⟩:=h;have hfill:=Ou _ _ _ _ _ hones hfillS;obtain⟨zv,hzrun,rfl⟩:=Lc hz w;have hp:=Py (g:=g) (w:=w) (loc:=loc) (ρ:=ρ) (ρc:=ρc) parts.toList (λp hp=>hρ p.2 (by
     simp only[Op.operands,List.mem_toArray,List.mem_map];exact⟨p,hp,rfl⟩))
    obtain⟨us,hus,hru⟩:=JE _ _ _ _ _ _ hp (Ld g w zv.cells.toList) hfill;have hplaces:(fs.mapM (λ(f:Field)=>(do pure (f.offset,<-sizeOf f.type):Sem (Nat×Nat))):Sem (Array (Nat×Nat))).run P w= .ok (fs.map λ(f:Field)=>(f.offset,(Fs P f.type).getD 0)) w:=by
     have hl:∀l:List Field,(l.all λ(f:Field)=>(Fs P f.type).isSome)=true->(l.mapM (λ(f:Field)=>(do pure (f.offset,<-sizeOf f.type):Sem (Nat×Nat))):Sem (List (Nat×Nat))).run P w= .ok (l.map λ(f:Field)=>(f.offset,(Fs P f.type).getD 0)) w:=by
      intro l;induction l with
      | nil=>intro _;rfl
      | cons f l ih=>
       intro ha;simp only[List.all_cons,Bool.and_eq_true]at ha;obtain⟨n,hn⟩:=Option.isSome_iff_exists.1 ha.1;simp only[List.mapM_cons,Sem.run_bind,FR hn,Result.andThen_ok,Sem.run_pure,ih ha.2,List.map_cons,hn,Option.getD_some]
     rw[<-Array.toArray_toList (xs:=fs)];rw[List.mapM_toArray];simp only[Sem.run_map,hl fs.toList hall,Result.andThen_ok,List.map_toArray]
    have hf:TD P fs=((fs.map λ(f:Field)=>(f.offset,(Fs P f.type).getD 0))[·]?):=by
     funext i;simp only[Array.getElem?_map,TD];cases hfi:fs[i]? with
     | none=>rfl
     | some f=>
      have:=List.all_eq_true.1 hall f (by rw[Array.mem_toList_iff];exact Array.mem_of_getElem? hfi);obtain⟨n,hn⟩:=Option.isSome_iff_exists.1 this;simp[hn]
    rw[hf]at hus;refine HB (u:= .agg us) (w':=w) ?_ ⟨_,_,_,g,h,s,?_,Ext.refl _ _,Ce.refl _ _⟩
    ·simp only[Instr.build,Sem.run_bind,hzrun,Result.andThen_ok,Ax hu,hplaces]
     rw[show(parts.map λ(x:Nat×Operand)=>match x with | (i,x)=>(i,ρc x)).toList=parts.toList.map λx=>(x.1,ρc x.2)from by simp]
     rw[hus];rfl
    ·have:=Rel.agg (g:=g) (w:=w) cells us.toList hru.1 hru.2
     simp only[Array.toArray_toList]at this;exact this
   ·exact h.elim
  ·rename_i z m e hz hu
   split at h
   ·rename_i sz hsz
    split at h
    ·rename_i cells hfillS
     rw[Al]at h;obtain⟨hones,h⟩:=h;have hfill:=Ou _ _ _ _ _ hones hfillS;obtain⟨zv,hzrun,rfl⟩:=Lc hz w;have hp:=Py (g:=g) (w:=w) (loc:=loc) (ρ:=ρ) (ρc:=ρc) parts.toList (λp hp=>hρ p.2 (by
      simp only[Op.operands,List.mem_toArray,List.mem_map];exact⟨p,hp,rfl⟩))
     obtain⟨us,hus,hru⟩:=JE _ _ _ _ _ _ hp (Ld g w zv.cells.toList) hfill;refine HB (u:= .agg us) (w':=w) ?_ ⟨_,_,_,g,h,s,?_,Ext.refl _ _,Ce.refl _ _⟩
     ·simp only[Instr.build,Sem.run_bind,hzrun,Result.andThen_ok,Ax hu,FR hsz]
      rw[show(parts.map λ(x:Nat×Operand)=>match x with | (i,x)=>(i,ρc x)).toList=parts.toList.map λx=>(x.1,ρc x.2)from by simp]
      rw[hus];rfl
     ·have:=Rel.agg (g:=g) (w:=w) cells us.toList hru.1 hru.2
      simp only[Array.toArray_toList]at this;exact this
    ·exact h.elim
   ·exact h.elim
  ·exact h.elim
 ·--store
  rename_i t a x;have hgo:∀xs d,HE (ρ x).tv=some xs->P.underlying t=some d->xs.length=P.cellsOf t->xs.all Av=true->(stK st loc (ρ a) xs λloc' st'=>K (.t .undef) loc' st')->Cs (Du g w cfg.exc) P (execOp ρc ⟨dst,.store t a x,type,pos,after,guard⟩) w (GL g w loc K):=by
   intro xs d hxs hd h1 h2 h;obtain⟨w',loc',st',hrun,hk,s',e',hkeep⟩:=UX (P:=P) hd s (hρ a (by simp[Op.operands])) (hρ x (by simp[Op.operands])).tv hxs h1 h2 h;have:GL g w loc K Go.undef w':=⟨_,loc',st',g,hk,s',Rel.undef,e',λi y hi=>⟨rfl,hkeep i y hi⟩⟩;simpa [Cs,execOp,hrun]using this
  have hund:∀b,MJ P t=some b->∃d,P.underlying t=some d:=λb hb=>(IW hb w).2;split at h
  ·rename_i hag
   obtain⟨d,hd⟩:=hund _ hag;split at h
   ·rename_i xs hxs
    rw[Al,Al]at h;exact hgo xs d (by rw[hxs];rfl) hd (Nat.eq_of_beq_eq_true h.1) h.2.1 h.2.2
   ·exact h.elim
  ·rename_i hag
   obtain⟨d,hd⟩:=hund _ hag;rw[Al,Al]at h;exact hgo _ d (MG (by simpa using h.2.1)) hd (Nat.eq_of_beq_eq_true h.1) h.2.1 h.2.2
  ·exact h.elim
 ·--call
  rename_i f args ts;unfold Ja at h;split at h
  ·rename_i fid caps hf
   have hfv:=(hρ f (by simp[Op.operands,Call.operands])).tv;rw[hf]at hfv;generalize hq:ρc f=q at hfv;cases hfv with
   | func _ _ vs hl hr=>
    have hargs:AP g w (args.toList.map (λx=>(ρ x).tv)++caps) (args.toList.map ρc++vs):=by
     refine AP.append ⟨by simp,λi hi=>?_⟩ ⟨hl,hr⟩;have hi':i<args.toList.length:=by simpa using hi
     simp only[List.getElem_map,List.getD_eq_getElem?_getD,List.getElem?_map,List.getElem?_eq_getElem hi',Option.map_some,Option.getD_some];exact(hρ _ (by simp only[Op.operands,Call.operands,Array.mem_append];right;exact Array.mem_toList_iff.1 (List.getElem_mem hi'))).tv
    have hc:=Yj s hargs h;have hrun:(execOp ρc ⟨dst,.call {callee:= .value f,args:=args,argTypes:=ts},type,pos,after,guard⟩).run P w=(callFunc fid (args.toList.map ρc++vs).toArray).run P w:=by
     simp only[execOp,resolve,Sem.run_bind,hq,Deferred.ofValue,Sem.run_pure,Result.andThen_ok,invoke];rw[show(#[]++args.map ρc++vs.toArray)=(args.toList.map ρc++vs).toArray from Array.ext' (by simp)]
    refine Cs.congr hrun (hc.mono ?_ λ_ _ h=>h);rintro v w' ⟨sv,loc',st',g',⟨r,rfl,rfl,hR⟩,h2,h3,h4,h5⟩;exact⟨_,_,st',g',NG (F:=λv st'=>K (.t v) loc' st') (k:=λp=>p st') hR,h2,h3,h4,h5⟩
  ·exact h.elim
 ·--makeMap
  rename_i t r;have hnewO:∀o:JQ,G4 g (w.alloc (.map #[] 0)) w.heap.size o->K (.t (.map st.nb)) loc (st.push o none)->GL g w loc K (.map (some w.heap.size)) (w.alloc (.map #[] 0)):=by
   intro o ho hK;obtain⟨s1,e1,fr⟩:=s.alloc (.map #[] 0);obtain⟨s2,e2,hbk⟩:=s1.push fr (by simp) ho (T:=none) (λt ht=>by cases ht);refine⟨_,_,_,_,hK,s2,?_,e1.trans e2,λi x hi=>⟨rfl,x,hi⟩⟩;have:=Rel.map (g:=g.push w.heap.size) (w:=w.alloc (.map #[] 0)) st.nb (by simp only[Ak.push,s.nb];omega);rw[hbk]at this;exact this
  have hnew:K (.t (.map st.nb)) loc (st.push (.map []) none)->GL g w loc K (.map (some w.heap.size)) (w.alloc (.map #[] 0)):=hnewO _ ⟨#[],0,CL _ _,rfl,λi k v hi=>by simp at hi⟩;have hnewP:K (.t (.map st.nb)) loc (st.push (.pmap []) none)->GL g w loc K (.map (some w.heap.size)) (w.alloc (.map #[] 0)):=hnewO _ ⟨#[],0,CL _ _,rfl,λi k v hi=>by simp at hi⟩;split at h
  ·rename_i kt e ht hr
   have hrn:r=none:=by cases r<;>simp at hr⊢
   subst hrn;refine HB (u:= .map (some w.heap.size)) (w':=w.alloc (.map #[] 0)) ?_ (by split at h;exact hnewP h;exact hnew h);simp[Instr.makeMap]
  ·rename_i kt e k n ht hr
   obtain⟨x,hx,hxe⟩:=Option.map_eq_some_iff.1 hr;subst hx;have hxr:=(hρ x (by simp[Op.operands])).tv;rw[hxe]at hxr;have hxc:ρc x= .int k n:=by generalize ρc x=q at hxr;cases hxr;rfl
   refine HB (u:= .map (some w.heap.size)) (w':=w.alloc (.map #[] 0)) ?_ (hnew h);simp[Instr.makeMap,hxc,Ax ht,asInt,asIntOf]
  ·exact h.elim
 ·--mapUpdate
  rename_i t m k v;have hput:∀{b:Nat} {es:List (Nat×TV)} {ms':Array MapEntry} {c c':Nat} {ms:Array MapEntry} {es':List (Nat×TV)},b<st.nb->st.box b= .pmap es->w.heap[g.bk b]? =some (.map ms c)->PmOk g w es' ms'->Sim g (st.put b (.pmap es')) loc (Fu w (g.bk b) (.map ms' c'))/\Ext g w g (Fu w (g.bk b) (.map ms' c')):=by
   intro b es ms' c c' ms es' hlt' hes hb hm;exact s.putKey (st':=st.put b (.pmap es')) (loc':=loc) (w':=Fu w (g.bk b) (.map ms' c')) (.box b) hlt' rfl rfl rfl rfl rfl (λk d=>by cases k<;>exact d)
    (λk _ hne=>by
     cases k with
     | box i=>have:i≠b:=λh=>hne (by rw[h]);simp[BO,St.put,this]
     | loc i=>rfl) (by simp[Fu]) (λk hk=>Ib _ _ _ _ hk) (JL s.below (s.lo (.box b) hlt').1 _)
    (λe=>by
     simp only[BO,St.put,if_true,Ak.at];refine⟨ms',c',?_,hm.1,λi k v hi=>?_⟩
     ·simp only[Fu]
      have:=(Array.getElem?_eq_some_iff.1 hb).1;simp[this]
     ·obtain⟨h0,e',h1,h2,h3⟩:=hm.2 i k v hi
      exact⟨h0,e',h1,h2,h3.ext e⟩)
    (λT hT=>by obtain⟨c2,fz,h2⟩:=hT;simp only[Ak.at]at h2;rw[hb]at h2;cases h2)
  split at h
  ·rename_i kt e ht
   split at h
   ·rename_i hkt
    split at h
    ·rename_i key hk
     rw[Al]at h;obtain⟨hone,h⟩:=h;unfold muK at h;split at h<;>first | exact h.elim | skip
     rename_i b hm;obtain⟨es,hes,hK⟩:=h;have hmr:=(hρ m (by simp[Op.operands])).tv;have hkr:=(hρ k (by simp[Op.operands])).tv;have hvr:=(hρ v (by simp[Op.operands])).tv;rw[hm]at hmr;rw[hk]at hkr;have hkc:ρc k= .string ⟨key.toArray⟩:=by generalize ρc k=q at hkr;cases hkr;rfl
     generalize hq:ρc m=q at hmr;cases hmr with
     | map _ hlt=>
      have hlt':b<st.nb:=by rw[<-s.nb];exact hlt
      have ob:=s.obj (.box b) hlt';simp only[BO,hes,Ak.at]at ob;obtain⟨ms,c,hb,hl,hmm⟩:=ob;obtain⟨ms',c',hrun,hl',hmm'⟩:=RU (P:=P) ht hkt hb hl hmm hvr;have hput:=s.putKey (st':=st.put b (.map (Gk key (ρ v).tv es))) (loc':=loc) (w':=Fu w (g.bk b) (.map ms' c')) (.box b) hlt' rfl rfl rfl rfl rfl (λk d=>by cases k<;>exact d)
       (λk _ hne=>by
        cases k with
        | box i=>have:i≠b:=λh=>hne (by rw[h]);simp[BO,St.put,this]
        | loc i=>rfl) (by simp[Fu]) (λk hk=>Ib _ _ _ _ hk) (JL s.below (s.lo (.box b) hlt').1 _)
       (λe=>by
        simp only[BO,St.put,if_true,Ak.at];refine⟨ms',c',?_,hl',λi k v hi=>?_⟩
        ·simp only[Fu]
         have:=(Array.getElem?_eq_some_iff.1 hb).1;simp[this]
        ·obtain⟨e',h1,h2,h3⟩:=hmm' i k v hi
         exact⟨e',h1,h2,h3.ext e⟩)
       (λT hT=>by obtain⟨c2,fz,h2⟩:=hT;simp only[Ak.at]at h2;rw[hb]at h2;cases h2)
      have:GL g w loc K Go.undef (Fu w (g.bk b) (.map ms' c')):=⟨_,loc,_,g,hK,hput.1,Rel.undef,hput.2,λi y hi=>⟨rfl,y,hi⟩⟩;simpa [Cs,execOp,hq,hkc,hrun]using this
    ·exact h.elim
   ·rename_i pe hkt
    split at h
    ·rename_i n hn
     rw[Al]at h;obtain⟨hone,h⟩:=h;unfold puK at h;obtain⟨⟨es,kk⟩,hp,hK⟩:=DF.1 h;have hmr:=(hρ m (by simp[Op.operands])).tv;have hkr:=(hρ k (by simp[Op.operands])).tv;have hvr:=(hρ v (by simp[Op.operands])).tv;obtain⟨hkc,hk1,hk2,hc,mb,b,ms,c,hmb,hlt',hes,rfl,hq,hb,hl,hmm⟩:=Mt s hmr hkr hp;obtain⟨ms',c',hrun,hm'⟩:=Qq (P:=P) s ht hkt (by omega) hb ⟨hl,hmm⟩ hk1 hk2 hc hvr;obtain⟨s2,e2⟩:=hput (c':=c') hlt' hes hb hm';rw[hmb]at hK;have:GL g w loc K Go.undef (Fu w (g.bk mb) (.map ms' c')):=⟨_,loc,_,g,hK,s2,Rel.undef,e2,λi y hi=>⟨rfl,y,hi⟩⟩;simpa [Cs,execOp,hq,hkc,hrun]using this
    ·exact h.elim
   ·exact h.elim
  ·exact h.elim
 ·--delete
  rename_i args ts;have hput:∀{b:Nat} {es:List (Nat×TV)} {ms':Array MapEntry} {c c':Nat} {ms:Array MapEntry} {es':List (Nat×TV)},b<st.nb->st.box b= .pmap es->w.heap[g.bk b]? =some (.map ms c)->PmOk g w es' ms'->Sim g (st.put b (.pmap es')) loc (Fu w (g.bk b) (.map ms' c'))/\Ext g w g (Fu w (g.bk b) (.map ms' c')):=by
   intro b es ms' c c' ms es' hlt' hes hb hm;exact s.putKey (st':=st.put b (.pmap es')) (loc':=loc) (w':=Fu w (g.bk b) (.map ms' c')) (.box b) hlt' rfl rfl rfl rfl rfl (λk d=>by cases k<;>exact d)
    (λk _ hne=>by
     cases k with
     | box i=>have:i≠b:=λh=>hne (by rw[h]);simp[BO,St.put,this]
     | loc i=>rfl) (by simp[Fu]) (λk hk=>Ib _ _ _ _ hk) (JL s.below (s.lo (.box b) hlt').1 _)
    (λe=>by
     simp only[BO,St.put,if_true,Ak.at];refine⟨ms',c',?_,hm.1,λi k v hi=>?_⟩
     ·simp only[Fu]
      have:=(Array.getElem?_eq_some_iff.1 hb).1;simp[this]
     ·obtain⟨h0,e',h1,h2,h3⟩:=hm.2 i k v hi
      exact⟨h0,e',h1,h2,h3.ext e⟩)
    (λT hT=>by obtain⟨c2,fz,h2⟩:=hT;simp only[Ak.at]at h2;rw[hb]at h2;cases h2)
  split at h
  ·rename_i m k t t2 hargs hts
   have ha:args= #[m,k]:=by rw[<-Array.toArray_toList (xs:=args),hargs]
   have hta:ts= #[t,t2]:=by rw[<-Array.toArray_toList (xs:=ts),hts]
   subst ha hta;have hmr:=(hρ m (by simp[Op.operands,Call.operands])).tv;have hkr:=(hρ k (by simp[Op.operands,Call.operands])).tv;split at h
   ·rename_i kt e ht
    split at h
    ·rename_i pe hkt
     split at h
     ·rename_i n hn
      unfold pdK at h;obtain⟨⟨es,kk⟩,hp,hK⟩:=DF.1 h;obtain⟨hkc,hk1,hk2,hc,mb,b,ms,c,hmb,hlt',hes,rfl,hq,hb,hl,hmm⟩:=Mt s hmr hkr hp;obtain⟨ms',hrun,hm'⟩:=Qs (P:=P) s (t2:=t2) (ty:=type) ht hkt (by omega) hb ⟨hl,hmm⟩ hk1 hk2 hc;obtain⟨s2,e2⟩:=hput (c':=c) hlt' hes hb hm';rw[hmb]at hK;have:GL g w loc K (.tuple #[]) (Fu w (g.bk mb) (.map ms' c)):=⟨_,loc,_,g,hK,s2,Rel.tuple [] [] rfl λi h=>absurd h (Nat.not_lt_zero _),e2,λi y hi=>⟨rfl,y,hi⟩⟩;simpa [Cs,execOp,resolve,invoke,Go.builtin,hq,hkc,hrun]using this
     ·exact h.elim
    ·exact h.elim
   ·exact h.elim
  ·exact h.elim
 ·--unsafeString
  rename_i args ts;split at h
  ·rename_i p n pt it hargs hts
   have ha:args= #[p,n]:=by rw[<-Array.toArray_toList (xs:=args),hargs]
   have hta:ts= #[pt,it]:=by rw[<-Array.toArray_toList (xs:=ts),hts]
   subst ha hta;have hp:=(hρ p (by simp[Op.operands,Call.operands])).tv;have hn:=(hρ n (by simp[Op.operands,Call.operands])).tv;split at h
   ·rename_i u hu
    split at h<;>first | exact h.elim | skip
    rename_i m hc hne;unfold usK at h;split at h
    ·rename_i hpe
     obtain⟨rfl,hK⟩:=h;rw[hpe]at hp;rw[hne]at hn;have hpc:ρc p= .pointer none:=by generalize ρc p=q at hp;cases hp;rfl
     have hnc:ρc n= .int .i64 0:=by generalize ρc n=q at hn;cases hn;rfl
     have hr:=Lib.run_unsafeString_none (P:=P) w pt it type none;have:GL g w loc K (.string .empty) w:=⟨_,loc,st,g,hK,s,Rel.str [],Ext.refl _ _,Ce.refl _ _⟩;simpa [Cs,execOp,resolve,invoke,Go.builtin,hpc,hnc,hr]using this
    ·rename_i id k xs hpe
     obtain⟨⟨hmk,hk63,hlive,hty⟩,h⟩:=h;obtain⟨l,hl,hK⟩:=DF.1 h;rw[hpe]at hp;rw[hne]at hn;have hnc:ρc n= .int .i64 m:=by generalize ρc n=q at hn;cases hn;rfl
     generalize hq:ρc p=q at hp;cases hp with
     | sptr _ a n' cap hcap hrel=>
      cases hrel with
      | listE=>exact absurd rfl hcap
      | list _ _ _ _ b o _ us hxl hnc' hcell hr htip=>
       have hid:id<st.nt:=s.nt▸htip.1;obtain⟨r0,hr0⟩:=Option.ne_none_iff_exists'.1 (s.own id hid hlive);have hreq:=htip.2 r0 hr0;subst hreq;obtain⟨cc,fz,hrow⟩:=s.spTy id _ _ _ u hr0 hty;obtain⟨s2,e2⟩:=s.freezeTip hr0 o k;simp only at hrow;obtain⟨ns,rfl,rfl⟩:=G0 hl;have hxl':ns.length=k:=by simpa using hxl
       have hcells:∀j x,ns[j]? =some x->w.cell? ((⟨b,o,none⟩:Addr).add j)=some (.int .u8 x):=λj x hj=>by
        have hjl:j<ns.length:=(List.getElem?_eq_some_iff.1 hj).1;rw[Cf,(hcell j (by simpa using hjl)).2];have:=hr j (by simpa using hjl);simp only[List.getElem_map]at this;rw[(List.getElem?_eq_some_iff.1 hj).2]at this;rw[this.int_inv]
       have:GL g w loc K (.string ⟨(ns.map λn=>UInt8.ofNat n.toNat).toArray⟩) (w.freeze ⟨b,o,none⟩ k):=⟨_,loc,_,_,hK,s2,Rel.str _,e2,λi x hi=>⟨rfl,x,hi⟩⟩;by_cases h0:ns=[]
       ·subst h0
        simp only[List.length_nil]at hxl';subst hxl';have hm0:m=0:=by simpa using hmk
        subst hm0;have hrun:=Lib.run_unsafeString_none (P:=P) w pt it type (some ⟨b,o,none⟩);have hf:w.freeze ⟨b,o,none⟩ 0=w:=by simp[World.freeze]
        rw[hf]at this;have this':GL g w loc K (.string .empty) w:=this;simpa [Cs,execOp,resolve,invoke,Go.builtin,hq,hnc,hrun]using this'
       ·have hrun:=KC (P:=P) (w:=w) pt it type u hu (of_decide_eq_true hc) b o cc fz hrow ns h0 (by omega) hcells
        rw[hxl']at hrun;subst hmk;simpa [Cs,execOp,resolve,invoke,Go.builtin,hq,hnc,hrun]using this
    ·exact h.elim
   ·exact h.elim
  ·exact h.elim
 ·--append
  rename_i args ts;split at h
  ·rename_i a x t u hargs hts
   have ha:args= #[a,x]:=by rw[<-Array.toArray_toList (xs:=args),hargs]
   have hta:ts= #[t,u]:=by rw[<-Array.toArray_toList (xs:=ts),hts]
   subst ha hta;split at h
   ·rename_i e he
    split at h
    ·rename_i i z hi hz
     rw[Al]at h;obtain⟨hchk,h⟩:=h;simp only[Bool.and_eq_true]at hchk;obtain⟨h1,h2,h3,h4⟩:=hchk;obtain⟨du,hdu,hcase⟩:=OS h1;obtain⟨zv,hzv,rfl⟩:=L9 hz hi;rw[DF]at h;obtain⟨⟨k,ys⟩,hsrc,h⟩:=h;rw[Al]at h;have hzs:zv.cells.size=i.size:=by have:=Nat.eq_of_beq_eq_true h2;simpa using this
     obtain⟨hone,h⟩:=h;split at h
     ·obtain⟨r,w',hrun,hL⟩:=Yr (P:=P) (ty:=type) s (HA he) hdu hcase hi hzv hzs (Nat.le_of_ble_eq_true h3) (Nat.le_of_ble_eq_true h4) (hρ a (by simp[Op.operands,Call.operands])).tv (hρ x (by simp[Op.operands,Call.operands])).tv hsrc hone h
      simpa [Cs,execOp,resolve,invoke,Go.builtin,hrun]using hL
     ·obtain⟨r,w',hrun,hL⟩:=Uu (P:=P) (ty:=type) s (HA he) hdu hcase hi hzv hzs (Nat.le_of_ble_eq_true h3) (Nat.le_of_ble_eq_true h4) (hρ a (by simp[Op.operands,Call.operands])).tv (hρ x (by simp[Op.operands,Call.operands])).tv hsrc hone h
      simpa [Cs,execOp,resolve,invoke,Go.builtin,hrun]using hL
    ·exact h.elim
   ·exact h.elim
  ·exact h.elim
 ·--convert
  rename_i sT d x;split at h
  ·rename_i e l hs he hl
   split at h
   ·rename_i hu8
    have hx:=(hρ x (by simp[Op.operands])).tv;rw[hl]at hx;have hxc:ρc x= .string ⟨l.toArray⟩:=by generalize ρc x=q at hx;cases hx;rfl
    obtain⟨sd,ed⟩:=s.drew;have hge:=grownCap_ge w l.length 0 e;have hsz:((l.map λb=>Value.int .u8 (b.toNat:Int)).toArray++Array.replicate (grownCap w l.length 0 e-l.length) (Value.int .u8 0)).size=grownCap w l.length 0 e*1:=by simp;omega
    have hrl:AP g w.drew (AV l) (l.map λb=>Value.int .u8 (b.toNat:Int)):=by
     refine⟨by simp[AV],λi hi=>?_⟩;have hi':i<l.length:=by simpa [AV]using hi
     simp only[AV,List.getElem_map,List.getD_eq_getElem?_getD,List.getElem?_map,List.getElem?_eq_getElem hi',Option.map_some,Option.getD_some];exact Rel.int _ _
    have hfr:=Fm (sz:=1) (n:=l.length) (cap:=grownCap w l.length 0 e) (cells:=AV l) (vs:=(l.map λb=>Value.int .u8 (b.toNat:Int)).toArray++Array.replicate (grownCap w l.length 0 e-l.length) (Value.int .u8 0)) sd e
     (grownCap w l.length 0 e,grownCap w l.length 0 e+1) (by
      have:((l.map λb=>Value.int .u8 (b.toNat:Int)).toArray++Array.replicate (grownCap w l.length 0 e-l.length) (Value.int .u8 0)).toList.take (AV l).length=l.map λb=>Value.int .u8 (b.toNat:Int):=by
       simp only[Array.toList_append,List.toList_toArray];rw[hrl.1];exact List.take_left
      rw[this];exact hrl) (by simp[AV]) hge hsz (λo ho=>by simp only;omega) (λt ht=>by cases ht;rfl) (K:=K) h
    obtain⟨sv,l',st',g',k1,k2,k3,k4,k5⟩:=hfr;refine HB (u:= .slice (some ⟨w.heap.size,0,none⟩) l.length (grownCap w l.length 0 e)) ?_ ⟨sv,l',st',g',k1,k2,k3,ed.trans k4,k5⟩;rw[hxc];simp only[Go.convert,Sem.run_bind,Ax hs,Ax (HA he),Ax hu8,Result.andThen_ok];have hch:(choose (.appendCap l.length 0 e)).run P w= .ok (grownCap w l.length 0 e) w.drew:=rfl;have hel:((ByteArray.mk l.toArray).data.map λb=>Value.int .u8 (b.toNat:Int))=(l.map λb=>Value.int .u8 (b.toNat:Int)).toArray:=by simp
    simp only[Conv.stringToBytes,Sem.run_bind,hch,Result.andThen_ok,hel,FP,newRow,run_newObj,Sem.run_pure,markStringish,run_shape,World.alloc_eq];have hshape:(w.drew.alloc (.cells ((l.map λb=>Value.int .u8 (b.toNat:Int)).toArray++Array.replicate (grownCap w l.length 0 e-l.length) (Value.int .u8 0)) e)).shape? w.heap.size=some (e,grownCap w l.length 0 e):=by
     unfold World.shape?;rw[show w.heap.size=w.drew.heap.size from rfl,CL];simp;omega
    have hshape':=hshape;rw[show w.heap.size=w.drew.heap.size from rfl]at hshape';rw[hshape'];simp only[run_freeze,Result.andThen_ok];have hfreeze:(w.drew.alloc (.cells ((l.map λb=>Value.int .u8 (b.toNat:Int)).toArray++Array.replicate (grownCap w l.length 0 e-l.length) (Value.int .u8 0)) e)).freeze ⟨w.drew.heap.size,grownCap w l.length 0 e,none⟩ 1=
      w.drew.alloc (.cells ((l.map λb=>Value.int .u8 (b.toNat:Int)).toArray++Array.replicate (grownCap w l.length 0 e-l.length) (Value.int .u8 0)) e (grownCap w l.length 0 e,grownCap w l.length 0 e+1)):=by
     exact TZ w.drew _ e _
    rw[hfreeze];rfl
   ·exact h.elim
  ·rename_i hs he
   split at h
   ·rename_i u hd
    split at h
    ·exact h.elim
    ·rename_i n hn
     unfold unsK at h;split at h<;>first | exact h.elim | skip
     rename_i b off hl;obtain⟨⟨rfl,hbt,l,hl',hll⟩,hK⟩:=h;have hx:=(hρ x (by simp[Op.operands])).tv;rw[hl]at hx;obtain⟨hb,hxc⟩:=hx.box_inv';have hb':b<st.nb:=by rw[<-s.nb];exact hb
     obtain⟨c,fz,hrow⟩:=s.bTy b u hb' hbt;have ob:=s.obj (.box b) hb';simp only[BO,hl',Ak.at]at ob;obtain⟨cs,⟨T,lo,hi,hh,_⟩,hrl⟩:=ob;rw[hrow]at hh;simp only[Option.some.injEq,Obj.cells.injEq]at hh;obtain⟨rfl,rfl,_⟩:=hh;have hrun:=R6 hs hd (by omega) hrow (by have:=hrl.1;simp at this⊢;omega);refine HB (w':=w) (by rw[hxc];exact hrun) ⟨_,loc,st,g,hK,s,Rel.box b 0 hb,Ext.refl _ _,Ce.refl _ _⟩
   ·exact h.elim
  ·exact h.elim
 ·--makeSlice
  rename_i t lo co;split at h
  ·rename_i e k1 n k2 m he hn hm
   split at h
   ·rename_i i z hi hz
    rw[Al]at h;obtain⟨hchk,⟨h0,hnm,hby⟩,h⟩:=h;simp only[Bool.and_eq_true]at hchk;obtain⟨h1,h2,h3⟩:=hchk;have h2':=Nat.le_of_ble_eq_true h2;have h3':=Nat.le_of_ble_eq_true h3;obtain⟨zv,hzv,rfl⟩:=L9 hz hi;have hzs:zv.cells.size=i.size:=by have:=Nat.eq_of_beq_eq_true h1;simpa using this
    have hlo:=(hρ lo (by simp[Op.operands])).tv;have hco:=(hρ co (by simp[Op.operands])).tv;rw[hn]at hlo;rw[hm]at hco;have hloc:ρc lo= .int k1 n:=by generalize ρc lo=q at hlo;cases hlo;rfl
    have hcoc:ρc co= .int k2 m:=by generalize ρc co=q at hco;cases hco;rfl
    have hmle:m.toNat<=140737488355328:=Nat.le_trans (Nat.le_mul_of_pos_right _ (by omega)) hby
    have hwn:i64.wrap n=n:=by unfold IntKind.wrap;simp only[IntKind.signed,IntKind.bits];simp;omega
    have hwm:i64.wrap m=m:=by unfold IntKind.wrap;simp only[IntKind.signed,IntKind.bits];simp;omega
    have hbyI:¬((i.bytes:Int)*m>2^48):=by
     have:((m.toNat*i.bytes:Nat):Int)<=140737488355328:=by omega
     rw[Int.natCast_mul,Int.toNat_of_nonneg (by omega),Int.mul_comm]at this;simp only[Int.reducePow];omega
    have hrun:(Instr.makeSlice t (.int k1 n) (.int k2 m)).run P w= .ok (.slice (some ⟨w.heap.size,0,none⟩) n.toNat m.toNat) (w.alloc (.cells ((Array.range (m.toNat*i.size)).map (zv.cells[·%zv.cells.size]!)) e)):=by
     have c1:(decide (m<0) || decide ((i.bytes:Int)*m>2^48))=false:=by simp only[Bool.or_eq_false_iff,decide_eq_false_iff_not];exact⟨by omega,hbyI⟩
     have c2:((decide (m<0) || decide ((i.bytes:Int)*m>2^48)) || decide (n<0) || decide (n>m))=false:=by
      rw[c1];simp;omega
     simp only[Instr.makeSlice,Sem.run_bind,Ax (HA he),Result.andThen_ok,asInt,asIntOf,Sem.run_pure,run_info hi,hwn,hwm,c2,Bool.false_eq_true,if_false,run_askRoom,sizeOf];by_cases hz0:m.toNat*i.size=0
     ·have e0:∀f:Nat->Value,(Array.range 0).map f= #[]:=λf=>by simp
      simp only[hz0,if_true,Sem.run_pure,Sem.run_bind,Result.andThen_ok,e0];simp[newRow]
     ·have hzv':(zeroValue e).run P w= .ok zv w:=by simp[zeroValue,typeInfo,hi,hzv]
      simp only[hz0,if_false,Sem.run_pure,Sem.run_bind,Result.andThen_ok,hzv'];simp[newRow]
    have hzr:∀q,AP g w (ML (zv.cells.toList.map Nj) q) ((Array.range q).map (zv.cells[·%zv.cells.size]!)).toList:=λq=>UB zv q (.inl (by omega));refine HB (u:= .slice (some ⟨w.heap.size,0,none⟩) n.toNat m.toNat) (w':=w.alloc (.cells ((Array.range (m.toNat*i.size)).map (zv.cells[·%zv.cells.size]!)) e)) (by rw[hloc,hcoc];exact hrun) ?_;split at h
    ·have hal:=Ih (ix:=none) (cells:=ML (zv.cells.toList.map Nj) (m.toNat*i.size)) s e (hzr _) (K:=λsv loc' st'=>sv= .t (.box st.nb 0)/\loc'=loc/\st'=st.push (.cells (ML (zv.cells.toList.map Nj) (m.toNat*i.size))) (some e)) ⟨rfl,rfl,rfl⟩
     obtain⟨sv,loc',st',g',⟨rfl,rfl,rfl⟩,k2,k3,k4,k5⟩:=hal;refine⟨_,_,_,g',h,k2,?_,k4,k5⟩;have k3':Rel g' _ (.box st.nb 0) _:=k3;obtain⟨hb,heq⟩:=k3'.box_inv;have:=Rel.ms (g:=g') (w:=w.alloc (.cells ((Array.range (m.toNat*i.size)).map (zv.cells[·%zv.cells.size]!)) e)) i.size st.nb 0 n.toNat m.toNat hb (by omega);simp only[Value.pointer.injEq,Option.some.injEq,Addr.mk.injEq]at heq;rw[<-heq.1]at this;exact this
    ·refine Fm s e (0,0) ?_ (by simp[ML]) (by omega) (by simp) (λo _=>by simp) (λt ht=>by cases ht;rfl) h
     have hle:n.toNat*i.size<=m.toNat*i.size:=Nat.mul_le_mul_right _ (by omega);have:=hzr (n.toNat*i.size);have e1:((Array.range (m.toNat*i.size)).map (zv.cells[·%zv.cells.size]!)).toList.take (ML (zv.cells.toList.map Nj) (n.toNat*i.size)).length=((Array.range (n.toNat*i.size)).map (zv.cells[·%zv.cells.size]!)).toList:=by
      simp only[ML,List.length_map,List.length_range,Array.toList_map,Array.toList_range];rw[<-List.map_take,List.take_range,Nat.min_eq_left hle]
     rw[e1];exact this
   ·exact h.elim
  ·exact h.elim
 ·--makeInterface
  rename_i t x;split at h
  ·exact h.elim
  ·rename_i d hd hno
   refine HB (u:= .iface t (ρc x)) (w':=w) ?_ ⟨_,loc,st,g,h,s,Rel.iface t _ _ (hρ x (by simp[Op.operands])).tv,Ext.refl _ _,Ce.refl _ _⟩;simp only[Instr.makeInterface,Sem.run_bind,Ax hno,Result.andThen_ok];rfl
  ·exact h.elim
 ·--panic
  rename_i x;split at h
  ·rename_i t v hv
   have hx:=(hρ x (by simp[Op.operands])).tv;rw[hv]at hx;generalize hq:ρc x=q at hx;have hx':=hx;cases hx' with
   | iface _ _ u hu=>
    have hr:(execOp ρc ⟨dst,.panic x,type,pos,after,guard⟩).run P w= .halt (.panic (.iface t u)) w:=by
     simp[execOp,Instr.panic,hq,goPanic,Sem.run]
    unfold Cs;rw[hr];exact⟨_,st,g,h,s.dropLoc (λj x hx=>by simp at hx),hx,Ext.refl _ _⟩
  ·exact h.elim
 ·exact h.elim
end
end Go.TVF
end
section
namespace Go.TVF
open Go.IntKind(i64 u8)
open Go.RowKit (Below)
def isN (P:Program):Op->Bool
 | .move _=>true
 | .assign _=>true
 | .pick _ _ _=>true
 | .load _ _=>true
 | .nilCheck _=>true
 | .binOp _ _ _ _ _=>true
 | .unOp _ _ _=>true
 | .convert s d _=>match DK P d,P.underlying s with | some _,_=>false | none,some .unsafePointer=>false | none,_=>true
 | .makeFunc _ _ _=>true
 | .slice _ _ _ _ _=>true
 | .fieldAddr _ _ _=>true
 | .field _ _ _=>true
 | .indexAddr _ _ _=>true
 | .index _ _ _=>true
 | .extract _ _=>true
 | .call {callee:= .builtin .len,.. }=>true
 | .call {callee:= .builtin .min,.. }=>true
 | .call {callee:= .builtin .unsafeSliceData,.. }=>true
 | .lookup _ _ _ _=>true
 | .buildSlice _ _ _=>true
 | .build _ _=>true
 | .call {callee:= .builtin .max,.. }=>true
 | _=>false
def ZD (P:Program) (t:TypeId) (v:SV) (k:SV->Prop):Prop:=
 match v with
 | .loc i off=>k (.loc i off)
 | .t x=>decV (rtyOf P t) x λy=>k (.t y)
theorem KX {P:Program} {t:TypeId} {v:SV} {k:SV->Prop} (h:ZD P t v k):k v:=by
 cases v with
 | loc i off=>exact h
 | t x=>exact X5 (f:=λy=>k (.t y)) h
def FO (cfg:Cfg) (P:Program) (dst:Option Nat) (type:TypeId) (op:Op) (ρ:Operand->SV) (loc:List (Option (List TV))) (st:St) (K:SV->List (Option (List TV))->St->Prop):Prop:=
 match isN P op with
 | true=>(Cu P st loc ρ op).K λv=>ZD P type v λv'=>K v' loc st
 | false=>eop cfg P dst type op ρ loc st K
def Gj (cfg:Cfg) (P:Program) (dst:Option Nat) (type:TypeId) (op:Op) (ρ:Operand->SV) (loc:List (Option (List TV))) (st:St) (K:SV->List (Option (List TV))->St->Prop):Prop:=
 match isN P op with
 | true=>∃v,(Cu P st loc ρ op).Is v/\K v loc st
 | false=>eop cfg P dst type op ρ loc st K
theorem IT {cfg:Cfg} {P:Program} {dst:Option Nat} {type:TypeId} {op:Op} {ρ:Operand->SV} {loc:List (Option (List TV))} {st:St} {K:SV->List (Option (List TV))->St->Prop}
  (h:FO cfg P dst type op ρ loc st K):Gj cfg P dst type op ρ loc st K:=by
 grind [Gj,Cl.K_iff,KX,FO]
def Zu (ops:Array Oper) (j:Nat):Option Nat:=(ops[j]?).bind (·.dst)
def BA (slots:Be) (dst:Option Nat) (v:SV):Be:=
 match dst with
 | some d=>slots.set d v
 | none=>slots
def XN (b:Bool) (run skip:Fr->Prop) (fr:Fr):Prop:=match b with | true=>run fr | false=>skip fr
def Oo (ops:Array Oper) (fr:Fr) (g:Option (Nat×Bool)) (run skip:Fr->Prop):Prop:=
 match g with
 | none=>run fr
 | some (j,want)=>match Zu ops j with
  | none=>skip fr
  | some d=>match fr.slots.f d with
   | .t (.bool b)=>BIf b (XN want run skip ⟨fr.slots.set d (.t (.bool true)),fr.loc⟩) (XN (!want) run skip ⟨fr.slots.set d (.t (.bool false)),fr.loc⟩)
   | .t .undef=>skip fr
   | _=>False
def DX (ops:Array Oper) (slots:Be):Option (Nat×Bool)->Option Bool
 | none=>some true
 | some (j,want)=>match Zu ops j with
  | none=>some false
  | some d=>match slots.f d with
   | .t (.bool b)=>some (b==want)
   | .t .undef=>some false
   | _=>none
theorem Ic {ops:Array Oper} {fr:Fr} {g:Option (Nat×Bool)} {run skip:Fr->Prop} (h:Oo ops fr g run skip):
  ∃t,DX ops fr.slots g=some t/\XN t run skip fr:=by
 unfold Oo at h;unfold DX;split at h
 ·exact⟨true,rfl,h⟩
 ·rename_i j want
  split at h
  ·rename_i hd;exact⟨false,by simp[hd],h⟩
  ·rename_i d hd
   split at h
   ·rename_i b hb
    refine⟨b==want,by simp_all,?_⟩;cases b<;>simp only[BIf]at h<;>rw[Be.set_self hb]at h<;>cases want<;>exact h
   ·rename_i hb
    exact⟨false,by simp_all,h⟩
   simp_all
theorem UJ {g:Ak} {w:World} {ops:Array Oper} {fr:Fr} {tmps:Array Value} (hf:DM g w fr tmps) (o:Oper) {t:Bool} (h:DX ops fr.slots o.guard=some t):
  Region.wanted o (yielded ops tmps)=t:=by
 unfold DX at h;unfold Region.wanted;split at h
 ·grind
 ·rename_i j want hg
  simp only[hg];have hdst:Zu ops j=(ops[j]?).bind (·.dst):=rfl;split at h
  ·grind [Go.yielded]
  ·rename_i d hd
   rw[hdst]at hd;have hget:=hf.2 d;split at h
   ·rename_i b hb
    simp only[Option.some.injEq]at h;subst h;rw[hb]at hget;have hr':Rel g w (.bool b) (tmps.getD d Go.undef):=hget;generalize hq:tmps.getD d Go.undef=u at hr';cases hr';have hu:tmps[d]? =some (.bool b):=by
     by_cases hlt:d<tmps.size
     all_goals simp_all[Go.undef]
    simp[yielded,hd,hu]
   ·rename_i hb
    simp only[Option.some.injEq]at h;subst h;rw[hb]at hget;have hr':Rel g w .undef (tmps.getD d Go.undef):=hget;generalize hq:tmps.getD d Go.undef=u at hr';cases hr';by_cases hlt:d<tmps.size
    all_goals simp_all[Go.undef,Go.yielded]
   ·cases h
section
variable {P:Program} {g:Ak} {st:St} {w:World}
theorem bsl_eop {loc:List (Option (List TV))} {cfg:Cfg} {dst:Option Nat} {type:TypeId} {ρ:Operand->SV} {K:SV->List (Option (List TV))->St->Prop} {t:TypeId} {len:Nat} {parts:Array (Nat×Operand)} {v:SV}
  (h:(Cu P st loc ρ (.buildSlice t len parts)).Is v) (hK:K v loc st):eop cfg P dst type (.buildSlice t len parts) ρ loc st K:=by
 simp only[Cu,bslN]at h;simp only[eop];split at h<;>first | exact h.elim | skip
 rename_i e he
 try simp only[he]
 split at h<;>first | exact h.elim | skip
 rename_i sz z hsz hz
 try simp only[hsz,hz]
 split at h<;>first | exact h.elim | skip
 rename_i cells hc
 try simp only[hc]
 obtain⟨hb,rfl⟩:=h;rw[Bool.and_eq_true]at hb;rw[Al,Al];simp_all
theorem bld_eop {loc:List (Option (List TV))} {cfg:Cfg} {dst:Option Nat} {type:TypeId} {ρ:Operand->SV} {K:SV->List (Option (List TV))->St->Prop} {t:TypeId} {parts:Array (Nat×Operand)} {v:SV}
  (h:(Cu P st loc ρ (.build t parts)).Is v) (hK:K v loc st):eop cfg P dst type (.build t parts) ρ loc st K:=by
 simp only[Cu,bldN]at h;simp only[eop];split at h
 ·rename_i z fs hz hu
  try simp only[hz,hu]
  split at h
  ·rename_i cells hc
   try simp only[hc]
   obtain⟨hb,rfl⟩:=h;rw[Bool.and_eq_true]at hb;rw[Al,Al];simp_all
  ·exact h.elim
 ·rename_i z m e hz hu
  try simp only[hz,hu]
  split at h
  ·rename_i sz hs
   try simp only[hs]
   split at h
   ·rename_i cells hc
    try simp only[hc]
    obtain⟨hb,rfl⟩:=h;rw[Al];simp_all
   ·exact h.elim
  ·exact h.elim
 ·exact h.elim
theorem OK {loc:List (Option (List TV))} (s:Sim g st loc w) {cfg:Cfg} {ρ:Operand->SV} {ρc:Operand->Value} (o:Oper) (hρ:∀x,x∈o.op.operands->Cd g w loc (ρ x) (ρc x)) {K:SV->List (Option (List TV))->St->Prop}
  (h:Gj cfg P o.dst o.type o.op ρ loc st K):Cs (Du g w cfg.exc) P (execOp ρc o) w (GL g w loc K):=by
 unfold Gj at h;split at h
 ·obtain⟨v,hv,hK⟩:=h
  cases hb:VU o.op with
  | true=>
   refine SL s o hρ (cfg:=cfg) ?_;obtain⟨dst,op,type,pos,after,guard⟩:=o;simp only at hb hv⊢;cases op<;>simp only[VU]at hb<;>first | (cases hb;done) | exact bsl_eop hv hK | grind [bld_eop]
  | false=>
  obtain⟨u,hu,hr⟩:=Jv s o hb hρ hv;simp only[Cs,hu];exact⟨v,loc,st,g,hK,s,hr,Ext.refl _ _,Ce.refl _ _⟩
 grind [SL]
theorem done_wp {o:Oper} {a:Act} {R:Value->World->Prop} {next:Act->World->Prop} {Q:Exit->Act->World->Prop} (h:Ru P (execOp a.eval o) w R) (hn:∀v w',R v w'->next (a.put o.dst v) w'):o.wp P a w next Q:=by
 unfold Ru at h;unfold Oper.wp Oper.upon;split at h
 ·simp_all
 ·simp_all
 ·rename_i f args w' hr
  simp only[hr];exact h.mono λe w'' ⟨v,he,hR⟩=>by simp_all
 simp_all
def XQ (g:Ak) (w:World) (E:TV->St->Prop) (a0:Act) (Q:Exit->Act->World->Prop):Prop:=
 ∀(v:Value) (a:Act) (w':World),Du g w E v w'->a.defers=a0.defers->Q (.panic [{v,recovered:=false}]) a w'
theorem XQ.no {a0:Act} {Q:Exit->Act->World->Prop}:XQ g w NoE a0 Q:=λ_ _ _ h=>(Du.no h).elim
theorem XQ.ext {g0:Ak} {w0:World} {E:TV->St->Prop} {a0 a1:Act} {Q:Exit->Act->World->Prop} (h:XQ g0 w0 E a0 Q) (e:Ext g0 w0 g w) (h5:a1.defers=a0.defers):XQ g w E a1 Q:=
 λv a w' hx hd=>h v a w' (hx.ext e) (hd.trans h5)
theorem Wc {X:Value->World->Prop} {o:Oper} {a:Act} {R:Value->World->Prop} {next:Act->World->Prop} {Q:Exit->Act->World->Prop} (h:Cs X P (execOp a.eval o) w R) (hn:∀v w',R v w'->next (a.put o.dst v) w')
  (hx:∀v w',X v w'->Q (.panic [{v,recovered:=false}]) a w'):o.wp P a w next Q:=by
 unfold Cs at h;unfold Oper.wp Oper.upon;split at h
 ·simp_all
 ·simp_all
 ·rename_i f args w' hr
  simp only[hr];exact h.mono λe w'' h=>by
   grind
 all_goals simp_all
theorem DM.put {fr:Fr} {tmps:Array Value} (h:DM g w fr tmps) {dst:Option Nat} {v:SV} {u:Value} (hv:Cd g w fr.loc v u):
  DM g w ⟨BA fr.slots dst v,fr.loc⟩ (match dst with | some d=>tmps.setIfInBounds d u | none=>tmps):=by
 cases dst with
 | none=>exact h
 | some d=>
  refine⟨by simp[BA,Be.set_n,h.1],λi=>?_⟩;simp only[BA];by_cases hd:i=d
  ·subst hd
   by_cases hlt:i<fr.slots.n
   ·rw[Be.set_eq hlt]
    have hit:i<tmps.size:=h.1▸hlt;simp_all
   ·rw[Be.set_out hlt]
    have:=h.2 i;have hit:¬i<tmps.size:=h.1▸hlt;grind
  ·rw[Be.set_ne hd]
   have hd':¬d=i:=λe=>hd e.symm;have:=h.2 i;simp_all
theorem DM.keep {g':Ak} {w':World} {fr:Fr} {loc':List (Option (List TV))} {tmps:Array Value} (h:DM g w fr tmps) (e:Ext g w g' w') (k:Ce g fr.loc g' loc'):DM g' w' ⟨fr.slots,loc'⟩ tmps:=
 ⟨h.1,λi=>(h.2 i).keep e k⟩
def JX (g:Ak) (w:World) (a0:Act) (K:Fr->St->Prop) (a:Act) (w':World):Prop:=
 ∃fr st g',K fr st/\Sim g' st fr.loc w'/\DM g' w' fr a.tmps/\Ext g w g' w'/\a.defers=a0.defers/\a.tmps.size=a0.tmps.size
theorem JX.ext {g0:Ak} {w0:World} {a0 a1:Act} {K:Fr->St->Prop} {a:Act} {w':World} (e:Ext g0 w0 g w) (h5:a1.defers=a0.defers/\a1.tmps.size=a0.tmps.size) (h:JX g w a1 K a w'):JX g0 w0 a0 K a w':=by
 obtain⟨fr,st,g',h1,h2,h3,h4,h6,h7⟩:=h;exact⟨fr,st,g',h1,h2,h3,e.trans h4,h6.trans h5.1,h7.trans h5.2⟩
theorem Jo {cfg:Cfg} (ops:Array Oper) (o:Oper) {fr:Fr} {a:Act} {K:Fr->St->Prop} {t:Bool} (hw:DX ops fr.slots o.guard=some t)
  (h:match t with
   | true=>Gj cfg P o.dst o.type o.op (opS fr.slots) fr.loc st λv loc' st'=>K ⟨BA fr.slots o.dst v,loc'⟩ st'
   | false=>K ⟨BA fr.slots o.dst (.t .undef),fr.loc⟩ st)
  (s:Sim g st fr.loc w) (hf:DM g w fr a.tmps) {next:Act->World->Prop} {Q:Exit->Act->World->Prop} (hn:∀a' w',JX g w a K a' w'->next a' w') (hx:XQ g w cfg.exc a Q):
  if Region.wanted o (yielded ops a.tmps)then o.wp P a w next Q else next (a.put o.dst Go.undef) w:=by
 rw[UJ hf o hw];cases t with
 | true=>
  simp only[if_true];have hd:=OK s o (ρc:=a.eval) (λx _=>Px hf x) h;refine Wc hd (λv w' hL=>hn _ _ ?_) λv w' hX=>hx v a w' hX rfl;obtain⟨sv,loc',st',g',hK,s',hr,e',k'⟩:=hL;refine⟨_,st',g',hK,s',?_,e',?_⟩
  ·have:=(hf.keep e' k').put (dst:=o.dst) hr
   cases hd:o.dst with
   | none=>rw[hd]at this;exact this
   | some d=>rw[hd]at this;exact this
  ·cases o.dst<;>simp[Act.put]
 | false=>
  simp only[Bool.false_eq_true,if_false];refine hn _ _ ⟨_,st,g,h,s,?_,Ext.refl _ _,?_⟩
  ·have:=hf.put (dst:=o.dst) (v:= .t .undef) (u:=Go.undef) Rel.undef
   cases hd:o.dst with
   | none=>rw[hd]at this;exact this
   | some d=>rw[hd]at this;exact this
  ·cases o.dst<;>simp[Act.put]
def LT (cfg:Cfg) (P:Program) (ops:Array Oper) (K:Fr->St->Prop):List Oper->Fr->St->Prop
 | [],fr,st=>K fr st
 | o::rest,fr,st=>Oo ops fr o.guard
   (λfr=>FO cfg P o.dst o.type o.op (opS fr.slots) fr.loc st λv loc' st'=>LT cfg P ops K rest ⟨BA fr.slots o.dst v,loc'⟩ st')
   (λfr=>LT cfg P ops K rest ⟨BA fr.slots o.dst (.t .undef),fr.loc⟩ st)
theorem HW {cfg:Cfg} {ops:Array Oper} {K:Fr->St->Prop} {Q:Exit->Act->World->Prop}:∀(l:List Oper) (fr:Fr) (st:St) (g:Ak) (w:World) (a:Act),LT cfg P ops K l fr st->Sim g st fr.loc w->DM g w fr a.tmps->
  (∀a' w',JX g w a K a' w'->Q .normal a' w')->XQ g w cfg.exc a Q->wpList P ops Q l a w
 | [],fr,st,g,w,a,h,s,hf,hq,_=>hq a w ⟨fr,st,g,h,s,hf,Ext.refl _ _,rfl,rfl⟩
 | o::rest,fr,st,g,w,a,h,s,hf,hq,hx=>by
  obtain⟨t,hw,hg⟩:=Ic h;refine wpList_step λnext hnext=>?_
  refine Jo (cfg:=cfg) (K:=LT cfg P ops K rest) ops o hw ?_ s hf (λa' w' hp=>?_) hx
  ·cases t with
   | true=>exact IT hg
   | false=>exact hg
  ·obtain⟨fr',st',g',h1,h2,h3,h4,h5⟩:=hp
   refine hnext _ _ (HW rest fr' st' g' w' a' h1 h2 h3 (λa'' w'' hp'=>hq _ _ (hp'.ext h4 h5)) (hx.ext h4 h5.1))
end
end Go.TVF
end
section
namespace Go.TVF
open Go.IntKind(i64 u8)
open Go.RowKit (Below)
def IX:Op->Bool
 | .load _ _=>true
 | .convert _ _ _=>true
 | .lookup _ _ _ _=>true
 | _=>false
def QR:Op->Bool
 | .call {callee:= .value _,.. }=>true
 | _=>false
def EV (cfg:Cfg) (o:Oper):Bool:=
 match o.op with
 | .store _ _ _=>true
 | .alloc _=>true
 | .box _ _=>true
 | .makeSlice _ _ _=>XH cfg.ms o.dst
 | .call {callee:= .builtin .append,.. }=>XH cfg.ms o.dst
 | .makeMap _ _=>true
 | .mapUpdate _ _ _ _=>true
 | .call {callee:= .builtin .delete,.. }=>true
 | _=>false
def D8 (s s':St):Prop:=∀b,s.box b= .dead∨s'.box b=s.box b
def ZM:St:={nb:=0,box:=λ_=> .dead,nt:=0,live:=λ_=>false,ty:=λ_=>none,bt:=λ_=>none}
theorem D8.refl (s:St):D8 s s:=λ_=> .inr rfl
theorem D8.blind (s:St):D8 ZM s:=λ_=> .inl rfl
theorem D8.of_box {s st st':St} (h:D8 s st) (e:st'.box=st.box):D8 s st':=λb=>by rw[e];exact h b
theorem Om {s s':St} (h:D8 s s') {loc:List (Option (List TV))} {p:SV} {j:Nat} {x:TV} (hx:Af s loc p j=some x):Af s' loc p j=some x:=by
 unfold Af at hx⊢;split at hx<;>first | exact hx | skip
 rename_i b off;rcases h b with hd | he
 all_goals simp_all
theorem QO {s s':St} (h:D8 s s') {loc:List (Option (List TV))} {p:SV}:∀{n j:Nat} {xs:List TV},AE s loc p j n=some xs->AE s' loc p j n=some xs:=by
 intro n;induction n<;>grind [AE,Om,Option.map_eq_some_iff]
theorem W9 {s s':St} (h:D8 s s') {v:TV} {l:B8} (hx:toBytes s v=some l):toBytes s' v=some l:=by
 unfold toBytes at hx⊢;grind [QO]
theorem mapOf_le {s s':St} (h:D8 s s') {v:TV} {l:List (B8×TV)} (hx:DY s v=some l):DY s' v=some l:=by
 unfold DY at hx⊢;split at hx
 ·exact hx
 ·rename_i b
  rcases h b with hd | he
  all_goals simp_all
 omega
theorem XI {s s':St} (h:D8 s s') {b:Nat} (hb:Au s b=true):Au s' b=true:=by
 rcases h b with hd | he
 all_goals grind [Au]
theorem pgot_le {s s':St} (h:D8 s s') {x i:TV} {p:List (Nat×TV)×Nat} (hp:Qu s x i=some p):Qu s' x i=some p:=by
 unfold Qu at hp⊢;split at hp
 ·rename_i es k hes hk
  have he:Qr s' x=some es:=by
   unfold Qr at hes⊢;split at hes
   ·rename_i b
    rcases h b with hd | he
    all_goals simp_all
   omega
  rw[he,hk];grind [XI]
 ·cases hp
theorem nres_le {P:Program} {s s':St} (h:D8 s s') {loc:List (Option (List TV))} {ρ:Operand->SV} {op:Op} {v:SV} (hv:(Cu P s loc ρ op).Is v):(Cu P s' loc ρ op).Is v:=by
 unfold Cu at hv⊢;split at hv<;>first | exact hv | skip
 ·--load
  unfold Fk at hv⊢;split at hv
  ·obtain⟨x,hx,rfl⟩:=hv
   split at hx
   ·cases hx
   ·obtain⟨ys,hys,rfl⟩:=Option.map_eq_some_iff.1 hx
    exact⟨_,by grind [QO],rfl⟩
  ·obtain⟨x,hx,rfl⟩:=hv
   exact⟨x,Om h hx,rfl⟩
  omega
 ·--convert
  unfold SQ at hv⊢;split at hv<;>first | exact hv | skip
  ·split at hv<;>first | exact hv | skip
   obtain⟨x,hx,rfl⟩:=hv;obtain⟨l,hl,rfl⟩:=Option.map_eq_some_iff.1 hx;exact⟨_,by grind [W9],rfl⟩
  ·split at hv<;>first | exact hv | skip
   obtain⟨hx,rfl⟩:=hv;obtain⟨l,hl⟩:=Option.isSome_iff_exists.1 hx;exact⟨by grind [Om],rfl⟩
 ·--lookup
  unfold SB at hv⊢;split at hv<;>first | exact hv | skip
  split at hv<;>first | exact hv | skip
  ·split at hv<;>first | exact hv | skip
   obtain⟨x,hx,rfl⟩:=hv;exact⟨_,mapOf_le h hx,rfl⟩
  ·split at hv<;>first | exact hv | skip
   obtain⟨y,hy,rfl⟩:=hv;refine⟨y,?_,rfl⟩;grind [plook,pgot_le,Option.map_eq_some_iff]
theorem Le {ρ ρ':Operand->SV} (o:Option Operand) (h:∀y,o=some y->ρ y=ρ' y):(o.map λx=>(ρ x).tv)=o.map λx=>(ρ' x).tv:=by
 cases o<;>grind
set_option maxHeartbeats 1000000 in
theorem Mu {P:Program} {s:St} {loc:List (Option (List TV))} {ρ ρ':Operand->SV} {op:Op} (h:∀x,x∈op.operands->ρ x=ρ' x):Cu P s loc ρ op=Cu P s loc ρ' op:=by
 cases op with
 | move x=>simp only[Cu,h x (by simp[Op.operands])]
 | assign x=>simp only[Cu,h x (by simp[Op.operands])]
 | pick c a b=>simp only[Cu,h c (by simp[Op.operands]),h a (by simp[Op.operands]),h b (by simp[Op.operands])]
 | load t a=>simp only[Cu,h a (by simp[Op.operands])]
 | nilCheck x=>simp only[Cu,h x (by simp[Op.operands])]
 | binOp op t x y _=>simp only[Cu,h x (by simp[Op.operands]),h y (by simp[Op.operands])]
 | unOp op t x=>cases op<;>simp only[Cu,h x (by simp[Op.operands])]
 | convert a d x=>simp only[Cu,h x (by simp[Op.operands])]
 | makeFunc fn first cap=>
  cases fn<;>simp only[Cu];rw[List.map_congr_left (l:=cap.toList) (f:=λx=>(ρ x).tv) (g:=λx=>(ρ' x).tv) λx hx=>by rw[h x (by simp only[Op.operands,Array.mem_append];right;exact Array.mem_toList_iff.1 hx)]]
 | slice t x lo hi mx=>
  simp only[Cu,h x (by simp[Op.operands])];rw[Le (ρ:=ρ) (ρ':=ρ') lo λy hy=>h y (by simp[Op.operands,hy]),Le (ρ:=ρ) (ρ':=ρ') hi λy hy=>h y (by simp[Op.operands,hy]),Le (ρ:=ρ) (ρ':=ρ') mx λy hy=>h y (by simp[Op.operands,hy])]
 | fieldAddr t x f=>simp only[Cu,h x (by simp[Op.operands])]
 | field t x f=>simp only[Cu,h x (by simp[Op.operands])]
 | indexAddr t x i=>simp only[Cu,h x (by simp[Op.operands]),h i (by simp[Op.operands])]
 | index t x i=>simp only[Cu,h x (by simp[Op.operands]),h i (by simp[Op.operands])]
 | extract x i=>simp only[Cu,h x (by simp[Op.operands])]
 | call c=>
  obtain⟨callee,args,ts⟩:=c;have ha:∀x,x∈args->ρ x=ρ' x:=λx hx=>h x (by simp only[Op.operands,Call.operands];exact Array.mem_append.2 (.inr hx));cases callee with
  | value f=>rfl
  | invoke r m=>rfl
  | builtin b=>
   cases b<;>try rfl
   case unsafeSliceData=>
    simp only[Cu];split
    ·rename_i x hx
     rw[ha x (by rw[<-Array.mem_toList_iff,hx];simp)]
    ·rfl
   ·simp only[Cu]
    cases h0:args[0]? with
    | none=>rfl
    | some x=>cases h1:ts[0]? with
     | none=>rfl
     | some t=>simp only[ha x (Array.mem_of_getElem? h0)]
   ·simp only[Cu]
    split
    ·rename_i x y hxy
     have hx:x∈args:=by rw[<-Array.mem_toList_iff,hxy];simp
     have hy:y∈args:=by rw[<-Array.mem_toList_iff,hxy];simp
     rw[ha x hx,ha y hy]
    ·rfl
   ·simp only[Cu]
    split
    ·rename_i x y hxy
     have hx:x∈args:=by rw[<-Array.mem_toList_iff,hxy];simp
     have hy:y∈args:=by rw[<-Array.mem_toList_iff,hxy];simp
     rw[ha x hx,ha y hy]
    ·rfl
 | buildSlice t len ps=>
  simp only[Cu];rw[List.map_congr_left (l:=ps.toList) (f:=λp=>(p.1,(ρ p.2).tv)) (g:=λp=>(p.1,(ρ' p.2).tv)) λp hp=>by rw[h p.2 (by simp only[Op.operands,List.mem_toArray,List.mem_map];exact⟨p,hp,rfl⟩)]]
 | build t ps=>
  simp only[Cu];rw[List.map_congr_left (l:=ps.toList) (f:=λp=>(p.1,(ρ p.2).tv)) (g:=λp=>(p.1,(ρ' p.2).tv)) λp hp=>by rw[h p.2 (by simp only[Op.operands,List.mem_toArray,List.mem_map];exact⟨p,hp,rfl⟩)]]
 | lookup t x i ok=>simp only[Cu,h x (by simp[Op.operands]),h i (by simp[Op.operands])]
 | _=>rfl
theorem Q6:∀{cs:List CTy} {R R':Type} {vs:List TV} {F:List TV->R} {F':List TV->R'} {k:R->Prop} {k':R'->Prop},(∀l,k (F l)->k' (F' l))->L5 cs vs (Q9 cs F) k->L5 cs vs (Q9 cs F') k'
 | [],_,_,[],F,F',k,k',h,hk=>h _ hk
 | [],_,_,_::_,F,F',k,k',h,hk=>hk.elim
 | _::_,_,_,[],F,F',k,k',h,hk=>hk.elim
 | c::cs,_,_,v::vs,F,F',k,k',h,hk=>by
  have key:∀{f f':c.I->Prop},(∀y,f y->f' y)->CG c v f->CG c v f':=by
   intro f f' hf hd;cases c with
   | int k=>cases v<;>simp[CG]at hd⊢<;>first | exact hd.elim | (rw[Al]at hd⊢;exact⟨hd.1,hf _ hd.2⟩)
   | bool=>cases v<;>simp[CG]at hd⊢<;>first | exact hd.elim | exact hf _ hd
   | str=>cases v<;>simp[CG]at hd⊢<;>first | exact hd.elim | exact hf _ hd
   | tv=>exact hf _ hd
  exact key (λy hy=>Q6 (F:=λl=>F (enc c y::l)) (F':=λl=>F' (enc c y::l)) (λl=>h _) hy) hk
theorem AaG {c:CTy} {v:TV} {f f':c.I->Prop} (hf:∀y,f y->f' y) (hd:CG c v f):CG c v f':=by
 cases c with
 | int k=>cases v<;>simp[CG]at hd⊢<;>first | exact hd.elim | (rw[Al]at hd⊢;simp_all)
 | bool=>cases v<;>simp[CG]at hd⊢<;>first | grind | grind
 | str=>cases v<;>simp[CG]at hd⊢<;>first | simp_all | simp_all
 | tv=>exact hf _ hd
theorem HC:∀{sh:List RTy} {R R':Type} {vs:List TV} {F:List TV->R} {F':List TV->R'} {k:R->Prop} {k':R'->Prop},(∀l,k (F l)->k' (F' l))->HD sh vs (GI sh F) k->HD sh vs (GI sh F') k'
 | [],_,_,[],F,F',k,k',h,hk=>h _ hk
 | [],_,_,_::_,F,F',k,k',h,hk=>hk.elim
 | _::_,_,_,[],F,F',k,k',h,hk=>by cases ‹RTy›<;>exact hk.elim
 | .one c::sh,_,_,v::vs,F,F',k,k',h,hk=>
  AaG (λy hy=>HC (F:=λl=>F (enc c y::l)) (F':=λl=>F' (enc c y::l)) (λl=>h _) hy) hk
 | .agg cs::sh,_,_,v::vs,F,F',k,k',h,hk=>by
  cases v<;>simp[HD]at hk⊢;exact Q6 (F:=λl=>GI sh λr=>F (.agg l::r)) (F':=λl=>GI sh λr=>F' (.agg l::r)) (k:=λr=>HD sh vs r k) (k':=λr=>HD sh vs r k')
   (λl=>HC (F:=λr=>F (.agg l::r)) (F':=λr=>F' (.agg l::r)) λr=>h _) hk
theorem Wi {sh:List RTy} {R R':Type} {v:TV} {F:TV->R} {F':TV->R'} {k:R->Prop} {k':R'->Prop} (h:∀x,k (F x)->k' (F' x)) (hk:FF sh v (Gs sh F) k):FF sh v (Gs sh F') k':=by
 match sh,hk with
 | [s],hk=>exact HC (F:=V0 F) (F':=V0 F') (λl=>by cases l<;>exact h _) hk
 | [],hk=>
  cases v<;>simp[FF]at hk⊢<;>first | exact hk.elim | skip
  exact HC (sh:=[]) (F:=λl=>F (.tuple l)) (F':=λl=>F' (.tuple l)) (λl=>h _) hk
 | s::s'::sh,hk=>
  cases v<;>simp[FF]at hk⊢<;>first | exact hk.elim | skip
  exact HC (sh:=s::s'::sh) (F:=λl=>F (.tuple l)) (F':=λl=>F' (.tuple l)) (λl=>h _) hk
theorem SY {T sz bytes:Nat} {v:TV} {k:Nat} {ys:List TV} {st:St} {K K':TV->St->Prop} (h:∀r st',st'.box=st.box->K r st'->K' r st') (hk:Bn T sz bytes v k ys st K):Bn T sz bytes v k ys st K':=by
 cases v<;>simp[Bn]at hk⊢<;>try exact hk
 ·cases k with
  | zero=>grind
  | succ m=>simp[Al]at hk⊢;exact⟨hk.1,h _ _ rfl hk.2⟩
 ·rename_i s tip n xs
  cases hs:s.beq sz with
  | false=>simp_all
  | true=>
   rw[hs]at hk;refine⟨hk.1,?_⟩;have hk2:=hk.2;cases tip with
   | non=>omega
   | full=>cases k with
    | zero=>grind
    | succ m=>exact h _ _ rfl hk2
   | own id=>exact⟨hk2.1,h _ _ rfl hk2.2⟩
theorem Yv {E:TV->St->Prop} {P:Program} {f:FuncId} {args:List TV} {sh:List RTy} {st:St} {F F':TV->St->Prop} (h:∀v st',F v st'->F' v st') (hk:Bz E P f args sh st (Gs sh F)):Bz E P f args sh st (Gs sh F'):=
 Cx.mono hk (λr st' hr=>Wi (F:=F) (F':=F') (k:=λp=>p st') (k':=λp=>p st') (λx=>h x st') hr) λ_ _ h=>h
theorem U0 {st:St} {loc:List (Option (List TV))} {p:SV} {xs:List TV} {k k':List (Option (List TV))->St->Prop} (h:∀loc' st',k loc' st'->k' loc' st') (hk:stK st loc p xs k):stK st loc p xs k':=by
 cases p with
 | loc i off=>
  grind [stK,Al]
 | t v=>
  cases v<;>simp[stK]at hk⊢<;>try exact hk
  grind
def IY (cfg:Cfg) (o:Oper):Bool:= !(EV cfg o)&& !(QR o.op)
def Ga:Op->Bool
 | .store _ _ _=>true
 | .alloc _=>true
 | .box _ _=>true
 | _=>false
set_option maxHeartbeats 1000000 in
theorem EU {cfg:Cfg} {P:Program} (o:Oper) {ρ ρ':Operand->SV} {loc:List (Option (List TV))} {st:St} {K K':SV->List (Option (List TV))->St->Prop} (hρ:∀x,x∈o.op.operands->ρ x=ρ' x)
  (h:∀v loc' st',(IY cfg o=true->st'.box=st.box)->(Ga o.op=false->loc'=loc/\∃x,v= .t x)->K v loc' st'->K' v loc' st') (hk:eop cfg P o.dst o.type o.op ρ loc st K):eop cfg P o.dst o.type o.op ρ' loc st K':=by
 obtain⟨dst,op,type,pos,after,guard⟩:=o;simp only at hρ hk⊢;have parts:∀ps:Array (Nat×Operand),(∀p∈ps.toList,ρ p.2=ρ' p.2)->(ps.toList.map λp=>(p.1,(ρ p.2).tv))=ps.toList.map λp=>(p.1,(ρ' p.2).tv):=λps hp=>
  List.map_congr_left λp hm=>by rw[hp p hm]
 have alK:∀T ix cells,(EV cfg ⟨dst,op,type,pos,after,guard⟩=true/\Ga op=true)->Es T ix cells loc st K->Es T ix cells loc st K':=by
  intro T ix cells hw ha;unfold Es at ha⊢;split
  ·simp only at ha
   split at ha
   ·exact h _ _ _ (by simp[IY,hw.1]) (by simp[hw.2]) ha
   ·exact ha.elim
  ·exact h _ _ _ (by simp[IY,hw.1]) (by simp[hw.2]) ha
 cases op with
 | alloc t=>
  simp only[eop]at hk⊢;cases hz:GN P t with
  | none=>rw[hz]at hk;exact hk
  | some cells=>rw[hz]at hk;exact alK _ _ _ ⟨rfl,rfl⟩ hk
 | box t x=>
  simp only[eop]at hk⊢;rw[<-hρ x (by simp[Op.operands])];split at hk
  ·rename_i hag
   try simp only[hag]
   split at hk
   ·exact alK _ _ _ ⟨rfl,rfl⟩ hk
   ·exact hk.elim
  ·rename_i hag
   try simp only[hag]
   rw[Al]at hk⊢;exact⟨hk.1,alK _ _ _ ⟨rfl,rfl⟩ hk.2⟩
  ·exact hk.elim
 | buildSlice t len ps=>
  simp only[eop]at hk⊢;rw[<-parts ps λp hp=>hρ p.2 (by simp only[Op.operands,List.mem_toArray,List.mem_map];exact⟨p,hp,rfl⟩)];split at hk
  ·rename_i e he
   try simp only[he]
   split at hk
   ·rename_i sz z h1 h2
    try simp only[h1,h2]
    rw[Al]at hk⊢;refine⟨hk.1,?_⟩;have hk2:=hk.2;split at hk2
    ·rename_i cells hc
     try simp only[hc]
     rw[Al]at hk2⊢;exact⟨hk2.1,h _ _ _ (λ_=>rfl) (λ_=>⟨rfl,_,rfl⟩) hk2.2⟩
    ·exact hk2.elim
   ·exact hk.elim
  ·exact hk.elim
 | build t ps=>
  simp only[eop]at hk⊢;rw[<-parts ps λp hp=>hρ p.2 (by simp only[Op.operands,List.mem_toArray,List.mem_map];exact⟨p,hp,rfl⟩)];split at hk
  ·rename_i z fs h1 h2
   try simp only[h1,h2]
   split at hk
   ·rename_i cells hc
    try simp only[hc]
    rw[Al,Al]at hk⊢;exact⟨hk.1,hk.2.1,h _ _ _ (λ_=>rfl) (λ_=>⟨rfl,_,rfl⟩) hk.2.2⟩
   ·exact hk.elim
  ·rename_i z m e h1 h2
   try simp only[h1,h2]
   split at hk
   ·rename_i sz h3
    try simp only[h3]
    split at hk
    ·rename_i cells hc
     try simp only[hc]
     rw[Al]at hk⊢;exact⟨hk.1,h _ _ _ (λ_=>rfl) (λ_=>⟨rfl,_,rfl⟩) hk.2⟩
    ·exact hk.elim
   ·exact hk.elim
  ·exact hk.elim
 | store t a x=>
  simp only[eop]at hk⊢;rw[<-hρ x (by simp[Op.operands]),<-hρ a (by simp[Op.operands])];split at hk
  ·rename_i hag
   try simp only[hag]
   split at hk
   ·rw[Al,Al]at hk⊢
    exact⟨hk.1,hk.2.1,U0 (λloc' st' hq=>h _ _ _ (λhp=>by cases hp) (λhp=>by cases hp) hq) hk.2.2⟩
   ·exact hk.elim
  ·rename_i hag
   try simp only[hag]
   rw[Al,Al]at hk⊢;exact⟨hk.1,hk.2.1,U0 (λloc' st' hq=>h _ _ _ (λhp=>by cases hp) (λhp=>by cases hp) hq) hk.2.2⟩
  ·exact hk.elim
 | makeMap t r=>
  simp only[eop]at hk⊢;have hr:(r.map λx=>(ρ x).tv)=r.map λx=>(ρ' x).tv:=Le r λy hy=>hρ y (by simp[Op.operands,hy]);rw[<-hr];split at hk
  ·rename_i h1 h2
   try simp only[h1,h2]
   split at hk
   ·rename_i h3
    try simp only[h3]
    exact h _ _ _ (by simp[IY,EV]) (λ_=>⟨rfl,_,rfl⟩) hk
   ·exact h _ _ _ (by simp[IY,EV]) (λ_=>⟨rfl,_,rfl⟩) hk
  ·rename_i h1 h2
   try simp only[h1,h2]
   exact h _ _ _ (by simp[IY,EV]) (λ_=>⟨rfl,_,rfl⟩) hk
  ·exact hk.elim
 | mapUpdate t m k x=>
  simp only[eop]at hk⊢;rw[<-hρ m (by simp[Op.operands]),<-hρ k (by simp[Op.operands]),<-hρ x (by simp[Op.operands])];split at hk
  ·rename_i h1
   try simp only[h1]
   split at hk
   ·rename_i h2
    try simp only[h2]
    split at hk
    ·rename_i h3
     try simp only[h3]
     rw[Al]at hk⊢;refine⟨hk.1,?_⟩;have hk2:=hk.2;unfold muK at hk2⊢;split at hk2
     ·obtain⟨es,he,hk2⟩:=hk2
      exact⟨es,he,h _ _ _ (by simp[IY,EV]) (λ_=>⟨rfl,_,rfl⟩) hk2⟩
     ·exact hk2.elim
    ·exact hk.elim
   ·rename_i h2
    try simp only[h2]
    split at hk
    ·rename_i h3
     try simp only[h3]
     rw[Al]at hk⊢;refine⟨hk.1,?_⟩;have hk2:=hk.2;unfold puK at hk2⊢;rw[DF]at hk2⊢;obtain⟨p,hp,hk2⟩:=hk2;exact⟨p,hp,h _ _ _ (by simp[IY,EV]) (λ_=>⟨rfl,_,rfl⟩) hk2⟩
    ·exact hk.elim
   ·exact hk.elim
  ·exact hk.elim
 | convert sT d x=>
  simp only[eop]at hk⊢;rw[<-hρ x (by simp[Op.operands])];split at hk
  ·rename_i e l h1 h2 h3
   try simp only[h1,h2,h3]
   split at hk
   ·exact h _ _ _ (λ_=>rfl) (λ_=>⟨rfl,_,rfl⟩) hk
   ·exact hk.elim
  ·rename_i h1 h2
   try simp only[h1,h2]
   split at hk
   ·rename_i u h4
    try simp only[h4]
    split at hk
    ·exact hk.elim
    ·rename_i n hn
     try simp only[hn]
     unfold unsK at hk⊢;split at hk
     ·exact⟨hk.1,h _ _ _ (λ_=>rfl) (λ_=>⟨rfl,_,rfl⟩) hk.2⟩
     ·exact hk.elim
   ·exact hk.elim
  ·exact hk.elim
 | makeSlice t l c=>
  simp only[eop]at hk⊢;rw[<-hρ l (by simp[Op.operands]),<-hρ c (by simp[Op.operands])];split at hk
  ·rename_i e k1 n k2 m h1 h2 h3
   try simp only[h1,h2,h3]
   split at hk
   ·rename_i i z h4 h5
    try simp only[h4,h5]
    rw[Al]at hk⊢;refine⟨hk.1,hk.2.1,?_⟩;have hk2:=hk.2.2;split at hk2
    ·rename_i hm
     try simp only[hm]
     exact h _ _ _ (λhp=>by simp[IY,EV,hm]at hp) (λ_=>⟨rfl,_,rfl⟩) hk2
    ·rename_i hm
     try simp only[hm]at hk2
     exact h _ _ _ (λ_=>rfl) (λ_=>⟨rfl,_,rfl⟩) hk2
   ·exact hk.elim
  ·exact hk.elim
 | call c=>
  obtain⟨callee,args,ts⟩:=c;have ha:∀x,x∈args->ρ x=ρ' x:=λx hx=>hρ x (by simp only[Op.operands,Call.operands];exact Array.mem_append.2 (.inr hx));cases callee with
  | value f=>
   simp only[eop]at hk⊢;rw[<-hρ f (by simp[Op.operands,Call.operands])];rw[<-List.map_congr_left (l:=args.toList) (f:=λx=>(ρ x).tv) (g:=λx=>(ρ' x).tv) λx hx=>by rw[ha x (Array.mem_toList_iff.1 hx)]];cases hf:(ρ f).tv<;>rw[hf]at hk<;>simp only[Ja]at hk⊢;exact Yv (λv st' hv=>h _ _ _ (λhp=>by simp[IY,QR]at hp) (λ_=>⟨rfl,_,rfl⟩) hv) hk
  | invoke r m=>exact hk
  | builtin b=>
   cases b<;>try exact hk
   case delete=>
    simp only[eop]at hk⊢;split at hk
    ·rename_i m k t t2 h1 h2
     try simp only[h1,h2]
     rw[<-ha m (by rw[<-Array.mem_toList_iff,h1];simp),<-ha k (by rw[<-Array.mem_toList_iff,h1];simp)];split at hk
     ·rename_i h3
      try simp only[h3]
      split at hk
      ·rename_i h4
       try simp only[h4]
       split at hk
       ·rename_i h5
        try simp only[h5]
        unfold pdK at hk⊢;rw[DF]at hk⊢;obtain⟨p,hp,hk⟩:=hk;exact⟨p,hp,h _ _ _ (by simp[IY,EV]) (λ_=>⟨rfl,_,rfl⟩) hk⟩
       ·exact hk.elim
      ·exact hk.elim
     ·exact hk.elim
    ·exact hk.elim
   case unsafeString=>
    simp only[eop]at hk⊢;split at hk
    ·rename_i p n pt it h1 h2
     try simp only[h1,h2]
     rw[<-ha p (by rw[<-Array.mem_toList_iff,h1];simp),<-ha n (by rw[<-Array.mem_toList_iff,h1];simp)];split at hk
     ·rename_i u h3
      try simp only[h3]
      split at hk
      ·rename_i h4 h5
       try simp only[h4,h5]
       unfold usK at hk⊢;split at hk
       ·exact⟨hk.1,h _ _ _ (λ_=>rfl) (λ_=>⟨rfl,_,rfl⟩) hk.2⟩
       ·obtain⟨hc,hk⟩:=hk
        rw[DF]at hk⊢;obtain⟨l,hl,hk⟩:=hk;exact⟨hc,l,hl,h _ _ _ (λ_=>rfl) (λ_=>⟨rfl,_,rfl⟩) hk⟩
       ·exact hk.elim
      ·exact hk.elim
     ·exact hk.elim
    ·exact hk.elim
   simp only[eop]at hk⊢;split at hk
   ·rename_i a x t u h1 h2
    try simp only[h1,h2]
    have hax:ρ a=ρ' a:=ha a (by rw[<-Array.mem_toList_iff,h1];simp);have hxx:ρ x=ρ' x:=ha x (by rw[<-Array.mem_toList_iff,h1];simp);rw[<-hax,<-hxx];split at hk
    ·rename_i e h3
     try simp only[h3]
     split at hk
     ·rename_i i z h4 h5
      try simp only[h4,h5]
      rw[Al,DF]at hk⊢;obtain⟨hc,p,hp,hk2⟩:=hk;rw[Al]at hk2;refine⟨hc,p,hp,?_⟩;rw[Al];refine⟨hk2.1,?_⟩;have hk3:=hk2.2;split at hk3
      ·rename_i hms
       exact AaQ (λr st' hr=>h _ _ _ (λhp=>by simp[IY,EV,hms]at hp) (λ_=>⟨rfl,_,rfl⟩) hr) hk3
      ·exact SY (λr st' hb hr=>h _ _ _ (λ_=>hb) (λ_=>⟨rfl,_,rfl⟩) hr) hk3
     ·exact hk.elim
    ·exact hk.elim
   ·exact hk.elim
 | makeInterface t x=>
  simp only[eop]at hk⊢;rw[<-hρ x (by simp[Op.operands])];split at hk
  ·exact hk.elim
  ·exact h _ _ _ (λ_=>rfl) (λ_=>⟨rfl,_,rfl⟩) hk
  ·exact hk.elim
 | panic x=>
  simp only[eop]at hk⊢;rw[<-hρ x (by simp[Op.operands])];exact hk
 | _=>exact hk
theorem LV {st:St} {loc:List (Option (List TV))} {k:Nat} {c:Option (List TV)} {p:SV} (hp:∀off,p≠.loc k off) (j:Nat):Af st (loc.set k c) p j=Af st loc p j:=by
 cases p with
 | t v=>unfold Af;grind
 | loc i off=>
  grind [Af]
theorem QN {st:St} {loc:List (Option (List TV))} {k:Nat} {c:Option (List TV)} {p:SV} (hp:∀off,p≠.loc k off):∀(n j:Nat),AE st (loc.set k c) p j n=AE st loc p j n
 :=by intro a0;induction a0<;>simp_all[AE,LV]
theorem VB {P:Program} {st:St} {loc:List (Option (List TV))} {k:Nat} {c:Option (List TV)} {ρ:Operand->SV} {op:Op} (hρ:∀x,x∈op.operands->∀off,ρ x≠.loc k off):Cu P st (loc.set k c) ρ op=Cu P st loc ρ op:=by
 cases op with
 | load t a=>
  simp_all[Cu,QN,LV,Fk,Go.Op.operands]
 | unOp op t x=>cases op<;>rfl
 | makeFunc fn first cap=>cases fn<;>rfl
 | call c'=>
  obtain⟨callee,args,ts⟩:=c';cases callee<;>first | rfl | skip
  rename_i b;cases b<;>rfl
 | _=>rfl
theorem Oh {o:Option TV} {v:SV} (h:(Cl.opt o).Is v) {k off:Nat}:v≠.loc k off:=by obtain⟨x,_,rfl⟩:=h;simp
theorem Dn {x:TV} {v:SV} (h:(Cl.ok (.t x)).Is v) {k off:Nat}:v≠.loc k off:=by grind [Cl.Is]
theorem GX {b:Bool} {x:TV} {v:SV} (h:(Cl.chk b (.t x)).Is v) {k off:Nat}:v≠.loc k off:=by obtain⟨_,rfl⟩:=h;simp
theorem Ju {c:Prop} {x:TV} {v:SV} (h:(Cl.pre c (.t x)).Is v) {k off:Nat}:v≠.loc k off:=by obtain⟨_,rfl⟩:=h;simp
theorem binT_ne {P:Program} {op:BinOp} {t:TypeId} {x y:TV} {v:SV} (h:(binT P op t x y).Is v) {k off:Nat}:v≠.loc k off:=by
 unfold binT at h;split at h
 ·unfold nilP at h;split at h;exact h.elim;split at h;exact GX h;exact h.elim
 ·unfold nilS at h;split at h;exact h.elim;split at h;exact GX h;exact h.elim
 ·unfold aggN at h
  split at h
  ·split at h
   ·split at h
    ·exact Dn h
    ·exact h.elim
   ·exact h.elim
  ·exact h.elim
 ·unfold ptrN at h
  split at h
  ·split at h
   ·exact h.elim
   grind [Ju]
  ·exact h.elim
 ·unfold binV at h
  split at h
  ·split at h
   ·unfold shI at h;split at h;exact GX h;exact GX h;exact h.elim
   ·split at h
    ·unfold binI at h
     split at h
     ·exact Dn h
     ·exact Dn h
     ·exact Dn h
     ·exact GX h
     ·exact GX h
     ·exact Dn h
     ·exact Dn h
     ·exact Dn h
     ·exact Dn h
     ·split at h
      ·exact Dn h
      ·exact h.elim
    ·exact h.elim
  ·unfold binS at h
   split at h<;>first | exact Dn h | exact Ju h | exact h.elim
  ·split at h
   ·split at h<;>first | exact Dn h | exact h.elim
   ·exact h.elim
  ·exact h.elim
theorem convN_ne {P:Program} {st:St} {a b:TypeId} {x:TV} {v:SV} (h:(SQ P st a b x).Is v) {k off:Nat}:v≠.loc k off:=by
 unfold SQ at h;split at h
 ·exact Dn h
 ·exact Dn h
 ·split at h
  ·exact Oh h
  ·exact h.elim
 ·split at h
  ·exact h.elim
  grind [Ju]
 ·exact h.elim
theorem Z9 {P:Program} {t:TypeId} {x:TV} {lo hi mx:Option TV} {v:SV} (h:(Qg P t x lo hi mx).Is v) {k off:Nat}:v≠.loc k off:=by
 unfold Qg at h;split at h
 ·split at h<;>first | exact Dn h | exact Ju h | exact h.elim
 ·split at h
  ·exact h.elim
  ·split at h<;>first | exact Ju h | exact h.elim
 ·exact h.elim
theorem lenN_ne {P:Program} {t:TypeId} {x:TV} {v:SV} (h:(lenN P t x).Is v) {k off:Nat}:v≠.loc k off:=by
 unfold lenN at h;split at h<;>first | exact Dn h | exact GX h | exact h.elim
theorem lookN_ne {P:Program} {st:St} {t:TypeId} {x i:TV} {ok:Bool} {v:SV} (h:(SB P st t x i ok).Is v) {k off:Nat}:v≠.loc k off:=by
 unfold SB at h;split at h
 ·split at h
  ·split at h
   ·obtain⟨x,_,rfl⟩:=h;simp
   ·exact h.elim
  ·split at h
   ·obtain⟨x,_,rfl⟩:=h;simp
   ·exact h.elim
  ·exact h.elim
 ·exact h.elim
theorem Y3 {mx:Bool} {x y:TV} {v:SV} (h:(minN mx x y).Is v) {k off:Nat}:v≠.loc k off:=by
 unfold minN at h;split at h
 ·split at h
  ·exact Dn h
  ·exact h.elim
 ·exact h.elim
theorem Xt {P:Program} {st:St} {loc:List (Option (List TV))} {k:Nat} {ρ:Operand->SV} {op:Op} (hρ:∀x,x∈op.operands->∀off,ρ x≠.loc k off) {v:SV} (h:(Cu P st loc ρ op).Is v):∀off,v≠.loc k off:=by
 intro off;unfold Cu at h;split at h
 ·grind [Cl.Is,Go.Op.operands]
 ·grind [Cl.Is,Go.Op.operands]
 ·grind [Cl.Is,Go.Op.operands]
 ·unfold Fk at h
  split at h
  ·exact Oh h
  ·exact Oh h
  ·exact h.elim
 ·grind [Cl.Is,Go.Op.operands]
 ·split at h
  ·split at h
   ·exact Dn h
   ·exact h.elim
  grind [binT_ne]
 ·split at h
  ·exact Dn h
  ·exact h.elim
 ·split at h
  ·exact Dn h
  ·exact h.elim
 ·exact convN_ne h
 ·split at h
  ·exact Dn h
  ·exact h.elim
 ·exact Z9 h
 ·grind [Cl.Is,Go.Op.operands]
 ·split at h
  ·exact Oh h
  ·exact h.elim
 ·split at h
  ·split at h
   ·split at h
    ·obtain⟨_,rfl⟩:=h
     grind [Go.Op.operands]
    ·exact h.elim
   ·exact h.elim
  ·split at h
   ·split at h
    ·exact Ju h
    ·exact h.elim
   ·exact h.elim
 ·split at h
  ·exact Ju h
  ·exact h.elim
 ·split at h
  ·exact Oh h
  ·exact h.elim
 ·split at h
  ·exact lenN_ne h
  ·exact h.elim
 ·split at h
  ·exact Oh h
  ·exact h.elim
 ·exact lookN_ne h
 ·unfold bslN at h
  split at h<;>first | exact h.elim | skip
  split at h<;>first | exact h.elim | skip
  split at h<;>first | exact h.elim | skip
  obtain⟨_,rfl⟩:=h;simp
 ·unfold bldN at h
  split at h
  ·split at h
   ·exact GX h
   ·exact h.elim
  ·split at h
   ·split at h
    ·exact GX h
    ·exact h.elim
   ·exact h.elim
  ·exact h.elim
 ·split at h
  ·exact Y3 h
  ·exact h.elim
 ·split at h
  ·exact Y3 h
  ·exact h.elim
 ·exact h.elim
theorem XY {cfg:Cfg} {P:Program} (o:Oper) {ρ:Operand->SV} {loc:List (Option (List TV))} {k:Nat} {c:List TV} {st:St} {K:SV->List (Option (List TV))->St->Prop} (hρ:∀x,x∈o.op.operands->∀off,ρ x≠.loc k off)
  (hk0:loc[k]? =some none) (hal:EG cfg.loc o.dst≠some k) (hk:eop cfg P o.dst o.type o.op ρ (loc.set k (some c)) st K):
  eop cfg P o.dst o.type o.op ρ loc st (λv loc' st'=>(∀off,v≠.loc k off)/\loc'[k]? =some none/\K v (loc'.set k (some c)) st'):=by
 have alK:∀T cells,Es T (EG cfg.loc o.dst) cells (loc.set k (some c)) st K->Es T (EG cfg.loc o.dst) cells loc st (λv loc' st'=>(∀off,v≠.loc k off)/\loc'[k]? =some none/\K v (loc'.set k (some c)) st'):=by
  intro T cells ha;unfold Es at ha⊢;grind [List.set_comm]
 cases hl:Ga o.op with
 | true=>
  obtain⟨dst,op,type,pos,after,guard⟩:=o;cases op<;>simp[Ga,Bool.false_eq_true]at hl
  ·grind [eop]
  ·grind [eop,Al]
  ·rename_i t a x
   simp only[eop]at hk⊢;have ha:=hρ a (by simp[Op.operands]);have hst:∀xs,stK st (loc.set k (some c)) (ρ a) xs (λloc' st'=>K (.t .undef) loc' st')->stK st loc (ρ a) xs λloc' st'=>(∀off,SV.t .undef≠.loc k off)/\loc'[k]? =some none/\K (.t .undef) (loc'.set k (some c)) st':=by
    intro xs hk2;unfold stK at hk2⊢
    all_goals grind [Al,List.set_comm]
   grind [Al]
 | false=>
  have h1:=EU (cfg:=cfg) (K':=λv _ st'=>(∀off,v≠.loc k off)/\loc[k]? =some none/\K v (loc.set k (some c)) st') o (ρ':=ρ) (λ_ _=>rfl) (λv loc' st' _ hloc hK=>by
   grind) hk
  have h2:eop cfg P o.dst o.type o.op ρ loc st (λv _ st'=>(∀off,v≠.loc k off)/\loc[k]? =some none/\K v (loc.set k (some c)) st'):=by
   obtain⟨dst,op,type,pos,after,guard⟩:=o;cases op<;>simp[Ga,Bool.true_eq_false]at hl<;>first | exact h1 | skip
   rename_i cl;obtain⟨callee,args,ts⟩:=cl;cases callee<;>first | exact h1 | skip
   rename_i b;cases b<;>exact h1
  refine EU (K:=λv _ st'=>(∀off,v≠.loc k off)/\loc[k]? =some none/\K v (loc.set k (some c)) st') o (ρ:=ρ) (λ_ _=>rfl) (λv loc' st' _ hloc hK=>?_) h2;simp_all
end Go.TVF
end
section
namespace Go.TVF
open Go.IntKind(i64 u8)
open Go.RowKit (Below)
theorem Ty (w:World) (a b:Addr) (u v:Value) (h:a.block≠b.block):(w.setCell a u).setCell b v=(w.setCell b v).setCell a u:=by
 unfold World.setCell;congr 1;grind
theorem RQ (w:World) (b o o':Nat) (u v:Value) (h:o≠o'):(w.setCell ⟨b,o,none⟩ u).setCell ⟨b,o',none⟩ v=(w.setCell ⟨b,o',none⟩ v).setCell ⟨b,o,none⟩ u:=by
 unfold World.setCell;congr 1;grind [Array.setIfInBounds_comm]
theorem Tx (w:World) (b o:Nat) (u v:Value):(w.setCell ⟨b,o,none⟩ u).setCell ⟨b,o,none⟩ v=w.setCell ⟨b,o,none⟩ v:=by
 unfold World.setCell;congr 1;apply Array.ext_getElem?;intro k;simp[Array.getElem?_modify];by_cases h1:b=k
 ·simp[h1,if_true,Option.map_map]
  congr 1;funext x;cases x<;>simp
 ·simp[h1]
theorem RO (b:Nat) (p:Addr) (u:Value) (h:p.block≠b):∀(vs:List Value) (o:Nat) (w:World),(w.setCell p u).setCells b o vs=(w.setCells b o vs).setCell p u
 :=by intro a0;induction a0<;>grind [Go.World.setCells,Ty]
theorem Qk (b o':Nat) (u:Value):∀(vs:List Value) (o:Nat) (w:World),o'<o->(w.setCell ⟨b,o',none⟩ u).setCells b o vs=(w.setCells b o vs).setCell ⟨b,o',none⟩ u
 :=by intro a0;induction a0<;>grind [Go.World.setCells,RQ]
theorem LS (b:Nat):∀(zs vs:List Value) (o:Nat) (w:World),zs.length=vs.length->(w.setCells b o zs).setCells b o vs=w.setCells b o vs
 | [],[],_,_,_=>rfl
 | [],_::_,_,_,h=>by simp at h
 | _::_,[],_,_,h=>by simp at h
 | z::zs,v::vs,o,w,h=>by
  rw[World.setCells,World.setCells,World.setCells,<-Qk b o v zs (o+1) _ (by omega),Tx,LS b zs vs (o+1) _ (by simpa using h)]
theorem Kz:∀(vs zs os rs:List Value) (w:World) (T:TypeId),vs.length=zs.length->
  (w.alloc (.cells (os++zs++rs).toArray T)).setCells w.heap.size os.length vs=w.alloc (.cells (os++vs++rs).toArray T)
 | [],[],os,rs,w,T,h=>rfl
 | [],_::_,_,_,_,_,h=>by simp at h
 | _::_,[],_,_,_,_,h=>by simp at h
 | v::vs,z::zs,os,rs,w,T,h=>by
  rw[World.setCells,World.setCell_alloc_at _ _ _ _ _ rfl];have e:(os++z::zs++rs).toArray.setIfInBounds os.length v=((os++[v])++zs++rs).toArray:=by
   simp
  rw[e];have:=Kz vs zs (os++[v]) rs w T (by simpa using h);rw[List.length_append]at this;simp only[List.length_singleton]at this;rw[this];simp
section
variable {P:Program} {g:Ak} {st:St} {loc:List (Option (List TV))} {w:World}
theorem WJ (s:Sim g st loc w) {t u ty e:TypeId} {i:TypeInfo} {z:Value} {du:TypeDesc} (ht:P.underlying t=some (.slice e)) (hu:P.underlying u=some du) (hdu:(∃e',du= .slice e')∨du= .string)
  (hi:P.info? e=some i) (hz0:i.zero=some z) (hzs:z.cells.size=i.size) (hs1:1<=i.size) (hb1:1<=i.bytes) {v:TV} {vv xv:Value} (hv:Rel g w v vv) {k:Nat} {zs:List Value}
  (hlen:(Builtin.lenOf xv).run P w= .ok k w) (hf:(Builtin.firstCells i.size k xv).run P w= .ok zs.toArray w) (hfd:(Builtin.firstCells i.size k xv).run P w.drew= .ok zs.toArray w.drew)
  (hzl:zs.length=k*i.size) (hz1:∀c∈zs,c.oneCell'=true) {ys:List TV} {vs:List Value} (hrv:AP g w ys vs) (hvl:vs.length=k*i.size) (hone:ys.all Av=true) (hk0:0<k)
  {K:SV->List (Option (List TV))->St->Prop} (h:Bn e i.size i.bytes v k ys st λr st'=>K (.t r) loc st'):
  ∃b o n cap w1,(Builtin.append_ #[t,u] ty #[vv,xv]).run P w= .ok (.slice (some ⟨b,o,none⟩) (n+k) cap) w1/\n=lenS v/\
   (∀j,j<k*i.size->(w1.cell? ⟨b,o+n*i.size+j,none⟩).isSome=true/\w1.frozen? ⟨b,o+n*i.size+j,none⟩=false)/\(∀q,Dom st loc q->g.at q≠b)/\Sim g st loc w1/\Ext g w g w1/\
   GL g w loc K (.slice (some ⟨b,o,none⟩) (n+k) cap) (w1.setCells b (o+n*i.size) vs):=by
 have hyl:=hrv.1.trans hvl;obtain⟨sd,ed⟩:=s.drew
 --a new row
 have hnew:∀(g1:Ak) (st1:St) (T':Option Nat) (n:Nat) (os:List Value) (xs:List TV) (base:Option Addr) (cap:Nat),(∀t,T'=some t->t=e)->Sim g1 st1 loc w.drew->Ext g w g1 w.drew->g1.lam=g.lam->AP g w xs os->os.length=n*i.size->
   (Builtin.append_ #[t,u] ty #[vv,xv]).run P w= .ok (.slice (some ⟨w.heap.size,0,none⟩) (n+k) (grownCap w (n+k) cap e)) (w.drew.alloc (.cells ((os++zs).toArray++Builtin.zeroCells z.cells (grownCap w (n+k) cap e-(n+k))) e))->n=lenS v->
   K (.t (.list i.size (.own st1.nt) (n+k) (xs++ys))) loc (st1.fresh T')->
   ∃b o n cap w1,(Builtin.append_ #[t,u] ty #[vv,xv]).run P w= .ok (.slice (some ⟨b,o,none⟩) (n+k) cap) w1/\n=lenS v/\
    (∀j,j<k*i.size->(w1.cell? ⟨b,o+n*i.size+j,none⟩).isSome=true/\w1.frozen? ⟨b,o+n*i.size+j,none⟩=false)/\(∀q,Dom st loc q->g.at q≠b)/\Sim g st loc w1/\Ext g w g w1/\
    GL g w loc K (.slice (some ⟨b,o,none⟩) (n+k) cap) (w1.setCells b (o+n*i.size) vs):=by
  intro g1 st1 T' n os xs base cap hT' s1 e1 hlam hro hol hrun hn hK;obtain⟨Z,hZ⟩:∃Z:Array Value,Z=Builtin.zeroCells z.cells (grownCap w (n+k) cap e-(n+k)):=⟨_,rfl⟩;rw[<-hZ]at hrun;have hsh:∀cs:List Value,(os++cs).toArray++Z=(os++cs++Z.toList).toArray:=λcs=>by grind
  rw[hsh]at hrun;have hset:=Kz vs zs os Z.toList w.drew e (by omega);have hdh:w.drew.heap.size=w.heap.size:=rfl;obtain⟨sa,ea,fa⟩:=sd.alloc (.cells (os++zs++Z.toList).toArray e);have hcells:=BX.alloc w.drew (os++zs++Z.toList) e;have hlt:∀j,j<k*i.size->0+n*i.size+j<(os++zs++Z.toList).length:=λj hj=>by grind
  refine⟨w.heap.size,0,n,grownCap w (n+k) cap e,_,hrun,hn,λj hj=>⟨?_,?_⟩,λq d hq=>?_,sa,ed.trans ea,?_⟩
  ·grind [BX.get]
  ·grind [BX.unfrozen]
  ·have:=(s.lo q d).2;omega
  ·have hos:0+n*i.size=os.length:=by omega
   rw[hos,<-hdh,hset];have hsz:((os++vs).toArray++Z).size=grownCap w (n+k) cap e*i.size:=by
    rw[hZ];exact Hl os vs z.cells n k _ i.size hol hvl hzs (grownCap_ge _ _ _ _)
   have hfr:=Fm (sz:=i.size) (n:=n+k) (cap:=grownCap w (n+k) cap e) (cells:=xs++ys) (vs:=(os++vs).toArray++Z) s1 e (0,0)
    (by
     have:((os++vs).toArray++Z).toList.take (xs++ys).length=os++vs:=by
      simp only[Array.toList_append];rw[show(xs++ys).length=(os++vs).length from by simp[hrv.1,hro.1]];grind
     grind [AP.ext,AP.append]) (by rw[List.length_append,hro.1,hol,hyl,Nat.add_mul]) (grownCap_ge _ _ _ _)
    hsz (λo _=>by simp) hT' (K:=K) hK
   rw[hsh]at hfr;obtain⟨sv,l',st',g',h1,h2,h3,h4,h5⟩:=hfr;exact⟨sv,l',st',g',h1,h2,h3,e1.trans h4,λi x hx=>by rw[<-hlam];exact h5 i x hx⟩
 unfold Bn at h;split at h
 ·--nil
  cases hv;split at h
  ·omega
  ·rename_i m
   rw[Al]at h;obtain⟨hble,hK⟩:=h;have hb:=Nat.le_of_ble_eq_true hble;have hrun:=Dv t u ty e i z du ht hu hdu hi hz0 none 0 0 (m+1) xv [] zs hlen hfd (by simp[Builtin.firstCells]) (by omega) (by grind) hb1;exact hnew g st (some e) 0 [] [] none 0 (λt ht=>by grind) sd ed rfl (AP.nil _ _) (by simp) hrun rfl (by grind)
 ·rename_i s' tip n xs
  split at h
  ·rename_i hss
   have hs':=Nat.eq_of_beq_eq_true hss;subst hs';obtain⟨hbytes,h⟩:=h;cases hv with
   | listE _ _ a htip=>
    have hfo:∀w:World,(Builtin.firstCells i.size 0 (.slice (some a) 0 0)).run P w= .ok ([]:List Value).toArray w:=λw=>run_firstCells_some (P:=P) w i.size 0 a 0 0 [] (by simp) (λj v hj=>by grind);split at h
    ·split at h
     ·omega
     ·rename_i m
      exact hnew g st _ 0 [] [] (some a) 0 (λt ht=>by grind) sd ed rfl (AP.nil _ _) (by simp) (Dv t u ty e i z du ht hu hdu hi hz0 (some a) 0 0 (m+1) xv [] zs hlen hfd (hfo _) (by omega) (by omega) hb1) rfl h
    all_goals grind
   | list _ _ _ _ b o cap us hl hn hc hr htip=>
    obtain⟨hro,hfo⟩:=Mz (P:=P) (cap:=cap) hl hc hr;have hol:((List.range xs.length).map us).length=n*i.size:=by simp[hl]
    have hgrow:∀(g1:Ak) (st1:St) (T':Option Nat),(∀t,T'=some t->t=e)->Sim g1 st1 loc w.drew->Ext g w g1 w.drew->g1.lam=g.lam->¬n+k<=cap->K (.t (.list i.size (.own st1.nt) (n+k) (xs++ys))) loc (st1.fresh T')->_:=
     λg1 st1 T' hT' s1 e1 hlam hroom hK=>hnew g1 st1 T' n _ xs (some ⟨b,o,none⟩) cap hT' s1 e1 hlam hro hol (Dv t u ty e i z du ht hu hdu hi hz0 (some ⟨b,o,none⟩) n cap k xv _ zs hlen hfd hfo hroom hbytes hb1) rfl hK
    split at h
    ·--full
     have hcn:cap=n:=htip;split at h
     all_goals grind
    ·--own
     rename_i id;obtain⟨hlive,hK⟩:=h;have hid:=s.nt▸htip.1;have hne:=s.own id hid hlive;obtain⟨r0,hr0⟩:=Option.ne_none_iff_exists'.1 hne;have hreq:=htip.2 r0 hr0;subst hreq;simp only at hr0;by_cases hroom:n+k<=cap
     ·obtain⟨c1,c2,c3,c4,c5⟩:=s.spCell id b _ _ hr0
      have hns:n*i.size<=(n+k)*i.size:=Nat.mul_le_mul_right _ (by omega);have hks:(n+k)*i.size<=cap*i.size:=Nat.mul_le_mul_right _ hroom;have hnk:(n+k)*i.size=n*i.size+k*i.size:=Nat.add_mul _ _ _;have hkp:=Nat.mul_pos hk0 hs1;have hst:∀cs:List Value,cs.length=k*i.size->(∀c∈cs,c.oneCell'=true)->(storeCells ⟨b,o+n*i.size,none⟩ cs).run P w= .ok () (w.setCells b (o+n*i.size) cs):=λcs hcl hc1=>by
       have:=run_storeCells_cells (P:=P) b (o+n*i.size) cs 0 w (λj hj=>by
        obtain⟨v,hv⟩:=(c5 (o+n*i.size+j) (by omega) (by omega)).1;grind) (λj hj=>by
        grind) hc1
       omega
      have hin:∀cs:List Value,cs.length=k*i.size->∀j,j<cs.length->(w.setCells b (o+n*i.size) cs).cell? ⟨b,o+n*i.size+j,none⟩=some (cs.getD j Go.undef):=by
       intro cs hcl j hj;have:=World.cell?_setCells_in b cs (o+n*i.size) w (λj hj=>by
        obtain⟨v,hv⟩:=(c5 (o+n*i.size+j) (by omega) (by omega)).1;grind) j hj
       grind
      have hstep:∀cs:List Value,cs.length=k*i.size->Sim g st loc (w.setCells b (o+n*i.size) cs)/\Ext g w g (w.setCells b (o+n*i.size) cs):=by
       intro cs hcl;refine s.spWrite hr0 (by omega) (F9 _ _ _ _) (λk hk=>LX b k hk _ _ _) (λo' ho'=>?_) (λo' h1 h2=>?_) (λo'=>World.frozen?_setCells _ _ _ _ _) (Below.setCells c1 _ _ _ s.below) (λT=>Hr b T _ _ _)
       ·grind [Go.World.cell?_setCells_out]
       ·by_cases hlt:o'<o+n*i.size+cs.length
        ·have:=hin cs hcl (o'-(o+n*i.size)) (by omega)
         rw[show o+n*i.size+(o'-(o+n*i.size))=o' from by omega]at this;grind
        grind [Go.World.cell?_setCells_out]
      refine⟨b,o,n,cap,w.setCells b (o+n*i.size) zs,?_,rfl,λj hj=>⟨?_,?_⟩,c4,(hstep zs hzl).1,(hstep zs hzl).2,?_⟩
      ·rw[CI t u ty e i du ht hu hdu hi (some ⟨b,o,none⟩) n cap k xv zs hlen hf hroom]
       grind [Cf,Go.Result.andThen_ok]
      ·grind
      ·grind [Go.World.frozen?_setCells]
      ·rw[LS b zs vs _ _ (by omega)]
       have hin:=hin vs hvl;obtain⟨s1,e1⟩:=hstep vs hvl;obtain⟨s2,e2⟩:=s1.retire id;have hnprot:¬g.prot b:=λhp=>(s.protOk b hp).2.2.1 id _ _ hr0;have hspr:∀j r,(g.retire id).sp j=some r->j≠id/\g.sp j=some r:=by
        grind [Ak.retire]
       obtain⟨s3,e3⟩:=s2.settle (λa=>a.block=b/\a.spot=none/\o+n*i.size<=a.off/\a.off<o+(n+k)*i.size) (λa ha=>by
        obtain⟨h1,h2,h3,h4⟩:=ha;refine⟨h2,⟨vs.getD (a.off-(o+n*i.size)) Go.undef,?_⟩,λq d=>by rw[h1];exact c4 q d,λj l' h' hj=>?_⟩
        ·have:=hin (a.off-(o+n*i.size)) (by omega)
         rw[show o+n*i.size+(a.off-(o+n*i.size))=a.off from by omega]at this;cases a;grind
        ·obtain⟨hji,hj'⟩:=hspr j _ hj
         rw[h1]at hj';have:=s.spApart j id b _ _ _ _ hji hj' hr0;omega) (λa ha=>by rw[ha.1];exact hnprot)
       have hS3:∀a,((g.retire id).settle λa=>a.block=b/\a.spot=none/\o+n*i.size<=a.off/\a.off<o+(n+k)*i.size).S a->a.block=b->¬(o+(n+k)*i.size<=a.off/\a.off<o+cap*i.size):=by
        intro a ha hab hh;rcases ha with ha | ha
        ·have:=(s.sCell a ha).2.2.2 id (o+n*i.size) (o+cap*i.size) (by grind)
         omega
        omega
       obtain⟨s4,e4,hsp4⟩:=s3.fresh b (o+(n+k)*i.size) (o+cap*i.size) (.inl c1) c1 (by grind [F9]) (by omega) c4 (λo' h1 h2=>by
         rw[World.cell?_setCells_out b vs _ w _ (λ_ _=>by grind),World.frozen?_setCells];exact c5 o' (by omega) h2) hS3 hnprot (λj l' h' hj=>by
         obtain⟨hji,hj'⟩:=hspr j _ hj;have:=s.spApart j id b _ _ _ _ hji hj' hr0;omega) (λj r hj=>by obtain⟨hji,hj'⟩:=hspr j _ hj;exact s.spTop id b _ _ hr0 j r hji hj') (T:=P0 e (st.ty id)) (λt ht=>by rw[(Ff ht).1];grind [Sim.spTy,Ff])
       have eall:=e1.trans (e2.trans (e3.trans e4));refine⟨_,_,_,_,hK,s4,?_,eall,λj x hj=>⟨rfl,x,hj⟩⟩;refine Rel.list i.size (.own st.nt) (n+k) (xs++ys) b o cap (λj=>if j<xs.length then us j else vs.getD (j-xs.length) Go.undef) (by grind) hroom (λj hj=>?_) (λj hj=>?_) ⟨?_,λr hr'=>?_⟩
       ·by_cases hjx:j<xs.length
        ·grind [Ext.S]
        ·rw[if_neg hjx]
         rw[List.length_append]at hj;have hjv:j-xs.length<vs.length:=by omega
         have:=hin (j-xs.length) hjv;rw[show o+n*i.size+(j-xs.length)=o+j from by omega]at this;exact⟨.inr ⟨rfl,rfl,by grind,by grind⟩,this⟩
       ·by_cases hjx:j<xs.length
        ·grind [Rel.ext]
        ·rw[if_neg hjx,List.getElem_append_right (by omega)]
         exact(hrv.2 _ (by grind)).ext eall
       ·show st.nt<g.nt+1
        grind [Sim.nt]
       grind [St.retire]
     ·obtain⟨s2,e2⟩:=sd.retire id
      exact hgrow (g.retire id) (st.retire id) _ (λt ht=>(Ff ht).1) s2 (ed.trans e2) rfl hroom hK
    grind
  grind
 grind
end
theorem eop_keep {cfg:Cfg} {P:Program} (o:Oper) {ρ:Operand->SV} {loc:List (Option (List TV))} {st:St} {K:SV->List (Option (List TV))->St->Prop} (hk:eop cfg P o.dst o.type o.op ρ loc st K):
  eop cfg P o.dst o.type o.op ρ loc st (λv loc' st'=>K v loc' st'/\(∀(k:Nat) (l:List TV),loc[k]? =some (some l)->(∀t a x,o.op= .store t a x->∀off,ρ a≠.loc k off)->loc'[k]? =loc[k]?)/\
   ((∀t a x,o.op= .store t a x->∃m off,ρ a= .loc m off)->(∀t,o.op= .alloc t->(EG cfg.loc o.dst).isSome=true)->(∀t x,o.op≠.box t x)->Ga o.op=true->st'=st)):=by
 rcases Bool.eq_false_or_eq_true (Ga o.op)with hl | hl
 case inr=>exact EU o (λ_ _=>rfl) (λv loc' st' hbx hlc hK=>⟨hK,λk l _ _=>by simp_all,λ_ _ _ h=>by simp_all⟩) hk
 case inl=>
  obtain⟨dst,op,type,pos,after,guard⟩:=o;have alK:∀T cells,Es T (EG cfg.loc dst) cells loc st K->((∀t x,op≠.box t x)->(∃t,op= .alloc t))->Es T (EG cfg.loc dst) cells loc st (λv loc' st'=>K v loc' st'/\(∀(k:Nat) (l:List TV),loc[k]? =some (some l)->(∀t a x,op= .store t a x->∀off,ρ a≠.loc k off)->loc'[k]? =loc[k]?)/\
    ((∀t a x,op= .store t a x->∃m off,ρ a= .loc m off)->(∀t,op= .alloc t->(EG cfg.loc dst).isSome=true)->(∀t x,op≠.box t x)->Ga op=true->st'=st)):=by
   intro T cells ha hop;unfold Es at ha⊢;grind
  cases op<;>simp[Ga,Bool.false_eq_true]at hl
  ·grind [eop]
  ·grind [eop,Al]
  ·rename_i t a x
   simp only[eop]at hk⊢;have hst:∀xs,stK st loc (ρ a) xs (λloc' st'=>K (.t .undef) loc' st')->stK st loc (ρ a) xs λloc' st'=>K (.t .undef) loc' st'/\(∀(k:Nat) (l:List TV),loc[k]? =some (some l)->(∀t' a' x',Op.store t a x= .store t' a' x'->∀off,ρ a'≠.loc k off)->loc'[k]? =loc[k]?)/\
     ((∀t' a' x',Op.store t a x= .store t' a' x'->∃m off,ρ a'= .loc m off)->(∀t',Op.store t a x= .alloc t'->(EG cfg.loc dst).isSome=true)->(∀t' x',Op.store t a x≠.box t' x')->Ga (Op.store t a x)=true->st'=st):=by
    intro xs hk2;unfold stK at hk2⊢;split at hk2
    all_goals grind [Al]
   grind [Al]
inductive Rk where
 | none
 | loc (k:Nat)
 | mem
def Mr (slots:Be):Op->Rk
 | .load _ a=>match opS slots a with | .loc k _=> .loc k | .t _=> .mem
 | .convert _ _ _=> .mem
 | .lookup _ _ _ _=> .mem
 | _=> .none
theorem Aag {slots:Be} {op:Op} (h:Mr slots op= .none):IX op=false:=by
 cases op<;>simp[Mr,IX]at h⊢<;>try cases h
 grind
theorem Vm {slots:Be} {op:Op} {k:Nat} (h:Mr slots op= .loc k):∃t a off,op= .load t a/\opS slots a= .loc k off:=by
 cases op<;>simp[Mr]at h<;>try cases h
 grind
theorem SD {st st':St} {loc loc':List (Option (List TV))} {k off:Nat} (h:loc'[k]? =loc[k]?) (j:Nat):Af st loc (.loc k off) j=Af st' loc' (.loc k off) j:=by
 grind [Af]
theorem XC {st st':St} {loc loc':List (Option (List TV))} {k off:Nat} (h:loc'[k]? =loc[k]?):∀(n j:Nat),AE st loc (.loc k off) j n=AE st' loc' (.loc k off) j n
 :=by intro a0;induction a0<;>grind [AE,SD]
theorem loadN_at {P:Program} {st st':St} {loc loc':List (Option (List TV))} {k off:Nat} (h:loc'[k]? =loc[k]?) (t:TypeId):Fk P st loc t (.loc k off)=Fk P st' loc' t (.loc k off):=by
 grind [Fk,XC,SD]
theorem VL {P:Program} {st:St} {loc:List (Option (List TV))} {k off:Nat} {t:TypeId} {v:SV} (h:(Fk P st loc t (.loc k off)).Is v):∃l,loc[k]? =some (some l):=by
 have key:∀j x,Af st loc (.loc k off) j=some x->∃l,loc[k]? =some (some l):=λj x hx=>by
  grind [Af]
 unfold Fk at h;split at h
 ·obtain⟨x,hx,_⟩:=h
  cases hc:P.cellsOf t<;>grind [AE]
 ·obtain⟨x,hx,_⟩:=h
  grind
 ·exact h.elim
theorem nres_mem {P:Program} {s:St} {loc loc':List (Option (List TV))} {slots:Be} {op:Op} (h:Mr slots op= .mem):Cu P s loc (opS slots) op=Cu P s loc' (opS slots) op:=by
 cases op<;>simp[Mr]at h<;>try cases h
 all_goals grind [Cu,Gm,FU,Fk]
end Go.TVF
end
section
namespace Go.TVF
open Go.IntKind(i64 u8)
open Go.RowKit (Below)
section
variable {P:Program} {ops:Array Oper} {Q:Exit->Act->World->Prop}
def Fb (P:Program) (a:Act) (o:Oper) (w:World) (u:Value) (w':World):Prop:=Ru P (execOp a.eval o) w λv w''=>v=u/\w''=w'
theorem Hb {i:Nat} {o:Oper} {a:Act} {w w':World} {u:Value} {next:Act->World->Prop} (ho:ops[i]? =some o) (hg:o.guard=none) (h:Fb P a o w u w') (hn:next (a.put o.dst u) w'):wpOp P ops Q i next a w:=by
 unfold wpOp;simp[ho];rw[if_pos (by simp[Region.wanted,hg])];exact .inl (done_wp h λv w'' hv=>by grind)
def BU (b:Bool) (a:Act) (d:Nat) (v:Value):Act:=match b with | true=>a.put (some d) v | false=>a
def onAt (i:Nat) (o:Oper):Prop:=∃e∈o.after,Region.binds .any e=true/\e.on=i
def Lst (r:Nat) (x s f h:Bool) (listed:Array Bool):Prop:=
 listed.size=r+5/\(∀j,j<=r->listed.getD j false=true)/\listed.getD (r+1) false=x/\listed.getD (r+2) false=s/\listed.getD (r+3) false=f/\listed.getD (r+4) false=h
theorem Oq {listed:Array Bool} {i:Nat} (h:i<listed.size):(listed.setIfInBounds i true).getD i false=true:=by
 simp_all
theorem getD_tf {listed:Array Bool} {i:Nat} (h:i<listed.size):listed.getD i true=listed.getD i false:=by
 grind
theorem hole4 {r:Nat} {oX oS oF oH:Oper} {dX dF:Nat} {pX pF:Value} {a1:Act} {W:Bool->Bool->World}
  (hX:ops[r+1]? =some oX) (hS:ops[r+2]? =some oS) (hF:ops[r+3]? =some oF) (hH:ops[r+4]? =some oH) (hsz:ops.size=r+5)
  (gX:oX.guard=none) (gS:oS.guard=none) (gF:oF.guard=none) (gH:oH.guard=none)
  (xX:oX.dst=some dX) (xS:oS.dst=none) (xF:oF.dst=some dF) (xH:oH.dst=none) (hne:dX≠dF)
  (eX:∀e∈oX.after,Region.binds .any e=true->e.on<=r) (eS:∀e∈oS.after,Region.binds .any e=true->e.on<=r+1)
  (eF:∀e∈oF.after,Region.binds .any e=true->e.on<=r) (eH:∀e∈oH.after,Region.binds .any e=true->e.on<=r∨e.on=r+3)
  (bS:onAt (r+1) oS) (bH:onAt (r+3) oH)
  (vX:∀f h,Fb P (BU f a1 dF pF) oX (W false h) pX (W false h))
  (vS:∀f h,Fb P (BU true (BU f a1 dF pF) dX pX) oS (W false h) Go.undef (W true h))
  (vF:∀x s,Fb P (BU x a1 dX pX) oF (W s false) pF (W s false))
  (vH:∀x s,Fb P (BU x (BU true a1 dF pF) dX pX) oH (W s false) Go.undef (W s true))
  (hQ:Q .normal (BU true (BU true a1 dF pF) dX pX) (W true true)):
  ∀(n:Nat) (x s f h:Bool) (listed:Array Bool),(!x).toNat+(!s).toNat+(!f).toNat+(!h).toNat=n->(s=true->x=true)->(h=true->f=true)->Lst r x s f h listed->
   wpAny P .any ops Q n listed (BU x (BU f a1 dF pF) dX pX) (W s h):=by
 have comm:∀x,(BU x a1 dX pX).put (some dF) pF=BU x (BU true a1 dF pF) dX pX:=by
  intro x;cases x with
  | false=>rfl
  | true=>exact Act.put_comm (x:=some dX) (y:=some dF) a1 pX pF (λd hd h'=>by grind)
 intro n;induction n with
 | zero=>
  intro x s f h listed hn hsx hhf hL;obtain⟨l1,l2,l3,l4,l5,l6⟩:=hL;have hx:x=true:=by simp_all
  have hs:s=true:=by simp_all
  have hf:f=true:=by simp_all
  have hh:h=true:=by simp_all
  subst hx hs hf hh;refine⟨?_,hQ⟩;rw[List.eq_nil_iff_forall_not_mem];intro j hj;obtain⟨h0,o,ho,_⟩:=mem_ready.1 hj;have hlt:=hsz▸(Array.getElem?_eq_some_iff.1 ho).1;grind
 | succ n ih=>
  intro x s f h listed hn hsx hhf hL;have hL0:=hL;obtain⟨l1,l2,l3,l4,l5,l6⟩:=hL;have rd:∀(i:Nat) (o:Oper),ops[i]? =some o->i<r+5->listed.getD i false=false->(∀e∈o.after,Region.binds .any e=true->listed.getD e.on false=true)->i∈Region.ready .any ops listed:=λi o ho hi h0 hall=>
   mem_ready.2 ⟨by grind,o,ho,hall⟩
  refine⟨λh0=>?_,λi hi=>?_⟩
  ·exfalso
   have no:∀i,i∉Region.ready .any ops listed:=λi hi=>by simp_all
   cases x with
   | false=>grind
   | true=>
    cases s with
    | false=>
     grind
    | true=>
     cases f with
     | false=>grind
     | true=>
      cases h<;>grind
  ·obtain⟨h0,o,ho,hall⟩:=mem_ready.1 hi
   have hlt:=hsz▸(Array.getElem?_eq_some_iff.1 ho).1;rw[getD_tf (by omega)]at h0;have hr:r<i:=by
    grind
   have setL:∀j,j≠i->(listed.setIfInBounds i true).getD j false=listed.getD j false:=λj hj=>getD_set_ne false (Ne.symm hj);have self:=Oq (listed:=listed) (i:=i) (by omega);have low:∀j,j<=r->(listed.setIfInBounds i true).getD j false=true:=λj hj=>by grind
   have size:(listed.setIfInBounds i true).size=r+5:=by simp_all
   rcases (by omega:i=r+1∨i=r+2∨i=r+3∨i=r+4)with hi' | hi' | hi' | hi'
   ·subst hi'
    rw[l3]at h0;subst h0;have hs:s=false:=by grind
    subst hs;refine Hb hX gX (vX f h) ?_;rw[xX];exact ih true false f h _ (by grind) (λh=>by cases h) hhf ⟨size,low,self,(setL _ (by omega)).trans l4,(setL _ (by omega)).trans l5,(setL _ (by omega)).trans l6⟩
   ·subst hi'
    rw[l4]at h0;subst h0;have hx:x=true:=by
     obtain⟨e,he,hb,hon⟩:=bS;grind
    subst hx;refine Hb hS gS (vS f h) ?_;rw[xS];exact ih true true f h _ (by grind) (λ_=>rfl) hhf ⟨size,low,(setL _ (by omega)).trans l3,self,(setL _ (by omega)).trans l5,(setL _ (by omega)).trans l6⟩
   ·subst hi'
    rw[l5]at h0;subst h0;have hh:h=false:=by grind
    subst hh;refine Hb hF gF (vF x s) ?_;rw[xF];show wpAny P .any ops Q n _ ((BU x a1 dX pX).put (some dF) pF) (W s false);rw[comm];exact ih x s true false _ (by simp_all) hsx (λh=>by cases h) ⟨size,low,(setL _ (by omega)).trans l3,(setL _ (by omega)).trans l4,self,(setL _ (by omega)).trans l6⟩
   ·subst hi'
    rw[l6]at h0;subst h0;have hf:f=true:=by
     obtain⟨e,he,hb,hon⟩:=bH;grind
    subst hf;refine Hb hH gH (vH x s) ?_;rw[xH];exact ih x s true true _ (by simp_all) hsx (λ_=>rfl) ⟨size,low,(setL _ (by omega)).trans l3,(setL _ (by omega)).trans l4,(setL _ (by omega)).trans l5,self⟩
end
section
variable {P:Program} {g:Ak} {st:St} {loc:List (Option (List TV))} {w:World}
theorem Z7 (s:Sim g st loc w) {p:SV} {pv:Value} (hp:Cd g w loc p pv) {xs:List TV} {vs:List Value} (hcs:AP g w xs vs) {k:List (Option (List TV))->St->Prop} (h:stK st loc p xs k):
  ∃b o q loc' st',pv= .pointer (some ⟨b,o,none⟩)/\Dom st loc q/\g.at q=b/\(∀j,j<vs.length->(w.cell? ⟨b,o+j,none⟩).isSome=true/\w.frozen? ⟨b,o+j,none⟩=false)/\
   k loc' st'/\Sim g st' loc' (w.setCells b o vs)/\Ext g w g (w.setCells b o vs)/\(∀(i:Nat) (y:List TV),loc[i]? =some (some y)->∃z,loc'[i]? =some (some z)):=by
 have hvl:=hcs.1.symm;have cells:∀(q:Key) (l:List TV) (o:Nat),Dom st loc q->BO st loc q= .cells l->o+xs.length<=l.length->∀j,j<vs.length->(w.cell? ⟨g.at q,o+j,none⟩).isSome=true/\w.frozen? ⟨g.at q,o+j,none⟩=false:=by
  intro q l o d hl ho j hj;have ob:=s.obj q d;rw[hl]at ob;obtain⟨cs,hc,hrc⟩:=ob;have hlen:=hrc.1.symm;have:o+j<cs.length:=by omega
  exact⟨by rw[hc.get (List.getElem?_eq_getElem this)];rfl,hc.unfrozen this⟩
 unfold stK at h;split at h
 ·rename_i i off
  obtain⟨⟨l,hl⟩,rfl⟩:=hp;rw[hl]at h;simp only[Al]at h;obtain⟨hle,hk⟩:=h;have hle':=Nat.le_of_ble_eq_true hle;obtain⟨s',e'⟩:=Jq xs vs loc l w i off s hl hle' hcs;refine⟨_,off,.loc i,_,_,rfl,⟨l,hl⟩,rfl,cells (.loc i) l off ⟨l,hl⟩ (by grind [BO]) hle',hk,s',e',λj y hj=>?_⟩;grind
 ·rename_i b off
  cases hp with
  | box _ _ hb=>
   obtain⟨l,hl,hle,hk⟩:=h;have hb':=s.nb▸hb;obtain⟨s',e'⟩:=GT xs vs st l w b off s hb' hl hle hcs;exact⟨_,off,.box b,_,_,rfl,hb',rfl,cells (.box b) l off hb' (by grind [BO]) hle,hk,s',e',λj y hj=>⟨y,hj⟩⟩
 simp_all
theorem HV {t:TypeId} {d:TypeDesc} (hd:P.underlying t=some d) {v:Value} {b o:Nat} (hsz:v.cells.size=P.cellsOf t) (hone:∀c∈v.cells.toList,c.oneCell'=true)
  (hc:∀j,j<v.cells.toList.length->(w.cell? ⟨b,o+j,none⟩).isSome=true/\w.frozen? ⟨b,o+j,none⟩=false):
  (Instr.storeAt t (.pointer (some ⟨b,o,none⟩)) v).run P w= .ok () (w.setCells b o v.cells.toList):=by
 simp_all[KE,Go.run_storeCells_cells,Go.Instr.storeAt,Go.Instr.sureAddr,Go.storeVar]
def appP (o:Oper):Option (Nat×Operand×Operand×TypeId×TypeId):=
 match o.guard,o.dst,o.op with
 | none,some d,.call {callee:= .builtin .append,args,argTypes}=>match args.toList,argTypes.toList with
  | [a,x],[t,u]=>some (d,a,x,t,u)
  | _,_=>none
 | _,_,_=>none
def ixP (o:Oper):Option (Nat×TypeId×Nat×Operand):=match o.guard,o.dst,o.op with
 | none,some d,.indexAddr t (.tmp a) i=>some (d,t,a,i)
 | _,_,_=>none
def stP (o:Oper):Option (TypeId×Nat×Operand):=match o.guard,o.dst,o.op with
 | none,none,.store t (.tmp a) v=>some (t,a,v)
 | _,_,_=>none
def faP (o:Oper):Option (Nat×TypeId×Operand×Nat):=match o.guard,o.dst,o.op with
 | none,some d,.fieldAddr t x f=>some (d,t,x,f)
 | _,_,_=>none
theorem AaP {o:Oper} {d:Nat} {a x:Operand} {t u:TypeId} (h:appP o=some (d,a,x,t,u)):o.guard=none/\o.dst=some d/\o.op= .call {callee:= .builtin .append,args:= #[a,x],argTypes:= #[t,u]}:=by
 unfold appP at h;split at h
 ·rename_i args ts hg hd ho
  split at h
  ·rename_i a' x' t' u' hargs hts
   have ha:args= #[a',x']:=by grind
   have hta:ts= #[t',u']:=by grind
   grind
  ·cases h
 ·cases h
theorem ixP_spec {o:Oper} {d:Nat} {t:TypeId} {a:Nat} {i:Operand} (h:ixP o=some (d,t,a,i)):o.guard=none/\o.dst=some d/\o.op= .indexAddr t (.tmp a) i:=by
 grind [ixP]
theorem UZ {o:Oper} {t:TypeId} {a:Nat} {v:Operand} (h:stP o=some (t,a,v)):o.guard=none/\o.dst=none/\o.op= .store t (.tmp a) v:=by
 grind [stP]
theorem faP_spec {o:Oper} {d:Nat} {t:TypeId} {x:Operand} {f:Nat} (h:faP o=some (d,t,x,f)):o.guard=none/\o.dst=some d/\o.op= .fieldAddr t x f:=by
 grind [faP]
def WL (f:Nat->Bool):List Edge->Bool
 | []=>true
 | e::es=>match Region.binds .any e with | true=>(f e.on).and (WL f es) | false=>WL f es
def Uv (i:Nat):List Edge->Bool
 | []=>false
 | e::es=>(Region.binds .any e).and (e.on.beq i) |>.or (Uv i es)
theorem Lu {f:Nat->Bool}:∀{l:List Edge},WL f l=true->∀e∈l,Region.binds .any e=true->f e.on=true
 :=by intro a0;induction a0<;>grind [WL]
theorem OD {i:Nat}:∀{l:List Edge},Uv i l=true->∃e∈l,Region.binds .any e=true/\e.on=i
 :=by intro a0;induction a0<;>grind [Uv,Nat.eq_of_beq_eq_true]
def Jw (d:Nat):Operand->Bool
 | .tmp t=> !(t.beq d)
 | _=>true
theorem Eg {d:Nat} {x:Operand} (h:Jw d x=true):x≠.tmp d:=by
 grind [Jw,Nat.beq_refl]
def isS:Option TypeDesc->Bool
 | some _=>true
 | none=>false
def Zv:Nat->List Edge->Bool
 | 0,_=>true
 | n+1,l=>(Uv n l).and (Zv n l)
theorem X0:∀{n:Nat} {l:List Edge},Zv n l=true->∀i,i<n->Uv i l=true
 :=by intro a0;induction a0<;>grind [Zv]
def holeOk (r n:Nat) (oA oX oS oF oH:Oper) (dA dX dF a1 x1 f1:Nat) (iX vS xF vH:Operand):Bool:=
 (WL (λj=>j.ble r) oX.after.toList).and <| (WL (λj=>j.ble (r+1)) oS.after.toList).and <| (WL (λj=>j.ble r) oF.after.toList).and <| (WL (λj=>(j.ble r).or (j.beq (r+3))) oH.after.toList).and <|
 (Zv r oA.after.toList).and <| (Uv r oX.after.toList).and <| (Uv (r+1) oS.after.toList).and <| (Uv r oF.after.toList).and <| (Uv (r+3) oH.after.toList).and <|
 (a1.beq dA).and <| (x1.beq dX).and <| (f1.beq dF).and <| (!(dX.beq dF)).and <| (!(dA.beq dX)).and <| (!(dA.beq dF)).and <|
 ((dA+1).ble n).and <| ((dX+1).ble n).and <| ((dF+1).ble n).and <|
 (Jw dA iX).and <| (Jw dF iX).and <| (Jw dA vS).and <| (Jw dX vS).and <| (Jw dF vS).and <| (Jw dA xF).and <| (Jw dX xF).and <|
 match vH with | .tmp t=>t.beq dA | _=>false
def holeK (P:Program) (l:List Oper) (r:Nat) (K:Fr->St->Prop) (fr:Fr) (st:St):Prop:=
 match l with
 | [oA,oX,oS,oF,oH]=>match appP oA,ixP oX,stP oS,faP oF,stP oH with
  | some (dA,a,x,t,u),some (dX,tX,a1,iX),some (tS,x1,vS),some (dF,tF,xF,fF),some (tH,f1,vH)=>
   need (holeOk r fr.slots.n oA oX oS oF oH dA dX dF a1 x1 f1 iX vS xF vH) (match DK P t,DK P tX with
   | some e,some e'=>match P.info? e,GN P e with
    | some i,some z=>need ((e'.beq e).and <| (VT (P.underlying u)).and <| (z.length.beq i.size).and <| (Nat.ble 1 i.size).and <| (Nat.ble 1 i.bytes).and <| (isS (P.underlying tS)).and <| (isS (P.underlying tH)).and <| ((P.cellsOf tS).beq i.size).and ((P.cellsOf tH).beq 1))
     ((Cu P st fr.loc (opS fr.slots) oF.op).K λq=>AS (DW st i.size (opS fr.slots x).tv) λp=>need ((p.1.beq 1).and (p.2.all Av)) (match (opS fr.slots iX).tv with
      | .int _ ix=>AS (HE (opS fr.slots vS).tv) λys=>need (ys.length.beq i.size) (need (ys.all Av) (ix=(lenS (opS fr.slots a).tv:Int)/\
        Bn e i.size i.bytes (opS fr.slots a).tv 1 ys st λv st1=>stK st1 fr.loc q [v] λloc' st'=>K ⟨BA (BA (BA fr.slots (some dA) (.t v)) (some dF) q) (some dX) (.t .junk),loc'⟩ st'))
      | _=>False))
    | _,_=>False
   | _,_=>False)
  | _,_,_,_,_=>False
 | _=>False
theorem Oj {P:Program} {s s':St} {loc loc':List (Option (List TV))} {ρ:Operand->SV} {op:Op} (h:IX op=false):Cu P s loc ρ op=Cu P s' loc' ρ op:=by
 cases op<;>first | (simp[IX]at h;done) | rfl | skip
 ·rename_i a b c;cases a<;>rfl
 ·rename_i a b c;cases a<;>rfl
 ·rename_i c;obtain⟨callee,args,ts⟩:=c;cases callee<;>first | rfl | skip
  rename_i b;cases b<;>rfl
theorem Dw {b:Bool} {a:Act} {d:Nat} {v:Value} {x:Operand} (h:x≠.tmp d):(BU b a d v).eval x=a.eval x:=by
 cases b with
 | false=>rfl
 | true=>exact Act.eval_put (λd' hd=>by simp_all)
theorem Ms {a:Act} {d:Nat} {v:Value} (h:d<a.tmps.size):(BU true a d v).eval (.tmp d)=v:=by
 simp[BU,Act.put,Act.eval,h]
theorem Qn {b:Bool} {a:Act} {d:Nat} {v:Value}:(BU b a d v).tmps.size=a.tmps.size:=by
 cases b<;>simp[BU,Act.put]
theorem Vp {loc:List (Option (List TV))} {q:SV} {xs:List TV} {k:List (Option (List TV))->St->Prop} (h:stK st loc q xs k) {u u':Value} (h1:Cd g w loc q u) (h2:Cd g w loc q u'):u=u':=by
 unfold stK at h;split at h
 ·exact h1.2.trans h2.2.symm
 ·exact(Rel.box_inv h1).2.trans (Rel.box_inv h2).2.symm
 simp_all
theorem ptr_dom {st1:St} (s:Sim g st loc w) {q:SV} {xs:List TV} {k:List (Option (List TV))->St->Prop} (h:stK st1 loc q xs k) {b o:Nat} (h1:Cd g w loc q (.pointer (some ⟨b,o,none⟩))):∃qk,Dom st loc qk/\g.at qk=b:=by
 unfold stK at h;split at h
 ·rename_i i off
  obtain⟨⟨l,hl⟩,hv⟩:=h1;simp at hv;exact⟨.loc i,⟨l,hl⟩,hv.1.symm⟩
 ·rename_i i off
  obtain⟨hb,hv⟩:=Rel.box_inv h1;simp at hv;exact⟨.box i,(s.nb▸hb:i<st.nb),hv.1.symm⟩
 simp_all
theorem XM {ops:Array Oper} {K:Fr->St->Prop} {fr:Fr} {r:Nat} {listed:Array Bool} (hsz:ops.size=r+5) (hmem:r∈Region.ready .any ops listed) (hone:∀i∈Region.ready .any ops listed,i=r)
  (hls:listed.size=ops.size) (hlo:∀j,j<r->listed.getD j false=true) (hhi:∀j,r<=j->listed.getD j false=false) (h:holeK P (ops.toList.drop r) r K fr st):
  (∀(i:Nat) (l0:Array Bool),l0.setIfInBounds i true=listed->i∈Region.ready .any ops l0->∀j∈Region.ready .any ops l0,j=i)/\
  ∀(g:Ak) (w:World) (a:Act) (Q:Exit->Act->World->Prop),Sim g st fr.loc w->DM g w fr a.tmps->(∀a' w',JX g w a K a' w'->Q .normal a' w')->wpAny P .any ops Q 5 listed a w:=by
 unfold holeK at h;split at h
 case h_2=>simp_all
 rename_i oA oX oS oF oH hdrop;have at_:∀k,k<5->ops[r+k]? =[oA,oX,oS,oF,oH][k]? :=λk hk=>by
  grind
 have hA:=at_ 0 (by omega);have hX:=at_ 1 (by omega);have hS:=at_ 2 (by omega);have hF:=at_ 3 (by omega);have hH:=at_ 4 (by omega);split at h
 case h_2=>simp_all
 rename_i dA sa sx t u dX tX a1 iX tS x1 vS dF tF xF fF tH f1 vH pA pX pS pF pH;obtain⟨gA,xA,qA⟩:=AaP pA;obtain⟨gX,xX,qX⟩:=ixP_spec pX;obtain⟨gS,xS,qS⟩:=UZ pS;obtain⟨gF,xFd,qF⟩:=faP_spec pF;obtain⟨gH,xH,qH⟩:=UZ pH;rw[Al]at h;obtain⟨hok,h⟩:=h;simp only[holeOk,Bool.and_eq_true]at hok;obtain⟨k1,k2,k3,k4,k5,k6,k7,k8,k9,k10,k11,k12,k13,k14,k15,k16,k17,k18,k19,k20,k21,k22,k23,k24,k25,k26⟩:=hok;simp at k13 k14 k15;have j10:=Nat.eq_of_beq_eq_true k10;have j11:=Nat.eq_of_beq_eq_true k11;have j12:=Nat.eq_of_beq_eq_true k12;have hXF:dX≠dF:=λe=>by grind
 have hAX:dA≠dX:=λe=>by grind
 have hAF:dA≠dF:=λe=>by grind
 subst a1 x1 f1;have hvH:vH= .tmp dA:=by
  grind [Nat.eq_of_beq_eq_true]
 subst hvH;have n16:=Nat.le_of_ble_eq_true k16;have n17:=Nat.le_of_ble_eq_true k17;have n18:=Nat.le_of_ble_eq_true k18;refine⟨λi l0 hset hi j hj=>?_,λg w a Q s hf hq=>?_⟩
 ·--the last come last
  rcases Nat.decEq j i with hne | he
  case isTrue=>exact he
  exfalso;have hj':=ready_mono hj hne;rw[hset]at hj';have hjr:=hone j hj';subst hjr;obtain⟨hu,oi,hoi,_⟩:=mem_ready.1 hi;have hil:i<l0.size:=by
   grind
  have hir:i<j:=by
   grind [Oq]
  obtain⟨e,he,hb,hon⟩:=OD (X0 k5 i hir);obtain⟨_,oj,hoj,hall⟩:=mem_ready.1 hj;grind
 ·split at h
  case h_2=>simp_all
  rename_i e e' he he';split at h
  case h_2=>simp_all
  rename_i i z hi hz;rw[Al]at h;obtain⟨hty,h⟩:=h;simp only[Bool.and_eq_true]at hty;obtain⟨t1,t2,t3,t4,t5,t6,t7,t8,t9⟩:=hty;have te:=Nat.eq_of_beq_eq_true t1;subst te;obtain⟨q,hqn,h⟩:=Cl.K_iff.1 h;rw[DF]at h;obtain⟨⟨k,zs⟩,hsrc,h⟩:=h;rw[Al]at h;obtain⟨hkz,h⟩:=h;simp only[Bool.and_eq_true]at hkz;obtain⟨hk1,hzone⟩:=hkz;have hk:=Nat.eq_of_beq_eq_true hk1;subst hk;split at h
  case h_2=>simp_all
  rename_i ik ix hix;rw[DF]at h;obtain⟨ys,hys,h⟩:=h;rw[Al,Al]at h;obtain⟨hyl,hyone,hixe,h⟩:=h;have hyl:=Nat.eq_of_beq_eq_true hyl;obtain⟨du,hdu,hcase⟩:=OS t2;obtain⟨zv,hzv,hze⟩:=L9 hz hi;have hzs:zv.cells.size=i.size:=by grind [Nat.eq_of_beq_eq_true]
  have hop:=λx=>Px hf x;obtain⟨zc,hzr,hzl,hlen,hfc,hfd⟩:=JN (P:=P) s (hop sx).tv hsrc;have hvr:=JJ (hop vS).tv hys;generalize hxv:a.eval vS=xv at hvr;have hvl:xv.cells.toList.length=1*i.size:=by rw[<-hvr.1,hyl,Nat.one_mul]
  obtain⟨b,o,n,cap,w1,hrun,hn,hcell,hdom,s1,e1,hleft⟩:=WJ (P:=P) (ty:=oA.type) s (HA he) hdu hcase hi hzv hzs (Nat.le_of_ble_eq_true t4) (Nat.le_of_ble_eq_true t5) (hop sa).tv hlen hfc hfd hzl (Rl hzr hzone) hvr hvl hyone (by omega)
   (K:=λsv l st'=>l=fr.loc/\∃v,sv= .t v/\stK st' fr.loc q [v] λloc' st''=>K ⟨BA (BA (BA fr.slots (some dA) (.t v)) (some dF) q) (some dX) (.t .junk),loc'⟩ st'')
   (SY (λv st' _ hv=>⟨rfl,v,rfl,hv⟩) h)
  obtain⟨sv,loc1,st1,g1,⟨rfl,v,rfl,hst⟩,S1,r1,E1,L1⟩:=hleft;obtain⟨sl,hsl⟩:∃sl,sl=Value.slice (some ⟨b,o,none⟩) (n+1) cap:=⟨_,rfl⟩;rw[<-hsl]at hrun r1;have hslc:sl.cells.toList=[sl]:=by rw[hsl];rfl
  have hslo:sl.oneCell'=true:=by rw[hsl];rfl
  have readF:IX oF.op=false:=by rw[qF];rfl
  have opsF:∀x,x∈oF.op.operands->x=xF:=λx hx=>by grind [Go.Op.operands]
  have runF:∀(ρc ρc':Operand->Value) (w':World) (u:Value),ρc xF=ρc' xF->(execOp ρc oF).run P w'= .ok (.value u) w'->(execOp ρc' oF).run P w'= .ok (.value u) w':=by
   grind [Go.execOp]
  obtain⟨u0,hu0,ru0⟩:=Jv (P:=P) s oF (by rw[qF];rfl) (λx _=>hop x) hqn;have hsr:AP g1 (w1.setCells b (o+n*i.size) xv.cells.toList) [v] [sl]:=⟨rfl,λj hj=>by
   have:j=0:=by grind
   subst this;exact r1⟩
  obtain⟨bH,oH',qk,loc',st',hp,_,hqk,hcH,hKf,S2,E2,L2⟩:=Z7 S1 (Cd.keep E1 L1 ru0) hsr hst;subst hp;obtain⟨qk0,dqk0,hqk0⟩:=ptr_dom s hst ru0;have hbH:bH≠b:=by grind
  --the pointer of the header,at each time
  have hF1:(execOp a.eval oF).run P w1= .ok (.value (.pointer (some ⟨bH,oH',none⟩))) w1:=by
   obtain⟨u,hu,ru⟩:=Jv (P:=P) s1 oF (by rw[qF];rfl) (λx _=>Cd.keep e1 (Ce.refl _ _) (hop x)) hqn;rw[Vp hst ru (Cd.keep e1 (Ce.refl _ _) ru0)]at hu;exact hu
  have hF2:(execOp a.eval oF).run P (w1.setCells b (o+n*i.size) xv.cells.toList)= .ok (.value (.pointer (some ⟨bH,oH',none⟩))) (w1.setCells b (o+n*i.size) xv.cells.toList):=by
   obtain⟨u,hu,ru⟩:=Jv (P:=P) S1 oF (by rw[qF];rfl) (λx _=>Cd.keep E1 L1 (hop x)) (by rw[Oj (s':=st) (loc':=fr.loc) readF];omega);rw[Vp hst ru (Cd.keep E1 L1 ru0)]at hu;exact hu
  --the worlds
  obtain⟨off,hoff⟩:∃off,off=o+n*i.size:=⟨_,rfl⟩;rw[<-hoff]at S1 hsr E1 hcH S2 E2 hF2 r1;simp[<-hoff]at hcell;obtain⟨vs,hvs⟩:∃vs,vs=xv.cells.toList:=⟨_,rfl⟩;rw[<-hvs]at hvl S1 hsr E1 hcH S2 E2 hF2 r1 hvr;obtain⟨W,hW⟩:∃W:Bool->Bool->World,W=λs h=>match s,h with
   | false,false=>w1 | true,false=>w1.setCells b off vs | false,true=>w1.setCells bH oH' [sl] | true,true=>(w1.setCells b off vs).setCells bH oH' [sl]:=⟨_,rfl⟩
  have W00:W false false=w1:=by rw[hW]
  have W10:W true false=w1.setCells b off vs:=by rw[hW]
  have W01:W false true=w1.setCells bH oH' [sl]:=by rw[hW]
  have W11:W true true=(w1.setCells b off vs).setCells bH oH' [sl]:=by rw[hW]
  have Ws:∀h,(W false h).setCells b off vs=W true h:=by
   intro h;cases h with
   | false=>grind
   | true=>
    rw[W01,W11];exact RO b ⟨bH,oH',none⟩ sl hbH vs off w1
  have Wh:∀s,(W s false).setCells bH oH' [sl]=W s true:=by
   intro s;cases s with
   | false=>rw[W00,W01]
   | true=>rw[W10,W11]
  have cS:∀h j,j<vs.length->((W false h).cell? ⟨b,off+j,none⟩).isSome=true/\(W false h).frozen? ⟨b,off+j,none⟩=false:=by
   intro h j hj;have:=hcell j (by omega);cases h with
   | false=>rw[W00];exact this
   | true=>rw[W01,World.cell?_setCells_out bH [sl] oH' w1 _ (λh _=>absurd h.symm hbH),World.frozen?_setCells];exact this
  have cH:∀s j,j< [sl].length->((W s false).cell? ⟨bH,oH'+j,none⟩).isSome=true/\(W s false).frozen? ⟨bH,oH'+j,none⟩=false:=by
   intro s j hj;have:=hcH j hj;cases s with
   | true=>rw[W10];exact this
   | false=>
    rw[World.cell?_setCells_out b vs off w1 _ (λh _=>absurd h hbH),World.frozen?_setCells]at this;rw[W00];exact this
  have allv:=Rl hvr hyone;obtain⟨dS,hdS⟩:∃d,P.underlying tS=some d:=by
   cases hq:P.underlying tS with
   | none=>rw[hq]at t6;cases t6
   | some d=>exact⟨d,rfl⟩
  obtain⟨dH,hdH⟩:∃d,P.underlying tH=some d:=by
   cases hq:P.underlying tH with
   | none=>rw[hq]at t7;cases t7
   | some d=>exact⟨d,rfl⟩
  have hcS:xv.cells.size=P.cellsOf tS:=by
   have h1:=Nat.eq_of_beq_eq_true t8;have h2:xv.cells.size=vs.length:=by rw[hvs];simp
   omega
  have hcHs:sl.cells.size=P.cellsOf tH:=by
   have h1:=Nat.eq_of_beq_eq_true t9;have h2:sl.cells.size=sl.cells.toList.length:=by simp
   rw[hslc]at h2;simp at h2;omega
  --the operations
  have asz:=hf.1.symm;obtain⟨a1,ha1⟩:∃a1,a1=BU true a dA sl:=⟨_,rfl⟩;have ha1s:a1.tmps.size=fr.slots.n:=by rw[ha1,Qn,asz]
  have evA:a1.eval (.tmp dA)=sl:=by rw[ha1];exact Ms (by omega)
  have ev1:∀x,x≠.tmp dA->a1.eval x=a.eval x:=λx hx=>by rw[ha1];exact Dw hx
  have vA:Fb P a oA w sl w1:=by
   obtain⟨c1,c2,c3,c4,c5,c6⟩:=oA;simp only at qA;subst qA;simp[Fb,Ru,execOp,resolve,invoke,Go.builtin,hrun]
  have vX:∀f h,Fb P (BU f a1 dF (.pointer (some ⟨bH,oH',none⟩))) oX (W false h) (.pointer (some ⟨b,off,none⟩)) (W false h):=by
   intro f h;have h1:(BU f a1 dF (.pointer (some ⟨bH,oH',none⟩))).eval (.tmp dA)=sl:=by rw[Dw (λe=>by cases e;exact hAF rfl),evA]
   have h2:(BU f a1 dF (.pointer (some ⟨bH,oH',none⟩))).eval iX= .int ik ix:=by
    rw[Dw (Eg k20),ev1 _ (Eg k19)];have:=(hop iX).tv;rw[hix]at this;generalize a.eval iX=y at this;cases this;rfl
   have hu:=HA he';have hsz':(sizeOf e').run P (W false h)= .ok i.size (W false h):=FR (by unfold Fs;rw[hi]) _;have hi0:0<=ix:=by omega
   have hi1:ix<(n:Int)+1:=by omega
   have hi2:ix.toNat=n:=by omega
   obtain⟨c1,c2,c3,c4,c5,c6⟩:=oX;simp only at qX;subst qX;simp[Fb,Ru,execOp,h1,h2,hsl,Instr.indexAt,asIntOf,Ax hu,hi0,hi1,hi2,hsz',Cf,hoff]
  have vS:∀f h,Fb P (BU true (BU f a1 dF (.pointer (some ⟨bH,oH',none⟩))) dX (.pointer (some ⟨b,off,none⟩))) oS (W false h) Go.undef (W true h):=by
   intro f h;have h1:(BU true (BU f a1 dF (.pointer (some ⟨bH,oH',none⟩))) dX (.pointer (some ⟨b,off,none⟩))).eval (.tmp dX)= .pointer (some ⟨b,off,none⟩):=Ms (by rw[Qn,ha1s];exact n17);have h2:(BU true (BU f a1 dF (.pointer (some ⟨bH,oH',none⟩))) dX (.pointer (some ⟨b,off,none⟩))).eval vS=xv:=by
    rw[Dw (Eg k22),Dw (Eg k23),ev1 _ (Eg k21),hxv]
   have h3:=HV (P:=P) (w:=W false h) hdS (v:=xv) (b:=b) (o:=off) hcS (by rw[<-hvs];exact allv) (by rw[<-hvs];exact cS h);rw[<-hvs,Ws]at h3;obtain⟨c1,c2,c3,c4,c5,c6⟩:=oS;simp only at qS;subst qS;simp[Fb,Ru,execOp,h1,h2,h3]
  have vF:∀x s,Fb P (BU x a1 dX (.pointer (some ⟨b,off,none⟩))) oF (W s false) (.pointer (some ⟨bH,oH',none⟩)) (W s false):=by
   intro x s;have h1:(BU x a1 dX (.pointer (some ⟨b,off,none⟩))).eval xF=a.eval xF:=by rw[Dw (Eg k25),ev1 _ (Eg k24)]
   have h2:(execOp (BU x a1 dX (.pointer (some ⟨b,off,none⟩))).eval oF).run P (W s false)= .ok (.value (.pointer (some ⟨bH,oH',none⟩))) (W s false):=by
    refine runF a.eval _ _ _ h1.symm ?_;cases s with
    | false=>rw[W00];exact hF1
    | true=>rw[W10];exact hF2
   simp[Fb,Ru,h2]
  have vH:∀x s,Fb P (BU x (BU true a1 dF (.pointer (some ⟨bH,oH',none⟩))) dX (.pointer (some ⟨b,off,none⟩))) oH (W s false) Go.undef (W s true):=by
   intro x s;have h1:(BU x (BU true a1 dF (.pointer (some ⟨bH,oH',none⟩))) dX (.pointer (some ⟨b,off,none⟩))).eval (.tmp dF)= .pointer (some ⟨bH,oH',none⟩):=by
    rw[Dw (λe=>by cases e;exact hXF rfl)];exact Ms (by rw[ha1s];exact n18)
   have h2:(BU x (BU true a1 dF (.pointer (some ⟨bH,oH',none⟩))) dX (.pointer (some ⟨b,off,none⟩))).eval (.tmp dA)=sl:=by
    rw[Dw (λe=>by cases e;exact hAX rfl),Dw (λe=>by cases e;exact hAF rfl),evA]
   have h3:=HV (P:=P) (w:=W s false) hdH (v:=sl) (b:=bH) (o:=oH') hcHs (by rw[hslc];intro c hc;have:=List.mem_singleton.1 hc;rw[this];exact hslo) (by rw[hslc];exact cH s);rw[hslc,Wh]at h3;obtain⟨c1,c2,c3,c4,c5,c6⟩:=oH;simp only at qH;subst qH;simp[Fb,Ru,execOp,h1,h2,h3]
  --the end
  have hQ:Q .normal (BU true (BU true a1 dF (.pointer (some ⟨bH,oH',none⟩))) dX (.pointer (some ⟨b,off,none⟩))) (W true true):=by
   rw[W11];have LK:Ce g fr.loc g1 loc':=λj x hj=>by
    obtain⟨h1,y,hy⟩:=L1 j x hj;exact⟨h1,L2 j y hy⟩
   have hf1:=hf.keep (E1.trans E2) LK;have hv1:=Cd.keep E2 (λj x hj=>⟨rfl,L2 j x hj⟩) r1;have hq1:=Cd.keep (E1.trans E2) LK ru0;have hf2:=hf1.put (dst:=some dA) (v:= .t v) (u:=sl) hv1;have hf3:=hf2.put (dst:=some dF) (v:=q) (u:= .pointer (some ⟨bH,oH',none⟩)) hq1;have hf4:=hf3.put (dst:=some dX) (v:= .t .junk) (u:= .pointer (some ⟨b,off,none⟩)) (Rel.junk _);refine hq _ _ ⟨_,st',g1,hKf,S2,?_,E1.trans E2,?_⟩
   ·rw[ha1];exact hf4
   ·rw[ha1];simp[BU,Act.put]
  refine⟨λh0=>by rw[h0]at hmem;exact absurd hmem (List.not_mem_nil),λi' hi'=>?_⟩;have hir:=hone i' hi';subst hir;refine Hb hA gA vA ?_;have ha1':a.put oA.dst sl=BU false (BU false a1 dF (.pointer (some ⟨bH,oH',none⟩))) dX (.pointer (some ⟨b,off,none⟩)):=by rw[ha1,xA];rfl
  rw[ha1',<-W00];refine hole4 hX hS hF hH hsz gX gS gF gH xX xS xFd xH hXF ?_ ?_ ?_ ?_ ?_ ?_ vX vS vF vH hQ 4 false false false false _ rfl (λh=>by cases h) (λh=>by cases h) ?_
  ·exactλe he hb=>Nat.le_of_ble_eq_true (Lu k1 e (by simpa using he) hb)
  ·exactλe he hb=>Nat.le_of_ble_eq_true (Lu k2 e (by simpa using he) hb)
  ·exactλe he hb=>Nat.le_of_ble_eq_true (Lu k3 e (by simpa using he) hb)
  ·intro e he hb
   have:=Lu k4 e (by simpa using he) hb;simp only[Bool.or_eq_true]at this;exact this.imp Nat.le_of_ble_eq_true Nat.eq_of_beq_eq_true
  ·obtain⟨e,he,h1,h2⟩:=OD k7
   exact⟨e,by simpa using he,h1,h2⟩
  ·obtain⟨e,he,h1,h2⟩:=OD k9
   exact⟨e,by simpa using he,h1,h2⟩
  ·refine⟨by simp;omega,λj hj=>?_,?_,?_,?_,?_⟩
   ·rcases Nat.lt_or_ge j i' with h | h
    ·rw[getD_set_ne false (by omega)];exact hlo j h
    ·have:j=i':=by omega
     subst this;exact Oq (by omega)
   all_goals (rw[getD_set_ne false (by omega)];exact hhi _ (by omega))
end
end Go.TVF
end
section
namespace Go.TVF
open Go.IntKind(i64 u8)
open Go.RowKit (Below)
section
variable {P:Program} {cfg:Cfg} {ops:Array Oper}
def stepA (cfg:Cfg) (P:Program) (ops:Array Oper) (o:Oper) (K:Fr->St->Prop) (fr:Fr) (st:St):Prop:=
 match DX ops fr.slots o.guard with
 | some true=>Gj cfg P o.dst o.type o.op (opS fr.slots) fr.loc st λv loc' st'=>K ⟨BA fr.slots o.dst v,loc'⟩ st'
 | some false=>K ⟨BA fr.slots o.dst (.t .undef),fr.loc⟩ st
 | none=>False
def LeafC (ops:Array Oper) (listed:Array Bool):Prop:=
 ∀(i:Nat) (l0:Array Bool),l0.setIfInBounds i true=listed->i∈Region.ready .any ops l0->∀j∈Region.ready .any ops l0,j=i
def SemOk (P:Program) (ops:Array Oper) (K:Fr->St->Prop) (n:Nat) (listed:Array Bool) (fr:Fr) (st:St):Prop:=
 ∀(g:Ak) (w:World) (a:Act) (Q:Exit->Act->World->Prop),Sim g st fr.loc w->DM g w fr a.tmps->(∀a' w',JX g w a K a' w'->Q .normal a' w')->wpAny P .any ops Q n listed a w
def DD (cfg:Cfg) (P:Program) (ops:Array Oper) (I:Nat->St->Prop) (K:Fr->St->Prop):Nat->Array Bool->Fr->St->Prop
 | 0,listed,fr,st=>Region.ready .any ops listed=[]/\K fr st
 | n+1,listed,fr,st=>(LeafC ops listed/\SemOk P ops K (n+1) listed fr st)∨((Region.ready .any ops listed=[]->K fr st)/\
  ∀i∈Region.ready .any ops listed,∀o,ops[i]? =some o->stepA cfg P ops o (λfr' st'=>I i st'/\DD cfg P ops I K n (listed.setIfInBounds i true) fr' st') fr st)
theorem OE {I:Nat->St->Prop} {K:Fr->St->Prop} {Q:Exit->Act->World->Prop}:∀(n:Nat) (listed:Array Bool) (fr:Fr) (st:St) (g:Ak) (w:World) (a:Act),DD cfg P ops I K n listed fr st->Sim g st fr.loc w->DM g w fr a.tmps->
  (∀a' w',JX g w a K a' w'->Q .normal a' w')->XQ g w cfg.exc a Q->wpAny P .any ops Q n listed a w
 | 0,listed,fr,st,g,w,a,h,s,hf,hq,_=>⟨h.1,hq a w ⟨fr,st,g,h.2,s,hf,Ext.refl _ _,rfl,rfl⟩⟩
 | n+1,listed,fr,st,g,w,a,h,s,hf,hq,hx=>by
  rcases h with⟨_,h⟩ | h
  ·exact h g w a Q s hf hq
  refine⟨λh0=>hq a w ⟨fr,st,g,h.1 h0,s,hf,Ext.refl _ _,rfl,rfl⟩,λi hi=>?_⟩;obtain⟨hun,o,ho,hall⟩:=mem_ready.1 hi;have hs:=h.2 i hi o ho;unfold stepA at hs;unfold wpOp;simp[ho];cases hw:DX ops fr.slots o.guard with
  | none=>rw[hw]at hs;exact hs.elim
  | some t=>
   rw[hw]at hs;have:=Jo (P:=P) (cfg:=cfg) (Q:=Q) (K:=λfr' st'=>I i st'/\DD cfg P ops I K n (listed.setIfInBounds i true) fr' st') (next:=wpAny P .any ops Q n (listed.setIfInBounds i true)) ops o hw (by cases t<;>exact hs) s hf (λa' w' hp=>by
    obtain⟨fr',st',g',h1,h2,h3,h4,h5⟩:=hp;refine OE n _ fr' st' g' w' a' h1.2 h2 h3 (λa'' w'' hp'=>hq _ _ (hp'.ext h4 h5)) (hx.ext h4 h5.1)) hx
   split
   ·rename_i hwant;rw[if_pos hwant]at this;exact .inl this
   ·rename_i hwant;rw[if_neg hwant]at this;exact this
theorem opS_put {slots:Be} {dst:Option Nat} {v:SV} {x:Operand} (h:∀d,dst=some d->x≠.tmp d):opS (BA slots dst v) x=opS slots x:=by
 cases dst with
 | none=>rfl
 | some d=>
  cases x<;>grind [opS,BA,Be.set_ne]
theorem DN {slots:Be} {dst:Option Nat} {v:SV} {o:Oper} (h:∀d,dst=some d->d∉o.looksAt ops):∀x,x∈o.op.operands->opS (BA slots dst v) x=opS slots x:=
 λx hx=>opS_put λd hd hxd=>h d hd (by
  exact List.mem_append_left _ (List.mem_filterMap.2 ⟨.tmp d,by simp_all,rfl⟩))
theorem IK {slots:Be} {dst:Option Nat} {v:SV} {o:Oper} (h:∀d,dst=some d->d∉o.looksAt ops):DX ops (BA slots dst v) o.guard=DX ops slots o.guard:=by
 cases dst<;>grind [DX,BA,Zu,Be.set_ne,Go.Oper.looksAt]
theorem Su (slots:Be) {x y:Option Nat} (v u:SV) (h:∀d,x=some d->y≠some d):BA (BA slots x v) y u=BA (BA slots y u) x v:=by
 cases x with
 | none=>rfl
 | some d=>
  cases y<;>grind [BA,Be.set_comm]
def NY (P:Program) (ops:Array Oper) (o:Oper) (v:SV) (s:St) (fr:Fr):Prop:=
 (DX ops fr.slots o.guard=some true/\(Cu P s fr.loc (opS fr.slots) o.op).Is v)∨(DX ops fr.slots o.guard=some false/\v= .t .undef)
theorem NY.stepA {o:Oper} {v:SV} {s st:St} {fr:Fr} (hN:isN P o.op=true) (h:NY P ops o v s fr) (hs:D8 s st) {K:Fr->St->Prop} (hK:K ⟨BA fr.slots o.dst v,fr.loc⟩ st):stepA cfg P ops o K fr st:=by
 unfold TVF.stepA;rcases h with⟨hw,hv⟩ | ⟨hw,rfl⟩
 all_goals grind [Gj,nres_le]
theorem NY.put {o oj:Oper} {v u:SV} {s:St} {fr:Fr} {loc':List (Option (List TV))} (h:NY P ops o v s fr) (h3:∀d,oj.dst=some d->d∉o.looksAt ops) (hl:IX o.op=false∨loc'=fr.loc):
  NY P ops o v s ⟨BA fr.slots oj.dst u,loc'⟩:=by
 rcases h with⟨hw,hv⟩ | ⟨hw,rfl⟩
 ·refine .inl ⟨by grind [IK],?_⟩
  rw[Mu (ρ':=opS fr.slots) (DN h3)];grind [Oj]
 ·exact .inr ⟨by grind [IK],rfl⟩
def Fh (ops:Array Oper) (listed:Array Bool) (d:Nat):Bool:=(List.range ops.size).all λj=>listed.getD j true || match ops[j]? with | some o=> !(o.dst==some d) | none=>true
def Kw (slots:Be) (d:Nat):SV:=slots.f d
def PA (k:Nat):SV->Bool | .loc m _=> !(m.beq k) | .t _=>true
def Qf:SV->Bool | .loc _ _=>true | .t _=>false
def XJ (cfg:Cfg) (o:Oper):Bool:=match o.op with
 | .call {callee:= .builtin .append,.. }=>(XH cfg.ms o.dst).and (XH cfg.pn o.dst)
 | _=>false
def Gt (cfg:Cfg) (o:Oper):Bool:=(QR o.op).or (XJ cfg o)
theorem callC_no {cfg:Cfg} {o:Oper} (h:Gt cfg o=false):QR o.op=false:=by
 grind [Gt]
def okG (cfg:Cfg) (calls:Bool) (ops:Array Oper) (listed:Array Bool) (slots:Be) (rk:Rk) (oj:Oper):Bool:=
 match rk with
 | .none=>true
 | .loc k=>match oj.op with
  | .store _ (.tmp d) _=>Fh ops listed d&&PA k (Kw slots d)
  | .store _ _ _=>false
  | _=>true
 | .mem=>(calls || !(Gt cfg oj))&&((!(EV cfg oj) || Gt cfg oj) || match oj.op with
  | .store _ (.tmp d) _=>Fh ops listed d&&Qf (Kw slots d)
  | .alloc _=>(EG cfg.loc oj.dst).isSome
  | _=>false)
theorem Z6 {listed:Array Bool} {d j:Nat} {oj:Oper} (h:Fh ops listed d=true) (hj:ops[j]? =some oj) (hun:listed.getD j true=false):oj.dst≠some d:=by
 grind [Fh]
theorem Z8 {slots:Be} {dst:Option Nat} {v:SV} {d:Nat} (h:dst≠some d):Kw (BA slots dst v) d=Kw slots d:=by
 cases dst<;>grind [Kw,BA,Be.set_ne]
theorem TH {k:Nat} {s:SV} (h:PA k s=true) (off:Nat):s≠.loc k off:=by
 intro hs;simp_all[PA]
theorem NY.stab {o:Oper} {v:SV} {s s':St} {fr:Fr} {loc':List (Option (List TV))} {rk:Rk} (h:NY P ops o v s fr) (hrk:Mr fr.slots o.op=rk) (hl:DX ops fr.slots o.guard=some true->∀k,rk= .loc k->loc'[k]? =fr.loc[k]?) (hs:rk= .mem->s'=s):NY P ops o v s' ⟨fr.slots,loc'⟩:=by
 rcases h with⟨hw,hv⟩ | h
 ·refine .inl ⟨hw,?_⟩
  cases rk<;>grind [Cu,Oj,Aag,Vm,loadN_at,nres_mem]
 ·exact .inr h
theorem TY {I I':Nat->St->Prop} {S:St->Prop} {K:Fr->St->Prop} {calls:Bool} {i:Nat} {oi:Oper} {v:SV} {rk:Rk} {slots0:Be} {listed0:Array Bool} (hi:ops[i]? =some oi) (hN:isN P oi.op=true) (hIi:∀st,I i st) (hII:∀j st,I' j st->I j st)
  (hb:calls=true->rk= .mem->∀j oj st' s fr',ops[j]? =some oj->Gt cfg oj=true->(∀e∈oj.after,Region.binds .any e=true->e.on≠i)->I' j st'->S s->NY P ops oi v s fr'->(∀x,x∈oi.op.operands->opS fr'.slots x=opS slots0 x)->∃s',S s'/\NY P ops oi v s' fr'/\D8 s' st'):
  ∀(fuel:Nat) (listed:Array Bool) (fr:Fr) (st:St),(∀j,listed.getD j true=false->listed0.getD j true=false)->(∀d,Fh ops listed0 d=true->Kw fr.slots d=Kw slots0 d)->Mr fr.slots oi.op=rk->(∀x,x∈oi.op.operands->opS fr.slots x=opS slots0 x)->
   (∀j oj,ops[j]? =some oj->j≠i->listed.getD j true=false->(∀e∈oj.after,Region.binds .any e=true->e.on≠i)->oi.apart ops oj=true/\okG cfg calls ops listed0 slots0 rk oj=true)->
   i∈Region.ready .any ops listed->(∃s,S s/\NY P ops oi v s fr/\(rk= .mem->D8 s st))->
   DD cfg P ops I' K fuel (listed.setIfInBounds i true) ⟨BA fr.slots oi.dst v,fr.loc⟩ st->DD cfg P ops I K (fuel+1) listed fr st:=by
 have weak:∀(fuel:Nat) (listed:Array Bool) (fr:Fr) (st:St),DD cfg P ops I' K fuel listed fr st->DD cfg P ops I K fuel listed fr st:=by
  intro fuel;induction fuel with
  | zero=>exactλ_ _ _ h=>h
  | succ fuel ih=>
   intro listed fr st h;rcases h with h | h
   ·exact .inl h
   ·refine .inr ⟨h.1,λj hj oj hoj=>?_⟩
    have h2:=h.2 j hj oj hoj;unfold stepA at h2⊢;split at h2
    ·simp[Gj]at h2⊢
     split at h2
     ·grind
     ·exact EU oj (λ_ _=>rfl) (λu loc' st' _ _ hK=>⟨hII _ _ hK.1,ih _ _ _ hK.2⟩) h2
    all_goals simp_all
 have now:∀(fr:Fr) (st:St) (K:Fr->St->Prop),Mr fr.slots oi.op=rk->(∃s,S s/\NY P ops oi v s fr/\(rk= .mem->D8 s st))->K ⟨BA fr.slots oi.dst v,fr.loc⟩ st->stepA cfg P ops oi K fr st:=by
  intro fr st K hrk ⟨s,_,hy,hs⟩ hK;by_cases hr:rk= .mem
  ·grind [NY.stepA]
  ·exact(hy.stab (s':=st) hrk (λ_ _ _=>rfl) (λh=>absurd h hr)).stepA hN (D8.refl st) hK
 intro fuel;induction fuel with
 | zero=>
  intro listed fr st _ _ hrk _ _ hr hy H;refine .inr ⟨λh=>(by simp_all),λj hj oj hoj=>?_⟩;by_cases hji:j=i
  ·grind
  ·have:=ready_mono hj hji
   rw[H.1]at this;cases this
 | succ fuel ih=>
  intro listed fr st hsub hsl hrk BE hfree hr hy H;refine .inr ?_;have H0:=H;rcases H with⟨hlf,_⟩ | H
  ·refine⟨λh=>(by grind),λj hj oj hoj=>?_⟩
   have hji:=hlf i listed rfl hr j hj;grind
  refine⟨λh=>(by grind),λj hj oj hoj=>?_⟩;by_cases hji:j=i
  ·grind
  ·have h1:=H.2 j (ready_mono hj hji) oj hoj
   obtain⟨hjun,oj',hoj',hall⟩:=mem_ready.1 hj;rw[hoj]at hoj';cases hoj';have hnot:∀e∈oj.after,Region.binds .any e=true->e.on≠i:=λe he hb heq=>by
    grind [Go.mem_ready]
   obtain⟨hap,hok⟩:=hfree j oj hoj hji hjun hnot;obtain⟨a1,a2,a3⟩:=Oper.apart_spec hap;have hsub':∀k,(listed.setIfInBounds j true).getD k true=false->listed.getD k true=false:=λk hun=>by
    by_cases hjk:j=k
    ·grind
    ·rw[getD_set_ne true hjk]at hun;omega
   have hfree':∀k ok,ops[k]? =some ok->k≠i->(listed.setIfInBounds j true).getD k true=false->
     (∀e∈ok.after,Region.binds .any e=true->e.on≠i)->oi.apart ops ok=true/\okG cfg calls ops listed0 slots0 rk ok=true:=λk ok hk hki hun hno=>hfree k ok hk hki (hsub' k hun) hno
   have go:∀(u:SV) (loc':List (Option (List TV))) (st':St),(DX ops fr.slots oi.guard=some true->∀k,rk= .loc k->loc'[k]? =fr.loc[k]?)->(∃s,S s/\NY P ops oi v s ⟨BA fr.slots oj.dst u,fr.loc⟩/\(rk= .mem->D8 s st'))->
     I' j st'/\DD cfg P ops I' K fuel ((listed.setIfInBounds i true).setIfInBounds j true) ⟨BA (BA fr.slots oi.dst v) oj.dst u,loc'⟩ st'->I j st'/\DD cfg P ops I K (fuel+1) (listed.setIfInBounds j true) ⟨BA fr.slots oj.dst u,loc'⟩ st':=by
    intro u loc' st' hl ⟨s,hS,hy',hs'⟩ hab;have hrk':Mr (BA fr.slots oj.dst u) oi.op=rk:=by
     rw[<-hrk];have hop:∀x,x∈oi.op.operands->opS (BA fr.slots oj.dst u) x=opS fr.slots x:=DN a3;cases hq:oi.op with
     | load t a=>grind [Mr,Go.Op.operands]
     | _=>rfl
    refine⟨hII _ _ hab.1,ih (listed.setIfInBounds j true) ⟨BA fr.slots oj.dst u,loc'⟩ st' (λk hk=>hsub k (hsub' k hk)) (λd hd=>?_) hrk' (λx hx=>(DN a3 x hx).trans (BE x hx)) hfree' (ready_mono hr (Ne.symm hji)) ⟨s,hS,hy'.stab hrk' (λhw=>hl (by grind [IK])) (λ_=>rfl),hs'⟩ ?_⟩
    all_goals grind [Z8,Z6,Su,Array.setIfInBounds_comm]
   obtain⟨s,hS,hys,hs⟩:=hy;have same:∀u st',(rk= .mem->D8 s st')->∃s,S s/\NY P ops oi v s ⟨BA fr.slots oj.dst u,fr.loc⟩/\(rk= .mem->D8 s st'):=λu st' h=>⟨s,hS,hys.put a3 (.inr rfl),h⟩;unfold stepA at h1⊢;have hwp:DX ops (BA fr.slots oi.dst v) oj.guard=DX ops fr.slots oj.guard:=IK a1;simp[hwp]at h1;cases hw:DX ops fr.slots oj.guard with
   | none=>grind
   | some t=>
    rw[hw]at h1;cases t with
    | false=>exact go _ _ _ (λ_ _ _=>rfl) (same _ _ hs) h1
    | true=>
     have hcong:=DN (slots:=fr.slots) (v:=v) a1;simp[Gj]at h1⊢;cases hNj:isN P oj.op with
     | true=>
      simp[hNj]at h1⊢;obtain⟨u,hu,hK⟩:=h1;rw[Mu (ρ':=opS fr.slots) hcong]at hu;exact⟨u,hu,go _ _ _ (λ_ _ _=>rfl) (same _ _ hs) hK⟩
     | false=>
      simp[hNj]at h1⊢;have h2:=EU oj (ρ':=opS fr.slots) hcong (λu loc' st' _ _ hK=>hK) h1;have h3:=eop_keep oj h2;have hptr:∀d,Fh ops listed0 d=true->opS fr.slots (.tmp d)=Kw slots0 d:=λd hd=>by rw[<-hsl d hd];rfl
      refine EU oj (λ_ _=>rfl) (λu loc' st' hbx hlc hK=>go u loc' st' ?_ ?_ hK.1) h3
      ·intro hwi k hk
       obtain⟨hK1,hK2,hK3⟩:=hK;by_cases hlive:∃l,fr.loc[k]? =some (some l)
       ·grind [TH,okG]
       ·exfalso
        rcases hys with⟨_,hv⟩ | ⟨hwf,_⟩
        ·grind [Vm,VL,Cu]
        grind
      ·by_cases hrm:rk= .mem
       case neg=>exact same _ _ λh=>absurd h hrm
       rw[hrm]at hok;simp[okG,Bool.and_eq_true,Bool.or_eq_true,Bool.not_eq_true']at hok;obtain⟨hok1,hok2⟩:=hok;rcases Bool.eq_false_or_eq_true (Gt cfg oj)with hc | hc
       ·have hcl:=hok1.resolve_right (by grind)
        obtain⟨s',hS',hy',hl'⟩:=hb hcl hrm j oj st' s ⟨BA fr.slots oj.dst u,fr.loc⟩ hoj hc hnot hK.1.1 hS (hys.put a3 (.inr rfl)) (λx hx=>(DN a3 x hx).trans (BE x hx));grind
       ·refine same _ _ λ_=>?_
        rcases hok2 with(h | h) | h
        ·grind [D8.of_box,IY,callC_no]
        ·grind
        ·have hst:st'=st:=by
          cases hq:oj.op<;>rw[hq]at h<;>try (simp at h;done)
          ·rename_i t
           exact hK.2.2 (λt a x hh=>by grind) (λ_ _=>h) (λt x hh=>by grind) (by rw[hq];rfl)
          ·rename_i t a x
           cases a<;>try (simp at h;done)
           rename_i d;simp at h;refine hK.2.2 (λt' a' x' hh=>?_) (λt' hh=>by rw[hq]at hh;cases hh) (λt x hh=>by rw[hq]at hh;cases hh) (by rw[hq];rfl);rw[hq]at hh;simp at hh;rw[<-hh.2.1,hptr d h.1];cases hsd:Kw slots0 d with
           | loc m off=>exact⟨m,off,rfl⟩
           | t q=>rw[hsd]at h;simp[Qf]at h
         grind
def XG (k:Nat):SV->Bool
 | .loc i _=>i.beq k
 | _=>false
def Mv (ops:Array Oper) (k:Nat) (slots:Be):Bool:=ops.toList.all λo=>o.op.operands.toList.all λx=> !(XG k (opS slots x))
theorem VC {k:Nat} {slots:Be} (h:Mv ops k slots=true) {j:Nat} {oj:Oper} (hj:ops[j]? =some oj) (x:Operand) (hx:x∈oj.op.operands) (off:Nat):opS slots x≠.loc k off:=by
 intro he;simp only[Mv,List.all_eq_true]at h;have:=h oj (by grind) x (by simp_all);simp_all[XG]
theorem Xu {k:Nat} {slots:Be} (h:Mv ops k slots=true) {v:SV} (hv:∀off,v≠.loc k off) (dst:Option Nat):Mv ops k (BA slots dst v)=true:=by
 cases dst with
 | none=>exact h
 | some d=>
  simp only[Mv,List.all_eq_true]at h⊢;intro o ho x hx;have h1:=h o ho x hx;cases x with
  | tmp t=>
   by_cases htd:t=d
   ·by_cases hlt:t<slots.n
    ·have he:opS (BA slots (some t) v) (.tmp t)=v:=by grind [opS,BA,Be.set_eq]
     cases v<;>grind [XG,HX]
    grind [BA,Be.set_out]
   grind [opS,BA,Be.set_ne]
  | _=>exact h1
theorem afirst {I:Nat->St->Prop} {K:Fr->St->Prop} {i k:Nat} {oi:Oper} {t:TypeId} {cells:List TV} (hi:ops[i]? =some oi) (hop:oi.op= .alloc t) (hgd:oi.guard=none) (hix:EG cfg.loc oi.dst=some k) (hz:GN P t=some cells) (hIi:∀st,I i st):
  ∀(fuel:Nat) (listed:Array Bool) (fr:Fr) (st:St),
   (∀j oj,ops[j]? =some oj->j≠i->listed.getD j true=false->(∀e∈oj.after,Region.binds .any e=true->e.on≠i)->oi.apart ops oj=true/\EG cfg.loc oj.dst≠some k)->
   i∈Region.ready .any ops listed->fr.loc[k]? =some none->Mv ops k fr.slots=true->
   DD cfg P ops I K fuel (listed.setIfInBounds i true) ⟨BA fr.slots oi.dst (.loc k 0),fr.loc.set k (some cells)⟩ st->DD cfg P ops I K (fuel+1) listed fr st:=by
 have now:∀(fr:Fr) (st:St) (K:Fr->St->Prop),fr.loc[k]? =some none->K ⟨BA fr.slots oi.dst (.loc k 0),fr.loc.set k (some cells)⟩ st->stepA cfg P ops oi K fr st:=by
  grind [stepA,DX,Gj,eop,Es,isN]
 intro fuel;induction fuel with
 | zero=>
  intro listed fr st _ hr hl hn H;refine .inr ⟨λh=>(by simp_all),λj hj oj hoj=>?_⟩;by_cases hji:j=i
  ·simp_all
  ·have:=ready_mono hj hji
   rw[H.1]at this;cases this
 | succ fuel ih=>
  intro listed fr st hfree hr hl hn H;refine .inr ?_;have H0:=H;rcases H with⟨hlf,_⟩ | H
  ·refine⟨λh=>(by simp_all),λj hj oj hoj=>?_⟩
   have hji:=hlf i listed rfl hr j hj;grind
  refine⟨λh=>(by simp_all),λj hj oj hoj=>?_⟩;by_cases hji:j=i
  ·grind
  ·have h1:=H.2 j (ready_mono hj hji) oj hoj
   obtain⟨hjun,oj',hoj',hall⟩:=mem_ready.1 hj;rw[hoj]at hoj';cases hoj';have hnot:∀e∈oj.after,Region.binds .any e=true->e.on≠i:=λe he hb heq=>by
    grind [Go.mem_ready]
   obtain⟨hap,hixj⟩:=hfree j oj hoj hji hjun hnot;obtain⟨a1,a2,a3⟩:=Oper.apart_spec hap;have hfree':∀k' ok,ops[k']? =some ok->k'≠i->(listed.setIfInBounds j true).getD k' true=false->
     (∀e∈ok.after,Region.binds .any e=true->e.on≠i)->oi.apart ops ok=true/\EG cfg.loc ok.dst≠some k:=λk' ok hk hki hun hno=>by
    refine hfree k' ok hk hki ?_ hno;by_cases hjk:j=k'
    ·simp_all
    simp_all
   have go:∀(u:SV) (loc':List (Option (List TV))) (st':St),loc'[k]? =some none->(∀off,u≠.loc k off)->
     I j st'/\DD cfg P ops I K fuel ((listed.setIfInBounds i true).setIfInBounds j true) ⟨BA (BA fr.slots oi.dst (.loc k 0)) oj.dst u,loc'.set k (some cells)⟩ st'->I j st'/\DD cfg P ops I K (fuel+1) (listed.setIfInBounds j true) ⟨BA fr.slots oj.dst u,loc'⟩ st':=by
    grind [Xu,Su,Go.ready_mono,Array.setIfInBounds_comm]
   unfold stepA at h1⊢;have hwp:DX ops (BA fr.slots oi.dst (.loc k 0)) oj.guard=DX ops fr.slots oj.guard:=IK a1;simp[hwp]at h1;cases hw:DX ops fr.slots oj.guard with
   | none=>grind
   | some t=>
    rw[hw]at h1;cases t with
    | false=>grind
    | true=>
     have hcong:=DN (slots:=fr.slots) (v:= .loc k 0) a1;have hno:∀x,x∈oj.op.operands->∀off,opS fr.slots x≠.loc k off:=λx hx off=>VC hn hoj x hx off;simp[Gj]at h1⊢;cases hNj:isN P oj.op with
     | true=>
      grind [VB,Mu,Xt]
     | false=>
      simp[hNj]at h1⊢;have h2:=EU oj (ρ':=opS fr.slots) hcong (λu loc' st' _ _ hK=>hK) h1;have h3:=XY oj hno hl hixj h2;exact EU oj (λ_ _=>rfl) (λu loc' st' _ _ hK=>go u loc' st' hK.2.1 hK.1 hK.2.2) h3
def ID (m i:Nat):Bool:=(Nat.mod (Nat.shiftRight m i) 2).beq 1
def HM (m i:Nat):Nat:=Nat.lor m (Nat.shiftLeft 1 i)
def VD:List Edge->Nat
 | []=>0
 | e::es=>match Region.binds .any e with | true=>HM (VD es) e.on | false=>VD es
def EF (o:Oper):Nat:=VD o.after.toList
def Dm (m i:Nat) (o:Oper):Bool:=(!(ID m i)).and ((Nat.land (EF o) m).beq (EF o))
def I5 (f:Nat->Oper->Bool):List Oper->Nat->Option (Nat×Oper)
 | [],_=>none
 | o::l,i=>match f i o with | true=>some (i,o) | false=>I5 f l (Nat.succ i)
def Ys (f:Nat->Oper->Bool):List Oper->Nat->Bool
 | [],_=>true
 | o::l,i=>match f i o with | true=>Ys f l (Nat.succ i) | false=>false
theorem GZ (m i:Nat):ID m i=m.testBit i:=by
 have h1:Nat.shiftRight m i=m>>>i:=rfl;have h2:∀a:Nat,(Nat.mod a 2).beq 1=(a%2==1):=λa=>by
  cases hq:(a%2).beq 1 with
  | true=>simp_all
  | false=>
   have:a%2≠1:=λhe=>by simp_all
   simp_all
 grind [ID,Nat.testBit]
theorem WE (m i j:Nat):ID (HM m i) j=(ID m j || i==j):=by
 have h1:HM m i=m ||| 1<<<i:=rfl;rw[GZ,GZ,h1,Nat.testBit_or,Nat.testBit_shiftLeft];by_cases h:i=j
 ·simp_all
 ·by_cases hle:i<=j
  ·cases hq:j-i<;>grind
  grind
theorem Aao:∀(l:List Edge) (j:Nat),ID (VD l) j=true↔∃e∈l,Region.binds .any e=true/\e.on=j
 :=by intro a0;induction a0<;>grind [VD,GZ,WE]
theorem I1 (o:Oper) (j:Nat):ID (EF o) j=true↔∃e∈o.after,Region.binds .any e=true/\e.on=j:=by
 rw[EF,Aao];simp
theorem XS {f:Nat->Oper->Bool}:∀{l:List Oper} {i k:Nat} {o:Oper},I5 f l k=some (i,o)->k<=i/\l[i-k]? =some o/\f i o=true
 :=by intro a0;induction a0<;>grind [I5]
theorem XT {f:Nat->Oper->Bool}:∀{l:List Oper} {k:Nat},I5 f l k=none->∀(i:Nat) (o:Oper),l[i]? =some o->f (k+i) o=false
 :=by intro a0;induction a0<;>grind [I5]
theorem AaR {f:Nat->Oper->Bool}:∀{l:List Oper} {k:Nat},Ys f l k=true->∀(i:Nat) (o:Oper),l[i]? =some o->f (k+i) o=true
 :=by intro a0;induction a0<;>grind [Ys]
theorem NC {f:Nat->Oper->Bool} {i:Nat} {o:Oper} (h:I5 f ops.toList 0=some (i,o)):ops[i]? =some o/\f i o=true:=by
 obtain⟨_,h2,h3⟩:=XS h;simp_all
theorem PC {f:Nat->Oper->Bool} (h:I5 f ops.toList 0=none) {i:Nat} {o:Oper} (ho:ops[i]? =some o):f i o=false:=by
 have:=XT h i o (by simp_all);grind
theorem Ux {f:Nat->Oper->Bool} (h:Ys f ops.toList 0=true) {i:Nat} {o:Oper} (ho:ops[i]? =some o):f i o=true:=by
 have:=AaR h i o (by simp_all);grind
def F1 (ops:Array Oper) (m:Nat) (listed:Array Bool):Prop:=listed.size=ops.size/\∀j,listed.getD j false=ID m j
theorem F1.start:F1 ops 0 (Array.replicate ops.size false):=by
 refine⟨by simp,λj=>?_⟩;simp_all[GZ,Array.getD]
theorem F1.set {m i:Nat} {listed:Array Bool} (h:F1 ops m listed) (hi:i<ops.size):F1 ops (HM m i) (listed.setIfInBounds i true):=by
 refine⟨by simpa using h.1,λj=>?_⟩;rw[WE,<-h.2 j];by_cases hij:i=j
 ·have:=h.1▸hi
  simp_all
 simp_all
theorem F1.un {m j:Nat} {listed:Array Bool} (h:F1 ops m listed):listed.getD j true=false↔j<ops.size/\ID m j=false:=by
 rw[<-h.2 j,<-h.1];grind
theorem F1.ready {m j:Nat} {listed:Array Bool} (h:F1 ops m listed):j∈Region.ready .any ops listed↔∃o,ops[j]? =some o/\Dm m j o=true:=by
 rw[mem_ready,h.un];constructor
 ·rintro⟨⟨h1,h2⟩,o,ho,hall⟩
  simp[Dm,h2,Bool.not_false,Bool.true_and];have:Nat.land (EF o) m=EF o:=by
   show EF o&&&m=EF o;apply Nat.eq_of_testBit_eq;intro i;rw[Nat.testBit_and];cases hq:(EF o).testBit i with
   | false=>rfl
   | true=>
    rw[<-GZ]at hq;obtain⟨e,he,hb,hon⟩:=(I1 o i).1 hq;have:=hall e he hb;rw[h.2,hon,GZ]at this;simp[this]
  simp_all
 ·rintro⟨o,ho,hr⟩
  simp only[Dm,Bool.and_eq_true,Bool.not_eq_true']at hr;refine⟨⟨(Array.getElem?_eq_some_iff.1 ho).1,hr.1⟩,o,ho,λe he hb=>?_⟩;rw[h.2,GZ];have h1:EF o&&&m=EF o:=Nat.eq_of_beq_eq_true hr.2;have h2:(EF o).testBit e.on=true:=by rw[<-GZ];grind [I1]
  grind
def notDst (d:Nat) (o:Oper):Bool:=match o.dst with | some e=> !(e.beq d) | none=>true
def Tp (ops:Array Oper) (m d:Nat):Bool:=Ys (λj o=>(ID m j).or (notDst d o)) ops.toList 0
def okM (cfg:Cfg) (calls:Bool) (ops:Array Oper) (m:Nat) (slots:Be) (rk:Rk) (oj:Oper):Bool:=
 match rk with
 | .none=>true
 | .loc k=>match oj.op with
  | .store _ (.tmp d) _=>(Tp ops m d).and (PA k (Kw slots d))
  | .store _ _ _=>false
  | _=>true
 | .mem=>(calls.or (!(Gt cfg oj))).and (((!(EV cfg oj)).or (Gt cfg oj)).or (match oj.op with
  | .store _ (.tmp d) _=>(Tp ops m d).and (Qf (Kw slots d))
  | .alloc _=>(EG cfg.loc oj.dst).isSome
  | _=>false))
def freeM (cfg:Cfg) (calls:Bool) (ops:Array Oper) (m:Nat) (slots:Be) (i:Nat) (oi:Oper):Bool:=
 Ys (λj oj=>(ID m j).or ((j.beq i).or ((ID (EF oj) i).or ((oi.apart ops oj).and (okM cfg calls ops m slots (Mr slots oi.op) oj))))) ops.toList 0
def loB (cfg:Cfg) (o:Oper):Option (Nat×TypeId):=match o.guard,o.op with
  | none,.alloc t=>match EG cfg.loc o.dst with
   | some k=>some (k,t)
   | none=>none
  | _,_=>none
def isKix (k:Nat):Option Nat->Bool
 | some j=>j.beq k
 | none=>false
def freeAM (cfg:Cfg) (ops:Array Oper) (m:Nat) (i k:Nat) (oi:Oper):Bool:=
 Ys (λj oj=>(ID m j).or ((j.beq i).or ((ID (EF oj) i).or ((oi.apart ops oj).and (!(isKix k (EG cfg.loc oj.dst))))))) ops.toList 0
theorem To {m d:Nat} {listed:Array Bool} (hr:F1 ops m listed) (h:Tp ops m d=true):Fh ops listed d=true:=by
 simp only[Fh,List.all_eq_true,List.mem_range];intro j hj;have h1:=Ux h (Array.getElem?_eq_getElem hj);grind [notDst,F1.un,Nat.beq_refl]
theorem okM_spec {m:Nat} {listed:Array Bool} (hr:F1 ops m listed) {calls:Bool} {slots:Be} {rk:Rk} {oj:Oper} (h:okM cfg calls ops m slots rk oj=true):okG cfg calls ops listed slots rk oj=true:=by
 unfold okM at h;grind [okG,To]
theorem or4 {a b c d:Bool} (h:a.or (b.or (c.or d))=true):a=true∨b=true∨c=true∨d=true:=by
 simp_all
theorem JA {calls:Bool} {m i:Nat} {oi:Oper} {listed:Array Bool} {slots:Be} (hr:F1 ops m listed) (h:freeM cfg calls ops m slots i oi=true) (j:Nat) (oj:Oper)
  (hj:ops[j]? =some oj) (hne:j≠i) (hun:listed.getD j true=false) (hno:∀e∈oj.after,Region.binds .any e=true->e.on≠i):
  oi.apart ops oj=true/\okG cfg calls ops listed slots (Mr slots oi.op) oj=true:=by
 rcases or4 (Ux h hj)with h1 | h1 | h1 | h1
 all_goals grind [F1.un,I1,okM_spec,Nat.eq_of_beq_eq_true]
theorem V2 {m i k:Nat} {oi:Oper} {listed:Array Bool} (hr:F1 ops m listed) (h:freeAM cfg ops m i k oi=true) (j:Nat) (oj:Oper)
  (hj:ops[j]? =some oj) (hne:j≠i) (hun:listed.getD j true=false) (hno:∀e∈oj.after,Region.binds .any e=true->e.on≠i):
  oi.apart ops oj=true/\EG cfg.loc oj.dst≠some k:=by
 rcases or4 (Ux h hj)with h1 | h1 | h1 | h1
 all_goals grind [F1.un,I1,isKix,Nat.eq_of_beq_eq_true,Nat.beq_refl]
theorem loB_spec {o:Oper} {k:Nat} {t:TypeId} (h:loB cfg o=some (k,t)):o.guard=none/\o.op= .alloc t/\EG cfg.loc o.dst=some k:=by
 grind [loB]
def isHole (l:List Oper):Bool:=match l with
 | [oA,oX,oS,oF,oH]=>match appP oA,ixP oX,stP oS,faP oF,stP oH with
  | some _,some (dX,_,_,_),some (_,x1,_),some (dF,_,_,_),some (_,f1,_)=>(x1.beq dX).and (f1.beq dF)
  | _,_,_,_,_=>false
 | _=>false
def QT (ops:Array Oper) (n r m:Nat):Bool:=(n.beq 4).and (((m+1).beq (Nat.shiftLeft 1 r)).and (isHole (ops.toList.drop r)))
theorem RX {n r m:Nat} (h:QT ops n r m=true):n=4/\m+1=2^r/\ops.size=r+5:=by
 simp only[QT,Bool.and_eq_true]at h;obtain⟨h1,h2,h3⟩:=h;refine⟨Nat.eq_of_beq_eq_true h1,?_,?_⟩
 ·simp_all[Nat.one_shiftLeft]
 ·unfold isHole at h3
  split at h3
  ·rename_i hd
   have:=congrArg List.length hd;grind
  ·cases h3
def RZ (calls:Bool) (st:St):St:=match calls with | true=>ZM | false=>st
structure Yt where
 i:Nat
 t:TypeId
 q:TV
 v:SV
def chk1 (P:Program) (p:Yt) (st:St):Prop:=
 match p.v with
 | .t x=>match MJ P p.t with
  | some true=>match P.cellsOf p.t,x with
   | n+1,.agg xs=>AE st [] (.t p.q) 0 (n+1)=some xs
   | _,_=>False
  | some false=>Af st [] (.t p.q) 0=some x
  | none=>False
 | .loc _ _=>False
def Ps (cfg:Cfg) (P:Program) (oj:Oper) (st:St) (X:Prop):List Yt->Prop
 | []=>X
 | p::ps=>match (Gt cfg oj).and (!(ID (EF oj) p.i))with
  | true=>chk1 P p st/\Ps cfg P oj st X ps
  | false=>Ps cfg P oj st X ps
theorem Wp {P:Program} {oj:Oper} {st:St} {X:Prop}:∀{l:List Yt},Ps cfg P oj st X l->X/\∀p∈l,Gt cfg oj=true->ID (EF oj) p.i=false->chk1 P p st
 :=by intro a0;induction a0<;>grind [Ps]
theorem chk1_is {p:Yt} {st:St} {loc:List (Option (List TV))} (h:chk1 P p st):(Fk P st loc p.t (.t p.q)).Is p.v:=by
 obtain⟨i,t,q,v⟩:=p;unfold chk1 at h;unfold Fk;cases v with
 | loc _ _=>simp_all
 | t x=>
  simp only at h⊢;split at h
  ·rename_i ha
   rw[ha];split at h
   ·rename_i n xs hc
    exact⟨.agg xs,by grind [Gm],rfl⟩
   simp_all
  ·rename_i ha
   rw[ha];exact⟨x,by grind [FU],rfl⟩
  simp_all
def IP (cfg:Cfg) (P:Program) (ops:Array Oper) (l:List Yt):Nat->St->Prop:=λj st=>∀oj,ops[j]? =some oj->Gt cfg oj=true->∀p∈l,ID (EF oj) p.i=false->chk1 P p st
theorem isN_call {o:Oper} (h:isN P o.op=true):Gt cfg o=false:=by
 unfold Gt XJ;cases hq:o.op<;>rw[hq]at h<;>first | rfl | skip
 rename_i c;obtain⟨callee,args,ts⟩:=c;cases callee<;>first | rfl | (simp[isN]at h) | skip
 rename_i b;cases b<;>first | rfl | grind [isN]
def pnOp (cfg:Cfg) (slots:Be) (o:Oper):Option (TypeId×TV):=match XH cfg.pn o.dst with
 | false=>none
 | true=>match o.op with
  | .load t a=>match opS slots a with
   | .t q=>some (t,q)
   | .loc _ _=>none
  | _=>none
theorem Aal {slots:Be} {o:Oper} {t:TypeId} {q:TV} (h:pnOp cfg slots o=some (t,q)):∃a,o.op= .load t a/\opS slots a= .t q:=by
 grind [pnOp]
def isSt (o:Oper):Bool:=match o.guard,o.op with
 | none,.store _ _ _=>true
 | none,.load _ _=>true
 | _,_=>false
def YX (m:Nat) (l:List Oper) (r s:Nat):Bool:=match I5 (λi o=>(Dm m i o).and (!((i.beq r).or (i.beq s)))) l 0 with
 | none=>true
 | some _=>false
def KG (cfg:Cfg) (P:Program) (ops:Array Oper) (calls:Bool) (K:Fr->St->Prop):Nat->Nat->List Yt->Fr->St->Prop
 | 0,m,_,fr,st=>match I5 (Dm m) ops.toList 0 with
  | none=>K fr st
  | some _=>False
 | n+1,m,pend,fr,st=>match I5 (λi o=>(Dm m i o).and ((isN P o.op).and (freeM cfg calls ops m fr.slots i o))) ops.toList 0 with
  | some (i,o)=>match pnOp cfg fr.slots o with
   | some (t,q)=>Oo ops fr o.guard
      (λfr=>(Fk P st fr.loc t (.t q)).K λv=>ZD P o.type v λv'=>KG cfg P ops calls K n (HM m i) (⟨i,t,q,v'⟩::pend) ⟨BA fr.slots o.dst v',fr.loc⟩ st)
      (λfr=>KG cfg P ops calls K n (HM m i) pend ⟨BA fr.slots o.dst (.t .undef),fr.loc⟩ st)
   | none=>Oo ops fr o.guard
      (λfr=>(Cu P (RZ calls st) fr.loc (opS fr.slots) o.op).K λv=>ZD P o.type v λv'=>KG cfg P ops calls K n (HM m i) pend ⟨BA fr.slots o.dst v',fr.loc⟩ st)
      (λfr=>KG cfg P ops calls K n (HM m i) pend ⟨BA fr.slots o.dst (.t .undef),fr.loc⟩ st)
  | none=>match I5 (Dm m) ops.toList 0 with
   | none=>K fr st
   | some (r,o)=>match I5 (λi o=>(Dm m i o).and (!(i.beq r))) ops.toList 0 with
    | none=>match QT ops n r m with
     | true=>holeK P (ops.toList.drop r) r K fr st
     | false=>Oo ops fr o.guard
       (λfr=>FO cfg P o.dst o.type o.op (opS fr.slots) fr.loc st λv loc' st'=>Ps cfg P o st' (KG cfg P ops calls K n (HM m r) pend ⟨BA fr.slots o.dst v,loc'⟩ st') pend)
       (λfr=>Ps cfg P o st (KG cfg P ops calls K n (HM m r) pend ⟨BA fr.slots o.dst (.t .undef),fr.loc⟩ st) pend)
    | some (r2,o2)=>match (isSt o).and ((isSt o2).and (YX m ops.toList r r2))with
     | true=>(FO cfg P o.dst o.type o.op (opS fr.slots) fr.loc st λv loc' st'=>Ps cfg P o st' (KG cfg P ops calls K n (HM m r) pend ⟨BA fr.slots o.dst v,loc'⟩ st') pend)/\
       (FO cfg P o2.dst o2.type o2.op (opS fr.slots) fr.loc st λv loc' st'=>Ps cfg P o2 st' (KG cfg P ops calls K n (HM m r2) pend ⟨BA fr.slots o2.dst v,loc'⟩ st') pend)
     | false=>match I5 (λi o=>(Dm m i o).and (loB cfg o).isSome) ops.toList 0 with
     | some (i,o)=>match loB cfg o with
      | some (k,t)=>match GN P t,fr.loc[k]? with
       | some cells,some none=>need ((freeAM cfg ops m i k o).and (Mv ops k fr.slots)) (KG cfg P ops calls K n (HM m i) pend ⟨BA fr.slots o.dst (.loc k 0),fr.loc.set k (some cells)⟩ st)
       | _,_=>False
      | none=>False
     | none=>False
theorem Gl {K:Fr->St->Prop} {calls:Bool}:∀(n m:Nat) (pend:List Yt) (listed:Array Bool) (fr:Fr) (st:St),F1 ops m listed->KG cfg P ops calls K n m pend fr st->DD cfg P ops (IP cfg P ops pend) K n listed fr st
 | 0,m,pend,listed,fr,st,hr,h=>by
  simp[KG]at h;split at h
  ·rename_i hf
   refine⟨?_,h⟩;rw[List.eq_nil_iff_forall_not_mem];grind [F1.ready,PC]
  simp_all
 | n+1,m,pend,listed,fr,st,hr,h=>by
  simp[KG]at h;split at h
  ·rename_i i o hfind
   obtain⟨ho,hf⟩:=NC hfind;simp at hf;obtain⟨hrd,hN,hfree⟩:=hf;have hmem:=hr.ready.2 ⟨o,ho,hrd⟩;have hr':=hr.set (Array.getElem?_eq_some_iff.1 ho).1;have hIi:∀st,IP cfg P ops pend i st:=λst oj hoj hc=>by
    grind [isN_call]
   split at h
   ·--a reading that is checked behind calls
    rename_i t q hpn;obtain⟨a,hop,hq⟩:=Aal hpn;obtain⟨tt,hw,hg⟩:=Ic h;cases tt with
    | true=>
     obtain⟨v,hv,hk⟩:=Cl.K_iff.1 hg;have hk:=KX hk;have hab:=Gl n _ _ _ _ st hr' hk;have hny:∀(s:St) (fr':Fr),DX ops fr'.slots o.guard=some true->(∀x,x∈o.op.operands->opS fr'.slots x=opS fr.slots x)->(Fk P s fr'.loc t (.t q)).Is v->NY P ops o v s fr':=λs fr' hw hx hl=>by
      refine .inl ⟨hw,?_⟩;grind [Cu,Go.Op.operands]
     refine TY (I':=IP cfg P ops (⟨i,t,q,v⟩::pend)) (S:=λ_=>True) ho hN hIi (λj st hI oj hoj hc p hp hb=>hI oj hoj hc p (List.mem_cons_of_mem _ hp) hb) ?_ n listed fr st (λ_ h=>h) (λ_ _=>rfl) rfl (λ_ _=>rfl) (JA hr hfree) hmem ⟨st,trivial,hny st fr hw (λ_ _=>rfl) hv,λ_=>D8.refl st⟩ hab;intro _ _ j oj st' s fr' hoj hc hno hI _ hy hx;rcases hy with hy | hy
     ·refine⟨st',trivial,hny st' fr' hy.1 hx ?_,D8.refl _⟩
      refine chk1_is (p:=⟨i,t,q,v⟩) (hI oj hoj hc ⟨i,t,q,v⟩ (List.mem_cons_self ..) ?_);grind [I1]
     ·exact⟨st',trivial,.inr hy,D8.refl _⟩
    | false=>
     have hle:D8 (RZ calls st) st:=by cases calls;exact D8.refl st;exact D8.blind st
     have hcall:calls=true->Mr fr.slots o.op= .mem->∀j oj st' s fr',ops[j]? =some oj->Gt cfg oj=true->(∀e∈oj.after,Region.binds .any e=true->e.on≠i)->IP cfg P ops pend j st'->s=RZ calls st->∀v,NY P ops o v s fr'->(∀x,x∈o.op.operands->opS fr'.slots x=opS fr.slots x)->∃s',s'=RZ calls st/\NY P ops o v s' fr'/\D8 s' st':=by
      intro hcl _ j oj st' s fr' _ _ _ _ hs v hy _;subst hs;exact⟨_,rfl,hy,by rw[hcl];exact D8.blind st'⟩
     exact TY (S:=λs=>s=RZ calls st) (v:= .t .undef) ho hN hIi (λ_ _ h=>h) (λa1 a2 a3 a4 a5 a6 a7 a8 a9 a10 a11 a12 a13 a14=>hcall a1 a2 a3 a4 a5 a6 a7 a8 a9 a10 a11 a12 _ a13 a14) n listed fr st (λ_ h=>h) (λ_ _=>rfl) rfl (λ_ _=>rfl) (JA hr hfree) hmem ⟨_,rfl,.inr ⟨hw,rfl⟩,λ_=>hle⟩ (Gl n _ _ _ _ st hr' hg)
   ·have hle:D8 (RZ calls st) st:=by cases calls;exact D8.refl st;exact D8.blind st
    have hcall:calls=true->Mr fr.slots o.op= .mem->∀j oj st' s fr',ops[j]? =some oj->Gt cfg oj=true->(∀e∈oj.after,Region.binds .any e=true->e.on≠i)->IP cfg P ops pend j st'->s=RZ calls st->∀v,NY P ops o v s fr'->(∀x,x∈o.op.operands->opS fr'.slots x=opS fr.slots x)->∃s',s'=RZ calls st/\NY P ops o v s' fr'/\D8 s' st':=by
     intro hcl _ j oj st' s fr' _ _ _ _ hs v hy _;subst hs;exact⟨_,rfl,hy,by rw[hcl];exact D8.blind st'⟩
    obtain⟨t,hw,hg⟩:=Ic h;cases t with
    | true=>
     obtain⟨v,hv,hk⟩:=Cl.K_iff.1 hg;exact TY (S:=λs=>s=RZ calls st) ho hN hIi (λ_ _ h=>h) (λa1 a2 a3 a4 a5 a6 a7 a8 a9 a10 a11 a12 a13 a14=>hcall a1 a2 a3 a4 a5 a6 a7 a8 a9 a10 a11 a12 _ a13 a14) n listed fr st (λ_ h=>h) (λ_ _=>rfl) rfl (λ_ _=>rfl) (JA hr hfree) hmem ⟨_,rfl,.inl ⟨hw,hv⟩,λ_=>hle⟩ (Gl n _ _ _ _ st hr' (KX hk))
    | false=>
     exact TY (S:=λs=>s=RZ calls st) (v:= .t .undef) ho hN hIi (λ_ _ h=>h) (λa1 a2 a3 a4 a5 a6 a7 a8 a9 a10 a11 a12 a13 a14=>hcall a1 a2 a3 a4 a5 a6 a7 a8 a9 a10 a11 a12 _ a13 a14) n listed fr st (λ_ h=>h) (λ_ _=>rfl) rfl (λ_ _=>rfl) (JA hr hfree) hmem ⟨_,rfl,.inr ⟨hw,rfl⟩,λ_=>hle⟩ (Gl n _ _ _ _ st hr' hg)
  ·split at h
   ·rename_i hf
    refine .inr ⟨λ_=>h,λi hi=>?_⟩;grind [F1.ready,PC]
   ·rename_i r o hfr
    obtain⟨ho,hrd⟩:=NC hfr;have hmem:=hr.ready.2 ⟨o,ho,hrd⟩;split at h
    ·rename_i hone
     have hr':=hr.set (Array.getElem?_eq_some_iff.1 ho).1;have only:∀i∈Region.ready .any ops listed,i=r:=λi hi=>by
      obtain⟨o2,ho2,hrd2⟩:=hr.ready.1 hi;grind [PC,Nat.eq_of_beq_eq_true]
     split at h
     ·rename_i hhole
      obtain⟨rfl,hm1,hsz⟩:=RX hhole;have hbit:∀j,listed.getD j false=decide (j<r):=λj=>by
       rw[hr.2,GZ,show m=2^r-1 from by omega,Nat.testBit_two_pow_sub_one]
      obtain⟨h1,h2⟩:=XM hsz hmem only hr.1 (λj hj=>by simp_all) (λj hj=>by simp_all) h;exact .inl ⟨h1,h2⟩
     refine .inr ⟨λh0=>(by simp_all),λi hi o' ho'=>?_⟩;have hir:=only i hi;subst hir;rw[ho]at ho';cases ho';obtain⟨t,hw,hg⟩:=Ic h;have fin:∀(fr':Fr) (st':St),Ps cfg P o st' (KG cfg P ops calls K n (HM m i) pend fr' st') pend->IP cfg P ops pend i st'/\DD cfg P ops (IP cfg P ops pend) K n (listed.setIfInBounds i true) fr' st':=λfr' st' hc=>by
      obtain⟨h1,h2⟩:=Wp hc;refine⟨λoj hoj hcl p hp hb=>?_,Gl n _ _ _ _ _ hr' h1⟩;simp_all
     unfold stepA;rw[hw];cases t with
     | true=>
      have:=IT (show FO cfg P o.dst o.type o.op (opS fr.slots) fr.loc st (λv loc' st'=>Ps cfg P o st' (KG cfg P ops calls K n (HM m i) pend ⟨BA fr.slots o.dst v,loc'⟩ st') pend)from hg);simp[Gj]at this⊢;cases hN:isN P o.op with
      | true=>
       grind
      | false=>
       simp[hN]at this⊢;exact EU o (λ_ _=>rfl) (λv loc' st' _ _ hk=>fin _ _ hk) this
     | false=>exact fin _ _ hg
    ·rename_i r2 o2 hfr2
     split at h
     ·rename_i hst
      simp at hst;obtain⟨hs1,hs2,hno⟩:=hst;obtain⟨ho2,hq2⟩:=NC hfr2;have one:∀(i:Nat) (oi:Oper),ops[i]? =some oi->isSt oi=true->(FO cfg P oi.dst oi.type oi.op (opS fr.slots) fr.loc st λv loc' st'=>Ps cfg P oi st' (KG cfg P ops calls K n (HM m i) pend ⟨BA fr.slots oi.dst v,loc'⟩ st') pend)->
        stepA cfg P ops oi (λfr' st'=>IP cfg P ops pend i st'/\DD cfg P ops (IP cfg P ops pend) K n (listed.setIfInBounds i true) fr' st') fr st:=by
       intro i oi hoi hsi hstep;have hr':=hr.set (Array.getElem?_eq_some_iff.1 hoi).1;have fin:∀(fr':Fr) (st':St),Ps cfg P oi st' (KG cfg P ops calls K n (HM m i) pend fr' st') pend->IP cfg P ops pend i st'/\DD cfg P ops (IP cfg P ops pend) K n (listed.setIfInBounds i true) fr' st':=λfr' st' hc=>by
        obtain⟨h1,h2⟩:=Wp hc;refine⟨λoj hoj hcl p hp hb=>?_,Gl n _ _ _ _ _ hr' h1⟩;simp_all
       have hg:oi.guard=none:=by
        grind [isSt]
       have:=IT hstep;unfold stepA;rw[hg];simp[DX];simp[Gj]at this⊢;cases hN:isN P oi.op with
       | true=>
        grind
       | false=>
        simp[hN]at this⊢;exact EU oi (λ_ _=>rfl) (λv loc' st' _ _ hk=>fin _ _ hk) this
      refine .inr ⟨λh0=>(by simp_all),λi hi o' ho'=>?_⟩;obtain⟨o3,ho3,hrd3⟩:=hr.ready.1 hi;rw[ho']at ho3;cases ho3;have hii:i=r∨i=r2:=by
       grind [PC,YX,Nat.eq_of_beq_eq_true]
      rcases hii with rfl | rfl
      all_goals simp_all
     split at h
     ·rename_i i o' hlo
      obtain⟨ho',hq⟩:=NC hlo;simp at hq;split at h
      ·rename_i k t hkt
       split at h
       ·rename_i cells hz hl
        rw[Al]at h;obtain⟨hc,hk⟩:=h;simp at hc;obtain⟨hg,hop,hix⟩:=loB_spec hkt;refine afirst ho' hop hg hix hz (λst oj hoj hcl=>?_) n listed fr st (V2 hr hc.1) (hr.ready.2 ⟨o',ho',hq.1⟩) hl hc.2 (Gl n _ _ _ _ st (hr.set (Array.getElem?_eq_some_iff.1 ho').1) hk);grind [Gt,QR,XJ]
       simp_all
      simp_all
     simp_all
def hasCall (cfg:Cfg) (ops:Array Oper):Bool:=ops.any λo=>Gt cfg o
def flA (o:Oper):Option (Nat×TypeId):=match o.guard,o.dst,o.op with
 | none,some d,.alloc t=>some (d,t)
 | _,_,_=>none
def flS (d:Nat) (t:TypeId) (o:Oper):Option Bool:=match o.guard,o.dst,o.op with
 | none,none,.store u (.tmp e) (.const (.bool b))=>match (e.beq d).and (Nat.beq u t)with | true=>some b | false=>none
 | _,_,_=>none
def flL (d:Nat) (t:TypeId) (o:Oper):Option Nat:=match o.guard,o.dst,o.op with
 | none,some e,.load u (.tmp f)=>match (f.beq d).and (Nat.beq u t)with | true=>some e | false=>none
 | _,_,_=>none
structure Flip where
 k:Nat
 d:Nat
 t:TypeId
 e:Nat
 b:Bool
 c:Bool
def Zn (cfg:Cfg):List Oper->Option Flip
 | [oA,o1,o2,oL]=>match flA oA with
  | some (d,t)=>match flS d t o1,flS d t o2,flL d t oL,EG cfg.loc (some d)with
   | some b,some c,some e,some k=>match ((EF oA).beq 0).and (((EF o1).beq 1).and (((EF o2).beq 1).and ((EF oL).beq 7)))with
    | true=>some ⟨k,d,t,e,b,c⟩
    | false=>none
   | _,_,_,_=>none
  | none=>none
 | _=>none
def flipK (P:Program) (f:Flip) (K:Fr->St->Prop) (fr:Fr) (st:St):Prop:=
 match GN P f.t,MJ P f.t,fr.loc[f.k]? with
 | some [_],some false,some none=>need (((f.d+1).ble fr.slots.n).and ((P.cellsOf f.t).beq 1))
   (K ⟨(fr.slots.set f.d (.loc f.k 0)).set f.e (.t (.bool f.b)),fr.loc.set f.k (some [.bool f.b])⟩ st/\
    K ⟨(fr.slots.set f.d (.loc f.k 0)).set f.e (.t (.bool f.c)),fr.loc.set f.k (some [.bool f.c])⟩ st)
 | _,_,_=>False
theorem flA_spec {o:Oper} {d:Nat} {t:TypeId} (h:flA o=some (d,t)):o.guard=none/\o.dst=some d/\o.op= .alloc t:=by
 grind [flA]
theorem V4 {d:Nat} {t:TypeId} {o:Oper} {b:Bool} (h:flS d t o=some b):o.guard=none/\o.dst=none/\o.op= .store t (.tmp d) (.const (.bool b)):=by
 grind [flS,Nat.eq_of_beq_eq_true]
theorem flL_spec {d:Nat} {t:TypeId} {o:Oper} {e:Nat} (h:flL d t o=some e):o.guard=none/\o.dst=some e/\o.op= .load t (.tmp d):=by
 grind [flL,Nat.eq_of_beq_eq_true]
theorem flip_abs {f:Flip} (hf:Zn cfg ops.toList=some f) {K:Fr->St->Prop} {fr:Fr} {st:St} (h:flipK P f K fr st):DD cfg P ops (λ_ _=>True) K 4 (Array.replicate ops.size false) fr st:=by
 unfold Zn at hf;split at hf
 ·rename_i oA o1 o2 oL BE
  split at hf
  ·rename_i d t hA
   split at hf
   ·rename_i b c e k h1 h2 hL hk
    split at hf
    ·rename_i hm
     simp at hf;subst hf;simp only[Bool.and_eq_true]at hm;obtain⟨mA,m1,m2,mL⟩:=hm;have mA:=Nat.eq_of_beq_eq_true mA;have m1:=Nat.eq_of_beq_eq_true m1;have m2:=Nat.eq_of_beq_eq_true m2;have mL:=Nat.eq_of_beq_eq_true mL;obtain⟨gA,dA,pA⟩:=flA_spec hA;obtain⟨g1,d1,p1⟩:=V4 h1;obtain⟨g2,d2,p2⟩:=V4 h2;obtain⟨gL,dL,pL⟩:=flL_spec hL;unfold flipK at h;simp only at h;split at h
     ·rename_i z hz hag hloc
      rw[Al,Bool.and_eq_true]at h;obtain⟨⟨hn,hco⟩,hK1,hK2⟩:=h;have hn:=Nat.le_of_ble_eq_true hn;have hco:=Nat.eq_of_beq_eq_true hco;have hsz:ops.size=4:=by grind [Array.length_toList]
      have get:∀i,ops[i]? =[oA,o1,o2,oL][i]? :=λi=>by rw[<-Array.getElem?_toList,BE]
      have s0:F1 ops 0 (Array.replicate ops.size false):=F1.start;have s1:=s0.set (i:=0) (by omega);have rdy:∀{m listed},F1 ops m listed->∀j o,j∈Region.ready .any ops listed->ops[j]? =some o->j<4/\Dm m j o=true:=λhr j o hj ho=>by
       grind [F1.ready]
      have some4:∀{m listed},F1 ops m listed->∀j o,ops[j]? =some o->Dm m j o=true->Region.ready .any ops listed≠ []:=λhr j o ho hrd h0=>by
       grind [F1.ready]
      have hkl:=(List.getElem?_eq_some_iff.1 hloc).1;have stA:∀{o:Oper} {K':Fr->St->Prop} {fr':Fr},o.guard=none->Gj cfg P o.dst o.type o.op (opS fr'.slots) fr'.loc st (λv loc' st'=>K' ⟨BA fr'.slots o.dst v,loc'⟩ st')->stepA cfg P ops o K' fr' st:=λhg hs=>by
       unfold stepA;rw[hg];exact hs
      have store:∀{o:Oper} {bb:Bool} {K':Fr->St->Prop} {fr':Fr} {x:TV},o.guard=none->o.dst=none->o.op= .store t (.tmp d) (.const (.bool bb))->fr'.slots.f d= .loc k 0->fr'.loc[k]? =some (some [x])->K' ⟨fr'.slots,fr'.loc.set k (some [.bool bb])⟩ st->stepA cfg P ops o K' fr' st:=by
       intro o bb K' fr' x hg hd ho hs hl hK';refine stA hg ?_;rw[hd,ho];simp[Gj,isN,eop,hag,hco];have hv:opS fr'.slots (.tmp d)= .loc k 0:=hs;rw[Al,Al,hv];refine⟨rfl,rfl,?_⟩;simp[stK,hl];rw[Al];exact⟨rfl,hK'⟩
      have load:∀{o:Oper} {ee:Nat} {K':Fr->St->Prop} {fr':Fr} {x:TV},o.guard=none->o.dst=some ee->o.op= .load t (.tmp d)->fr'.slots.f d= .loc k 0->fr'.loc[k]? =some (some [x])->K' ⟨fr'.slots.set ee (.t x),fr'.loc⟩ st->stepA cfg P ops o K' fr' st:=by
       intro o ee K' fr' x hg hd ho hs hl hK';refine stA hg ?_;rw[hd,ho];simp[Gj,isN];have hv:opS fr'.slots (.tmp d)= .loc k 0:=hs;refine⟨.t x,?_,hK'⟩;simp[Cu,Fk,hag,hv];exact⟨x,by simp[Af,hl],rfl⟩
      have hsd:(fr.slots.set d (.loc k 0)).f d= .loc k 0:=Be.set_eq hn
      --the way:alloc;two stores;load
      have fin:∀(i j:Nat) (oi oj:Oper) (bi bj:Bool),ops[i]? =some oi->ops[j]? =some oj->((i=1/\j=2)∨(i=2/\j=1))->oj.guard=none->oj.dst=none->oj.op= .store t (.tmp d) (.const (.bool bj))->EF oj=1->
        K ⟨(fr.slots.set d (.loc k 0)).set e (.t (.bool bj)),fr.loc.set k (some [.bool bj])⟩ st->∀listed,F1 ops (HM 1 i) listed->DD cfg P ops (λ_ _=>True) K 2 listed ⟨fr.slots.set d (.loc k 0),fr.loc.set k (some [.bool bi])⟩ st:=by
       intro i j oi oj bi bj hi hj hij gj dj pj mj hK listed hr;refine .inr ⟨λh0=>absurd h0 (some4 hr j oj hj ?_),λq hq o ho=>?_⟩
       ·unfold Dm;rw[mj];rcases hij with⟨rfl,rfl⟩ | ⟨rfl,rfl⟩<;>decide
       ·obtain⟨hq4,hrd⟩:=rdy hr q o hq ho
        have hqj:q=j:=by
         rw[get]at ho;unfold Dm at hrd
         match q,hq4 with
         | 0,_=>cases ho;rcases hij with⟨rfl,rfl⟩ | ⟨rfl,rfl⟩<;>(exfalso;revert hrd;rw[mA];decide)
         | 1,_=>cases ho;rcases hij with⟨rfl,rfl⟩ | ⟨rfl,rfl⟩<;>first | rfl | (exfalso;revert hrd;rw[m1];decide)
         | 2,_=>cases ho;rcases hij with⟨rfl,rfl⟩ | ⟨rfl,rfl⟩<;>first | rfl | (exfalso;revert hrd;rw[m2];decide)
         | 3,_=>cases ho;rcases hij with⟨rfl,rfl⟩ | ⟨rfl,rfl⟩<;>(exfalso;revert hrd;rw[mL];decide)
        subst hqj;rw[hj]at ho;cases ho;refine store gj dj pj hsd (x:= .bool bi) (by grind) ⟨trivial,?_⟩;have hr2:=hr.set (i:=q) (by omega);have h7:HM (HM 1 i) q=7:=by rcases hij with⟨rfl,rfl⟩ | ⟨rfl,rfl⟩<;>decide
        rw[h7]at hr2;have hL3:ops[3]? =some oL:=by rw[get];rfl
        refine .inr ⟨λh0=>absurd h0 (some4 hr2 3 oL hL3 (by unfold Dm;rw[mL];decide)),λq' hq' o' ho'=>?_⟩;obtain⟨hq4',hrd'⟩:=rdy hr2 q' o' hq' ho';have hq3:q'=3:=by
         rw[get]at ho';unfold Dm at hrd'
         match q',hq4' with
         | 0,_=>cases ho';exfalso;revert hrd';rw[mA];decide
         | 1,_=>cases ho';exfalso;revert hrd';rw[m1];decide
         | 2,_=>cases ho';exfalso;revert hrd';rw[m2];decide
         | 3,_=>rfl
        subst hq3;rw[hL3]at ho';cases ho';refine load gL dL pL hsd (x:= .bool bj) (by grind) ⟨trivial,?_,?_⟩
        ·have hr3:=hr2.set (i:=3) (by omega)
         rw[List.eq_nil_iff_forall_not_mem];intro q'' hq'';obtain⟨o'',ho'',hrd''⟩:=hr3.ready.1 hq'';have:q''<4:=by have:=(Array.getElem?_eq_some_iff.1 ho'').1;omega
         unfold Dm at hrd'';rw[show HM 7 3=15 from by decide]at hrd''
         match q'',this with
         | 0,_=>exact absurd hrd'' (by simp[show ID 15 0=true from by decide])
         | 1,_=>exact absurd hrd'' (by simp[show ID 15 1=true from by decide])
         | 2,_=>exact absurd hrd'' (by simp[show ID 15 2=true from by decide])
         | 3,_=>exact absurd hrd'' (by simp[show ID 15 3=true from by decide])
        simp_all
      have hA0:ops[0]? =some oA:=by rw[get];rfl
      have h11:ops[1]? =some o1:=by rw[get];rfl
      have h22:ops[2]? =some o2:=by rw[get];rfl
      refine .inr ⟨λh0=>absurd h0 (some4 s0 0 oA hA0 (by unfold Dm;rw[mA];decide)),λq hq o ho=>?_⟩;obtain⟨hq4,hrd⟩:=rdy s0 q o hq ho;have hq0:q=0:=by
       rw[get]at ho;unfold Dm at hrd
       match q,hq4 with
       | 0,_=>rfl
       | 1,_=>cases ho;exfalso;revert hrd;rw[m1];decide
       | 2,_=>cases ho;exfalso;revert hrd;rw[m2];decide
       | 3,_=>cases ho;exfalso;revert hrd;rw[mL];decide
      subst hq0;rw[hA0]at ho;cases ho;refine stA gA ?_;rw[dA,pA];simp only[Gj,isN,eop,hz,hk,Es,hloc];refine⟨trivial,?_⟩;rw[show HM 0 0=1 from by decide]at s1;refine .inr ⟨λh0=>absurd h0 (some4 s1 1 o1 h11 (by unfold Dm;rw[m1];decide)),λq hq o ho=>?_⟩;obtain⟨hq4,hrd⟩:=rdy s1 q o hq ho;have hq12:q=1∨q=2:=by
       rw[get]at ho;unfold Dm at hrd
       match q,hq4 with
       | 0,_=>cases ho;exfalso;revert hrd;rw[mA];decide
       | 1,_=>exact .inl rfl
       | 2,_=>exact .inr rfl
       | 3,_=>cases ho;exfalso;revert hrd;rw[mL];decide
      have hsd':=hsd;rcases hq12 with rfl | rfl
      ·rw[h11]at ho;cases ho
       refine store g1 d1 p1 hsd' (x:=z) (by rw[List.getElem?_set_self hkl]) ⟨trivial,?_⟩;simp;exact fin 1 2 o1 o2 b c h11 h22 (.inl ⟨rfl,rfl⟩) g2 d2 p2 m2 hK2 _ (s1.set (i:=1) (by omega))
      ·rw[h22]at ho;cases ho
       refine store g2 d2 p2 hsd' (x:=z) (by rw[List.getElem?_set_self hkl]) ⟨trivial,?_⟩;simp;exact fin 2 1 o2 o1 c b h22 h11 (.inr ⟨rfl,rfl⟩) g1 d1 p1 m1 hK1 _ (s1.set (i:=2) (by omega))
     simp_all
    ·cases hf
   ·cases hf
  ·cases hf
 ·cases hf
def XZ (cfg:Cfg) (P:Program) (ops:Array Oper) (K:Fr->St->Prop) (fr:Fr) (st:St):Prop:=
 match Zn cfg ops.toList with
 | some f=>flipK P f K fr st
 | none=>KG cfg P ops (hasCall cfg ops) K ops.size 0 [] fr st
theorem Ud {K:Fr->St->Prop} {Q:Exit->Act->World->Prop} (hm:P.follows .mixedOrders=true) {id:Nat} {fr:Fr} {st:St} {g:Ak} {w:World} {a:Act} (h:XZ cfg P ops K fr st) (s:Sim g st fr.loc w) (hf:DM g w fr a.tmps)
  (hq:∀a' w',JX g w a K a' w'->Q .normal a' w') (hx:XQ g w cfg.exc a Q):(Code.region id ops true).wp P Q a w:=by
 obtain⟨sd,ed⟩:=s.drew;have hfd:DM g w.drew fr a.tmps:=⟨hf.1,λi=>(hf.2 i).keep ed (Ce.refl _ _)⟩;unfold XZ at h;split at h
 ·rename_i f hfl
  have hsz:ops.size=4:=by
   unfold Zn at hfl;grind [Array.length_toList]
  have:=OE (Q:=Q) _ _ fr st g w.drew a (flip_abs hfl h) sd hfd (λa' w' hp=>hq _ _ (hp.ext ed ⟨rfl,rfl⟩)) (hx.ext ed rfl);rw[<-hsz]at this;exact wp_region_any hm this
 ·exact wp_region_any hm (OE _ _ fr st g w.drew a (Gl _ _ _ _ _ _ F1.start h) sd hfd (λa' w' hp=>hq _ _ (hp.ext ed ⟨rfl,rfl⟩)) (hx.ext ed rfl))
end
end Go.TVF
end
section
namespace Go.TVF
open Go.IntKind(i64 u8)
open Go.RowKit (Below)
structure Gu where
 slots:List (Nat×CTy)
 ptrs:List (Nat×Nat×Nat)
 locs:List (Nat×Nat)
 cells:List (Nat×Nat×CTy)
inductive II where
 | none
 | seq (a b:II)
 | cut (k:Gu) (a b:II)
 | cond (a b:II)
 | block (a:II)
 | loop (k:Gu) (a:II)
def II.l:II->II
 | .seq a _=>a
 | .cut _ a _=>a
 | .cond a _=>a
 | .block a=>a
 | .loop _ a=>a
 | .none=> .none
def II.r:II->II
 | .seq _ b=>b
 | .cut _ _ b=>b
 | .cond _ b=>b
 | _=> .none
def Gu.tys (k:Gu):List CTy:=k.slots.map (·.2)++k.cells.map (·.2.2)
def N9 (fr:Fr) (s:Nat):TV:=(fr.slots.f s).tv
def OB (fr:Fr) (i o:Nat):TV:=match fr.loc[i]? with | some (some l)=>l.getD o .junk | _=> .junk
def Gu.vals (k:Gu) (fr:Fr):List TV:=(k.slots.map λp=>N9 fr p.1)++k.cells.map λp=>OB fr p.1 p.2.1
def Zf (fr:Fr) (s i o:Nat):Bool:=match fr.slots.f s with | .loc j p=>(j.beq i).and (p.beq o) | _=>false
def isSize (fr:Fr) (i n:Nat):Bool:=match fr.loc[i]? with | some (some l)=>l.length.beq n | _=>false
def look (s:Nat):List (Nat×CTy)->List TV->Option TV
 | p::ps,v::vs=>match p.1.beq s with | true=>some v | false=>look s ps vs
 | _,_=>none
def VK (i o:Nat):List (Nat×Nat×CTy)->List TV->Option TV
 | p::ps,v::vs=>match (p.1.beq i).and (p.2.1.beq o)with | true=>some v | false=>VK i o ps vs
 | _,_=>none
def Y7 (s:Nat):List (Nat×Nat×Nat)->Option (Nat×Nat)
 | p::ps=>match p.1.beq s with | true=>some p.2 | false=>Y7 s ps
 | []=>none
def QJ (i:Nat):List (Nat×Nat)->Option Nat
 | p::ps=>match p.1.beq i with | true=>some p.2 | false=>QJ i ps
 | []=>none
def hasLoc (k:Gu) (nl i:Nat):Bool:=match QJ i k.locs with | some _=>(i+1).ble nl | none=>false
def Gu.ok (k:Gu) (nl:Nat) (fr:Fr):Bool:=(k.ptrs.all λp=>(Zf fr p.1 p.2.1 p.2.2).and (hasLoc k nl p.2.1)).and (k.locs.all λp=>isSize fr p.1 p.2)
def Xf (k:Gu) (vals:List TV) (s:Nat):SV:=
 match look s k.slots vals with
 | some v=> .t v
 | none=>match Y7 s k.ptrs with
  | some p=> .loc p.1 p.2
  | none=> .t .junk
def Yh (k:Gu) (vals:List TV) (i o:Nat):TV:=match VK i o k.cells (vals.drop k.slots.length)with | some v=>v | none=> .junk
def HY (k:Gu) (vals:List TV) (i:Nat):Nat->Nat->List TV
 | 0,_=>[]
 | n+1,o=>Yh k vals i o::HY k vals i n (o+1)
def OQ (k:Gu) (vals:List TV):Nat->Nat->List (Option (List TV))
 | 0,_=>[]
 | n+1,i=>(match QJ i k.locs with | some m=>some (HY k vals i m 0) | none=>none)::OQ k vals n (i+1)
def Gu.frame (k:Gu) (ns nl:Nat) (vals:List TV):Fr:=⟨⟨ns,Xf k vals⟩,OQ k vals nl 0⟩
def Wj:(cs:List CTy)->{A B:Type}->List TV->Fun cs A->Fun cs B->(A->B->Prop)->Prop
 | [],_,_,[],f,g,k=>k f g
 | [],_,_,_::_,_,_,_=>False
 | _::_,_,_,[],_,_,_=>False
 | c::cs,_,_,v::vs,f,g,k=>CG c v λy=>Wj cs vs (f y) (g y) k
def AllC:(cs:List CTy)->Fun cs (St->Prop)->Fun cs (St->Nat)->(List TV->Nat->St->Prop)->Prop
 | [],I,M,B=>∀st,I st->B [] (M st) st
 | c::cs,I,M,B=>∀y:c.I,AllC cs (I y) (M y) λl=>B (enc c y::l)
def AllC1:(cs:List CTy)->Fun cs (St->Prop)->(List TV->St->Prop)->Prop
 | [],I,B=>∀st,I st->B [] st
 | c::cs,I,B=>∀y:c.I,AllC1 cs (I y) λl=>B (enc c y::l)
def Sg (next:Fr->St->Prop) (Q:Exit->Fr->St->Prop):Exit->Fr->St->Prop
 | .normal,fr,st=>next fr st
 | e,fr,st=>Q e fr st
def Yl (id:Nat) (Q:Exit->Fr->St->Prop):Exit->Fr->St->Prop
 | .exit id',fr,st=>match id'.beq id with | true=>Q .normal fr st | false=>Q (.exit id') fr st
 | e,fr,st=>Q e fr st
def cwp (cfg:Cfg) (P:Program) (ns nl:Nat):Code->II->(Exit->Fr->St->Prop)->Fr->St->Prop
 | .skip,_,Q,fr,st=>Q .normal fr st
 | .region _ ops draw,_,Q,fr,st=>match draw with
  | false=>LT cfg P ops (Q .normal) ops.toList fr st
  | true=>XZ cfg P ops (Q .normal) fr st
 | .seq a b,h,Q,fr,st=>match h with
  | .cut k ha hb=>∃R:Fun k.tys (St->Prop),cwp cfg P ns nl a ha (Sg (λfr st=>need (k.ok nl fr) (L5 k.tys (k.vals fr) R λp=>p st)) Q) fr st/\
    AllC1 k.tys R λvals st=>cwp cfg P ns nl b hb Q (k.frame ns nl vals) st
  | h=>cwp cfg P ns nl a h.l (Sg (cwp cfg P ns nl b h.r Q) Q) fr st
 | .cond c a b,h,Q,fr,st=>match opS fr.slots c with
  | .t (.bool x)=>BIf x (cwp cfg P ns nl a h.l Q fr st) (cwp cfg P ns nl b h.r Q fr st)
  | _=>False
 | .block id a,h,Q,fr,st=>cwp cfg P ns nl a h.l (Yl id Q) fr st
 | .loop a,h,Q,fr,st=>match h with
  | .loop k ha=>∃(I:Fun k.tys (St->Prop)) (M:Fun k.tys (St->Nat)),need (k.ok nl fr) (L5 k.tys (k.vals fr) I λp=>p st)/\
    AllC k.tys I M λvals m st=>cwp cfg P ns nl a ha (Sg (λfr st=>need (k.ok nl fr) (Wj k.tys (k.vals fr) I M λp q=>p st/\q st<m)) Q) (k.frame ns nl vals) st
  | _=>False
 | .exit id,_,Q,fr,st=>Q (.exit id) fr st
 | .ret,_,Q,fr,st=>Q .ret fr st
 | _,_,_,_,_=>False
end Go.TVF
end
section
namespace Go.TVF
open Go.IntKind(i64 u8)
open Go.RowKit (Below)
section
variable {P:Program} {g:Ak} {st:St} {w:World}
theorem Xy {s:Nat} {f:Nat->TV}:∀{ps:List (Nat×CTy)} {rest:List TV} {v:TV},look s ps (ps.map (λp=>f p.1)++rest)=some v->v=f s
 :=by intro a0;induction a0<;>grind [look,Nat.eq_of_beq_eq_true]
theorem VJ {i o:Nat} {f:Nat->Nat->TV}:∀{ps:List (Nat×Nat×CTy)} {v:TV},VK i o ps (ps.map λp=>f p.1 p.2.1)=some v->v=f i o
 :=by intro a0;induction a0<;>grind [VK,Nat.eq_of_beq_eq_true]
theorem Aar {s:Nat}:∀{ps:List (Nat×Nat×Nat)} {q:Nat×Nat},Y7 s ps=some q->(s,q)∈ps
 :=by intro a0;induction a0<;>grind [Y7,Nat.eq_of_beq_eq_true]
theorem Aas {s:Nat}:∀{ps:List (Nat×Nat)} {q:Nat},QJ s ps=some q->(s,q)∈ps
 :=by intro a0;induction a0<;>grind [QJ,Nat.eq_of_beq_eq_true]
theorem OR (k:Gu) (vals:List TV) (i:Nat):∀n o,(HY k vals i n o).length=n
 :=by intro a0;induction a0<;>simp_all[HY]
theorem VF (k:Gu) (vals:List TV) (i:Nat):∀n o j,j<n->(HY k vals i n o)[j]? =some (Yh k vals i (o+j))
 :=by intro a0;induction a0<;>grind [HY]
theorem Aaq (k:Gu) (vals:List TV):∀n s i x,(OQ k vals n s)[i]? =some (some x)->∃m,QJ (s+i) k.locs=some m/\x=HY k vals (s+i) m 0
 :=by intro a0;induction a0<;>grind [OQ]
theorem QD (k:Gu) (vals:List TV):∀n s i m,i<n->QJ (s+i) k.locs=some m->(OQ k vals n s)[i]? =some (some (HY k vals (s+i) m 0))
 | 0,s,i,m,h,_=>absurd h (Nat.not_lt_zero _)
 | n+1,s,0,m,h,hm=>by grind [OQ]
 | n+1,s,i+1,m,h,hm=>by
  simp only[OQ,List.getElem?_cons_succ];have:=QD k vals n (s+1) i m (by omega) (by grind);grind
theorem Sim.weakLoc {loc loc':List (Option (List TV))} (s:Sim g st loc w) (h:∀(j:Nat) (x':List TV),loc'[j]? =some (some x')->∃x,loc[j]? =some (some x)/\x'.length=x.length/\∀i (hi:i<x'.length),x'[i]? =x[i]?∨x'[i]? =some .junk):Sim g st loc' w:=by
 have hd:∀k,Dom st loc' k->Dom st loc k:=by
  intro k d;cases k with
  | box i=>exact d
  | loc i=>obtain⟨x',hx'⟩:=d;obtain⟨x,hx,_⟩:=h i x' hx';exact⟨x,hx⟩
 refine⟨s.nb,s.nt,s.below,s.fits,λk d=>?_,λk k' d d'=>s.inj k k' (hd k d) (hd k' d'),λk d=>s.lo k (hd k d),s.own,?_,s.spApart,s.spLt,?_,?_,s.spTop,s.spTy,s.bTy,s.glob⟩
 ·cases k with
  | box i=>exact s.obj (.box i) d
  | loc i=>
   obtain⟨x',hx'⟩:=d;obtain⟨x,hx,hlen,hel⟩:=h i x' hx';have:=s.obj (.loc i) ⟨x,hx⟩;simp only[BO,hx]at this;simp only[BO,hx'];obtain⟨cs,hc,hr⟩:=this;refine⟨cs,hc,hlen.trans hr.1,λj hj=>?_⟩;rcases hel j hj with e | e
   ·have hj':j<x.length:=hlen▸hj
    rw[List.getElem?_eq_getElem hj,List.getElem?_eq_getElem hj']at e;simp only[Option.some.injEq]at e;rw[e];exact hr.2 j hj'
   ·rw[List.getElem?_eq_getElem hj]at e
    simp only[Option.some.injEq]at e;rw[e];exact .junk _
 ·intro id b l h' hsp
  obtain⟨c1,c2,c3,c4,c5⟩:=s.spCell id b l h' hsp;simp_all
 ·grind [Sim.sCell]
 ·intro b hb
  obtain⟨c1,c2,c3⟩:=s.protOk b hb;simp_all
theorem Gu.weak {k:Gu} {fr:Fr} {tmps:Array Value} {ns nl:Nat} (hk:k.ok nl fr=true) (s:Sim g st fr.loc w) (hf:DM g w fr tmps) (hn:tmps.size=ns):
  Sim g st (k.frame ns nl (k.vals fr)).loc w/\DM g w (k.frame ns nl (k.vals fr)) tmps:=by
 simp only[Gu.ok,Bool.and_eq_true,List.all_eq_true]at hk;obtain⟨hp,hl⟩:=hk;have hvals:(k.vals fr).drop k.slots.length=k.cells.map λp=>OB fr p.1 p.2.1:=by
  grind [Gu.vals]
 have hloc:∀(j:Nat) (x':List TV),(OQ k (k.vals fr) nl 0)[j]? =some (some x')->∃x,fr.loc[j]? =some (some x)/\x'.length=x.length/\∀i (hi:i<x'.length),x'[i]? =x[i]?∨x'[i]? =some .junk:=by
  intro j x' hx';obtain⟨m,hm,rfl⟩:=Aaq _ _ _ _ _ _ hx';rw[Nat.zero_add]at hm;have hsz:=hl _ (Aas hm);unfold isSize at hsz;simp only at hsz;split at hsz
  ·rename_i x hx
   have hxl:=Nat.eq_of_beq_eq_true hsz;refine⟨x,hx,by grind [OR],λi hi=>?_⟩;have him:i<m:=by grind [OR]
   rw[VF _ _ _ _ _ _ him,Nat.zero_add,Nat.zero_add];unfold Yh;rw[hvals];cases hc:VK j i k.cells (k.cells.map λp=>OB fr p.1 p.2.1)with
   | none=>grind
   | some v=>
    have:=VJ (f:=OB fr) hc;grind [OB]
  simp_all
 refine⟨s.weakLoc hloc,hn.symm,λi=>?_⟩
 ·have hget:(k.frame ns nl (k.vals fr)).slots.f i=Xf k (k.vals fr) i:=rfl
  rw[hget];have hold:=hf.2 i;unfold Xf;split
  ·rename_i v hv
   have hv':look i k.slots (k.slots.map (λp=>N9 fr p.1)++k.cells.map λp=>OB fr p.1 p.2.1)=some v:=hv;have:=Xy (f:=N9 fr) hv';rw[this];show Rel g w (N9 fr i) _;exact hold.tv
  ·split
   ·rename_i q hq
    obtain⟨hpi,hloc2⟩:=hp _ (Aar hq);unfold hasLoc at hloc2;unfold Zf at hpi;simp only at hpi;split at hpi
    ·rename_i j p hs
     simp only[Bool.and_eq_true]at hpi;have e1:=Nat.eq_of_beq_eq_true hpi.1;have e2:=Nat.eq_of_beq_eq_true hpi.2;rw[hs]at hold;obtain⟨⟨x,hx⟩,hv⟩:=hold;split at hloc2
     ·rename_i m hm
      have hlt:=Nat.le_of_ble_eq_true hloc2;simp only at hlt hm;have:=QD k (k.vals fr) nl 0 q.1 m (by omega) (by grind);exact⟨⟨_,this⟩,by simp_all⟩
     simp_all
    simp_all
   ·exact Rel.junk _
end
end Go.TVF
end
