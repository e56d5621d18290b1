/- What the laws below rest on: a framework for Go programs, and contracts of the functions that they reach. -/
import Derived.Test.YtpfhcnpnngjpnaaGreatDoorGdD
import Derived.Lib.DecodeN
set_option maxRecDepth 20000
set_option linter.unusedVariables false
set_option linter.unusedSimpArgs false
namespace Go.TVF
open Go.IntKind(i64 u8)
open Go Go.Proofs
section
mutual
def Vl.sz:Vl->Nat
 | .mk s l f=>1+s.bytes.length+s.text.length+s.dg.length+CJ l+CX f
def CJ:List Vl->Nat
 | []=>0
 | v::r=>v.sz+CJ r
def Fd.sz:Fd->Nat
 | .mk k v=>k.length+v.sz
def CX:List Fd->Nat
 | []=>0
 | d::r=>d.sz+CX r
end
theorem Vl.sz_pos (v:Vl):1<=v.sz:=by cases v;unfold Vl.sz;omega
theorem HH:∀l:List Vl,l.length<=CJ l
 | []=>Nat.le_refl _
 | v::r=>by have:=HH r;have:=v.sz_pos;unfold CJ;simp only[List.length_cons];omega
theorem Fl:∀l:List Fd,l.length<=CX l
 | []=>Nat.le_refl _
 | .mk k v::r=>by have:=Fl r;have:=v.sz_pos;unfold CX Fd.sz;simp only[List.length_cons];omega
theorem HI:∀{l:List Vl} {i:Nat} {v:Vl},l[i]? =some v->v.sz<=CJ l
 | [],i,v,h=>by simp at h
 | w::r,0,v,h=>by simp at h;subst h;unfold CJ;omega
 | w::r,i+1,v,h=>by have:=HI (by simpa using h:r[i]? =some v);unfold CJ;omega
theorem H7:∀{l:List Fd} {i:Nat} {d:Fd},l[i]? =some d->d.sz<=CX l
 | [],i,v,h=>by simp at h
 | w::r,0,v,h=>by simp at h;subst h;unfold CX;omega
 | w::r,i+1,v,h=>by have:=H7 (by simpa using h:r[i]? =some v);unfold CX;omega
theorem Nj {st:St} {ys:List TV}:∀(k j:Nat),j+k<=ys.length->Ah st [] (.t (.rptr ys)) j k=some ((ys.drop j).take k)
 | 0,j,h=>by simp[Ah]
 | k+1,j,h=>by
  show(match Ac st [] (.t (.rptr ys)) j with | some x=>(Ah st [] (.t (.rptr ys)) (j+1) k).map (x::·) | none=>none)=_
  have hj:j<ys.length:=by omega
  have:Ac st [] (.t (.rptr ys)) j=some ys[j]:=by simp[Ac,hj]
  rw[this]
  simp only
  rw[Nj k (j+1) (by omega),List.drop_eq_getElem_cons hj]
  rfl
theorem SlR.ldc {st:St} {sz n i:Nat} {u:TV} {xs:List TV} (h:SlR st sz u n xs) (hl:xs.length=n*sz) (hi:i<n):Ah st [] (.t (ixT sz u i)) 0 sz=some ((xs.drop (i*sz)).take sz):=by
 have hm:(i+1)*sz<=n*sz:=Nat.mul_le_mul_right _ hi
 rw[Nat.add_mul,Nat.one_mul]at hm
 rcases h with(⟨rfl,rfl,rfl⟩ | ⟨tip,rfl⟩) | ⟨b,off,cap,l,rfl,h2,h3,h4,h5,rfl⟩
 ·omega
 ·show Ah st [] (.t (.rptr (xs.drop (i*sz)))) 0 sz=_
  rw[Nj sz 0 (by rw[List.length_drop];omega),List.drop_zero]
 ·have hc:n*sz<=cap*sz:=Nat.mul_le_mul_right _ h5
  have e1:(((l.drop off).take (n*sz)).drop (i*sz)).take sz=(l.drop (off+i*sz)).take sz:=by
   rw[List.drop_take,List.drop_drop,List.take_take,Nat.min_eq_left (by omega)]
  rw[e1]
  have e:=Il (B:=l.drop (off+i*sz+sz)) (st:=st) (b:=b) ((l.drop (off+i*sz)).take sz) l 0 (off+i*sz) h3 (by
   have:=List.take_append_drop sz (l.drop (off+i*sz))
   rw[List.drop_drop]at this
   rw[Nat.add_zero];exact this.symm)
  rw[show((l.drop (off+i*sz)).take sz).length=sz by simp;omega]at e
  exact e
theorem SlR.lenZ {st:St} {sz n:Nat} {u:TV} {xs:List TV} (h:SlR st sz u n xs):TVF.lenZ sz u=n:=by
 rcases h with(⟨rfl,rfl,rfl⟩ | ⟨tip,rfl⟩) | ⟨b,off,cap,l,rfl,h2,h3,h4,h5,rfl⟩
 ·rfl
 ·simp[TVF.lenZ]
 ·simp[TVF.lenZ]
theorem SlR.lenS {st:St} {sz n:Nat} {u:TV} {xs:List TV} (h:SlR st sz u n xs):TVF.lenS u=n:=by
 rcases h with(⟨rfl,rfl,rfl⟩ | ⟨tip,rfl⟩) | ⟨b,off,cap,l,rfl,h2,h3,h4,h5,rfl⟩<;>rfl
theorem SlR.isSl {st:St} {sz n:Nat} {u:TV} {xs:List TV} (h:SlR st sz u n xs):TVF.isSl u=true:=by
 rcases h with(⟨rfl,rfl,rfl⟩ | ⟨tip,rfl⟩) | ⟨b,off,cap,l,rfl,h2,h3,h4,h5,rfl⟩<;>rfl
theorem GI.nil (st:St) (sz:Nat):GI st sz .nilSlice 0 [] []:= .inl ⟨rfl,rfl,rfl,.inl rfl⟩
theorem TB {n1:Int} {b1 b2:Bool} {s2:B8} {n2 n3 n4 n5 n6:Int} {s3:B8} {u1 u2 u3:TV} {f:Fun [.int .i64,.bool,.bool,.str,.int .i64,.int .i64,.int .i64,.int .i64,.int .i64,.str,.tv,.tv,.tv] Prop} (h:f n1 b1 b2 s2 n2 n3 n4 n5 n6 s3 u1 u2 u3):
  AK [.int .i64,.bool,.bool,.str,.int .i64,.int .i64,.int .i64,.int .i64,.int .i64,.str,.tv,.tv,.tv] (.agg [.int .i64 n1,.bool b1,.bool b2,.str s2,.int .i64 n2,.int .i64 n3,.int .i64 n4,.int .i64 n5,.int .i64 n6,.str s3,u1,u2,u3]) f:=h
theorem DU {n1:Int} {b1 b2:Bool} {s2:B8} {n2 n3 n4 n5 n6:Int} {s3:B8} {u1 u2 u3:TV} (h1:At u1=true) (h2:At u2=true) (h3:At u3=true):
  List.all [.int .i64 n1,.bool b1,.bool b2,.str s2,.int .i64 n2,.int .i64 n3,.int .i64 n4,.int .i64 n5,.int .i64 n6,.str s3,u1,u2,u3] At=true:=by
 simp only[List.all_cons,List.all_nil,h1,h2,h3,Bool.and_true];rfl
end
theorem Vl.cnt_pos (v:Vl):1<=v.cnt:=by cases v;unfold Vl.cnt;omega
theorem Ov:∀{l:List Vl} {i:Nat} {v:Vl},l[i]? =some v->v.cnt<=Bx l
 | [],i,v,h=>by simp at h
 | w::r,0,v,h=>by simp at h;subst h;unfold Bx;omega
 | w::r,i+1,v,h=>by have:=Ov (by simpa using h:r[i]? =some v);unfold Bx;omega
theorem O5:∀{l:List Fd} {i:Nat} {d:Fd},l[i]? =some d->d.cnt<=BR l
 | [],i,v,h=>by simp at h
 | w::r,0,v,h=>by simp at h;subst h;unfold BR;omega
 | w::r,i+1,v,h=>by have:=O5 (by simpa using h:r[i]? =some v);unfold BR;omega
theorem one14 {k:B8} {n1:Int} {b1 b2:Bool} {s2:B8} {n2 n3 n4 n5 n6:Int} {s3:B8} {u1 u2 u3:TV} (h1:At u1=true) (h2:At u2=true) (h3:At u3=true):
  List.all [.str k,.int .i64 n1,.bool b1,.bool b2,.str s2,.int .i64 n2,.int .i64 n3,.int .i64 n4,.int .i64 n5,.int .i64 n6,.str s3,u1,u2,u3] At=true:=by
 simp only[List.all_cons,List.all_nil,h1,h2,h3,Bool.and_true];rfl
def Bh (s:Sc) (ub ul uf:TV):List TV:=[.int .i64 s.kind,.bool s.b,.bool s.neg,.str s.dg,.int .i64 s.ex,.int .i64 s.tk,.int .i64 s.td,.int .i64 s.tn,.int .i64 s.tz,.str s.text,ub,ul,uf]
section
theorem Ux:∀x y:B8,Op.bytesLess x y=false->Op.bytesLess y x=false->x=y
 | [],[],_,_=>rfl
 | [],b::y,h,_=>by cases h
 | a::x,[],_,h=>by cases h
 | a::x,b::y,h1,h2=>by
  simp only[Op.bytesLess,Bool.or_eq_false_iff,Bool.and_eq_false_iff,decide_eq_false_iff_not,beq_eq_false_iff_ne,UInt8.not_lt]at h1 h2
  have hab:a=b:=UInt8.le_antisymm h2.1 h1.1
  subst hab
  rw[Ux x y (h1.2.resolve_left fun h=>h rfl) (h2.2.resolve_left fun h=>h rfl)]
def Jm (d:Fd):List Fd->List Fd
 | []=>[d]
 | x::r=>match Op.bytesLess d.key x.key with
  | true=>d::x::r
  | false=>x::Jm d r
def Ew (f:List Fd):List Fd:=f.foldl (fun out d=>Jm d out) []
theorem K5 (d:Fd):∀l:List Fd,(Jm d l).Perm (d::l)
 | []=>List.Perm.refl _
 | x::r=>by
  unfold Jm
  split
  ·exact List.Perm.refl _
  ·exact((K5 d r).cons x).trans (List.Perm.swap _ _ _)
theorem Xc {d x:Fd} {l:List Fd} (h:x∈Jm d l):x=d∨x∈l:=by
 have:=(K5 d l).mem_iff.1 h
 exact List.mem_cons.1 this
theorem RN (d:Fd):∀l:List Fd,Oq l->Oq (Jm d l)
 | [],_=>List.pairwise_singleton _ _
 | x::r,h=>by
  obtain⟨h1,h2⟩:=List.pairwise_cons.1 h
  unfold Jm
  split
  ·rename_i hl
   refine List.pairwise_cons.2 ⟨fun y hy=>?_,h⟩
   have hx:=Jj _ _ hl
   rcases List.mem_cons.1 hy with rfl | hy
   ·exact hx
   ·exact Fj _ _ _ hx (h1 y hy)
  ·rename_i hl
   refine List.pairwise_cons.2 ⟨fun y hy=>?_,RN d r h2⟩
   rcases Xc hy with rfl | hy
   ·exact hl
   ·exact h1 y hy
theorem UC (f:List Fd):∀out:List Fd,Oq out->Oq (f.foldl (fun out d=>Jm d out) out)/\(f.foldl (fun out d=>Jm d out) out).Perm (out++f):=by
 induction f with
 | nil=>intro out h;exact⟨h,by simp⟩
 | cons d f ih=>
  intro out h
  obtain⟨h1,h2⟩:=ih (Jm d out) (RN d out h)
  refine⟨h1,h2.trans ?_⟩
  refine((K5 d out).append_right f).trans ?_
  simp only[List.cons_append]
  exact(List.perm_middle).symm
theorem SI (f:List Fd):Oq (Ew f):=(UC f [] List.Pairwise.nil).1
theorem FF (f:List Fd):(Ew f).Perm f:=by
 have:=(UC f [] List.Pairwise.nil).2
 rw[List.nil_append]at this
 exact this
def Jv (f:List Fd):Prop:=(f.map Fd.key).Nodup
theorem key_inj {f:List Fd} (h:Jv f) {x y:Fd} (hx:x∈f) (hy:y∈f) (e:x.key=y.key):x=y:=by
 induction f with
 | nil=>cases hx
 | cons d f ih=>
  unfold Jv at h
  rw[List.map_cons,List.nodup_cons]at h
  rcases List.mem_cons.1 hx with h1 | h1<;>rcases List.mem_cons.1 hy with h2 | h2
  ·rw[h1,h2]
  ·exact absurd (by rw[<-h1,e];exact List.mem_map_of_mem h2) h.1
  ·exact absurd (by rw[<-h2,<-e];exact List.mem_map_of_mem h1) h.1
  ·exact ih h.2 h1 h2
theorem Rc:∀{l m:List Fd},Jv l->Oq l->Oq m->l.Perm m->l=m
 | [],m,_,_,_,p=>(List.Perm.nil_eq p)
 | x::l,[],_,_,_,p=>by have:=p.length_eq;simp at this
 | x::l,y::m,hk,hl,hm,p=>by
  obtain⟨l1,l2⟩:=List.pairwise_cons.1 hl
  obtain⟨m1,m2⟩:=List.pairwise_cons.1 hm
  have hxy:x=y:=by
   have hy:y∈x::l:=p.mem_iff.2 (.head _)
   have hx:x∈y::m:=p.mem_iff.1 (.head _)
   refine key_inj hk (.head _) hy (Ux _ _ ?_ ?_)
   ·rcases List.mem_cons.1 hx with rfl | hx
    ·exact FI _
    ·exact m1 x hx
   ·rcases List.mem_cons.1 hy with rfl | hy
    ·exact FI _
    ·exact l1 y hy
  subst hxy
  unfold Jv at hk
  rw[List.map_cons,List.nodup_cons]at hk
  rw[Rc hk.2 l2 m2 (List.Perm.cons_inv p)]
theorem Vj {f f':List Fd} (hk:Jv f) (p:f'.Perm f) (s:Oq f'):f'=Ew f:=
 Rc (((p.map Fd.key).nodup_iff).2 hk) s (SI f) (p.trans (FF f).symm)
mutual
def OC:Vl->Vl
 | .mk s l f=> .mk s (MI l) (Ew (MJ f))
def MI:List Vl->List Vl
 | []=>[]
 | v::r=>OC v::MI r
def OE:Fd->Fd
 | .mk k v=> .mk k (OC v)
def MJ:List Fd->List Fd
 | []=>[]
 | d::r=>OE d::MJ r
end
theorem OD (d:Fd):(OE d).key=d.key:=by cases d;rfl
theorem I9:∀f:List Fd,MJ f=f.map OE
 | []=>by unfold MJ;rfl
 | d::r=>by unfold MJ;rw[I9 r];rfl
theorem I8:∀l:List Vl,MI l=l.map OC
 | []=>by unfold MI;rfl
 | d::r=>by unfold MI;rw[I8 r];rfl
theorem RO {g:Fd->Fd} (hg:∀d,(g d).key=d.key) (d:Fd):∀l:List Fd,Jm (g d) (l.map g)=(Jm d l).map g
 | []=>rfl
 | x::r=>by
  rw[List.map_cons]
  unfold Jm
  rw[hg,hg]
  cases Op.bytesLess d.key x.key with
  | true=>rfl
  | false=>simp only[List.map_cons];rw[RO hg d r]
theorem MK {g:Fd->Fd} (hg:∀d,(g d).key=d.key) (f:List Fd):Ew (f.map g)=(Ew f).map g:=by
 have key:∀(f out:List Fd),(f.map g).foldl (fun out d=>Jm d out) (out.map g)=(f.foldl (fun out d=>Jm d out) out).map g:=by
  intro f
  induction f with
  | nil=>intro out;rfl
  | cons d f ih=>intro out;simp only[List.map_cons,List.foldl_cons];rw[RO hg,ih]
 exact key f []
end
section
theorem Es.map_left {α β γ:Type} {R:α->γ->Prop} {S:β->γ->Prop} {g:α->β} (h:∀a c,R a c->S (g a) c) {l:List α} {m:List γ} (hl:Es R l m):Es S (l.map g) m:=by
 induction hl with
 | nil=>exact .nil
 | cons r _ ih=>exact .cons (h _ _ r) ih
section
variable {st:St}
theorem SH {α:Type} {g:α->Fd} {R:α->List TV->Prop} {la:List α} {cks0:List (List TV)} (hR:∀a c,R a c->FdR st (g a) c) (hall0:Es R la cks0) {s:Sc} {ub ul uf:TV} {f:List Fd} {xf:List TV} (hfe:f=la.map g) (hxe:xf=cks0.flatten) (hu:SlR st 14 uf f.length xf) (hn:f.length<=2000000) {K:TV->St->Prop}
  (hk:∀v st' (la':List α) (cks:List (List TV)) bs,la'.Perm la->Oq (la'.map g)->Ap st st'->GI st' 14 v la'.length cks.flatten bs->Es R la' cks->bs.Nodup->(∀x,x∈bs->st.nb<=x)->K v st'):
  CallT PR Cd [.agg [.int .i64 s.kind,.bool s.b,.bool s.neg,.str s.dg,.int .i64 s.ex,.int .i64 s.tk,.int .i64 s.td,.int .i64 s.tn,.int .i64 s.tz,.str s.text,ub,ul,uf]] [.one .tv] st K:=by
 have hall1:Es (FdR st) f cks0:=hfe▸Es.map_left hR hall0
 have hf:FsR st f xf:=hxe▸FsR.of_chunks hall1
 have hl:=hf.len
 have hlal:la.length=f.length:=by rw[hfe,List.length_map]
 have hsl:isSl uf=true:=by rcases hu with(⟨rfl,_⟩ | ⟨tip,rfl⟩) | ⟨b,off,cap,l,rfl,_⟩<;>rfl
 refine LL _ _ _ _ _ _ _ _ _ _ _ _ _ st K (Ct _ st _ (Ab hsl ?_))
 have empty:∀v,f=[]->isSl v=true->lenS v=0->(v= .nilSlice∨v= .list 14 .full 0 [])->CallT PR AA [v,.func Cq []] [] st fun st2=>K v st2:=by
  intro v h0 h1 h2 h3
  refine AX _ _ st _ (Ab h1 ?_)
  rw[h2]
  refine PL ?_
  have hla:la=[]:=List.eq_nil_of_length_eq_zero (by rw[hlal,h0];rfl)
  refine hk v st [] [] [] (by rw[hla]) List.Pairwise.nil (Ap.refl _) (.inl ⟨rfl,rfl,rfl,?_⟩) .nil List.nodup_nil (fun x hx=>by cases hx)
  exact h3
 have hb:∀(X Y:Prop),(F7 uf=true->X)->(F7 uf=false->Y)->BIf (F7 uf) X Y:=by
  intro X Y h1 h2
  cases hq:F7 uf with
  | true=>exact h1 hq
  | false=>exact h2 hq
 refine hb _ _ (fun h=>?_) fun h=>?_
 ·have h0:f=[]:=by
   rcases hu with(⟨rfl,h1,_⟩ | ⟨tip,rfl⟩) | ⟨b,off,cap,l,rfl,_⟩
   ·exact List.eq_nil_of_length_eq_zero h1
   ·cases h
   ·cases h
  exact empty _ h0 rfl rfl (.inl rfl)
 ·refine Ad (hu.src hl) (Ab hf.all_one ?_)
  simp only[Kk,Nat.beq_refl]
  refine⟨by omega,?_⟩
  cases hlen:f.length with
  | zero=>
   have h0:f=[]:=List.eq_nil_of_length_eq_zero hlen
   exact empty _ h0 rfl rfl (.inr rfl)
  | succ m=>
   intro cap hcap
   subst hxe
   obtain⟨cks,hcke⟩:∃cks,cks=cks0:=⟨_,rfl⟩
   subst hcke
   have hall:=hall1
   have hcl:=hall.len
   obtain⟨st1,hst1⟩:∃st1,st1=st.push (.cells ([]++cks.flatten++El ((cap-(0+(m+1)))*14))) (some tyField):=⟨_,rfl⟩
   rw[<-hst1]
   have e1:Ap st st1:=hst1▸(Ap.refl st).push _ _
   have hbx:BxF st1 st.nb (0+(m+1)) cap cks:=by
    refine⟨by rw[hst1];simp[St.push],by omega,by omega,hall.cks,El ((cap-(0+(m+1)))*14),by rw[hst1];simp[St.push],?_⟩
    rw[List.length_append,hl]
    simp only[El,List.length_replicate]
    rw[<-Nat.add_mul];congr 1;omega
   refine Oc Re hbx (by omega) fun st2 W pw sw hb2 e2=>?_
   have e12:Ap st st2:=StX.ext e1 e2 (fun i hi=>by rw[hi];exact Nat.le_refl _)
   obtain⟨la',pla,hall'⟩:=hall0.perm pw
   have hlal':la'.length=0+(m+1):=by rw[pla.length_eq,hlal,hlen];omega
   obtain⟨tail,hbox,hbl⟩:=hb2.box
   have hWl:W.flatten.length=la'.length*14:=by rw[RY hb2.ck,hb2.len,hlal']
   have hallF:Es (FdR st) (la'.map g) W:=Es.map_left hR hall'
   rw[<-hlal']
   exact hk _ st2 la' W [st.nb] pla (srtF_of hallF sw) e12 (.inr ⟨st.nb,cap,tail,rfl,hb2.lt,hbox,hbl,hWl,by rw[hlal'];exact hb2.le,rfl⟩) hall' (by simp) (fun x hx=>by rw[List.mem_singleton.1 hx];exact Nat.le_refl _)
end
end
section
theorem Es.snoc {α β:Type} {R:α->β->Prop} {a:α} {b:β} {l:List α} {m:List β} (h:Es R l m) (r:R a b):Es R (l++[a]) (m++[b]):=by
 induction h with
 | nil=>exact .cons r .nil
 | cons r' _ ih=>exact .cons r' ih
mutual
def KNd:Vl->Prop
 | .mk _ l f=>V6 l/\Jv f/\V7 f
def V6:List Vl->Prop
 | []=>True
 | v::r=>KNd v/\V6 r
def KNdD:Fd->Prop
 | .mk _ v=>KNd v
def V7:List Fd->Prop
 | []=>True
 | d::r=>KNdD d/\V7 r
end
theorem V6.mem:∀{l:List Vl} {v:Vl},V6 l->v∈l->KNd v
 | [],v,_,h=>by cases h
 | w::r,v,hk,h=>by
  unfold V6 at hk
  rcases List.mem_cons.1 h with rfl | h
  ·exact hk.1
  ·exact V6.mem hk.2 h
theorem V7.mem:∀{l:List Fd} {v:Fd},V7 l->v∈l->KNdD v
 | [],v,_,h=>by cases h
 | w::r,v,hk,h=>by
  unfold V7 at hk
  rcases List.mem_cons.1 h with rfl | h
  ·exact hk.1
  ·exact V7.mem hk.2 h
theorem QN {l:List Vl} {v:Vl} (h:v∈l):v.sz<=CJ l:=by
 obtain⟨i,hi⟩:=List.getElem?_of_mem h
 exact HI hi
theorem Nq {l:List Fd} {v:Fd} (h:v∈l):v.sz<=CX l:=by
 obtain⟨i,hi⟩:=List.getElem?_of_mem h
 exact H7 hi
end
theorem Uu (n:Nat) (h:n<256):n.toUInt8.toNat=n:=by simp;omega
theorem Xt {st0 st:St} {ul:TV} {xl:List TV} {l:List Vl} (hke:B1 st0 st) (h2:SlR st0 13 ul l.length xl) (h3:VsR st0 l xl) {i:Int} {k:Nat} (hi:i=k) (hk:k<l.length) {f:Fun [.int .i64,.bool,.bool,.str,.int .i64,.int .i64,.int .i64,.int .i64,.int .i64,.str,.tv,.tv,.tv] Prop}
  (hf:∀s' l' f' ub1 ul1 uf1,l[k]? =some (.mk s' l' f')->VlR st0 (.mk s' l' f') (Bh s' ub1 ul1 uf1)->List.all (Bh s' ub1 ul1 uf1) At=true->f s'.kind s'.b s'.neg s'.dg s'.ex s'.tk s'.td s'.tn s'.tz s'.text ub1 ul1 uf1):
  (0<=i/\i<(lenZ 13 ul:Int))/\Ae ((Ah st [] (.t (ixT 13 ul (Int.toNat i))) 0 13).map TV.agg) fun x=>AK [.int .i64,.bool,.bool,.str,.int .i64,.int .i64,.int .i64,.int .i64,.int .i64,.str,.tv,.tv,.tv] x f:=by
 subst hi
 have gw:l[k]? =some l[k]:=List.getElem?_eq_getElem hk
 obtain⟨cw,hw,hcw,hcl⟩:=h3.get gw
 rw[h2.lenZ,Int.toNat_natCast,(h2.keep hke).ldc h3.len hk,hcw]
 generalize l[k]=w at*
 cases w with
 | mk s' l' f'=>
 have hw0:=hw
 unfold VlR at hw0
 obtain⟨ub',ul',uf',xl',xf',rfl,w1,w2,w3,w4,w5⟩:=hw0
 exact⟨⟨by omega,by omega⟩,Ad rfl (TB (hf s' l' f' ub' ul' uf' gw hw (DU w1.one w2.one w4.one)))⟩
theorem el14 {st0 st:St} {uf:TV} {xf:List TV} {l:List Fd} (hke:B1 st0 st) (h2:SlR st0 14 uf l.length xf) (h3:FsR st0 l xf) {i:Int} {k:Nat} (hi:i=k) (hk:k<l.length) {f:Fun [.str,.int .i64,.bool,.bool,.str,.int .i64,.int .i64,.int .i64,.int .i64,.int .i64,.str,.tv,.tv,.tv] Prop}
  (hf:∀key s' l' f' ub1 ul1 uf1,l[k]? =some (.mk key (.mk s' l' f'))->VlR st0 (.mk s' l' f') (Bh s' ub1 ul1 uf1)->List.all (.str key::Bh s' ub1 ul1 uf1) At=true->f key s'.kind s'.b s'.neg s'.dg s'.ex s'.tk s'.td s'.tn s'.tz s'.text ub1 ul1 uf1):
  (0<=i/\i<(lenZ 14 uf:Int))/\Ae ((Ah st [] (.t (ixT 14 uf (Int.toNat i))) 0 14).map TV.agg) fun x=>AK [.str,.int .i64,.bool,.bool,.str,.int .i64,.int .i64,.int .i64,.int .i64,.int .i64,.str,.tv,.tv,.tv] x f:=by
 subst hi
 have gw:l[k]? =some l[k]:=List.getElem?_eq_getElem hk
 obtain⟨cw,hw,hcw,hcl⟩:=h3.get gw
 rw[h2.lenZ,Int.toNat_natCast,(h2.keep hke).ldc h3.len hk,hcw]
 generalize l[k]=w at*
 cases w with
 | mk key w=>
 cases w with
 | mk s' l' f'=>
 have hw0:=hw
 unfold FdR at hw0
 obtain⟨cw2,rfl,hw1⟩:=hw0
 have hw2:=hw1
 unfold VlR at hw2
 obtain⟨ub',ul',uf',xl',xf',rfl,w1,w2,w3,w4,w5⟩:=hw2
 exact⟨⟨by omega,by omega⟩,Ad rfl (Jq (hf key s' l' f' ub' ul' uf' gw hw1 (one14 w1.one w2.one w4.one)))⟩
theorem KJ {α:Type} {l:List α} {k:Nat} {v:α} (h:l[k]? =some v):l.take (k+1)=l.take k++[v]:=by
 obtain⟨q1,q2⟩:=List.getElem?_eq_some_iff.1 h
 rw[List.take_succ_eq_append_getElem q1,q2]
theorem Fh {α:Type} {l:List α} {k:Nat} {v:α} (h:l[k]? =some v):v∈l:=by
 obtain⟨q1,q2⟩:=List.getElem?_eq_some_iff.1 h
 rw[<-q2];exact List.getElem_mem q1
end Go.TVF
section
namespace Go.TVF
open Go.IntKind(i64 u8)
open Go
theorem or_i64 (x y:Nat) (hx:x<2^63) (hy:y<2^63):B0 .or .i64 (x:Int) (y:Int)=((x ||| y:Nat):Int):=by
 have h:x ||| y<2^63:=Nat.or_lt_two_pow hx hy
 show IntKind.wrap .i64 ((BitVec.ofInt 64 (x:Int) ||| BitVec.ofInt 64 (y:Int)).toNat:Int)=_
 simp only[BitVec.ofInt_natCast,BitVec.toNat_or,BitVec.toNat_ofNat]
 rw[Nat.mod_eq_of_lt (by omega),Nat.mod_eq_of_lt (by omega),Ai _ (by omega) (by omega)]
theorem TY (x y:Nat) (hx:x<2^8) (hy:y<2^8):B0 .and .u8 (x:Int) (y:Int)=((x&&&y:Nat):Int):=by
 have h:x&&&y<2^8:=Nat.and_lt_two_pow _ hy
 show IntKind.wrap .u8 ((BitVec.ofInt 8 (x:Int)&&&BitVec.ofInt 8 (y:Int)).toNat:Int)=_
 simp only[BitVec.ofInt_natCast,BitVec.toNat_and,BitVec.toNat_ofNat]
 rw[Nat.mod_eq_of_lt (by omega),Nat.mod_eq_of_lt (by omega),Mg _ (by omega) (by omega)]
theorem WN (a b m:Nat) (hb:b<2^m) (h:a*2^m+b<2^63):B0 .or .i64 ((a*2^m:Nat):Int) (b:Int)=((a*2^m+b:Nat):Int):=by
 have hb':b<2^63:=by omega
 rw[or_i64 _ _ (by omega) hb',Nat.mul_comm a,Nat.two_pow_add_eq_or_of_lt hb]
theorem D5 {α:Type} (l:List α) (i:Nat) (d:α) (h:i<l.length):l.take (i+1)=l.take i++[l.getD i d]:=by
 rw[List.take_add_one,List.getElem?_eq_getElem h,List.getD,List.getElem?_eq_getElem h];rfl
theorem Io {α:Type} (l:List α) (i j:Nat) (d:α):(l.drop i).getD j d=l.getD (i+j) d:=by
 simp[List.getD,List.getElem?_drop]
theorem Pb {α:Type} (l:List α) (i:Nat) (d:α) (h:i<l.length):l.drop i=l.getD i d::l.drop (i+1):=by
 rw[List.drop_eq_getElem_cons h,List.getD,List.getElem?_eq_getElem h];rfl
theorem F1 {α:Type} (l:List α) (i j:Nat):(l.take j).drop i=(l.drop i).take (j-i):=by
 rw[List.drop_take]
def bt (l:B8) (i:Nat):Nat:=(l.getD i 0).toNat
theorem EM (l:B8) (i:Nat):bt l i<256:=(l.getD i 0).toNat_lt
theorem UT (l:B8) (i j:Nat):bt (l.drop i) j=bt l (i+j):=by simp[bt,Io]
def dN (l:B8):Nat×Nat:=Lib.decodeN l.length (bt l 0) (bt l 1) (bt l 2) (bt l 3)
def ul (l:B8):Nat:=if l=[]∨dN l=(65533,1)then 0 else(dN l).2
def ur (l:B8):Nat:=(dN l).1
def BV (r:Nat):Prop:=r<=1114111/\(r<55296∨57343<r)
instance (r:Nat):Decidable (BV r):=by unfold BV;infer_instance
def Gi (r:Nat):B8:=
 if r<128 then [UInt8.ofNat r]else if r<2048 then [UInt8.ofNat (192+r/64),UInt8.ofNat (128+r%64)]
 else if r<65536 then [UInt8.ofNat (224+r/4096),UInt8.ofNat (128+r/64%64),UInt8.ofNat (128+r%64)]
 else [UInt8.ofNat (240+r/262144),UInt8.ofNat (128+r/4096%64),UInt8.ofNat (128+r/64%64),UInt8.ofNat (128+r%64)]
theorem Cv (n:Nat) (c:UInt8):UInt8.ofNat n=c↔n%256=c.toNat:=by
 rw[<-UInt8.toNat_inj];simp
theorem HR (l:B8) (h:1<=l.length):l.take 1=[l.getD 0 0]:=by
 rw[D5 l 0 0 (by omega)];rfl
theorem JK (l:B8) (h:2<=l.length):l.take 2=[l.getD 0 0,l.getD 1 0]:=by
 rw[D5 l 1 0 (by omega),HR l (by omega)];rfl
theorem GS (l:B8) (h:3<=l.length):l.take 3=[l.getD 0 0,l.getD 1 0,l.getD 2 0]:=by
 rw[D5 l 2 0 (by omega),JK l (by omega)];rfl
theorem KK (l:B8) (h:4<=l.length):l.take 4=[l.getD 0 0,l.getD 1 0,l.getD 2 0,l.getD 3 0]:=by
 rw[D5 l 3 0 (by omega),GS l (by omega)];rfl
def rsz (b0:Nat):Nat:=if 240<=b0 then 4 else if 224<=b0 then 3 else if 192<=b0 then 2 else 1
def rb0 (b0:Nat):Nat:=if 240<=b0 then b0%8 else if 224<=b0 then b0%16 else if 192<=b0 then b0%32 else b0
def BT (l:B8) (r0:Nat):Nat->Nat
 | 0=>r0
 | j+1=>BT l r0 j*64+bt l (j+1)%64
theorem PY (l:B8) (r0:Nat) (h:r0<256):∀j,BT l r0 j<256*64^j
 | 0=>by simpa [BT]using h
 | j+1=>by
  have:=PY l r0 h j
  have h2:=Nat.mod_lt (bt l (j+1)) (show 0<64 by omega)
  simp only[BT,Nat.pow_succ]
  omega
theorem SU (b0:Nat):1<=rsz b0/\rsz b0<=4:=by
 unfold rsz
 repeat' split
 all_goals omega
def PX (l:B8):Nat×Nat:=
 let size:=rsz (bt l 0)
 let r:=BT l (rb0 (bt l 0)) (size-1)
 if l.length<size then(0,0)else if BV r/\Gi r=l.take size then(r,size)else(0,0)
theorem CG {a b:UInt8} {x y:B8}:(a::x=b::y)↔a=b/\x=y:=by simp
set_option maxHeartbeats 4000000 in
theorem GW (l:B8) (h:l≠ []):PX l=if ul l=0 then(0,0)else(ur l,ul l):=by
 have hl:1<=l.length:=by cases l with | nil=>exact absurd rfl h | cons a r=>simp
 have h0:=EM l 0
 have h1:=EM l 1
 have h2:=EM l 2
 have h3:=EM l 3
 have e0:(l.getD 0 0).toNat=bt l 0:=rfl
 have e1:(l.getD 1 0).toNat=bt l 1:=rfl
 have e2:(l.getD 2 0).toNat=bt l 2:=rfl
 have e3:(l.getD 3 0).toNat=bt l 3:=rfl
 have hul:ul l=if dN l=(65533,1)then 0 else(dN l).2:=by simp[ul,h]
 rw[hul,ur]
 unfold dN
 generalize hb0:bt l 0=b0 at*
 generalize hb1:bt l 1=b1 at*
 generalize hb2:bt l 2=b2 at*
 generalize hb3:bt l 3=b3 at*
 unfold PX
 simp only[hb0]
 by_cases c4:240<=b0
 ·have r4:rsz b0=4:=by unfold rsz;rw[if_pos c4]
  have rb:rb0 b0=b0%8:=by unfold rb0;rw[if_pos c4]
  rw[r4,rb]
  simp only[Nat.reduceSub,BT,hb1,hb2,hb3,Nat.zero_add,Nat.reduceAdd]
  by_cases hn:l.length<4
  ·rw[if_pos hn]
   have:Lib.decodeN l.length b0 b1 b2 b3=(65533,1):=by
    unfold Lib.decodeN
    rw[if_neg (by omega),if_neg (by omega),if_neg (by omega),if_neg (by omega)]
   rw[this];simp
  ·rw[if_neg hn]
   have hEnc:(BV (((b0%8*64+b1%64)*64+b2%64)*64+b3%64)/\Gi (((b0%8*64+b1%64)*64+b2%64)*64+b3%64)=l.take 4)↔(b0/8=30/\b1/64=2/\b2/64=2/\b3/64=2/\65536<=((b0%8*64+b1%64)*64+b2%64)*64+b3%64/\((b0%8*64+b1%64)*64+b2%64)*64+b3%64<=1114111):=by
    rw[KK l (by omega)]
    generalize hr:((b0%8*64+b1%64)*64+b2%64)*64+b3%64=r
    unfold BV Gi
    by_cases k1:r<128
    ·rw[if_pos k1];simp;omega
    ·rw[if_neg k1]
     by_cases k2:r<2048
     ·rw[if_pos k2];simp;omega
     ·rw[if_neg k2]
      by_cases k3:r<65536
      ·rw[if_pos k3];simp;omega
      ·rw[if_neg k3]
       simp only[CG,Cv,e0,e1,e2,e3,and_true]
       omega
   by_cases hE:b0/8=30/\b1/64=2/\b2/64=2/\b3/64=2/\65536<=((b0%8*64+b1%64)*64+b2%64)*64+b3%64/\((b0%8*64+b1%64)*64+b2%64)*64+b3%64<=1114111
   ·rw[if_pos (hEnc.2 hE)]
    have:Lib.decodeN l.length b0 b1 b2 b3=(((b0%8*64+b1%64)*64+b2%64)*64+b3%64,4):=by
     unfold Lib.decodeN
     rw[if_neg (by omega),if_neg (by omega),if_neg (by omega),if_pos (by omega),if_pos (by omega)]
     simp only[Prod.mk.injEq,and_true];omega
    rw[this];simp
   ·rw[if_neg (fun hh=>hE (hEnc.1 hh))]
    have:Lib.decodeN l.length b0 b1 b2 b3=(65533,1):=by
     unfold Lib.decodeN
     rw[if_neg (by omega),if_neg (by omega),if_neg (by omega)]
     split
     ·rw[if_neg (by omega)]
     ·rfl
    rw[this];simp
 ·by_cases c3:224<=b0
  ·have r4:rsz b0=3:=by unfold rsz;rw[if_neg c4,if_pos c3]
   have rb:rb0 b0=b0%16:=by unfold rb0;rw[if_neg c4,if_pos c3]
   rw[r4,rb]
   simp only[Nat.reduceSub,BT,hb1,hb2,Nat.zero_add,Nat.reduceAdd]
   by_cases hn:l.length<3
   ·rw[if_pos hn]
    have:Lib.decodeN l.length b0 b1 b2 b3=(65533,1):=by
     unfold Lib.decodeN
     rw[if_neg (by omega),if_neg (by omega),if_neg (by omega),if_neg (by omega)]
    rw[this];simp
   ·rw[if_neg hn]
    have hEnc:(BV ((b0%16*64+b1%64)*64+b2%64)/\Gi ((b0%16*64+b1%64)*64+b2%64)=l.take 3)↔(b1/64=2/\b2/64=2/\2048<=(b0%16*64+b1%64)*64+b2%64/\BV ((b0%16*64+b1%64)*64+b2%64)):=by
     rw[GS l (by omega)]
     generalize hr:(b0%16*64+b1%64)*64+b2%64=r
     unfold BV Gi
     by_cases k1:r<128
     ·rw[if_pos k1];simp;omega
     ·rw[if_neg k1]
      by_cases k2:r<2048
      ·rw[if_pos k2];simp;omega
      ·rw[if_neg k2]
       by_cases k3:r<65536
       ·rw[if_pos k3]
        simp only[CG,Cv,e0,e1,e2,and_true]
        omega
       ·omega
    by_cases hE:b1/64=2/\b2/64=2/\2048<=(b0%16*64+b1%64)*64+b2%64/\BV ((b0%16*64+b1%64)*64+b2%64)
    ·rw[if_pos (hEnc.2 hE)]
     have:Lib.decodeN l.length b0 b1 b2 b3=((b0%16*64+b1%64)*64+b2%64,3):=by
      unfold BV at hE
      unfold Lib.decodeN
      rw[if_neg (by omega),if_neg (by omega),if_pos (by omega),if_pos (by omega)]
      simp only[Prod.mk.injEq,and_true];omega
     rw[this];simp
    ·rw[if_neg (fun hh=>hE (hEnc.1 hh))]
     have:Lib.decodeN l.length b0 b1 b2 b3=(65533,1):=by
      unfold BV at hE
      unfold Lib.decodeN
      rw[if_neg (by omega),if_neg (by omega)]
      split
      ·rw[if_neg (by omega)]
      ·rw[if_neg (by omega)]
     rw[this];simp
  ·by_cases c2:192<=b0
   ·have r4:rsz b0=2:=by unfold rsz;rw[if_neg c4,if_neg c3,if_pos c2]
    have rb:rb0 b0=b0%32:=by unfold rb0;rw[if_neg c4,if_neg c3,if_pos c2]
    rw[r4,rb]
    simp only[Nat.reduceSub,BT,hb1,Nat.zero_add,Nat.reduceAdd]
    by_cases hn:l.length<2
    ·rw[if_pos hn]
     have:Lib.decodeN l.length b0 b1 b2 b3=(65533,1):=by
      unfold Lib.decodeN
      rw[if_neg (by omega),if_neg (by omega),if_neg (by omega),if_neg (by omega)]
     rw[this];simp
    ·rw[if_neg hn]
     have hEnc:(BV (b0%32*64+b1%64)/\Gi (b0%32*64+b1%64)=l.take 2)↔(b1/64=2/\128<=b0%32*64+b1%64):=by
      rw[JK l (by omega)]
      generalize hr:b0%32*64+b1%64=r
      unfold BV Gi
      by_cases k1:r<128
      ·rw[if_pos k1];simp;omega
      ·rw[if_neg k1,if_pos (by omega)]
       simp only[CG,Cv,e0,e1,and_true]
       omega
     by_cases hE:b1/64=2/\128<=b0%32*64+b1%64
     ·rw[if_pos (hEnc.2 hE)]
      have:Lib.decodeN l.length b0 b1 b2 b3=(b0%32*64+b1%64,2):=by
       unfold Lib.decodeN
       rw[if_neg (by omega),if_pos (by omega),if_pos (by omega)]
      rw[this];simp
     ·rw[if_neg (fun hh=>hE (hEnc.1 hh))]
      have:Lib.decodeN l.length b0 b1 b2 b3=(65533,1):=by
       unfold Lib.decodeN
       rw[if_neg (by omega)]
       split
       ·rw[if_neg (by omega)]
       ·rw[if_neg (by omega),if_neg (by omega)]
      rw[this];simp
   ·have r4:rsz b0=1:=by unfold rsz;rw[if_neg c4,if_neg c3,if_neg c2]
    have rb:rb0 b0=b0:=by unfold rb0;rw[if_neg c4,if_neg c3,if_neg c2]
    rw[r4,rb]
    simp only[Nat.reduceSub,BT]
    rw[if_neg (by omega),HR l hl]
    have hEnc:(BV b0/\Gi b0=[l.getD 0 0])↔b0<128:=by
     unfold BV Gi
     by_cases k1:b0<128
     ·rw[if_pos k1];simp only[CG,Cv,e0,and_true];omega
     ·rw[if_neg k1,if_pos (by omega)];simp;omega
    by_cases hE:b0<128
    ·rw[if_pos (hEnc.2 hE)]
     have:Lib.decodeN l.length b0 b1 b2 b3=(b0,1):=by unfold Lib.decodeN;rw[if_pos hE]
     rw[this,if_neg (by simp;omega)]
     simp only[Prod.mk.injEq]
     rw[if_neg (by omega)]
     simp
    ·rw[if_neg (fun hh=>hE (hEnc.1 hh))]
     have:Lib.decodeN l.length b0 b1 b2 b3=(65533,1):=by
      unfold Lib.decodeN
      rw[if_neg (by omega),if_neg (by omega),if_neg (by omega),if_neg (by omega)]
     rw[this];simp
theorem Ui (l:B8) (h:ul l≠0):BV (ur l)/\Gi (ur l)=l.take (ul l)/\ul l<=l.length/\ul l<=4:=by
 have hne:l≠ []:=fun h0=>h (by simp[ul,h0])
 have e:=GW l hne
 rw[if_neg h]at e
 unfold PX at e
 simp only at e
 split at e
 ·simp only[Prod.mk.injEq]at e;omega
 ·split at e
  ·rename_i hn hc
   simp only[Prod.mk.injEq]at e
   rw[<-e.1,<-e.2]
   exact⟨hc.1,hc.2,by omega,(SU _).2⟩
  ·simp only[Prod.mk.injEq]at e;omega
theorem My (l:B8):ul l<=l.length:=by
 by_cases h:ul l=0
 ·omega
 ·exact(Ui l h).2.2.1
theorem QX (l:B8) (h:l≠ []) (hb:bt l 0<128):ul l=1/\ur l=bt l 0:=by
 have:dN l=(bt l 0,1):=by unfold dN Lib.decodeN;rw[if_pos hb]
 unfold ul ur
 rw[this,if_neg (by simp[h];omega)]
 exact⟨rfl,rfl⟩
theorem PG (l:B8) (h:l≠ []):ul l=0↔dN l=(65533,1):=by
 have hul:ul l=if dN l=(65533,1)then 0 else(dN l).2:=by simp[ul,h]
 rw[hul]
 constructor
 ·intro h0
  by_cases hd:dN l=(65533,1)
  ·exact hd
  ·rw[if_neg hd]at h0
   exfalso
   unfold dN Lib.decodeN at h0
   repeat' split at h0
   all_goals simp at h0
 ·intro h0;rw[if_pos h0]
theorem XF (l:B8) (h:ul l≠0):dN l=(ur l,ul l):=by
 have hne:l≠ []:=fun h0=>h (by simp[ul,h0])
 have hul:ul l=if dN l=(65533,1)then 0 else(dN l).2:=by simp[ul,hne]
 have hd:dN l≠(65533,1):=fun hd=>h ((PG l hne).2 hd)
 rw[if_neg hd]at hul
 rw[hul];rfl
theorem ul_not (l:B8) (h:ul l≠0):¬(ur l=65533/\ul l=1):=by
 intro hh
 have hne:l≠ []:=fun h0=>h (by simp[ul,h0])
 have:=XF l h
 rw[hh.1,hh.2]at this
 exact h ((PG l hne).2 this)
def vlen (l:B8):Nat:=if h:ul l=0 then 0 else ul l+vlen (l.drop (ul l))
termination_by l.length
decreasing_by
 have:=My l
 simp only[List.length_drop];omega
theorem Dr (l:B8) (h:ul l=0):vlen l=0:=by rw[vlen,dif_pos h]
theorem Ds (l:B8) (h:ul l≠0):vlen l=ul l+vlen (l.drop (ul l)):=by rw[vlen,dif_neg h]
theorem Uh:∀(n:Nat) (l:B8),l.length<=n->vlen l<=l.length
 | 0,l,h=>by
  have:l=[]:=List.eq_nil_of_length_eq_zero (by omega)
  subst this
  rw[Dr _ (by simp[ul])];simp
 | n+1,l,h=>by
  by_cases h0:ul l=0
  ·rw[Dr l h0];omega
  ·have h1:=My l
   have h2:=Uh n (l.drop (ul l)) (by simp only[List.length_drop];omega)
   rw[Ds l h0]
   simp only[List.length_drop]at h2;omega
end Go.TVF
end
namespace Go.TVF
open Go.IntKind(i64 u8)
open Go Go.Proofs
section
def Jh (n:Nat):B8:=if h:n=0 then []else Jh (n/10)++[(48+n%10).toUInt8]
termination_by n
decreasing_by omega
theorem Gx:Jh 0=[]:=by unfold Jh;rw[dif_pos rfl]
theorem Gy {n:Nat} (h:0<n):Jh n=Jh (n/10)++[(48+n%10).toUInt8]:=by
 rw[Jh.eq_def,dif_neg (by omega)]
theorem Nc:∀(k n:Nat),n<10^k->(Jh n).length<=k
 | 0,n,h=>by rw[show n=0 by simpa using h,Gx];simp
 | k+1,n,h=>by
  by_cases h0:n=0
  ·rw[h0,Gx];simp
  ·rw[Gy (by omega),List.length_append]
   have:=Nc k (n/10) (by rw[Nat.div_lt_iff_lt_mul (by omega)];rw[Nat.pow_succ]at h;exact h)
   simp only[List.length_cons,List.length_nil];omega
def whN (n:Nat):B8:=if n=0 then [48]else Jh n
def Lb (p:Int):B8:=101::(if p<1 then 45::whN (1-p).toNat else whN (p-1).toNat)
def dcT (neg:Bool) (dg:B8) (ex:Int):B8:=
 if dg=[]then [48]else(if neg then [45]else [])++
  (if 0<=ex/\dg.length+ex<=21 then dg++List.replicate ex.toNat 48
  else if ex<0/\1<=dg.length+ex/\dg.length+ex<=21 then dg.take (dg.length+ex).toNat++46::dg.drop (dg.length+ex).toNat
  else if-5<=dg.length+ex/\dg.length+ex<=0 then 48::46::(List.replicate (-(dg.length+ex)).toNat 48++dg)
  else dg.take 1++((if 1<dg.length then 46::dg.drop 1 else [])++Lb (dg.length+ex)))
def Bd:Nat->Nat->B8
 | 0,_=>[]
 | w+1,n=>Bd w (n/10)++[(48+n%10).toUInt8]
theorem Bc:∀w n,(Bd w n).length=w
 | 0,_=>rfl
 | w+1,n=>by simp[Bd,Bc w]
def AF (c:UInt8):Prop:=48<=c.toNat/\c.toNat<=57
instance (c:UInt8):Decidable (AF c):=inferInstanceAs (Decidable (_/\_))
def Bt (l:B8):Nat:=(l.reverse.takeWhile (·==48)).length
def CW (neg:Bool) (dg:B8) (ex:Int):Prop:=
 (dg=[]->neg=false/\ex=0)/\(dg≠ []->dg.length<=120/\(∀c,c∈dg->AF c)/\dg.getD 0 0≠48/\Bt dg=0/\ -400<=ex/\ex<=400)
instance (neg:Bool) (dg:B8) (ex:Int):Decidable (CW neg dg ex):=inferInstanceAs (Decidable ((_->_)/\(_->_)))
def DS (k d n z:Int):Prop:=
 1<=k/\k<=4/\0<=d/\d<=3652058/\0<=n/\n<=86399999999999/\ -1439<=z/\z<=1439/\(k=2->d=0)/\(k=1->n=0)/\(k≠4->z=0)
instance (k d n z:Int):Decidable (DS k d n z):=inferInstanceAs (Decidable (_/\_/\_/\_/\_/\_/\_/\_/\(_->_)/\(_->_)/\(_->_)))
theorem Dm (k:Nat) (h:k<10):(48+k).toUInt8.toNat=48+k:=by simp;omega
theorem Bo:∀w n c,c∈Bd w n->AF c
 | 0,_,c,h=>by cases h
 | w+1,n,c,h=>by
  unfold Bd at h
  rcases List.mem_append.1 h with h | h
  ·exact Bo w _ c h
  ·rw[List.mem_singleton.1 h];unfold AF;rw[Dm _ (by omega)];omega
theorem natD_dg:∀(n:Nat) c,c∈Jh n->AF c:=by
 intro n
 induction n using Nat.strongRecOn with
 | _ n ih=>
  intro c h
  by_cases h0:n=0
  ·rw[h0,Gx]at h;cases h
  ·rw[Gy (by omega)]at h
   rcases List.mem_append.1 h with h | h
   ·exact ih (n/10) (by omega) c h
   ·rw[List.mem_singleton.1 h];unfold AF;rw[Dm _ (by omega)];omega
def Hc (l:B8):B8:=(l.reverse.dropWhile (·==48)).reverse
theorem Ph (l:B8) (c:UInt8):Hc (l++[c])=if c=48 then Hc l else l++[c]:=by
 unfold Hc
 rw[List.reverse_append,List.reverse_singleton,List.singleton_append,List.dropWhile_cons]
 by_cases h:c=48
 ·rw[if_pos h,if_pos (by simp[h])]
 ·rw[if_neg h,if_neg (by simp[h])];simp
theorem XH {l:B8} {c:UInt8} (h:c∈Hc l):c∈l:=by
 unfold Hc at h
 exact List.mem_reverse.1 ((List.dropWhile_sublist _).mem (List.mem_reverse.1 h))
theorem R8 (l:B8):(Hc l).length<=l.length:=by
 unfold Hc
 rw[List.length_reverse]
 have:=(List.dropWhile_sublist (l:=l.reverse) (fun x:UInt8=>x==48)).length_le
 rw[List.length_reverse]at this;exact this
def Ic (n:Nat):B8:=Bd 2 (n/1000000000/3600)++58::(Bd 2 (n/1000000000/60%60)++58::(Bd 2 (n/1000000000%60)++(if n%1000000000=0 then []else 46::Hc (Bd 9 (n%1000000000)))))
def GZ (z:Int):B8:=if z=0 then [90]else(if z<0 then 45 else 43)::(Bd 2 (z.natAbs/60)++58::Bd 2 (z.natAbs%60))
def OY (y:Nat):Prop:=y%4=0/\(y%100≠0∨y%400=0)
instance (y:Nat):Decidable (OY y):=inferInstanceAs (Decidable (_/\_))
def J2 (y m:Nat):Nat:=if m=2 then(if OY y then 29 else 28)else if m=4∨m=6∨m=9∨m=11 then 30 else 31
def Ey (y:Nat):Nat->Nat
 | 0=>0
 | 1=>0
 | m+2=>Ey y (m+1)+J2 y (m+1)
def yrS (y:Nat):Nat:=365*(y-1)+(y-1)/4-(y-1)/100+(y-1)/400
def Fz (n y m d:Nat):Prop:=1<=y/\y<=9999/\1<=m/\m<=12/\1<=d/\d<=J2 y m/\n=yrS y+Ey y m+(d-1)
theorem QH {a b:Nat} (h1:1<=a) (h:a<=b):yrS a<=yrS b:=by
 rcases Nat.eq_or_lt_of_le h with rfl | h
 ·exact Nat.le_refl _
 ·unfold yrS;omega
theorem monS_12 (y:Nat):Ey y 12+J2 y 12=if OY y then 366 else 365:=by
 simp only[Ey,J2]
 by_cases h:OY y<;>simp[h]
theorem Tz (k q:Nat) (h:0<q):(k+1)/q=k/q+(if (k+1)%q=0 then 1 else 0):=by
 rw[Nat.succ_div]
 congr 1
 simp only[Nat.dvd_iff_mod_eq_zero]
theorem Jw {y:Nat} (h:1<=y):yrS (y+1)=yrS y+(Ey y 12+J2 y 12):=by
 rw[monS_12]
 obtain⟨k,rfl⟩:∃k,y=k+1:=⟨y-1,by omega⟩
 unfold yrS
 simp only[Nat.add_sub_cancel]
 rw[Tz k 4 (by omega),Tz k 100 (by omega),Tz k 400 (by omega)]
 have m1:(k+1)%400=0->(k+1)%100=0:=fun h=>by omega
 have m2:(k+1)%100=0->(k+1)%4=0:=fun h=>by omega
 have m3:k/100<=k/4:=by omega
 by_cases a4:(k+1)%4=0
 ·rw[if_pos a4]
  by_cases a100:(k+1)%100=0
  ·rw[if_pos a100]
   by_cases a400:(k+1)%400=0
   ·rw[if_pos a400,if_pos ⟨a4,.inr a400⟩];omega
   ·rw[if_neg a400,if_neg (fun h=>h.2.elim (fun h=>h a100) a400)];omega
  ·rw[if_neg a100,if_neg (fun h=>a100 (m1 h)),if_pos ⟨a4,.inl a100⟩];omega
 ·rw[if_neg a4,if_neg (fun h=>a4 (m2 h)),if_neg (fun h=>a4 (m2 (m1 h))),if_neg (fun h=>a4 h.1)];omega
theorem K0 (y:Nat):∀{a b:Nat},a<=b->Ey y a<=Ey y b:=by
 intro a b h
 induction b with
 | zero=>rw[show a=0 by omega];exact Nat.le_refl _
 | succ b ih=>
  by_cases hab:a=b+1
  ·rw[hab];exact Nat.le_refl _
  ·refine Nat.le_trans (ih (by omega)) ?_
   cases b with
   | zero=>exact Nat.le_refl _
   | succ b=>simp only[Ey];omega
theorem D3 (y:Nat) {m:Nat} (h:1<=m):Ey y (m+1)=Ey y m+J2 y m:=by
 cases m with
 | zero=>omega
 | succ m=>rfl
theorem Fz.uniq {n y m d y' m' d':Nat} (h:Fz n y m d) (h':Fz n y' m' d'):y=y'/\m=m'/\d=d':=by
 obtain⟨a1,a2,a3,a4,a5,a6,a7⟩:=h
 obtain⟨b1,b2,b3,b4,b5,b6,b7⟩:=h'
 have within:∀{y m d:Nat},1<=y->1<=m->m<=12->1<=d->d<=J2 y m->Ey y m+(d-1)<Ey y 12+J2 y 12:=by
  intro y m d h1 h2 h3 h4 h5
  by_cases hm:m=12
  ·subst hm;omega
  ·have:=K0 y (a:=m+1) (b:=12) (by omega)
   rw[D3 y h2]at this;omega
 have w1:=within a1 a3 a4 a5 a6
 have w2:=within b1 b3 b4 b5 b6
 have hy:y=y':=by
  rcases Nat.lt_trichotomy y y' with h | h | h
  ·have:=QH (a:=y+1) (b:=y') (by omega) (by omega)
   rw[Jw a1]at this;omega
  ·exact h
  ·have:=QH (a:=y'+1) (b:=y) (by omega) (by omega)
   rw[Jw b1]at this;omega
 subst hy
 have hm:m=m':=by
  rcases Nat.lt_trichotomy m m' with h | h | h
  ·have:=K0 y (a:=m+1) (b:=m') (by omega)
   rw[D3 y a3]at this;omega
  ·exact h
  ·have:=K0 y (a:=m'+1) (b:=m) (by omega)
   rw[D3 y b3]at this;omega
 subst hm
 exact⟨rfl,rfl,by omega⟩
open Classical in
noncomputable def Ib (n:Nat):Nat×Nat×Nat:=if h:∃p:Nat×Nat×Nat,Fz n p.1 p.2.1 p.2.2 then h.choose else(0,0,0)
theorem VT {n y m d:Nat} (h:Fz n y m d):Ib n=(y,m,d):=by
 have hex:∃p:Nat×Nat×Nat,Fz n p.1 p.2.1 p.2.2:=⟨(y,m,d),h⟩
 unfold Ib
 rw[dif_pos hex]
 obtain⟨h1,h2,h3⟩:=hex.choose_spec.uniq h
 exact Prod.ext h1 (Prod.ext h2 h3)
noncomputable def Ix (n:Nat):B8:=Bd 4 (Ib n).1++45::(Bd 2 (Ib n).2.1++45::Bd 2 (Ib n).2.2)
noncomputable def HQ (k td tn tz:Int):B8:=
 if k=1 then Ix td.toNat else if k=2 then Ic tn.toNat else if k=3 then Ix td.toNat++84::Ic tn.toNat else Ix td.toNat++84::(Ic tn.toNat++GZ tz)
end
section
structure NR (s:Sc) (l:List Vl) (f:List Fd):Prop where
 k0:0<=s.kind
 k7:s.kind<=7
 bo:s.kind≠1->s.b=false
 nu:s.kind≠2->s.neg=false/\s.dg=[]/\s.ex=0
 ti:s.kind≠3->s.tk=0/\s.td=0/\s.tn=0/\s.tz=0
 tx:s.kind≠4->s.text=[]
 by_:s.kind≠5->s.bytes=[]
 ls:s.kind≠6->l=[]
 fs:s.kind≠7->f=[]
noncomputable instance (s:Sc) (l:List Vl) (f:List Fd):Decidable (NR s l f):=Classical.propDecidable _
def U8 (s:B8):Prop:=vlen s=s.length
instance (s:B8):Decidable (U8 s):=inferInstanceAs (Decidable (_=_))
def GA (seen:List B8):List Fd->Nat
 | []=>0
 | d::r=>if U8 d.key then(if 1024<d.key.length then 10 else if d.key∈seen then 8 else GA (d.key::seen) r)else 5
noncomputable def Fe (s:Sc) (l:List Vl) (f:List Fd):Nat:=
 if NR s l f then(if CW s.neg s.dg s.ex then(if s.kind=3->DS s.tk s.td s.tn s.tz then(if U8 s.text then(if 65536<s.text.length then 10 else if 65536<s.bytes.length then 10 else GA [] f)else 5)else 2)else 2)else 6
noncomputable def Gs (x:Nat×Nat) (f:Nat->Nat×Nat):Nat×Nat:=if x.2=0 then f x.1 else x
mutual
noncomputable def CO (d n:Nat):Vl->Nat×Nat
 | .mk s l f=>if 48<d then(n,9)else if 65536<=n then(n,10)else if Fe s l f≠0 then(n,Fe s l f)else Gs (Dg (d+1) (n+1) l) fun m=>Dh (d+1) m f
noncomputable def Dg (d n:Nat):List Vl->Nat×Nat
 | []=>(n,0)
 | v::r=>Gs (CO d n v) fun m=>Dg d m r
noncomputable def Oo (d n:Nat):Fd->Nat×Nat
 | .mk _ v=>CO d n v
noncomputable def Dh (d n:Nat):List Fd->Nat×Nat
 | []=>(n,0)
 | x::r=>Gs (Oo d n x) fun m=>Dh d m r
end
noncomputable def Fu (v:Vl):Nat:=(CO 1 0 v).2
theorem B3 {x:Nat×Nat} {f:Nat->Nat×Nat} (h:(Gs x f).2=0):x.2=0/\(f x.1).2=0:=by
 unfold Gs at h
 split at h
 ·rename_i h0;exact⟨h0,h⟩
 ·rename_i h0;exact absurd h h0
theorem DA {x:Nat×Nat} {f:Nat->Nat×Nat} (h:x.2=0):Gs x f=f x.1:=by unfold Gs;rw[if_pos h]
theorem KH {x:Nat×Nat} {f:Nat->Nat×Nat} (h:x.2≠0):Gs x f=x:=by unfold Gs;rw[if_neg h]
structure FW (s:Sc) (l:List Vl) (f:List Fd):Prop where
 own:NR s l f
 dec:CW s.neg s.dg s.ex
 time:s.kind=3->DS s.tk s.td s.tn s.tz
 text:U8 s.text
 tlen:s.text.length<=65536
 blen:s.bytes.length<=65536
 keys:GA [] f=0
theorem OP {s:Sc} {l:List Vl} {f:List Fd}:Fe s l f=0↔FW s l f:=by
 unfold Fe
 constructor
 ·intro h
  split at h
  ·rename_i h1
   split at h
   ·rename_i h2
    split at h
    ·rename_i h3
     split at h
     ·rename_i h4
      split at h
      ·cases h
      ·rename_i h5
       split at h
       ·cases h
       ·rename_i h6
        exact⟨h1,h2,h3,h4,by omega,by omega,h⟩
     ·cases h
    ·cases h
   ·cases h
  ·cases h
 ·intro h
  rw[if_pos h.own,if_pos h.dec,if_pos h.time,if_pos h.text,if_neg (by have:=h.tlen;omega),if_neg (by have:=h.blen;omega)]
  exact h.keys
mutual
def IV:Vl->Prop
 | .mk s l f=>FW s l f/\Lj l/\Lk f
def Lj:List Vl->Prop
 | []=>True
 | v::r=>IV v/\Lj r
def T9:Fd->Prop
 | .mk _ v=>IV v
def Lk:List Fd->Prop
 | []=>True
 | d::r=>T9 d/\Lk r
end
mutual
theorem Qq:∀(v:Vl) (d n:Nat),(CO d n v).2=0->IV v
 | .mk s l f,d,n,h=>by
  unfold CO at h
  unfold IV
  split at h
  ·cases h
  ·split at h
   ·cases h
   ·split at h
    ·rename_i h1;exact absurd h h1
    ·rename_i h1
     obtain⟨h2,h3⟩:=B3 h
     exact⟨OP.1 (Decidable.of_not_not h1),Sb l _ _ h2,Sf f _ _ h3⟩
theorem Sb:∀(l:List Vl) (d n:Nat),(Dg d n l).2=0->Lj l
 | [],d,n,_=>by unfold Lj;trivial
 | v::r,d,n,h=>by
  unfold Dg at h
  unfold Lj
  obtain⟨h2,h3⟩:=B3 h
  exact⟨Qq v _ _ h2,Sb r _ _ h3⟩
theorem chkD_ok:∀(x:Fd) (d n:Nat),(Oo d n x).2=0->T9 x
 | .mk k v,d,n,h=>by unfold Oo at h;unfold T9;exact Qq v _ _ h
theorem Sf:∀(l:List Fd) (d n:Nat),(Dh d n l).2=0->Lk l
 | [],d,n,_=>by unfold Lk;trivial
 | x::r,d,n,h=>by
  unfold Dh at h
  unfold Lk
  obtain⟨h2,h3⟩:=B3 h
  exact⟨chkD_ok x _ _ h2,Sf r _ _ h3⟩
end
end
theorem SlR.isPtr {st:St} {sz n i:Nat} {u:TV} {xs:List TV} (h:SlR st sz u n xs) (hi:i<n):TVF.isPtr (ixT sz u i)=true:=by
 rcases h with(⟨rfl,rfl,rfl⟩ | ⟨tip,rfl⟩) | ⟨b,off,cap,l,rfl,_⟩
 ·omega
 ·rfl
 ·rfl
theorem SlR.ldcf {st:St} {sz n i f m:Nat} {u:TV} {xs:List TV} (h:SlR st sz u n xs) (hl:xs.length=n*sz) (hi:i<n) (hf:f+m<=sz):Ah st [] (.t (Am (ixT sz u i) f)) 0 m=some ((xs.drop (i*sz+f)).take m):=by
 have hm:(i+1)*sz<=n*sz:=Nat.mul_le_mul_right _ hi
 rw[Nat.add_mul,Nat.one_mul]at hm
 rcases h with(⟨rfl,rfl,rfl⟩ | ⟨tip,rfl⟩) | ⟨b,off,cap,l,rfl,h2,h3,h4,h5,rfl⟩
 ·omega
 ·show Ah st [] (.t (.rptr ((xs.drop (i*sz)).drop f))) 0 m=_
  rw[List.drop_drop,Nj m 0 (by rw[List.length_drop];omega),List.drop_zero]
 ·have hc:n*sz<=cap*sz:=Nat.mul_le_mul_right _ h5
  have e1:(((l.drop off).take (n*sz)).drop (i*sz+f)).take m=(l.drop (off+i*sz+f)).take m:=by
   rw[List.drop_take,List.drop_drop,List.take_take,Nat.min_eq_left (by omega),Nat.add_assoc]
  rw[e1]
  have e:=Il (B:=l.drop (off+i*sz+f+m)) (st:=st) (b:=b) ((l.drop (off+i*sz+f)).take m) l 0 (off+i*sz+f) h3 (by
   have:=List.take_append_drop m (l.drop (off+i*sz+f))
   rw[List.drop_drop]at this
   rw[Nat.add_zero];exact this.symm)
  rw[show((l.drop (off+i*sz+f)).take m).length=m by simp;omega]at e
  exact e
theorem SlR.ldf {st:St} {sz n i f:Nat} {u x:TV} {xs:List TV} (h:SlR st sz u n xs) (hl:xs.length=n*sz) (hi:i<n) (hf:f<sz) (hx:xs[i*sz+f]? =some x):Ac st [] (.t (Am (ixT sz u i) f)) 0=some x:=by
 have:=h.ldcf (f:=f) (m:=1) hl hi (by omega)
 have hlt:i*sz+f<xs.length:=by
  obtain⟨q,_⟩:=List.getElem?_eq_some_iff.1 hx
  exact q
 rw[List.drop_eq_getElem_cons hlt]at this
 rw[List.getElem?_eq_getElem hlt]at hx
 simp only[Ah,List.take_succ_cons,List.take_zero]at this
 cases hq:Ac st [] (.t (Am (ixT sz u i) f)) 0 with
 | none=>rw[hq]at this;cases this
 | some y=>
  rw[hq]at this
  simp only[Option.map_some,Option.some.injEq,List.cons.injEq,and_true]at this
  rw[this];exact hx
theorem SlR.toBytes {st:St} {u:TV} {l:B8} (h:SlR st 1 u l.length (AJ l)):TVF.toBytes st u=some l:=by
 have hl:(AJ l).length=l.length:=Dc l
 rcases h with(⟨rfl,h1,_⟩ | ⟨tip,rfl⟩) | ⟨b,off,cap,m,rfl,h2,h3,h4,h5,h6⟩
 ·rw[List.eq_nil_of_length_eq_zero h1];rfl
 ·simp[TVF.toBytes,DR]
 ·have e:=Il (B:=m.drop (off+l.length)) (st:=st) (b:=b) (AJ l) m 0 off h3 (by
   rw[h6,Nat.add_zero,Nat.mul_one,<-List.drop_drop,List.take_append_drop])
  rw[hl]at e
  simp only[TVF.toBytes,Nat.beq_refl,e,DR]
theorem val14 {st0 st:St} {uf:TV} {xf:List TV} {l:List Fd} (hke:B1 st0 st) (h2:SlR st0 14 uf l.length xf) (h3:FsR st0 l xf) {i:Int} {k:Nat} (hi:i=k) (hk:k<l.length) {f:Fun [.int .i64,.bool,.bool,.str,.int .i64,.int .i64,.int .i64,.int .i64,.int .i64,.str,.tv,.tv,.tv] Prop}
  (hf:∀key s' l' f' ub1 ul1 uf1,l[k]? =some (.mk key (.mk s' l' f'))->VlR st0 (.mk s' l' f') (Bh s' ub1 ul1 uf1)->List.all (Bh s' ub1 ul1 uf1) At=true->f s'.kind s'.b s'.neg s'.dg s'.ex s'.tk s'.td s'.tn s'.tz s'.text ub1 ul1 uf1):
  (0<=i/\i<(lenZ 14 uf:Int))/\need (TVF.isPtr (ixT 14 uf (Int.toNat i))) (Ae ((Ah st [] (.t (Am (ixT 14 uf (Int.toNat i)) 1)) 0 13).map TV.agg) fun x=>AK [.int .i64,.bool,.bool,.str,.int .i64,.int .i64,.int .i64,.int .i64,.int .i64,.str,.tv,.tv,.tv] x f):=by
 subst hi
 have gw:l[k]? =some l[k]:=List.getElem?_eq_getElem hk
 obtain⟨cw,hw,hcw,hcl⟩:=h3.get gw
 rw[h2.lenZ,Int.toNat_natCast]
 refine⟨⟨by omega,by omega⟩,Ab (h2.isPtr hk) ?_⟩
 rw[(h2.keep hke).ldcf (f:=1) (m:=13) h3.len hk (by omega)]
 generalize l[k]=w at*
 cases w with
 | mk key w=>
 cases w with
 | mk s' l' f'=>
 unfold FdR at hw
 obtain⟨cw2,rfl,hw1⟩:=hw
 have hw2:=hw1
 unfold VlR at hw2
 obtain⟨ub',ul',uf',xl',xf',rfl,w1,w2,w3,w4,w5⟩:=hw2
 have e:(xf.drop (k*14+1)).take 13=Bh s' ub' ul' uf':=by
  rw[<-List.drop_drop]
  have:=congrArg (fun z=>z.drop 1) hcw
  simp only[List.drop_take]at this
  simpa [Bh]using this
 rw[e]
 exact Ad rfl (TB (hf key s' l' f' ub' ul' uf' gw hw1 (DU w1.one w2.one w4.one)))
theorem B1.trans {a b c:St} (h:B1 a b) (k:B1 b c):B1 a c:=⟨Nat.le_trans h.1 k.1,fun i hi=>(k.2 i (Nat.lt_of_lt_of_le hi h.1)).trans (h.2 i hi)⟩
theorem Al {s:B8} {f:B8->Prop} (h:f s):Af .str (.str s) f:=h
theorem Az {k:IntKind} {n:Int} {f:Int->Prop} (h:f n):Af (.int k) (.int k n) f:=by
 simp only[Af];exact h
theorem Ao {b:Bool} {f:Bool->Prop} (h:f b):Af .bool (.bool b) f:=h
theorem Er {α:Type} {K:α->St->Prop} {a b:α} {st:St} (h:a=b) (hk:K b st):K a st:=h▸hk
def rD (l:B8):Nat×Nat:=if ul l=0 then(0,0)else(ur l,ul l)
theorem QP (l:B8):vlen l<=l.length:=Uh _ l (Nat.le_refl _)
theorem Cc:vlen []=0:=Dr _ (by simp[ul])
theorem Rd.ldx {sz:Nat} {v:TV} {n:Nat} {xs:List TV} (h:Rd sz v n xs) (st:St) (i j:Nat) {x:TV} (hx:xs[i*sz+j]? =some x):Ac st [] (.t (ixT sz v i)) j=some x:=by
 obtain⟨hlt,hx⟩:=List.getElem?_eq_some_iff.1 hx
 rw[h.ld st i j hlt,hx]
theorem Rd.ldfx {sz:Nat} {v:TV} {n:Nat} {xs:List TV} (h:Rd sz v n xs) (st:St) (i j:Nat) {x:TV} (hx:xs[i*sz+j]? =some x):Ac st [] (.t (Am (ixT sz v i) j)) 0=some x:=by
 obtain⟨hlt,hx⟩:=List.getElem?_eq_some_iff.1 hx
 rw[h.ldf st i j hlt,hx]
def hdS (b:Nat):Nat:=if b<128 then 1 else if 192<=b/\b<224 then 2 else if 224<=b/\b<240 then 3 else if 240<=b/\b<248 then 4 else 0
def hdB (b:Nat):Nat:=if b<128 then b else if 192<=b/\b<224 then b%32 else if 224<=b/\b<240 then b%16 else if 240<=b/\b<248 then b%8 else 0
def wid (r:Nat):Nat:=if r<128 then 1 else if r<2048 then 2 else if r<65536 then 3 else 4
theorem GH (a m:Nat) (ha:a<256) (hm:m<=8):B0 .and .u8 (a:Int) ((2^m-1:Nat):Int)=((a%2^m:Nat):Int):=by
 have:2^m<=2^8:=Nat.pow_le_pow_right (by decide) hm
 rw[TY _ _ ha (by omega),Nat.and_two_pow_sub_one_eq_mod]
theorem UA {B:Int} {b:Nat} {st:St} {K:Int->Int->St->Prop} (hB:B=(b:Int)) (hb:b<256) (hk:K (hdS b:Nat) (hdB b:Nat) st):CallT PR H8 [.int .u8 B] [.one (.int .i64),.one (.int .i64)] st K:=by
 have m31:B0 .and .u8 B (31:Int)=((b%32:Nat):Int):=by rw[hB];exact GH b 5 hb (by decide)
 have m15:B0 .and .u8 B (15:Int)=((b%16:Nat):Int):=by rw[hB];exact GH b 4 hb (by decide)
 have m7:B0 .and .u8 B (7:Int)=((b%8:Nat):Int):=by rw[hB];exact GH b 3 hb (by decide)
 unfold hdS hdB at hk
 have kk:∀(x y x' y':Int),x=x'->y=y'->K x' y' st->K x y st:=fun x y x' y' h1 h2 hk=>by rw[h1,h2];exact hk
 refine QR B st K ?_
 rw[m31,m15,m7,Ai B (by omega) (by omega),Ai ((b%32:Nat):Int) (by omega) (by omega),Ai ((b%16:Nat):Int) (by omega) (by omega),Ai ((b%8:Nat):Int) (by omega) (by omega)]
 by_cases g1:b<128
 ·rw[if_pos g1,if_pos g1]at hk
  exact Aa (fun _=>kk _ _ _ _ rfl hB hk) fun h=>by omega
 rw[if_neg g1,if_neg g1]at hk
 refine Aa (fun h=>by omega) fun _=>?_
 by_cases g2:192<=b/\b<224
 ·rw[if_pos g2,if_pos g2]at hk
  exact Aa (fun _=>Aa (fun _=>hk) fun h=>by omega) fun h=>by omega
 rw[if_neg g2,if_neg g2]at hk
 by_cases g3:224<=b/\b<240
 ·rw[if_pos g3,if_pos g3]at hk
  refine Aa (fun _=>Aa (fun h=>by omega) fun _=>?_) fun h=>by omega
  exact Aa (fun _=>Aa (fun _=>hk) fun h=>by omega) fun h=>by omega
 rw[if_neg g3,if_neg g3]at hk
 by_cases g4:240<=b/\b<248
 ·rw[if_pos g4,if_pos g4]at hk
  refine Aa (fun _=>Aa (fun h=>by omega) fun _=>?_) fun h=>by omega
  refine Aa (fun _=>Aa (fun h=>by omega) fun _=>?_) fun h=>by omega
  exact Aa (fun _=>Aa (fun _=>hk) fun h=>by omega) fun h=>by omega
 rw[if_neg g4,if_neg g4]at hk
 repeat' first
  | exact hk
  | omega
  | refine Aa (fun _=>?_) fun _=>?_
theorem OF {R:Int} {r:Nat} {st:St} {K:Bool->St->Prop} (hR:R=(r:Int)) (hk:K (decide (BV r)) st):CallT PR Gc [.int .i64 R] [.one (.bool)] st K:=by
 unfold BV at hk
 refine N1 R st K (Aa (fun _=>Aa (fun h2=>Aa (fun h3=>?_) fun h3=>?_) fun h2=>?_) fun h1=>by omega)
 ·exact Er (decide_eq_true (by omega)).symm hk
 ·exact Er (decide_eq_decide.2 (by omega)) hk
 ·exact Er (decide_eq_false (by omega)).symm hk
theorem QJ {R:Int} {r:Nat} {st:St} {K:Int->St->Prop} (hR:R=(r:Int)) (hk:K (wid r:Nat) st):CallT PR G6 [.int .i64 R] [.one (.int .i64)] st K:=by
 unfold wid at hk
 refine Pw R st K (Aa (fun h1=>?_) fun h1=>Aa (fun h2=>?_) fun h2=>Aa (fun h3=>?_) fun h3=>?_)
 ·rw[if_pos (by omega)]at hk;exact hk
 ·rw[if_neg (by omega),if_pos (by omega)]at hk;exact hk
 ·rw[if_neg (by omega),if_neg (by omega),if_pos (by omega)]at hk;exact hk
 ·rw[if_neg (by omega),if_neg (by omega),if_neg (by omega)]at hk;exact hk
def LZ (l:B8):Prop:=hdS (bt l 0)≠0/\hdS (bt l 0)<=l.length/\(∀j,1<=j->j<hdS (bt l 0)->bt l j/64=2)/\BV (BT l (hdB (bt l 0)) (hdS (bt l 0)-1))/\wid (BT l (hdB (bt l 0)) (hdS (bt l 0)-1))=hdS (bt l 0)
theorem WH (l:B8) (h:l≠ []) (hp:LZ l):ul l=hdS (bt l 0)/\ur l=BT l (hdB (bt l 0)) (hdS (bt l 0)-1):=by
 obtain⟨p1,p2,p3,p4,p5⟩:=hp
 have e:=GW l h
 have h0:=EM l 0
 have e0:(l.getD 0 0).toNat=bt l 0:=rfl
 have e1:(l.getD 1 0).toNat=bt l 1:=rfl
 have e2:(l.getD 2 0).toNat=bt l 2:=rfl
 have e3:(l.getD 3 0).toNat=bt l 3:=rfl
 have fin:∀n r,rsz (bt l 0)=n->rb0 (bt l 0)=r->n=hdS (bt l 0)->r=hdB (bt l 0)->Gi (BT l r (n-1))=l.take n->ul l=hdS (bt l 0)/\ur l=BT l (hdB (bt l 0)) (hdS (bt l 0)-1):=by
  intro n r hn hr hn2 hr2 henc
  unfold PX at e
  simp only[hn,hr]at e
  rw[if_neg (by omega),if_pos ⟨by rw[hr2,hn2];exact p4,henc⟩]at e
  by_cases hz:ul l=0
  ·rw[if_pos hz]at e;simp only[Prod.mk.injEq]at e;omega
  ·rw[if_neg hz]at e;simp only[Prod.mk.injEq]at e
   exact⟨by omega,by rw[<-hr2,<-hn2];exact e.1.symm⟩
 have h1:=EM l 1
 have h2:=EM l 2
 have h3:=EM l 3
 by_cases g1:bt l 0<128
 ·have hs:hdS (bt l 0)=1:=by unfold hdS;rw[if_pos g1]
  have hb:hdB (bt l 0)=bt l 0:=by unfold hdB;rw[if_pos g1]
  refine fin 1 (bt l 0) (by unfold rsz;rw[if_neg (by omega),if_neg (by omega),if_neg (by omega)]) (by unfold rb0;rw[if_neg (by omega),if_neg (by omega),if_neg (by omega)]) hs.symm hb.symm ?_
  rw[HR l (by omega)]
  simp only[Nat.sub_self,BT]
  unfold Gi
  rw[if_pos g1]
  simp only[CG,Cv,e0,and_true]
  omega
 by_cases g2:192<=bt l 0/\bt l 0<224
 ·have hs:hdS (bt l 0)=2:=by unfold hdS;rw[if_neg g1,if_pos g2]
  have hb:hdB (bt l 0)=bt l 0%32:=by unfold hdB;rw[if_neg g1,if_pos g2]
  rw[hs]at p3 p5
  rw[hb]at p5
  have q1:=p3 1 (by omega) (by omega)
  refine fin 2 (bt l 0%32) (by unfold rsz;rw[if_neg (by omega),if_neg (by omega),if_pos (by omega)]) (by unfold rb0;rw[if_neg (by omega),if_neg (by omega),if_pos (by omega)]) hs.symm hb.symm ?_
  rw[JK l (by omega)]
  simp only[Nat.reduceSub,BT,Nat.zero_add]at p5⊢
  generalize bt l 0=b0 at*
  generalize bt l 1=b1 at*
  unfold wid at p5
  unfold Gi
  by_cases k1:b0%32*64+b1%64<128
  ·rw[if_pos k1]at p5;omega
  rw[if_neg k1]at p5⊢
  by_cases k2:b0%32*64+b1%64<2048
  ·rw[if_pos k2]
   simp only[CG,Cv,e0,e1,and_true]
   omega
  ·rw[if_neg k2]at p5;split at p5<;>omega
 by_cases g3:224<=bt l 0/\bt l 0<240
 ·have hs:hdS (bt l 0)=3:=by unfold hdS;rw[if_neg g1,if_neg g2,if_pos g3]
  have hb:hdB (bt l 0)=bt l 0%16:=by unfold hdB;rw[if_neg g1,if_neg g2,if_pos g3]
  rw[hs]at p3 p5
  rw[hb]at p5
  have q1:=p3 1 (by omega) (by omega)
  have q2:=p3 2 (by omega) (by omega)
  refine fin 3 (bt l 0%16) (by unfold rsz;rw[if_neg (by omega),if_pos (by omega)]) (by unfold rb0;rw[if_neg (by omega),if_pos (by omega)]) hs.symm hb.symm ?_
  rw[GS l (by omega)]
  simp only[Nat.reduceSub,BT,Nat.zero_add,Nat.reduceAdd]at p5⊢
  generalize bt l 0=b0 at*
  generalize bt l 1=b1 at*
  generalize bt l 2=b2 at*
  generalize hr:(b0%16*64+b1%64)*64+b2%64=r at*
  unfold wid at p5
  unfold Gi
  by_cases k1:r<128
  ·rw[if_pos k1]at p5;omega
  rw[if_neg k1]at p5⊢
  by_cases k2:r<2048
  ·rw[if_pos k2]at p5;omega
  rw[if_neg k2]at p5⊢
  by_cases k3:r<65536
  ·rw[if_pos k3]
   simp only[CG,Cv,e0,e1,e2,and_true]
   omega
  ·rw[if_neg k3]at p5;omega
 by_cases g4:240<=bt l 0/\bt l 0<248
 ·have hs:hdS (bt l 0)=4:=by unfold hdS;rw[if_neg g1,if_neg g2,if_neg g3,if_pos g4]
  have hb:hdB (bt l 0)=bt l 0%8:=by unfold hdB;rw[if_neg g1,if_neg g2,if_neg g3,if_pos g4]
  rw[hs]at p3 p4 p5
  rw[hb]at p4 p5
  have q1:=p3 1 (by omega) (by omega)
  have q2:=p3 2 (by omega) (by omega)
  have q3:=p3 3 (by omega) (by omega)
  refine fin 4 (bt l 0%8) (by unfold rsz;rw[if_pos (by omega)]) (by unfold rb0;rw[if_pos (by omega)]) hs.symm hb.symm ?_
  rw[KK l (by omega)]
  simp only[Nat.reduceSub,BT,Nat.zero_add,Nat.reduceAdd]at p4 p5⊢
  generalize bt l 0=b0 at*
  generalize bt l 1=b1 at*
  generalize bt l 2=b2 at*
  generalize bt l 3=b3 at*
  generalize hr:((b0%8*64+b1%64)*64+b2%64)*64+b3%64=r at*
  unfold wid at p5
  unfold Gi
  by_cases k1:r<128
  ·rw[if_pos k1]at p5;omega
  rw[if_neg k1]at p5⊢
  by_cases k2:r<2048
  ·rw[if_pos k2]at p5;omega
  rw[if_neg k2]at p5⊢
  by_cases k3:r<65536
  ·rw[if_pos k3]at p5;omega
  rw[if_neg k3]
  have:=p4.1
  simp only[CG,Cv,e0,e1,e2,e3,and_true]
  omega
 ·exfalso
  unfold hdS at p1
  rw[if_neg g1,if_neg g2,if_neg g3,if_neg g4]at p1
  exact p1 rfl
theorem WI (l:B8) (h:l≠ []):ul l≠0->LZ l:=by
 intro hu
 have e:=GW l h
 rw[if_neg hu]at e
 have h0:=EM l 0
 have e0:(l.getD 0 0).toNat=bt l 0:=rfl
 have e1:(l.getD 1 0).toNat=bt l 1:=rfl
 have e2:(l.getD 2 0).toNat=bt l 2:=rfl
 have e3:(l.getD 3 0).toNat=bt l 3:=rfl
 have h1:=EM l 1
 have h2:=EM l 2
 have h3:=EM l 3
 have hc:¬l.length<rsz (bt l 0)/\BV (BT l (rb0 (bt l 0)) (rsz (bt l 0)-1))/\Gi (BT l (rb0 (bt l 0)) (rsz (bt l 0)-1))=l.take (rsz (bt l 0)):=by
  unfold PX at e
  simp only at e
  split at e
  ·simp only[Prod.mk.injEq]at e;omega
  ·split at e
   ·rename_i a b;exact⟨a,b⟩
   ·simp only[Prod.mk.injEq]at e;omega
 obtain⟨hl,hch,henc⟩:=hc
 by_cases g4:240<=bt l 0
 ·have r4:rsz (bt l 0)=4:=by unfold rsz;rw[if_pos g4]
  have rb:rb0 (bt l 0)=bt l 0%8:=by unfold rb0;rw[if_pos g4]
  rw[r4,rb]at henc hch
  rw[r4]at hl
  rw[KK l (by omega)]at henc
  unfold LZ hdS hdB
  simp only[Nat.reduceSub,BT,Nat.zero_add,Nat.reduceAdd]at henc hch
  generalize hb0:bt l 0=b0 at*
  generalize hb1:bt l 1=b1 at*
  generalize hb2:bt l 2=b2 at*
  generalize hb3:bt l 3=b3 at*
  have hr0:∃r,r=((b0%8*64+b1%64)*64+b2%64)*64+b3%64:=⟨_,rfl⟩
  obtain⟨r,hr⟩:=hr0
  rw[<-hr]at henc hch
  have hmax:=hch.1
  unfold Gi at henc
  have hw:wid r=4/\b0=240+r/262144/\b1/64=2/\b2/64=2/\b3/64=2:=by
   unfold wid
   split at henc
   ·simp at henc
   ·split at henc
    ·simp at henc
    ·split at henc
     ·simp at henc
     ·simp only[CG,Cv,e0,e1,e2,e3,and_true]at henc
      refine⟨by rw[if_neg ‹_›,if_neg ‹_›,if_neg ‹_›],by omega,by omega,by omega,by omega⟩
  rw[if_neg (show ¬b0<128 by omega),if_neg (show ¬(192<=b0/\b0<224) by omega),if_neg (show ¬(224<=b0/\b0<240) by omega),if_pos (show 240<=b0/\b0<248 by omega),if_neg (show ¬b0<128 by omega),if_neg (show ¬(192<=b0/\b0<224) by omega),if_neg (show ¬(224<=b0/\b0<240) by omega),if_pos (show 240<=b0/\b0<248 by omega)]
  simp only[Nat.reduceSub,BT,Nat.zero_add,Nat.reduceAdd,hb1,hb2,hb3]
  rw[<-hr]
  refine⟨by omega,by omega,fun j j1 j2=>?_,hch,hw.1⟩
  have:j=1∨j=2∨j=3:=by omega
  rcases this with rfl | rfl | rfl<;>omega
 by_cases g3:224<=bt l 0
 ·have r4:rsz (bt l 0)=3:=by unfold rsz;rw[if_neg g4,if_pos g3]
  have rb:rb0 (bt l 0)=bt l 0%16:=by unfold rb0;rw[if_neg g4,if_pos g3]
  rw[r4,rb]at henc hch
  rw[r4]at hl
  rw[GS l (by omega)]at henc
  unfold LZ hdS hdB
  simp only[Nat.reduceSub,BT,Nat.zero_add,Nat.reduceAdd]at henc hch
  generalize hb0:bt l 0=b0 at*
  generalize hb1:bt l 1=b1 at*
  generalize hb2:bt l 2=b2 at*
  have hr0:∃r,r=(b0%16*64+b1%64)*64+b2%64:=⟨_,rfl⟩
  obtain⟨r,hr⟩:=hr0
  rw[<-hr]at henc hch
  unfold Gi at henc
  have hw:wid r=3/\b1/64=2/\b2/64=2:=by
   unfold wid
   split at henc
   ·simp at henc
   ·split at henc
    ·simp at henc
    ·split at henc
     ·simp only[CG,Cv,e0,e1,e2,and_true]at henc
      refine⟨by rw[if_neg ‹_›,if_neg ‹_›,if_pos ‹_›],by omega,by omega⟩
     ·simp at henc
  rw[if_neg (show ¬b0<128 by omega),if_neg (show ¬(192<=b0/\b0<224) by omega),if_pos (show 224<=b0/\b0<240 by omega),if_neg (show ¬b0<128 by omega),if_neg (show ¬(192<=b0/\b0<224) by omega),if_pos (show 224<=b0/\b0<240 by omega)]
  simp only[Nat.reduceSub,BT,Nat.zero_add,Nat.reduceAdd,hb1,hb2]
  rw[<-hr]
  refine⟨by omega,by omega,fun j j1 j2=>?_,hch,hw.1⟩
  have:j=1∨j=2:=by omega
  rcases this with rfl | rfl<;>omega
 by_cases g2:192<=bt l 0
 ·have r4:rsz (bt l 0)=2:=by unfold rsz;rw[if_neg g4,if_neg g3,if_pos g2]
  have rb:rb0 (bt l 0)=bt l 0%32:=by unfold rb0;rw[if_neg g4,if_neg g3,if_pos g2]
  rw[r4,rb]at henc hch
  rw[r4]at hl
  rw[JK l (by omega)]at henc
  unfold LZ hdS hdB
  simp only[Nat.reduceSub,BT,Nat.zero_add,Nat.reduceAdd]at henc hch
  generalize hb0:bt l 0=b0 at*
  generalize hb1:bt l 1=b1 at*
  have hr0:∃r,r=b0%32*64+b1%64:=⟨_,rfl⟩
  obtain⟨r,hr⟩:=hr0
  rw[<-hr]at henc hch
  unfold Gi at henc
  have hw:wid r=2/\b1/64=2:=by
   unfold wid
   split at henc
   ·simp at henc
   ·split at henc
    ·simp only[CG,Cv,e0,e1,and_true]at henc
     refine⟨by rw[if_neg ‹_›,if_pos ‹_›],by omega⟩
    ·split at henc<;>simp at henc
  rw[if_neg (show ¬b0<128 by omega),if_pos (show 192<=b0/\b0<224 by omega),if_neg (show ¬b0<128 by omega),if_pos (show 192<=b0/\b0<224 by omega)]
  simp only[Nat.reduceSub,BT,Nat.zero_add,hb1]
  rw[<-hr]
  refine⟨by omega,by omega,fun j j1 j2=>?_,hch,hw.1⟩
  have:j=1:=by omega
  subst this;omega
 ·have r4:rsz (bt l 0)=1:=by unfold rsz;rw[if_neg g4,if_neg g3,if_neg g2]
  have rb:rb0 (bt l 0)=bt l 0:=by unfold rb0;rw[if_neg g4,if_neg g3,if_neg g2]
  rw[r4,rb]at henc hch
  rw[r4]at hl
  rw[HR l (by omega)]at henc
  unfold LZ hdS hdB
  simp only[Nat.sub_self,BT]at henc hch
  generalize hb0:bt l 0=b0 at*
  have hlt:b0<128:=by
   unfold Gi at henc
   split at henc
   ·assumption
   ·split at henc
    ·simp at henc
    ·split at henc<;>simp at henc
  rw[if_pos hlt,if_pos hlt]
  simp only[Nat.sub_self,BT]
  refine⟨by omega,by omega,fun j j1 j2=>by omega,hch,by unfold wid;rw[if_pos hlt]⟩
theorem SD {s:B8} {I:Int} {i:Nat} {st:St} {K:Int->Int->St->Prop} (hI:I=(i:Int)) (hl:s.length<=2000000) (hi:i<=s.length) (hk:K ((rD (s.drop i)).1:Nat) ((rD (s.drop i)).2:Nat) st):
  CallT PR Dd [.str s,.int .i64 I] [.one (.int .i64),.one (.int .i64)] st K:=by
 have no:¬LZ (s.drop i)->s.drop i≠ []->K 0 0 st:=fun h hne=>by
  have:ul (s.drop i)=0:=Decidable.byContradiction fun h0=>h (WI _ hne h0)
  unfold rD at hk
  rw[if_pos this]at hk;exact hk
 have yes:LZ (s.drop i)->s.drop i≠ []->K (BT (s.drop i) (hdB (bt (s.drop i) 0)) (hdS (bt (s.drop i) 0)-1):Nat) (hdS (bt (s.drop i) 0):Nat) st:=fun h hne=>by
  have hv:=WH _ hne h
  unfold rD at hk
  rw[if_neg (by rw[hv.1];exact h.1),hv.1,hv.2]at hk
  exact hk
 have hlen:(s.drop i).length=s.length-i:=by simp
 have hb:∀j,bt (s.drop i) j=(s.getD (i+j) 0).toNat:=UT s i
 refine IB s I st K (Aa (fun h=>by omega) fun _=>Aa (fun h=>?_) fun h=>⟨⟨by omega,by omega⟩,?_⟩)
 ·have:s.drop i=[]:=List.drop_of_length_le (by omega)
  have h0:rD (s.drop i)=(0,0):=by rw[this];simp[rD,ul]
  rw[h0]at hk;exact hk
 have hne:s.drop i≠ []:=by
  intro h0
  have:=congrArg List.length h0
  rw[hlen]at this;simp only[List.length_nil]at this;omega
 have hb0:(List.getD s (Int.toNat I) 0).toNat=bt (s.drop i) 0:=by rw[hb,hI];rfl
 have hlt:=EM (s.drop i) 0
 rw[hb0]
 refine UA rfl hlt ?_
 have hsz:hdS (bt (s.drop i) 0)<=4:=by unfold hdS;(repeat' split)<;>omega
 have hbz:hdB (bt (s.drop i) 0)<256:=by unfold hdB;(repeat' split)<;>omega
 unfold LZ at no yes
 generalize hdS (bt (s.drop i) 0)=n at*
 generalize hdB (bt (s.drop i) 0)=r0 at*
 rw[Ai _ (by omega) (by omega)]
 refine Aa (fun g=>no (fun hh=>hh.1 (by omega)) hne) fun g1=>Aa (fun g=>no (fun hh=>by omega) hne) fun g2=>?_
 have hra:=PY (s.drop i) r0 hbz
 refine⟨fun r j s' at' sz st2=>s=s'/\I=at'/\st=st2/\((n:Nat):Int)=sz/\∃k:Nat,j=((k+1:Nat):Int)/\k+1<=n/\r=((BT (s.drop i) r0 k:Nat):Int)/\∀m,1<=m->m<=k->bt (s.drop i) m/64=2,fun _ j _ _ sz _=>(sz-j).toNat,⟨rfl,rfl,rfl,rfl,0,rfl,by omega,rfl,fun m h1 h2=>by omega⟩,?_⟩
 rintro _ _ _ _ _ _ ⟨rfl,rfl,rfl,rfl,k,rfl,hk1,rfl,hall⟩
 have hrk:=hra k
 have h64:64^k<=64^3:=Nat.pow_le_pow_right (by decide) (by omega)
 refine Aa (fun h2=>?_) fun h2=>?_
 ·rw[Ai (I+((k+1:Nat):Int)) (by omega) (by omega)]
  have hbk:(List.getD s (Int.toNat (I+((k+1:Nat):Int))) 0).toNat=bt (s.drop i) (k+1):=by
   rw[hb,show Int.toNat (I+((k+1:Nat):Int))=i+(k+1) by omega]
  have hbl:=EM (s.drop i) (k+1)
  have h192:B0 .and .u8 ((bt (s.drop i) (k+1):Nat):Int) (192:Int)=((bt (s.drop i) (k+1)&&&192:Nat):Int):=TY _ 192 hbl (by decide)
  have hand:i64.wrap (B0 .and .u8 ((bt (s.drop i) (k+1):Nat):Int) (63:Int))=((bt (s.drop i) (k+1)%64:Nat):Int):=by
   rw[show(63:Int)=((2^6-1:Nat):Int) by decide,GH _ 6 hbl (by decide),Ai _ (by omega) (by omega)]
  have hmul:i64.wrap (((BT (s.drop i) r0 k:Nat):Int)*2^(min (Int.toNat (6:Int)) (IntKind.bits .i64)))=((BT (s.drop i) r0 k*2^6:Nat):Int):=by
   rw[show(2:Int)^(min (Int.toNat (6:Int)) (IntKind.bits .i64))=64 by decide,Ai _ (by omega) (by omega)];omega
  have hc:(bt (s.drop i) (k+1)&&&192)=128↔bt (s.drop i) (k+1)/64=2:=by
   have:∀x,x<256->((x&&&192)=128↔x/64=2):=by decide+kernel
   exact this _ hbl
  refine⟨⟨by omega,by omega⟩,?_⟩
  rw[hbk,h192,hand,hmul,WN _ _ 6 (by omega) (by omega),Ai _ (by omega) (by omega)]
  refine Aa (fun h3=>no (fun hh=>h3 ?_) hne) fun h3=>?_
  ·have:=hh.2.2.1 (k+1) (by omega) (by omega)
   rw[hc.2 this];rfl
  ·have h4:bt (s.drop i) (k+1)/64=2:=hc.1 (by omega)
   refine⟨⟨rfl,rfl,rfl,rfl,k+1,by omega,by omega,by simp only[BT],fun m m1 m2=>?_⟩,by dsimp only;omega⟩
   by_cases hm:m=k+1
   ·rw[hm];exact h4
   ·exact hall m m1 (by omega)
 ·have hks:k=n-1:=by omega
  subst hks
  refine OF rfl (Ar (fun h3=>no (fun hh=>?_) hne) fun h3=>QJ rfl (Aa (fun h4=>no (fun hh=>?_) hne) fun h4=>?_))
  ·simp only[Bool.not_eq_true',decide_eq_false_iff_not]at h3
   exact h3 hh.2.2.2.1
  ·rw[hh.2.2.2.2]at h4;exact h4 rfl
  ·simp only[Bool.not_eq_false',decide_eq_true_eq]at h3
   exact yes ⟨by omega,by omega,fun m m1 m2=>hall m m1 (by omega),h3,by omega⟩ hne
theorem uLen_ok {s:B8} {st:St} {K:Int->Int->St->Prop} (hl:s.length<=2000000) (hk:∀n:Int,K n (if vlen s=s.length then 0 else 5) st):CallT PR Jn [.str s] [.one (.int .i64),.one (.int .i64)] st K:=by
 have hv:=QP s
 refine Sx s st K ⟨fun n i s' st'=>s=s'/\st=st'/\∃k:Nat,i=(k:Int)/\k<=s.length/\k+vlen (s.drop k)=vlen s,fun _ i _ _=>(s.length-i).toNat,⟨rfl,rfl,0,rfl,by omega,by simp⟩,?_⟩
 rintro n _ _ _ ⟨rfl,rfl,k,rfl,h1,h2⟩
 refine Aa (fun g1=>SD rfl hl h1 ?_) fun g1=>?_
 ·have hle:=My (s.drop k)
  rw[List.length_drop]at hle
  unfold rD
  by_cases h0:ul (s.drop k)=0
  ·rw[if_pos h0]
   rw[Dr _ h0]at h2
   have:=hk 0
   rw[if_neg (by omega)]at this
   exact Aa (fun _=>this) fun h=>absurd rfl h
  ·rw[if_neg h0]
   rw[Ds _ h0,List.drop_drop]at h2
   refine Aa (fun h=>absurd h (by show ¬((ul (s.drop k):Nat):Int)=0;omega)) fun _=>?_
   have w:i64.wrap ((k:Int)+(ul (s.drop k):Nat))=((k+ul (s.drop k):Nat):Int):=by rw[Ai _ (by omega) (by omega)];omega
   dsimp only
   rw[w]
   exact⟨⟨rfl,rfl,_,rfl,by omega,by omega⟩,by omega⟩
 ·rw[show s.drop k=[]from List.drop_of_length_le (by omega),Cc]at h2
  have:=hk n
  rw[if_pos (by omega)]at this
  exact this
theorem KA {s:B8} {st:St} {K:Bool->St->Prop} (hl:s.length<=2000000) (hk:K (decide (vlen s=s.length)) st):CallT PR DD [.str s] [.one (.bool)] st K:=by
 refine Px s st K (uLen_ok hl fun n=>?_)
 by_cases h:vlen s=s.length
 ·rw[if_pos h];rw[decide_eq_true h]at hk;exact hk
 ·rw[if_neg h];rw[decide_eq_false h]at hk;exact hk
theorem JI {l:B8} {c:UInt8} (hc:c.toNat<128) (hl:l.length<=9223372036854775807) {st:St} {K:B8->St->Prop} (hk:K (Lib.trimRightB l c) st):CallT PR CA [.str l,.str [c]] [.one .str] st K:=by
 refine B4 (fun _ _=>by kernel_rfl) fun g w vargs s hr=>?_
 obtain⟨v,u,rfl,hv,hu⟩:=JW hr
 rw[A1 hv,A1 hu]
 refine Calls.mono (Tryz.strings_TrimRight_one ⟨l.toArray⟩ c hc w (by simpa [ByteArray.size]using hl)) ?_
 rintro e w' ⟨rfl,rfl⟩
 exact⟨_,rfl,.str _,st,g,hk,s,Rel.str _,Ext.refl _ _⟩
theorem HP (l:B8):(Lib.trimRightB l 48).length+Bt l=l.length:=by
 unfold Lib.trimRightB Bt
 have:=congrArg List.length (List.takeWhile_append_dropWhile (p:=fun x:UInt8=>x==48) (l:=l.reverse))
 rw[List.length_append,List.length_reverse]at this
 rw[List.length_reverse];omega
theorem V9 {l:B8} (hl:l.length<=2000000) {st:St} {K:Int->St->Prop} (hk:K (Bt l:Nat) st):CallT PR Ez [.str l] [.one (.int .i64)] st K:=by
 refine LQ _ st K (JI (by decide) (by omega) ?_)
 have:=HP l
 rw[Ai _ (by omega) (by omega),show((l.length:Nat):Int)-((Lib.trimRightB l 48).length:Int)=(Bt l:Nat) by omega]
 exact hk
theorem J9 {l:B8} {n:Nat} (h:n<l.length):List.getD l n 0∈l:=by
 rw[List.getD_eq_getElem?_getD,List.getElem?_eq_getElem h,Option.getD_some]
 exact List.getElem_mem h
theorem XV {P:UInt8->Prop} {l:B8} {n:Nat} (h:n<l.length) (h1:∀c,c∈l.take n->P c) (h2:P (List.getD l n 0)):∀c,c∈l.take (n+1)->P c:=by
 intro c hc
 rw[D5 _ _ 0 h]at hc
 rcases List.mem_append.1 hc with hc | hc
 ·exact h1 c hc
 ·rw[List.mem_singleton.1 hc];exact h2
theorem all_ok {l:B8} (hl:l.length<=2000000) {st:St} {K:Bool->St->Prop} (hk:K (decide (∀c,c∈l->AF c)) st):CallT PR Gg [.str l] [.one .bool] st K:=by
 refine N7 l st K ⟨fun i s m st'=>l=s/\(l.length:Int)=m/\st=st'/\∃n:Nat,i=n/\n<=l.length/\∀c,c∈l.take n->AF c,fun i _ _ _=>(l.length-i).toNat,⟨rfl,rfl,rfl,0,rfl,Nat.zero_le _,fun c hc=>by simp at hc⟩,?_⟩
 rintro _ _ _ _ ⟨rfl,rfl,rfl,n,rfl,hn,hall⟩
 refine Aa (fun g=>?_) fun g=>?_
 ·have hm:=J9 (l:=l) (n:=n) (by omega)
  have bad:¬AF (List.getD l n 0)->K false st:=fun hb=>by
   rw[decide_eq_false fun h=>hb (h _ hm)]at hk;exact hk
  rw[Int.toNat_natCast]
  refine⟨⟨by omega,by omega⟩,Aa (fun g2=>bad (by unfold AF;omega)) fun g2=>⟨⟨by omega,by omega⟩,Aa (fun g3=>bad (by unfold AF;omega)) fun g3=>?_⟩⟩
  rw[Ai _ (by omega) (by omega)]
  exact⟨⟨rfl,rfl,rfl,n+1,by omega,by omega,XV (by omega) hall (by unfold AF;omega)⟩,by dsimp only;omega⟩
 ·have:n=l.length:=by omega
  subst this
  rw[List.take_length]at hall
  rw[decide_eq_true hall]at hk;exact hk
def NS (l:B8):Prop:=l.length<=600/\(∀c,c∈l->AF c)/\(l≠ []->l.getD 0 0≠48)
instance (l:B8):Decidable (NS l):=inferInstanceAs (Decidable (_/\_/\(_->_)))
theorem ne48 (c:UInt8):decide ((c.toNat:Int)≠48)=decide (c≠48):=by
 have:((c.toNat:Int)≠48)↔c≠48:=by rw[ne_eq,ne_eq,<-UInt8.toNat_inj];exact not_congr ⟨fun h=>Int.ofNat.inj h,fun h=>by rw[h];rfl⟩
 exact decide_eq_decide.2 this
theorem Pg {l:B8} (hl:l.length<=2000000) {st:St} {K:Bool->St->Prop} (hk:K (decide (NS l)) st):CallT PR Dk [.str l] [.one .bool] st K:=by
 have no:¬NS l->K false st:=fun h=>by rw[decide_eq_false h]at hk;exact hk
 refine LR l st K (Aa (fun g=>all_ok hl (Aa (fun g2=>Aa (fun g3=>?_) fun g3=>⟨⟨by omega,by have:=List.length_pos_iff.2 g3;omega⟩,?_⟩) fun g2=>no fun h=>g2 h.2.1)) fun g=>no fun h=>g (by have:=h.1;omega))
 ·rw[decide_eq_true (show NS l from⟨by omega,g2,fun h=>absurd g3 h⟩)]at hk;exact hk
 ·rw[ne48]
  refine Er (decide_eq_decide.2 ?_) hk
  exact⟨fun h=>⟨by omega,g2,fun _=>h⟩,fun h=>h.2.2 g3⟩
theorem GE {neg:Bool} {l:B8} {ex:Int} (h:l≠ []):CW neg l ex↔NS l/\l.length<=120/\Bt l=0/\ -400<=ex/\ex<=400:=by
 unfold CW NS
 constructor
 ·intro g
  obtain⟨g1,g2,g3,g4,g5,g6⟩:=g.2 h
  exact⟨⟨by omega,g2,fun _=>g3⟩,g1,g4,g5,g6⟩
 ·rintro⟨⟨g1,g2,g3⟩,g4,g5,g6,g7⟩
  exact⟨fun e=>absurd e h,fun _=>⟨g4,g2,g3 h,g5,g6,g7⟩⟩
theorem Pf {neg:Bool} {ex:Int}:CW neg [] ex↔neg=false/\ex=0:=by
 unfold CW
 exact⟨fun g=>g.1 rfl,fun g=>⟨fun _=>g,fun h=>absurd rfl h⟩⟩
theorem Lz {neg:Bool} {l:B8} {ex:Int} (hl:l.length<=2000000) {st:St} {K:Bool->St->Prop} (hk:K (decide (CW neg l ex)) st):CallT PR CN [.agg [.bool neg,.str l,.int .i64 ex]] [.one .bool] st K:=by
 have no:¬CW neg l ex->K false st:=fun h=>by rw[decide_eq_false h]at hk;exact hk
 refine Kv _ _ _ st K (Aa (fun g=>?_) fun g=>?_)
 ·subst g
  refine Er ?_ hk
  rw[Bool.eq_iff_iff]
  simp[Pf]
 ·refine Pg hl (Aa (fun g2=>Aa (fun g3=>V9 hl (Aa (fun g4=>Aa (fun g5=>?_) fun g5=>?_) fun g4=>?_)) fun g3=>?_) fun g2=>?_)
  ·exact Er (decide_eq_decide.2 (by rw[GE g];exact⟨fun h=>⟨g2,by omega,by omega,g5,h⟩,fun h=>h.2.2.2.2⟩)) hk
  ·exact no fun h=>g5 ((GE g).1 h).2.2.2.1
  ·exact no fun h=>g4 (by have:=((GE g).1 h).2.2.1;omega)
  ·exact no fun h=>g3 (by have:=((GE g).1 h).2.1;omega)
  ·exact no fun h=>g2 ((GE g).1 h).1
theorem JJ {k d n z:Int} {st:St} {K:Bool->St->Prop} (hk:K (decide (DS k d n z)) st):CallT PR Ce [.agg [.int .i64 k,.int .i64 d,.int .i64 n,.int .i64 z]] [.one .bool] st K:=by
 refine LO _ _ _ _ st K ?_
 repeat' first
  | exact Er (Eq.symm (decide_eq_false (by unfold DS;omega))) hk
  | exact Er (Eq.symm (decide_eq_true (by unfold DS;omega))) hk
  | exact Er (decide_eq_decide.2 (by unfold DS;omega)) hk
  | refine Aa (fun _=>?_) fun _=>?_
theorem orc {c p r:Bool} {K:Bool->Prop} {R1 R2:Prop} (h1:K r->R1) (h2:K r->R2) (hk:K ((c&&p) || r)):BIf c (BIf p (K true) R1) R2:=by
 cases c<;>cases p<;>simp only[Bool.true_and,Bool.false_and,Bool.true_or,Bool.false_or]at hk<;>first | exact h1 hk | exact h2 hk | exact hk
theorem orn {c p r s:Bool} {K:Bool->Prop} {R1 R2:Prop} (hs:s=true) (h1:K r->R1) (h2:K r->R2) (hk:K ((c&&p) || r)):BIf c (need s (BIf p (K true) R1)) R2:=by
 subst hs;exact orc h1 h2 hk
theorem ore {c p s:Bool} {K:Bool->Prop} (hs:s=true) (hk:K (c&&p)):BIf c (need s (K p)) (K false):=by
 subst hs;cases c<;>exact hk
def exB (s:Sc) (l:List Vl) (f:List Fd):Bool:=
 (decide (s.kind≠1)&&s.b) || ((decide (s.kind≠2)&& !((s.neg==false)&&(decide (s.dg=[])&&(decide (s.ex=0)&&true)))) || ((decide (s.kind≠3)&& !(decide (s.tk=0)&&(decide (s.td=0)&&(decide (s.tn=0)&&(decide (s.tz=0)&&true))))) ||
  ((decide (s.kind≠4)&&decide (s.text≠ [])) || ((decide (s.kind≠5)&&decide (0<(s.bytes.length:Int))) || ((decide (s.kind≠6)&&decide (0<(l.length:Int))) || (decide (s.kind≠7)&&decide (0<(f.length:Int))))))))
theorem W5 {α:Type} {l:List α}:¬0<(l.length:Int)↔l=[]:=by
 rw[<-List.length_eq_zero_iff];omega
theorem O9 {s:Sc} {l:List Vl} {f:List Fd} (h0:0<=s.kind) (h7:s.kind<=7):exB s l f=false↔NR s l f:=by
 unfold exB
 simp only[Bool.or_eq_false_iff,Bool.and_eq_false_imp,decide_eq_true_eq,Bool.not_eq_false',Bool.and_eq_true,beq_iff_eq,decide_eq_false_iff_not,W5,ne_eq,Decidable.not_not,and_true]
 constructor
 ·rintro⟨a,b,c,d,e,f,g⟩;exact⟨h0,h7,a,b,c,d,e,f,g⟩
 ·rintro⟨_,_,a,b,c,d,e,f,g⟩;exact⟨a,b,c,d,e,f,g⟩
theorem exB_eq {s:Sc} {l:List Vl} {f:List Fd} (h0:0<=s.kind) (h7:s.kind<=7):exB s l f= !decide (NR s l f):=by
 cases h:exB s l f with
 | false=>rw[decide_eq_true ((O9 h0 h7).1 h)];rfl
 | true=>rw[decide_eq_false fun o=>by rw[(O9 h0 h7).2 o]at h;cases h];rfl
theorem Xo {s:Sc} {l:List Vl} {f:List Fd} {ub ul uf:TV} {st:St} {K:Bool->St->Prop} (h1:isSl ub=true) (h2:isSl ul=true) (h3:isSl uf=true) (l1:lenS ub=s.bytes.length) (l2:lenS ul=l.length) (l3:lenS uf=f.length) (hk:K (exB s l f) st):
  CallT PR Fm [.agg (Bh s ub ul uf)] [.one .bool] st K:=by
 unfold exB at hk
 refine Mm _ _ _ _ _ _ _ _ _ _ _ _ _ st K ?_
 rw[l1,l2,l3]
 revert hk
 repeat' first
  | (refine fun hk=>ore (K:=fun b=>K b st) h3 hk)
  | (refine fun hk=>orn (K:=fun b=>K b st) h1 ?_ ?_ hk)
  | (refine fun hk=>orn (K:=fun b=>K b st) h2 ?_ ?_ hk)
  | (refine fun hk=>orc (K:=fun b=>K b st) ?_ ?_ hk)
theorem key_ok {s:B8} (hl:s.length<=2000000) {st:St} {K:Int->St->Prop} (hk:K ((if U8 s then(if 1024<s.length then 10 else 0)else 5:Nat):Int) st):CallT PR G5 [.str s] [.one (.int .i64)] st K:=by
 refine Pu _ st K (KA hl (Ar (fun g=>?_) fun g=>?_))
 ·have hu:¬U8 s:=by unfold U8;simpa using g
  rw[if_neg hu]at hk;exact hk
 ·have hu:U8 s:=by unfold U8;simpa using g
  rw[if_pos hu]at hk
  refine Aa (fun g2=>?_) fun g2=>?_
  ·have h3:1024<s.length:=by omega
   rw[if_pos h3]at hk;exact hk
  ·have h3:¬1024<s.length:=by omega
   rw[if_neg h3]at hk;exact hk
theorem Nt (k k':B8) (v:TV):∀es:List (B8×TV),CE k (Iw k' v es)=if k=k' then some v else CE k es
 | []=>by
  simp only[Iw,CE]
  by_cases h:k=k'<;>simp[h]
 | (k1,v1)::es=>by
  simp only[Iw]
  by_cases h1:k'=k1
  ·simp only[h1,decide_true,CE]
   by_cases h:k=k1<;>simp[h]
  ·simp only[h1,decide_false,CE,Nt k k' v es]
   by_cases h:k=k1
   ·simp[h,Ne.symm h1]
   ·simp[h]
def XY (es:List (B8×TV)) (ns:List B8):Prop:=∀t,CE t es=if t∈ns then some (.bool true)else none
theorem XY.add {es:List (B8×TV)} {ns:List B8} (h:XY es ns) (t:B8):XY (Iw t (.bool true) es) (t::ns):=by
 intro k
 rw[Nt]
 by_cases hk:k=t
 ·simp[hk]
 ·rw[if_neg hk,h k];simp[hk]
theorem Tk (seen:List B8) (d:Fd) (r:List Fd):GA seen (d::r)=if U8 d.key then(if 1024<d.key.length then 10 else if d.key∈seen then 8 else GA (d.key::seen) r)else 5:=rfl
theorem NB {α:Type} {l:List α} {k:Nat} {x:α} (h:l[k]? =some x):l.drop k=x::l.drop (k+1):=by
 obtain⟨q1,q2⟩:=List.getElem?_eq_some_iff.1 h
 rw[List.drop_eq_getElem_cons q1,q2]
theorem key_len {f:List Fd} {d:Fd} (h:d∈f):d.key.length<=CX f:=by
 have:=Nq h
 cases d;unfold Fd.sz at this;simp only[Fd.key];omega
theorem keys_ok {st0 st:St} {uf:TV} {xf:List TV} {f:List Fd} (hke:B1 st0 st) (h4:SlR st0 14 uf f.length xf) (h5:FsR st0 f xf) (hN:CX f<=2000000) {K:Int->St->Prop} (hk:∀st',Ap st st'->K (GA [] f:Nat) st'):
  CallT PR F9 [uf] [.one (.int .i64)] st K:=by
 have hfl:=Fl f
 refine NW _ st K (Ab h4.isSl ⟨fun i m u n st'=> .map st.nb=m/\uf=u/\(f.length:Int)=n/\∃(k:Nat) (ns:List B8) (es:List (B8×TV)),i=k/\k<=f.length/\Ap st st'/\st.nb<st'.nb/\st'.box st.nb= .map es/\XY es ns/\GA [] f=GA ns (f.drop k),fun i _ _ _ _=>(f.length-i).toNat,
  ⟨rfl,rfl,by rw[h4.lenS],0,[],[],rfl,Nat.zero_le _,(Ap.refl st).push _ _,by simp[St.push],by simp[St.push],fun t=>by simp[CE],rfl⟩,?_⟩)
 rintro _ _ _ _ st1 ⟨rfl,rfl,rfl,k,ns,es,rfl,hkf,e1,hb,hm,hns,hE⟩
 refine Aa (fun g=>?_) fun g=>?_
 ·refine el14 (hke.trans e1.keeps) h4 h5 rfl (by omega) fun key s' l' f' ub1 ul1 uf1 gw hw on=>Ab on ?_
  have hmem:=Fh gw
  have hkl:=key_len hmem
  rw[NB gw,Tk]at hE
  change GA [] f=if U8 key then(if 1024<key.length then 10 else if key∈ns then 8 else GA (key::ns) (f.drop (k+1)))else 5 at hE
  change key.length<=_ at hkl
  refine key_ok (by omega) ?_
  by_cases g1:U8 key
  case neg=>
   rw[if_neg g1]at hE⊢
   refine Aa (fun _=>?_) fun h=>absurd (by decide) h
   rw[<-hE];exact hk st1 e1
  rw[if_pos g1]at hE⊢
  by_cases g2:1024<key.length
  ·rw[if_pos g2]at hE⊢
   refine Aa (fun _=>?_) fun h=>absurd (by decide) h
   rw[<-hE];exact hk st1 e1
  rw[if_neg g2]at hE⊢
  refine Aa (fun h=>absurd rfl h) fun _=>Ad (x:=es) (by simp only[H4,hm]) ?_
  rw[hns key]
  by_cases g3:key∈ns
  ·rw[if_pos g3]at hE⊢
   refine Ao (Ar (fun _=>?_) fun h=>by cases h)
   have:=hk st1 e1
   rw[hE]at this;exact this
  ·rw[if_neg g3]at hE⊢
   refine Ao (Ar (fun h=>by cases h) fun _=>⟨es,hm,?_⟩)
   rw[Ai _ (by omega) (by omega)]
   exact⟨⟨rfl,rfl,rfl,k+1,key::ns,_,by omega,by omega,StX.ext e1 (StX.put (S:=fun i=>i=st.nb) rfl _) (fun i hi=>by rw[hi];exact Nat.le_refl _),hb,by simp[St.put],hns.add key,hE⟩,by dsimp only;omega⟩
 ·have:k=f.length:=by omega
  subst this
  rw[List.drop_length]at hE
  have:=hk st1 e1
  rw[hE]at this;exact this
theorem B1.stx {b:Nat} {a c d:St} (h:B1 a c) (k:StX (fun i=>i=b) c d) (hb:a.nb<=b):B1 a d:=
 ⟨Nat.le_trans h.1 k.nb,fun i hi=>(k.box i (Nat.lt_of_lt_of_le hi h.1) (by omega)).trans (h.2 i hi)⟩
theorem chkV_eq {d n:Nat} {s:Sc} {l:List Vl} {f:List Fd} (h1:¬48<d) (h2:¬65536<=n) (h3:Fe s l f=0):CO d n (.mk s l f)=Gs (Dg (d+1) (n+1) l) fun m=>Dh (d+1) m f:=by
 unfold CO;rw[if_neg h1,if_neg h2,if_neg (fun h=>h h3)]
theorem Se {d n:Nat} {s:Sc} {l:List Vl} {f:List Fd} (h1:¬48<d) (h2:¬65536<=n) (h3:Fe s l f≠0):CO d n (.mk s l f)=(n,Fe s l f):=by
 unfold CO;rw[if_neg h1,if_neg h2,if_pos h3]
theorem TH (d n:Nat) (v:Vl) (r:List Vl):Dg d n (v::r)=Gs (CO d n v) fun m=>Dg d m r:=by rw[Dg]
theorem TI (d n:Nat) (k:B8) (v:Vl) (r:List Fd):Dh d n (.mk k v::r)=Gs (CO d n v) fun m=>Dh d m r:=by rw[Dh,Oo]
theorem Sw:U8 []:=by unfold U8;rw[Cc];rfl
theorem XL:∀(N:Nat) (v:Vl),v.sz<=N->N<=2000000->∀{st0 st:St} {cs:List TV} {b d n:Nat} {D:Int} {K:Int->St->Prop},VlR st0 v cs->B1 st0 st->st0.nb<=b->b<st.nb->st.box b= .cells [.int .i64 (n:Nat)]->n<=65536->D=(d:Int)->d<=100->
  (∀st' (m:Nat),StX (fun i=>i=b) st st'->st'.box b= .cells [.int .i64 (m:Nat)]->((CO d n v).2=0->m=(CO d n v).1/\m<=65536)->K ((CO d n v).2:Nat) st')->CallT PR Cz [.agg cs,.int .i64 D,.box b 0] [.one (.int .i64)] st K:=by
 intro N
 induction N with
 | zero=>intro v h;have:=v.sz_pos;omega
 | succ N ih=>
 intro v hN hN2 st0 st cs b d n D K h hke hb0 hb hbx hn hD hd hk
 subst hD
 cases v with
 | mk s l f=>
 have hsz:(Vl.mk s l f).sz=1+s.bytes.length+s.text.length+s.dg.length+CJ l+CX f:=by unfold Vl.sz;rfl
 have hll:=HH l
 have hfl:=Fl f
 unfold VlR at h
 obtain⟨ub,ul,uf,xl,xf,rfl,h1,h2,h3,h4,h5⟩:=h
 refine Mn _ _ _ _ _ _ _ _ _ _ _ _ _ (d:Int) b st K ?_
 refine Ad (x:= .int .i64 (n:Nat)) (by simp[Ac,hbx]) (Az ?_)
 rw[Ai _ (by omega) (by omega)]
 refine⟨_,hbx,by simp,?_⟩
 obtain⟨st1,hst1⟩:∃st1,st1=st.put b (.cells (setAll [.int .i64 (n:Nat)] 0 [.int .i64 ((n:Int)+1)])):=⟨_,rfl⟩
 rw[<-hst1]
 have e1:StX (fun i=>i=b) st st1:=by rw[hst1];exact StX.put (S:=fun i=>i=b) rfl _
 have hb1:st1.box b= .cells [.int .i64 ((n+1:Nat):Int)]:=by rw[hst1];simp[St.put,setAll]
 have hke1:=hke.stx e1 hb0
 refine⟨fun dp p kd bo ng dg ex tk td tn tz tx u1 u2 u3 st'=>dp=d/\p= .box b 0/\ul=u2/\uf=u3/\¬48<d/\¬65536<=n/\Fe s l f=GA [] f/\StX (fun i=>i=b) st st'/\st'.box b= .cells [.int .i64 ((n+1:Nat):Int)],?_,?_⟩
 ·--the value but for the values in it
  refine Aa (fun g=>?_) fun g=>?_
  ·have hc:CO d n (.mk s l f)=(n,9):=by unfold CO;rw[if_pos (by omega)]
   have:=hk st1 (n+1) e1 hb1 (by rw[hc];intro h;cases h)
   rw[hc]at this;exact this
  refine Ad (x:= .int .i64 ((n+1:Nat):Int)) (by simp[Ac,hb1]) (Az (Aa (fun g2=>?_) fun g2=>?_))
  ·have hc:CO d n (.mk s l f)=(n,10):=by unfold CO;rw[if_neg (by omega),if_pos (by omega)]
   have:=hk st1 (n+1) e1 hb1 (by rw[hc];intro h;cases h)
   rw[hc]at this;exact this
  have hg1:¬48<d:=by omega
  have hg2:¬65536<=n:=by omega
  --an error of the value itself
  have err:∀st',StX (fun i=>i=b) st st'->st'.box b= .cells [.int .i64 ((n+1:Nat):Int)]->Fe s l f≠0->K ((Fe s l f:Nat):Int) st':=fun st' e' hb' ho=>by
   have hc:=Se hg1 hg2 ho
   have:=hk st' (n+1) e' hb' (by rw[hc];intro h;exact absurd h ho)
   rw[hc]at this;exact this
  refine⟨fun q dp p kd bo ng dg ex tk td tn tz tx u1 u2 u3 st'=>dp=d/\p= .box b 0/\kd=s.kind/\ng=s.neg/\dg=s.dg/\ex=s.ex/\tk=s.tk/\td=s.td/\tn=s.tn/\tz=s.tz/\tx=s.text/\ub=u1/\ul=u2/\uf=u3/\q= !decide (NR s l f)/\st1=st',?_,?_⟩
  ·refine Aa (fun g3=>?_) fun g3=>Aa (fun g4=>?_) fun g4=>?_
   ·exact⟨rfl,rfl,rfl,rfl,rfl,rfl,rfl,rfl,rfl,rfl,rfl,rfl,rfl,rfl,by rw[decide_eq_false fun o=>by have:=o.k0;omega];rfl,rfl⟩
   ·exact⟨rfl,rfl,rfl,rfl,rfl,rfl,rfl,rfl,rfl,rfl,rfl,rfl,rfl,rfl,by rw[decide_eq_false fun o=>by have:=o.k7;omega];rfl,rfl⟩
   ·exact Xo (s:=s) (l:=l) (f:=f) h1.isSl h2.isSl h4.isSl h1.lenS h2.lenS h4.lenS ⟨rfl,rfl,rfl,rfl,rfl,rfl,rfl,rfl,rfl,rfl,rfl,rfl,rfl,rfl,exB_eq (by omega) (by omega),rfl⟩
  rintro q _ _ _ bo _ _ _ _ _ _ _ _ _ _ _ _ ⟨rfl,rfl,rfl,rfl,rfl,rfl,rfl,rfl,rfl,rfl,rfl,rfl,rfl,rfl,rfl,rfl⟩
  by_cases ho:NR s l f
  case neg=>
   refine Ar (fun _=>?_) fun h=>by rw[decide_eq_false ho]at h;cases h
   have h6:Fe s l f=6:=by unfold Fe;rw[if_neg ho]
   have:=err st1 e1 hb1 (by rw[h6];decide)
   rw[h6]at this;exact this
  refine Ar (fun h=>by rw[decide_eq_true ho]at h;cases h) fun _=>?_
  have hdec:s.kind≠2->CW s.neg s.dg s.ex:=fun hk2=>by
   obtain⟨q1,q2,q3⟩:=ho.nu hk2
   rw[q2];exact Pf.2 ⟨q1,q3⟩
  refine⟨fun q dp p kd bo ng dg ex tk td tn tz tx u1 u2 u3 st'=>dp=d/\p= .box b 0/\kd=s.kind/\tx=s.text/\ub=u1/\ul=u2/\uf=u3/\q= !(decide (CW s.neg s.dg s.ex)&&decide (s.kind=3->DS s.tk s.td s.tn s.tz))/\st1=st',?_,?_⟩
  ·refine Aa (fun g3=>Lz (by omega) ?_) fun g3=>Aa (fun g4=>JJ ?_) fun g4=>?_
   ·by_cases hq:CW s.neg s.dg s.ex
    ·refine Ar (fun h=>by rw[decide_eq_true hq]at h;cases h) fun _=>Aa (fun g4=>by omega) fun g4=>?_
     exact⟨rfl,rfl,rfl,rfl,rfl,rfl,rfl,by rw[decide_eq_true hq,decide_eq_true fun h=>absurd h g4];rfl,rfl⟩
    ·refine Ar (fun h=>?_) fun h=>by rw[decide_eq_false hq]at h;cases h
     exact⟨rfl,rfl,rfl,rfl,rfl,rfl,rfl,by rw[decide_eq_false hq];rfl,rfl⟩
   ·exact⟨rfl,rfl,rfl,rfl,rfl,rfl,rfl,by rw[decide_eq_true (hdec g3),decide_eq_decide.2 (show(s.kind=3->DS s.tk s.td s.tn s.tz)↔_ from⟨fun h=>h g4,fun h _=>h⟩)];rfl,rfl⟩
   ·exact⟨rfl,rfl,rfl,rfl,rfl,rfl,rfl,by rw[decide_eq_true (hdec g3),decide_eq_true fun h=>absurd h g4];rfl,rfl⟩
  rintro q _ _ _ bo2 ng2 dg2 ex2 tk2 td2 tn2 tz2 _ _ _ _ _ ⟨rfl,rfl,rfl,rfl,rfl,rfl,rfl,rfl,rfl⟩
  by_cases hq:CW s.neg s.dg s.ex
  case neg=>
   refine Ar (fun _=>?_) fun h=>by rw[decide_eq_false hq]at h;cases h
   have h6:Fe s l f=2:=by unfold Fe;rw[if_pos ho,if_neg hq]
   have:=err st1 e1 hb1 (by rw[h6];decide)
   rw[h6]at this;exact this
  by_cases hq2:s.kind=3->DS s.tk s.td s.tn s.tz
  case neg=>
   refine Ar (fun _=>?_) fun h=>by rw[decide_eq_true hq,decide_eq_false hq2]at h;cases h
   have h6:Fe s l f=2:=by unfold Fe;rw[if_pos ho,if_pos hq,if_neg hq2]
   have:=err st1 e1 hb1 (by rw[h6];decide)
   rw[h6]at this;exact this
  refine Ar (fun h=>by rw[decide_eq_true hq,decide_eq_true hq2]at h;cases h) fun _=>?_
  --sizes
  have sizes:U8 s.text->∀(X:Prop),(Fe s l f=GA [] f->X)->BIf (decide (65536<(s.text.length:Int))) (K 10 st1) (need (isSl ub) (BIf (decide (65536<(lenS ub:Int))) (K 10 st1) X)):=fun hu X hX=>by
   have h6:Fe s l f=if 65536<s.text.length then 10 else if 65536<s.bytes.length then 10 else GA [] f:=by unfold Fe;rw[if_pos ho,if_pos hq,if_pos hq2,if_pos hu]
   refine Aa (fun g5=>?_) fun g5=>Ab h1.isSl (Aa (fun g6=>?_) fun g6=>?_)
   ·rw[if_pos (by omega)]at h6
    have:=err st1 e1 hb1 (by rw[h6];decide)
    rw[h6]at this;exact this
   ·rw[h1.lenS]at g6
    rw[if_neg (by omega),if_pos (by omega)]at h6
    have:=err st1 e1 hb1 (by rw[h6];decide)
    rw[h6]at this;exact this
   ·rw[h1.lenS]at g6
    rw[if_neg (by omega),if_neg (by omega)]at h6
    exact hX h6
  refine Aa (fun g3=>KA (by omega) (Ar (fun g4=>?_) fun g4=>?_)) fun g3=>?_
  ·have hu:¬U8 s.text:=by unfold U8;simpa using g4
   have h6:Fe s l f=5:=by unfold Fe;rw[if_pos ho,if_pos hq,if_pos hq2,if_neg hu]
   have:=err st1 e1 hb1 (by rw[h6];decide)
   rw[h6]at this;exact this
  ·exact sizes (by unfold U8;simpa using g4) _ fun h6=>⟨rfl,rfl,rfl,rfl,hg1,hg2,h6,e1,hb1⟩
  ·exact sizes (by rw[ho.tx g3];exact Sw) _ fun h6=>⟨rfl,rfl,rfl,rfl,hg1,hg2,h6,e1,hb1⟩
 ·rintro _ _ kd bo ng dg ex tk td tn tz tx u1 _ _ st2 ⟨rfl,rfl,rfl,rfl,hg1,hg2,h6,e2,hb2⟩
  have hke2:=hke.stx e2 hb0
  refine keys_ok hke2 h4 h5 (by omega) fun st3 e3=>?_
  have e23:=e2.trans (StX.of e3)
  have hb3:st3.box b= .cells [.int .i64 ((n+1:Nat):Int)]:=(e3.box b (by have:=e2.nb;omega)).trans hb2
  refine Aa (fun g=>?_) fun g=>Ab h2.isSl ?_
  ·have ho:Fe s l f≠0:=by rw[h6];omega
   have hc:=Se hg1 hg2 ho
   have:=hk st3 (n+1) e23 hb3 (by rw[hc];intro h;exact absurd h ho)
   rw[hc,h6]at this;exact this
  have hone:Fe s l f=0:=by rw[h6];omega
  have hC:=chkV_eq hg1 hg2 hone
  refine⟨fun i dp p u m kd bo ng dg ex tk td tn tz tx u1 u2 u3 st'=>dp=d/\p= .box b 0/\ul=u/\m=(l.length:Int)/\uf=u3/\∃k c:Nat,i=k/\k<=l.length/\c<=65536/\StX (fun i=>i=b) st st'/\st'.box b= .cells [.int .i64 ((c:Nat):Int)]/\Dg (d+1) (n+1) l=Dg (d+1) c (l.drop k),
   fun i _ _ _ _ _ _ _ _ _ _ _ _ _ _ _ _ _ _=>(l.length-i).toNat,⟨rfl,rfl,rfl,by rw[h2.lenS],rfl,0,n+1,rfl,Nat.zero_le _,by omega,e23,hb3,rfl⟩,?_⟩
  rintro _ _ _ _ _ kd bo ng dg ex tk td tn tz tx u1 u2 _ st4 ⟨rfl,rfl,rfl,rfl,rfl,k,c,rfl,hkl,hc,e4,hb4,hE⟩
  have hke4:=hke.stx e4 hb0
  refine Aa (fun g3=>?_) fun g3=>?_
  ·refine Xt hke4 h2 h3 rfl (by omega) fun s' l' f' ub1 ul1 uf1 gw hw on=>Ab on ?_
   have hwsz:=HI gw
   rw[NB gw,TH]at hE
   rw[Ai _ (by omega) (by omega)]
   refine ih _ (by omega) (by omega) (d:=d+1) hw hke4 hb0 (by have:=e4.nb;omega) hb4 hc (by omega) (by omega) fun st5 m e5 hb5 hm=>?_
   have e45:=e4.trans e5
   refine Aa (fun g4=>?_) fun g4=>?_
   ·have hne:(CO (d+1) c (.mk s' l' f')).2≠0:=by omega
    rw[KH hne]at hE
    have hc2:CO d n (.mk s l f)=CO (d+1) c (.mk s' l' f'):=by rw[hC,hE,KH hne]
    have:=hk st5 m e45 hb5 (by rw[hc2];intro h;exact absurd h hne)
    rw[hc2]at this;exact this
   ·have hz:(CO (d+1) c (.mk s' l' f')).2=0:=by omega
    rw[DA hz]at hE
    obtain⟨hm1,hm2⟩:=hm hz
    rw[Ai _ (by omega) (by omega)]
    exact⟨⟨rfl,rfl,rfl,rfl,rfl,k+1,m,by omega,by omega,hm2,e45,hb5,by rw[hE,hm1]⟩,by dsimp only;omega⟩
  ·have hkk:k=l.length:=by omega
   subst hkk
   rw[List.drop_length]at hE
   have hE2:Dg (d+1) (n+1) l=(c,0):=by rw[hE,Dg]
   rw[hE2,DA rfl]at hC
   refine Ab h4.isSl ?_
   refine⟨fun i dp p u m st'=>dp=d/\p= .box b 0/\uf=u/\m=(f.length:Int)/\∃k c2:Nat,i=k/\k<=f.length/\c2<=65536/\StX (fun i=>i=b) st st'/\st'.box b= .cells [.int .i64 ((c2:Nat):Int)]/\Dh (d+1) c f=Dh (d+1) c2 (f.drop k),
    fun i _ _ _ _ _=>(f.length-i).toNat,⟨rfl,rfl,rfl,by rw[h4.lenS],0,c,rfl,Nat.zero_le _,hc,e4,hb4,rfl⟩,?_⟩
   rintro _ _ _ _ _ st5 ⟨rfl,rfl,rfl,rfl,k,c2,rfl,hkf,hc2,e5,hb5,hF⟩
   have hke5:=hke.stx e5 hb0
   refine Aa (fun g4=>?_) fun g4=>?_
   ·refine el14 hke5 h4 h5 rfl (by omega) fun key s' l' f' ub1 ul1 uf1 gw hw on=>Ab on ?_
    have hwsz:=H7 gw
    have hwk:(Fd.mk key (.mk s' l' f')).sz=key.length+(Vl.mk s' l' f').sz:=by unfold Fd.sz;rfl
    rw[NB gw,TI]at hF
    rw[Ai _ (by omega) (by omega)]
    refine ih (.mk s' l' f') (by omega) (by omega) (d:=d+1) hw hke5 hb0 (by have:=e5.nb;omega) hb5 hc2 (by omega) (by omega) fun st6 m e6 hb6 hm=>?_
    have e56:=e5.trans e6
    refine Aa (fun g5=>?_) fun g5=>?_
    ·have hne:(CO (d+1) c2 (.mk s' l' f')).2≠0:=by omega
     rw[KH hne]at hF
     have hc3:CO d n (.mk s l f)=CO (d+1) c2 (.mk s' l' f'):=by rw[hC];exact hF
     have:=hk st6 m e56 hb6 (by rw[hc3];intro h;exact absurd h hne)
     rw[hc3]at this;exact this
    ·have hz:(CO (d+1) c2 (.mk s' l' f')).2=0:=by omega
     rw[DA hz]at hF
     obtain⟨hm1,hm2⟩:=hm hz
     rw[Ai _ (by omega) (by omega)]
     exact⟨⟨rfl,rfl,rfl,rfl,k+1,m,by omega,by omega,hm2,e56,hb6,by rw[hF,hm1]⟩,by dsimp only;omega⟩
   ·have hkk:k=f.length:=by omega
    subst hkk
    rw[List.drop_length]at hF
    have hF2:CO d n (.mk s l f)=(c2,0):=by rw[hC];show Dh (d+1) c f=_;rw[hF,Dh]
    have:=hk st5 c2 e5 hb5 (by rw[hF2];exact fun _=>⟨rfl,hc2⟩)
    rw[hF2]at this;exact this
section
theorem XZ {v:Vl} (hN:v.sz<=2000000) {st0 st:St} {cs:List TV} {K:Int->St->Prop} (h:VlR st0 v cs) (hke:B1 st0 st) (hk:∀st',Ap st st'->K (Fu v:Nat) st'):
  CallT PR Fn [.agg cs] [.one (.int .i64)] st K:=by
 have h0:=h
 cases v with
 | mk s l f=>
 unfold VlR at h0
 obtain⟨ub,ul,uf,xl,xf,rfl,_⟩:=h0
 have he:Ap st (st.push (.cells [.int .i64 0]) (some 3)):=(Ap.refl st).push _ _
 refine Mo _ _ _ _ _ _ _ _ _ _ _ _ _ st K ⟨[.int .i64 0],by simp[St.push],by simp,?_⟩
 obtain⟨st1,hst1⟩:∃st1,st1=(st.push (.cells [.int .i64 0]) (some 3)).put st.nb (.cells (setAll [.int .i64 0] 0 [.int .i64 0])):=⟨_,rfl⟩
 rw[<-hst1]
 have e1:Ap st st1:=by rw[hst1];exact StX.ext he (StX.put (S:=fun i=>i=st.nb) rfl _) (fun i hi=>by rw[hi];exact Nat.le_refl _)
 have hb1:st1.box st.nb= .cells [.int .i64 ((0:Nat):Int)]:=by rw[hst1];simp[St.put,setAll]
 exact XL 2000000 _ hN (by omega) (d:=1) h (hke.trans e1.keeps) hke.1 (by rw[hst1];simp[St.put,St.push]) hb1 (by omega) rfl (by omega) fun st2 m e2 hb2 _=>hk st2 (StX.ext e1 e2 (fun i hi=>by rw[hi];exact Nat.le_refl _))
mutual
theorem Qr:∀(v:Vl) (d n:Nat),n<=65536->(CO d n v).2=0->(CO d n v).1<=65536
 | .mk s l f,d,n,hn,h=>by
  unfold CO at h⊢
  split at h
  ·cases h
  ·rename_i g1
   rw[if_neg g1]
   split at h
   ·cases h
   ·rename_i g2
    rw[if_neg g2]
    split at h
    ·rename_i h1;exact absurd h h1
    ·rename_i g3
     rw[if_neg g3]
     obtain⟨h2,h3⟩:=B3 h
     rw[DA h2]
     exact Sg f _ _ (Sd l _ _ (by omega) h2) h3
theorem Sd:∀(l:List Vl) (d n:Nat),n<=65536->(Dg d n l).2=0->(Dg d n l).1<=65536
 | [],d,n,hn,_=>by unfold Dg;exact hn
 | v::r,d,n,hn,h=>by
  unfold Dg at h⊢
  obtain⟨h2,h3⟩:=B3 h
  rw[DA h2]
  exact Sd r _ _ (Qr v _ _ hn h2) h3
theorem chkD_le:∀(x:Fd) (d n:Nat),n<=65536->(Oo d n x).2=0->(Oo d n x).1<=65536
 | .mk k v,d,n,hn,h=>by unfold Oo at h⊢;exact Qr v _ _ hn h
theorem Sg:∀(l:List Fd) (d n:Nat),n<=65536->(Dh d n l).2=0->(Dh d n l).1<=65536
 | [],d,n,hn,_=>by unfold Dh;exact hn
 | x::r,d,n,hn,h=>by
  unfold Dh at h⊢
  obtain⟨h2,h3⟩:=B3 h
  rw[DA h2]
  exact Sg r _ _ (chkD_le x _ _ hn h2) h3
end
theorem VsR.snoc {st:St} {v:Vl} {cv:List TV}:∀{l:List Vl} {xs:List TV},VsR st l xs->VlR st v cv->VsR st (l++[v]) (xs++cv)
 | [],xs,h,hv=>by
  unfold VsR at h
  subst h
  show VsR st [v] _
  unfold VsR
  exact⟨cv,[],by simp,hv,by unfold VsR;rfl⟩
 | w::r,xs,h,hv=>by
  unfold VsR at h
  obtain⟨a,b,rfl,h1,h2⟩:=h
  show VsR st (w::(r++[v])) _
  unfold VsR
  exact⟨a,b++cv,by simp,h1,VsR.snoc h2 hv⟩
end
theorem VlR.cells {st:St} {s:Sc} {l:List Vl} {f:List Fd} {cs:List TV} (h:VlR st (.mk s l f) cs):∃ub ul uf xl xf,cs=Bh s ub ul uf/\SlR st 1 ub s.bytes.length (AJ s.bytes)/\SlR st 13 ul l.length xl/\VsR st l xl/\SlR st 14 uf f.length xf/\FsR st f xf:=by
 unfold VlR at h
 obtain⟨ub,ul,uf,xl,xf,rfl,h⟩:=h
 exact⟨ub,ul,uf,xl,xf,rfl,h⟩
theorem szs (s:Sc) (l:List Vl) (f:List Fd):(Vl.mk s l f).sz=1+s.bytes.length+s.text.length+s.dg.length+CJ l+CX f:=by unfold Vl.sz;rfl
theorem szd (k:B8) (v:Vl):(Fd.mk k v).sz=k.length+v.sz:=by unfold Fd.sz;rfl
theorem keyLd {st0 st:St} {uf:TV} {xf:List TV} {l:List Fd} (hke:B1 st0 st) (h2:SlR st0 14 uf l.length xf) (h3:FsR st0 l xf) {k:Nat} {d:Fd} (hd:l[k]? =some d):Ac st [] (.t (Am (ixT 14 uf k) 0)) 0=some (.str d.key):=by
 obtain⟨hk,_⟩:=List.getElem?_eq_some_iff.1 hd
 obtain⟨cw,hw,hcw,hcl⟩:=h3.get hd
 have hx:xf[k*14+0]? =some (.str d.key):=by
  cases d with
  | mk key w=>
   unfold FdR at hw
   obtain⟨cs,rfl,_⟩:=hw
   have:=congrArg (fun z=>z[0]?) hcw
   simpa [Fd.key]using this
 exact(h2.keep hke).ldf h3.len hk (by omega) hx
section
mutual
theorem NM:∀(v:Vl) (d n:Nat),(CO d n v).2=0->(CO d n v).1=n+v.cnt
 | .mk s l f,d,n,h=>by
  unfold CO at h⊢
  unfold Vl.cnt
  split at h
  ·cases h
  ·rename_i g1
   rw[if_neg g1]
   split at h
   ·cases h
   ·rename_i g2
    rw[if_neg g2]
    split at h
    ·rename_i h1;exact absurd h h1
    ·rename_i g3
     rw[if_neg g3]
     obtain⟨h2,h3⟩:=B3 h
     rw[DA h2,Pn f _ _ h3,Pl l _ _ h2];omega
theorem Pl:∀(l:List Vl) (d n:Nat),(Dg d n l).2=0->(Dg d n l).1=n+Bx l
 | [],d,n,_=>by unfold Dg Bx;rfl
 | v::r,d,n,h=>by
  unfold Dg at h⊢
  unfold Bx
  obtain⟨h2,h3⟩:=B3 h
  rw[DA h2,Pl r _ _ h3,NM v _ _ h2];omega
theorem XJ:∀(x:Fd) (d n:Nat),(Oo d n x).2=0->(Oo d n x).1=n+x.cnt
 | .mk k v,d,n,h=>by unfold Oo at h⊢;unfold Fd.cnt;exact NM v _ _ h
theorem Pn:∀(l:List Fd) (d n:Nat),(Dh d n l).2=0->(Dh d n l).1=n+BR l
 | [],d,n,_=>by unfold Dh BR;rfl
 | x::r,d,n,h=>by
  unfold Dh at h⊢
  unfold BR
  obtain⟨h2,h3⟩:=B3 h
  rw[DA h2,Pn r _ _ h3,XJ x _ _ h2];omega
end
theorem VX {v:Vl} (h:Fu v=0):v.cnt<=65536:=by
 have h1:=NM v 1 0 h
 have h2:=Qr v 1 0 (by omega) h
 omega
theorem LD {v:Vl} (h:Fu v=0):IV v:=Qq v 1 0 h
end
def AC (s:B8):B8:=s.takeWhile fun c=>decide (AF c)
def EN (n:Nat) (l:B8):Nat:=l.foldl (fun n c=>10*n+(c.toNat-48)) n
def BS (l:B8):Nat:=EN 0 l
def Bk (l:B8):B8:=l.dropWhile (·==48)
def dcN (neg:Bool) (s:B8) (ex:Int):Bool×B8×Int×Int:=
 if s=[]then(false,[],0,0)else if 400<ex+Bt s∨ex+Bt s< -400∨120<s.length-Bt s then(false,[],0,2)else(neg,s.take (s.length-Bt s),ex+Bt s,0)
def UP:Bool×B8×Int×Int:=(false,[],0,3)
def dcX (neg:Bool) (all:B8) (ex:Int) (less:Bool) (r:B8):Bool×B8×Int×Int:=
 if r=[]∨(AC r).length≠r.length then UP else dcN neg (Bk all) (if less then ex-BS r else ex+BS r)
def dcE (neg:Bool) (all:B8) (ex:Int) (r:B8):Bool×B8×Int×Int:=
 if r=[]then dcN neg (Bk all) ex else if r.getD 0 0=101∨r.getD 0 0=69 then
  (if (r.drop 1).getD 0 0=45 then dcX neg all ex true (r.drop 2)else if (r.drop 1).getD 0 0=43 then dcX neg all ex false (r.drop 2)else dcX neg all ex false (r.drop 1))
 else UP
def dcF (neg:Bool) (a:B8) (r:B8):Bool×B8×Int×Int:=
 if r.getD 0 0=46 then(if AC (r.drop 1)=[]then UP else dcE neg (a++AC (r.drop 1)) (-(AC (r.drop 1)).length) (r.drop (1+(AC (r.drop 1)).length)))
 else dcE neg a 0 r
def dcQ (neg:Bool) (s:B8):Bool×B8×Int×Int:=
 if AC s=[]∨(1<(AC s).length/\s.getD 0 0=48)then UP else dcF neg (AC s) (s.drop (AC s).length)
def dcP (s:B8):Bool×B8×Int×Int:=if s.getD 0 0=45 then dcQ true (s.drop 1)else dcQ false s
theorem GD {a r:B8} (ha:∀c,c∈a->AF c) (hr:¬AF (r.getD 0 0)):AC (a++r)=a:=by
 induction a with
 | nil=>
  cases r with
  | nil=>rfl
  | cons c r=>exact List.takeWhile_cons_of_neg (by simpa using hr)
 | cons c a ih=>
  unfold AC at ih⊢
  rw[List.cons_append,List.takeWhile_cons_of_pos (by simpa using ha c List.mem_cons_self),ih fun x hx=>ha x (List.mem_cons_of_mem _ hx)]
theorem VQ {a:B8} (ha:∀c,c∈a->AF c):AC a=a:=by
 have:=GD (r:=[]) ha (by unfold AF;simp)
 rwa [List.append_nil]at this
theorem ND (s:B8):∀c,c∈AC s->AF c:=by
 induction s with
 | nil=>intro c h;cases h
 | cons a s ih=>
  intro c h
  unfold AC at h ih
  rw[List.takeWhile_cons]at h
  split at h
  ·rename_i hd
   rcases List.mem_cons.1 h with rfl | h
   ·exact of_decide_eq_true hd
   ·exact ih c h
  ·cases h
theorem Pe (s:B8):(AC s).length<=s.length:=(List.takeWhile_sublist _).length_le
theorem Pd (s:B8):s=AC s++s.drop (AC s).length:=by
 induction s with
 | nil=>rfl
 | cons a s ih=>
  unfold AC at ih⊢
  rw[List.takeWhile_cons]
  split
  ·rw[List.length_cons,List.drop_succ_cons,List.cons_append,<-ih]
  ·rfl
theorem Jp (s:B8):s.take (AC s).length=AC s:=by
 have h:=Pd s
 have:s.take (AC s).length=(AC s++s.drop (AC s).length).take (AC s).length:=by rw[<-h]
 rw[this,List.take_left]
theorem QG (l:B8) (c:UInt8):Bt (l++[c])=if c=48 then Bt l+1 else 0:=by
 unfold Bt
 rw[List.reverse_append,List.reverse_singleton,List.singleton_append,List.takeWhile_cons]
 by_cases h:c=48
 ·rw[if_pos h,if_pos (by simp[h])];rfl
 ·rw[if_neg h,if_neg (by simp[h])];rfl
theorem Su (l:B8) (k:Nat):Bt (l++List.replicate k 48)=Bt l+k:=by
 induction k with
 | zero=>simp
 | succ k ih=>rw[List.replicate_succ',<-List.append_assoc,QG,if_pos rfl,ih];omega
theorem Sv (l:B8):Bt l<=l.length:=by
 unfold Bt
 have:=(List.takeWhile_sublist (l:=l.reverse) (fun x:UInt8=>x==48)).length_le
 rwa [List.length_reverse]at this
theorem HS {c:UInt8} {l:B8} (h:c≠48):Bk (c::l)=c::l:=by
 unfold Bk;rw[List.dropWhile_cons,if_neg (by simpa using h)]
theorem Gt {l:B8} (h:l.getD 0 0≠48):Bk l=l:=by
 cases l with
 | nil=>rfl
 | cons c l=>exact HS (by simpa using h)
theorem I7 (k:Nat) (l:B8):Bk (List.replicate k 48++l)=Bk l:=by
 induction k with
 | zero=>rfl
 | succ k ih=>rw[List.replicate_succ,List.cons_append];unfold Bk at ih⊢;rw[List.dropWhile_cons,if_pos (by simp),ih]
theorem JF (n:Nat) (a b:B8):EN n (a++b)=EN (EN n a) b:=by
 unfold EN;rw[List.foldl_append]
theorem U4:∀n:Nat,BS (Jh n)=n:=by
 intro n
 induction n using Nat.strongRecOn with
 | _ n ih=>
  by_cases h:n=0
  ·subst h;rw[Gx];rfl
  ·rw[Gy (by omega)]
   unfold BS at ih⊢
   rw[JF,ih (n/10) (by omega)]
   unfold EN
   rw[List.foldl_cons,List.foldl_nil,Dm _ (by omega)];omega
theorem We (n:Nat):BS (whN n)=n:=by
 unfold whN;split
 ·rename_i h;subst h;rfl
 ·exact U4 n
theorem Km (n:Nat):∀c,c∈whN n->AF c:=by
 unfold whN;split
 ·intro c h;rw[List.mem_singleton.1 h];decide
 ·exact natD_dg n
theorem natD_ne {n:Nat} (h:0<n):Jh n≠ []:=by rw[Gy h];simp
theorem Wb (n:Nat):whN n≠ []:=by
 unfold whN;split
 ·simp
 ·exact natD_ne (by omega)
theorem Wc (n:Nat):AF ((whN n).getD 0 0):=by
 have h:=Wb n
 have h2:=Km n
 generalize whN n=l at h h2
 cases l with
 | nil=>exact absurd rfl h
 | cons c l=>exact h2 c List.mem_cons_self
theorem Qj {neg:Bool} {dg:B8} {ex ex':Int} (k:Nat) (h:CW neg dg ex) (hne:dg≠ []) (he:ex'+k=ex):dcN neg (dg++List.replicate k 48) ex'=(neg,dg,ex,0):=by
 obtain⟨h1,h2,h3,h4,h5,h6⟩:=h.2 hne
 unfold dcN
 have hz:Bt (dg++List.replicate k 48)=k:=by rw[Su,h4];omega
 rw[if_neg (by simp[hne]),hz,if_neg (by rw[List.length_append,List.length_replicate];omega),List.length_append,List.length_replicate,Nat.add_sub_cancel,List.take_left,he]
theorem Xz {neg:Bool} {all:B8} {ex:Int} {less:Bool} (n:Nat):dcX neg all ex less (whN n)=dcN neg (Bk all) (if less then ex-n else ex+n):=by
 unfold dcX
 rw[if_neg,We]
 intro h
 rcases h with h | h
 ·exact Wb n h
 ·exact h (by rw[VQ (Km n)])
theorem UN {neg:Bool} {all:B8} {ex p:Int}:dcE neg all ex (Lb p)=dcN neg (Bk all) (ex+(p-1)):=by
 unfold Lb dcE
 rw[if_neg (by simp),if_pos (by simp)]
 split
 ·rw[if_pos (by simp)]
  show dcX neg all ex true (whN _)=_
  rw[Xz,if_pos rfl]
  congr 1;omega
 ·have hh:=Wc (p-1).toNat
  have hd:((101:UInt8)::whN (p-1).toNat).drop 1=whN (p-1).toNat:=rfl
  rw[hd,if_neg (fun e=>by rw[e]at hh;revert hh;decide),if_neg (fun e=>by rw[e]at hh;revert hh;decide),Xz,if_neg (by simp)]
  congr 1;omega
theorem Qk {neg:Bool} {all:B8} {ex:Int}:dcE neg all ex []=dcN neg (Bk all) ex:=if_pos rfl
theorem NH {neg:Bool} {a f r:B8} (hf:∀c,c∈f->AF c) (hne:f≠ []) (hr:¬AF (r.getD 0 0)):dcF neg a (46::(f++r))=dcE neg (a++f) (-f.length) r:=by
 unfold dcF
 rw[if_pos (show(46::(f++r)).getD 0 0=46 from rfl),List.drop_succ_cons,List.drop_zero,GD hf hr,if_neg hne,Nat.add_comm,List.drop_succ_cons,List.drop_left]
theorem XD {neg:Bool} {a r:B8} (h:r.getD 0 0≠46):dcF neg a r=dcE neg a 0 r:=if_neg h
theorem Qi {neg:Bool} {a r:B8} (ha:∀c,c∈a->AF c) (hne:a≠ []) (h0:a.length=1∨a.getD 0 0≠48) (hr:¬AF (r.getD 0 0)):dcQ neg (a++r)=dcF neg a r:=by
 unfold dcQ
 rw[GD ha hr,if_neg,List.drop_left]
 rintro(h | ⟨h1,h2⟩)
 ·exact hne h
 ·have:(a++r).getD 0 0=a.getD 0 0:=by cases a with | nil=>exact absurd rfl hne | cons c a=>rfl
  rw[this]at h2
  rcases h0 with h0 | h0
  ·omega
  ·exact h0 h2
theorem nd46:¬AF 46:=by decide
theorem nd101:¬AF 101:=by decide
theorem nd0:¬AF 0:=by decide
theorem XC {neg:Bool} {dg:B8} {ex:Int} (h:CW neg dg ex):dcP (dcT neg dg ex)=(neg,dg,ex,0):=by
 by_cases hne:dg=[]
 ·subst hne
  obtain⟨rfl,rfl⟩:=h.1 rfl
  unfold dcT
  rw[if_pos rfl];decide
 ·obtain⟨h1,h2,h3,h4,h5,h6⟩:=h.2 hne
  have hpos:0<dg.length:=List.length_pos_iff.2 hne
  have key:∀body:B8,AF (body.getD 0 0)->dcP ((if neg then [45]else [])++body)=dcQ neg body:=by
   intro body hb
   cases neg with
   | true=>
    show dcP (45::body)=_
    unfold dcP
    rw[if_pos (show(45::body).getD 0 0=45 from rfl)];rfl
   | false=>
    show dcP body=_
    unfold dcP
    rw[if_neg (fun e=>by rw[e]at hb;revert hb;decide)]
  have hd0:AF (dg.getD 0 0):=by
   cases dg with
   | nil=>exact absurd rfl hne
   | cons c r=>exact h2 c List.mem_cons_self
  unfold dcT
  rw[if_neg hne,key]
  ·split
   ·rename_i g
    have:=Qi (neg:=neg) (a:=dg++List.replicate ex.toNat 48) (r:=[]) (fun c hc=>by
     rcases List.mem_append.1 hc with hc | hc
     ·exact h2 c hc
     ·rw[List.eq_of_mem_replicate hc];decide) (by simp[hne]) (.inr (by cases dg with | nil=>exact absurd rfl hne | cons c r=>exact h3)) (by simpa using nd0)
    rw[List.append_nil]at this
    rw[this,XD (by decide),Qk,Gt (by cases dg with | nil=>exact absurd rfl hne | cons c r=>exact h3)]
    exact Qj _ h hne (by omega)
   ·split
    ·rename_i g0 g
     have htk:(dg.take (dg.length+ex).toNat).length=(dg.length+ex).toNat:=by rw[List.length_take];omega
     have hdr:(dg.drop (dg.length+ex).toNat).length=dg.length-(dg.length+ex).toNat:=List.length_drop
     rw[Qi (fun c hc=>h2 c (List.mem_of_mem_take hc)) (fun e=>by rw[e]at htk;simp at htk;omega) (.inr ?_) (by simpa using nd46)]
     ·have:=NH (neg:=neg) (a:=dg.take (dg.length+ex).toNat) (f:=dg.drop (dg.length+ex).toNat) (r:=[]) (fun c hc=>h2 c (List.mem_of_mem_drop hc)) (fun e=>by rw[e]at hdr;simp at hdr;omega) (by simpa using nd0)
      rw[List.append_nil]at this
      rw[this,Qk,List.take_append_drop,Gt h3]
      have h9:=Qj 0 (ex':=ex) h hne (by simp)
      rw[List.replicate_zero,List.append_nil]at h9
      rw[show(-((dg.drop (dg.length+ex).toNat).length:Int))=ex by rw[hdr];omega]
      exact h9
     ·obtain⟨m,hm⟩:∃m,(dg.length+ex).toNat=m+1:=⟨(dg.length+ex).toNat-1,by omega⟩
      rw[hm]
      cases dg with
      | nil=>exact absurd rfl hne
      | cons c r=>exact h3
    ·split
     ·rename_i g0 g1 g
      show dcQ neg ([48]++46::(List.replicate (-(dg.length+ex)).toNat 48++dg))=_
      rw[Qi (fun c hc=>by rw[List.mem_singleton.1 hc];decide) (by simp) (.inl rfl) (by simpa using nd46)]
      have:=NH (neg:=neg) (a:=[48]) (f:=List.replicate (-(dg.length+ex)).toNat 48++dg) (r:=[]) (fun c hc=>by
       rcases List.mem_append.1 hc with hc | hc
       ·rw[List.eq_of_mem_replicate hc];decide
       ·exact h2 c hc) (by simp[hne]) (by simpa using nd0)
      rw[List.append_nil]at this
      rw[this,Qk]
      have h8:Bk ([48]++(List.replicate (-(dg.length+ex)).toNat 48++dg))=dg:=by
       rw[<-List.append_assoc,show [48]++List.replicate (-(dg.length+ex)).toNat (48:UInt8)=List.replicate ((-(dg.length+ex)).toNat+1) 48 from rfl,I7,Gt h3]
      have h9:=Qj 0 (ex':=ex) h hne (by simp)
      rw[List.replicate_zero,List.append_nil]at h9
      rw[h8,show(-((List.replicate (-(dg.length+ex)).toNat (48:UInt8)++dg).length:Int))=ex by rw[List.length_append,List.length_replicate];omega]
      exact h9
     ·obtain⟨c,r,rfl⟩:∃c r,dg=c::r:=by
       cases dg with
       | nil=>exact absurd rfl hne
       | cons c r=>exact⟨c,r,rfl⟩
      have h9:=Qj 0 (ex':=ex) h hne (by simp)
      rw[List.replicate_zero,List.append_nil]at h9
      have e101:(Lb (((c::r).length:Nat)+ex)).getD 0 0=101:=rfl
      show dcQ neg ([c]++((if 1<(c::r).length then 46::r else [])++Lb (((c::r).length:Nat)+ex)))=_
      have hst:¬AF (((if 1<(c::r).length then 46::r else [])++Lb (((c::r).length:Nat)+ex)).getD 0 0):=by
       split
       ·exact nd46
       ·exact nd101
      rw[Qi (fun x hx=>by rw[List.mem_singleton.1 hx];exact hd0) (by simp) (.inl rfl) hst]
      cases r with
      | nil=>
       rw[if_neg (by simp),List.nil_append,XD (by rw[e101];decide),UN,Gt h3,show(0:Int)+((([c]:B8).length:Nat)+ex-1)=ex by simp only[List.length_cons,List.length_nil];omega]
       exact h9
      | cons d r=>
       rw[if_pos (by simp),List.cons_append,NH (fun x hx=>h2 x (List.mem_cons_of_mem _ hx)) (by simp) (by rw[e101];exact nd101),UN]
       rw[show [c]++d::r=c::d::r from rfl,Gt h3,show(-((d::r).length:Int))+(((c::d::r).length:Nat)+ex-1)=ex by simp only[List.length_cons];omega]
       exact h9
  ·have app:∀t,AF ((dg++t).getD 0 0):=fun t=>by
    cases dg with
    | nil=>exact absurd rfl hne
    | cons c r=>exact hd0
   split
   ·exact app _
   ·split
    ·rename_i g
     obtain⟨m,hm⟩:∃m,(dg.length+ex).toNat=m+1:=⟨(dg.length+ex).toNat-1,by omega⟩
     rw[hm]
     cases dg with
     | nil=>exact absurd rfl hne
     | cons c r=>exact hd0
    ·split
     ·exact(by decide:AF 48)
     ·cases dg with
      | nil=>exact absurd rfl hne
      | cons c r=>exact hd0
def b0 (s:B8) (k:Nat):UInt8:=s.getD k 0
def dv (s:B8) (k:Nat):Nat:=(b0 s k).toNat-48
def d2 (s:B8) (k:Nat):Nat:=dv s k*10+dv s (k+1)
def dd (s:B8) (k:Nat):Prop:=AF (b0 s k)/\AF (b0 s (k+1))
instance (s:B8) (k:Nat):Decidable (dd s k):=inferInstanceAs (Decidable (_/\_))
def Ka (s:B8):Prop:=dd s 0/\b0 s 2=58/\dd s 3/\b0 s 5=58/\dd s 6
instance (s:B8):Decidable (Ka s):=inferInstanceAs (Decidable (_/\_/\_/\_/\_))
def Dx (s:B8):Prop:=dd s 0/\dd s 2/\b0 s 4=45/\dd s 5/\b0 s 7=45/\dd s 8
instance (s:B8):Decidable (Dx s):=inferInstanceAs (Decidable (_/\_/\_/\_/\_/\_))
def RX (f:B8):Nat:=BS (f++List.replicate (9-f.length) 48)
def HD (s:B8):Option (Nat×Nat×Nat×Nat×B8):=
 if Ka s then
  (if b0 s 8=46 then(if AC (s.drop 9)=[]∨9<(AC (s.drop 9)).length then none else some (d2 s 0,d2 s 3,d2 s 6,RX (AC (s.drop 9)),s.drop (9+(AC (s.drop 9)).length)))
  else some (d2 s 0,d2 s 3,d2 s 6,0,s.drop 8))
 else none
def Na (s:B8):Option (Bool×Nat×Nat):=
 if s=[90]∨s=[122]then some (false,0,0)else if s.length=6/\(b0 s 0=43∨b0 s 0=45)/\dd s 1/\b0 s 3=58/\dd s 4 then some (decide (b0 s 0=45),d2 s 1,d2 s 4)else none
def okD (y m d:Nat):Prop:=1<=y/\y<=9999/\1<=m/\m<=12/\1<=d/\d<=J2 y m
instance (y m d:Nat):Decidable (okD y m d):=inferInstanceAs (Decidable (_/\_/\_/\_/\_/\_))
def Kg (y m d:Nat):Nat:=yrS y+Ey y m+(d-1)
abbrev TmR:=Int×Int×Int×Int×Int
def Hn:TmR:=(0,0,0,0,3)
def Hm:TmR:=(0,0,0,0,2)
def okC (h m s:Nat):Prop:=h<=23/\m<=59/\s<=59
instance (h m s:Nat):Decidable (okC h m s):=inferInstanceAs (Decidable (_/\_/\_))
def Ff (h m s f:Nat):Nat:=((h*60+m)*60+s)*1000000000+f
def tmO (y mo d h m s f:Nat) (r:B8):TmR:=
 if r=[]then(if okD y mo d/\okC h m s then(3,(Kg y mo d:Nat),(Ff h m s f:Nat),0,0)else Hm)
 else match Na r with
  | none=>Hn
  | some (ls,oh,om)=>if okD y mo d/\okC h m s/\oh<=23/\om<=59 then(4,(Kg y mo d:Nat),(Ff h m s f:Nat),if ls then-((oh*60+om:Nat):Int)else((oh*60+om:Nat):Int),0)else Hm
def tmD (y mo d:Nat) (r:B8):TmR:=
 if r=[]then(if okD y mo d then(1,(Kg y mo d:Nat),0,0,0)else Hm)
 else if b0 r 0=84∨b0 r 0=116∨b0 r 0=32 then
  match HD (r.drop 1)with
  | none=>Hn
  | some (h,m,s,f,r')=>tmO y mo d h m s f r'
 else Hn
def tmP (s:B8):TmR:=
 if Dx s then tmD (d2 s 0*100+d2 s 2) (d2 s 5) (d2 s 8) (s.drop 10)
 else match HD s with
  | none=>Hn
  | some (h,m,sc,f,r)=>if r=[]then(if okC h m sc then(2,0,(Ff h m sc f:Nat),0,0)else Hm)else Hn
theorem Xy (k:Nat) (h:k<10):AF (48+k).toUInt8:=by unfold AF;rw[Dm _ h];omega
theorem JX (n:Nat):Bd 2 n=[(48+n/10%10).toUInt8,(48+n%10).toUInt8]:=by
 simp[Bd]
theorem Vz (n:Nat):Bd 4 n=[(48+n/10/10/10%10).toUInt8,(48+n/10/10%10).toUInt8,(48+n/10%10).toUInt8,(48+n%10).toUInt8]:=by
 simp[Bd]
theorem GR (n:Nat) (h:n<100):((48+n/10%10).toUInt8.toNat-48)*10+((48+n%10).toUInt8.toNat-48)=n:=by
 rw[Dm _ (by omega),Dm _ (by omega)];omega
theorem JG:∀(l:B8) (a:Nat),EN a l=a*10^l.length+EN 0 l
 | [],a=>by simp[EN]
 | c::l,a=>by
  have h1:=JG l (10*a+(c.toNat-48))
  have h2:=JG l (10*0+(c.toNat-48))
  show EN (10*a+(c.toNat-48)) l=_+EN (10*0+(c.toNat-48)) l
  rw[h1,h2,List.length_cons,Nat.pow_succ,Nat.add_mul,Nat.add_mul]
  have:10*a*10^l.length=a*(10^l.length*10):=by rw[Nat.mul_comm 10 a,Nat.mul_assoc,Nat.mul_comm 10]
  omega
theorem Ox:∀(w n:Nat),n<10^w->BS (Bd w n)=n
 | 0,n,h=>by rw[show n=0 by simpa using h];rfl
 | w+1,n,h=>by
  have:=Ox w (n/10) (by rw[Nat.div_lt_iff_lt_mul (by omega)];rw[Nat.pow_succ]at h;exact h)
  unfold BS at this⊢
  rw[Bd,JF,this]
  unfold EN
  rw[List.foldl_cons,List.foldl_nil,Dm _ (by omega)];omega
theorem XG:∀(l:B8),∃k,l=Hc l++List.replicate k 48:=by
 intro l
 have:∀n (l:B8),l.length=n->∃k,l=Hc l++List.replicate k 48:=by
  intro n
  induction n with
  | zero=>intro l h;rw[List.eq_nil_of_length_eq_zero h];exact⟨0,rfl⟩
  | succ n ih=>
   intro l h
   have hne:l≠ []:=fun e=>by rw[e]at h;simp at h
   have hl:=List.dropLast_concat_getLast hne
   generalize l.dropLast=a at hl
   generalize l.getLast hne=c at hl
   rw[<-hl,Ph]
   rw[<-hl,List.length_append]at h
   by_cases h0:c=48
   ·obtain⟨k,hk⟩:=ih a (by simpa using h)
    rw[if_pos h0]
    refine⟨k+1,?_⟩
    rw[List.replicate_succ',<-List.append_assoc,<-hk,h0]
   ·rw[if_neg h0];exact⟨0,by simp⟩
 exact this _ l rfl
theorem O7 {n:Nat} (h:n<1000000000):RX (Hc (Bd 9 n))=n:=by
 obtain⟨k,hk⟩:=XG (Bd 9 n)
 have hl:=congrArg List.length hk
 rw[Bc,List.length_append,List.length_replicate]at hl
 unfold RX
 rw[show 9-(Hc (Bd 9 n)).length=k by omega,<-hk]
 exact Ox 9 n h
theorem US {n:Nat} (h:n<1000000000) (h0:n≠0):Hc (Bd 9 n)≠ []:=by
 intro e
 have:=O7 h
 rw[e]at this
 exact h0 (this.symm.trans (by decide))
theorem Hb (n:Nat):∀c,c∈Hc (Bd 9 n)->AF c:=fun c hc=>Bo 9 n c (XH hc)
theorem VV {n:Nat} (h:n<=86399999999999) {r:B8} (hr:¬AF (b0 r 0)) (hr2:b0 r 0≠46):
  HD (Ic n++r)=some (n/1000000000/3600,n/1000000000/60%60,n/1000000000%60,n%1000000000,r):=by
 have h1:=GR (n/1000000000/3600) (by omega)
 have h2:=GR (n/1000000000/60%60) (by omega)
 have h3:=GR (n/1000000000%60) (by omega)
 have dg1:=fun k=>Xy (k%10) (by omega)
 unfold Ic
 generalize hf:(if n%1000000000=0 then([]:B8)else 46::Hc (Bd 9 (n%1000000000)))=f
 generalize n/1000000000/3600=hh at*
 generalize n/1000000000/60%60=mm at*
 generalize n/1000000000%60=ss at*
 simp only[JX,List.cons_append,List.nil_append]
 unfold HD
 rw[if_pos]
 ·have e8:∀(a b c d e f' g i:UInt8) (l:B8),b0 (a::b::c::d::e::f'::g::i::l) 8=b0 l 0:=fun _ _ _ _ _ _ _ _ _=>rfl
  rw[e8]
  have v1:∀(a b c d e f' g i:UInt8) (l:B8),d2 (a::b::c::d::e::f'::g::i::l) 0=(a.toNat-48)*10+(b.toNat-48):=fun _ _ _ _ _ _ _ _ _=>rfl
  have v2:∀(a b c d e f' g i:UInt8) (l:B8),d2 (a::b::c::d::e::f'::g::i::l) 3=(d.toNat-48)*10+(e.toNat-48):=fun _ _ _ _ _ _ _ _ _=>rfl
  have v3:∀(a b c d e f' g i:UInt8) (l:B8),d2 (a::b::c::d::e::f'::g::i::l) 6=(g.toNat-48)*10+(i.toNat-48):=fun _ _ _ _ _ _ _ _ _=>rfl
  rw[v1,v2,v3,h1,h2,h3]
  subst hf
  by_cases h0:n%1000000000=0
  ·rw[if_pos h0,List.nil_append,if_neg hr2,h0];rfl
  ·rw[if_neg h0]
   have hdr:=GD (r:=r) (Hb (n%1000000000)) hr
   have hd9:∀(a b c d e f' g i x:UInt8) (l:B8),(a::b::c::d::e::f'::g::i::x::l).drop 9=l:=fun _ _ _ _ _ _ _ _ _ _=>rfl
   rw[if_pos (show b0 (46::Hc (Bd 9 (n%1000000000))++r) 0=46 from rfl),List.cons_append,<-List.drop_drop,hd9,hdr,if_neg,O7 (by omega),List.drop_left]
   rintro(e | e)
   ·exact US (by omega) h0 e
   ·have:=R8 (Bd 9 (n%1000000000))
    rw[Bc]at this;omega
 ·exact⟨⟨dg1 _,dg1 _⟩,rfl,⟨dg1 _,dg1 _⟩,rfl,⟨dg1 _,dg1 _⟩⟩
theorem KZ (n:Nat):Ff (n/1000000000/3600) (n/1000000000/60%60) (n/1000000000%60) (n%1000000000)=n:=by unfold Ff;omega
theorem M9 {n:Nat} (h:n<=86399999999999):okC (n/1000000000/3600) (n/1000000000/60%60) (n/1000000000%60):=by unfold okC;omega
theorem VD {z:Int} (h1: -1439<=z) (h2:z<=1439):Na (GZ z)=some (decide (z<0),z.natAbs/60,z.natAbs%60):=by
 have t1:=GR (z.natAbs/60) (by omega)
 have t2:=GR (z.natAbs%60) (by omega)
 have dg1:=fun k=>Xy (k%10) (by omega)
 unfold GZ
 by_cases h0:z=0
 ·subst h0;decide
 ·rw[if_neg h0]
  generalize z.natAbs/60=hh at*
  generalize z.natAbs%60=mm at*
  simp only[JX,List.cons_append,List.nil_append]
  unfold Na
  rw[if_neg (by simp),if_pos]
  ·have v1:∀(a b c d e f:UInt8),d2 [a,b,c,d,e,f] 1=(b.toNat-48)*10+(c.toNat-48):=fun _ _ _ _ _ _=>rfl
   have v2:∀(a b c d e f:UInt8),d2 [a,b,c,d,e,f] 4=(e.toNat-48)*10+(f.toNat-48):=fun _ _ _ _ _ _=>rfl
   rw[v1,v2,t1,t2]
   by_cases hz:z<0
   ·rw[if_pos hz,decide_eq_true hz];rfl
   ·rw[if_neg hz,decide_eq_false hz];rfl
  ·refine⟨rfl,?_,⟨dg1 _,dg1 _⟩,rfl,⟨dg1 _,dg1 _⟩⟩
   by_cases hz:z<0
   ·rw[if_pos hz];exact .inr rfl
   ·rw[if_neg hz];exact .inl rfl
theorem J1 (y m:Nat):J2 y m<=31:=by
 have ite:∀{p:Prop} [Decidable p] {a b:Nat},a<=31->b<=31->(if p then a else b)<=31:=fun h1 h2=>by split<;>assumption
 unfold J2
 exact ite (ite (by omega) (by omega)) (ite (by omega) (by omega))
theorem UR {n y m d:Nat} (h:Fz n y m d):Ix n=Bd 4 y++45::(Bd 2 m++45::Bd 2 d):=by unfold Ix;rw[VT h]
theorem MA {n y m d:Nat} (h:Fz n y m d) (r:B8):tmP (Ix n++r)=tmD y m d r:=by
 obtain⟨a1,a2,a3,a4,a5,a6,a7⟩:=h
 have hd:d<=31:=Nat.le_trans a6 (J1 y m)
 rw[UR ⟨a1,a2,a3,a4,a5,a6,a7⟩]
 have t1:=GR m (by omega)
 have t2:=GR d (by omega)
 have dg1:=fun k=>Xy (k%10) (by omega)
 have t3:((((48+y/10/10/10%10).toUInt8.toNat-48)*10+((48+y/10/10%10).toUInt8.toNat-48))*100+(((48+y/10%10).toUInt8.toNat-48)*10+((48+y%10).toUInt8.toNat-48)))=y:=by
  rw[Dm _ (by omega),Dm _ (by omega),Dm _ (by omega),Dm _ (by omega)];omega
 simp only[JX,Vz,List.cons_append,List.nil_append]
 unfold tmP
 rw[if_pos]
 ·have v0:∀(a b c d e f g i j k:UInt8) (l:B8),d2 (a::b::c::d::e::f::g::i::j::k::l) 0=(a.toNat-48)*10+(b.toNat-48):=fun _ _ _ _ _ _ _ _ _ _ _=>rfl
  have v2:∀(a b c d e f g i j k:UInt8) (l:B8),d2 (a::b::c::d::e::f::g::i::j::k::l) 2=(c.toNat-48)*10+(d.toNat-48):=fun _ _ _ _ _ _ _ _ _ _ _=>rfl
  have v5:∀(a b c d e f g i j k:UInt8) (l:B8),d2 (a::b::c::d::e::f::g::i::j::k::l) 5=(f.toNat-48)*10+(g.toNat-48):=fun _ _ _ _ _ _ _ _ _ _ _=>rfl
  have v8:∀(a b c d e f g i j k:UInt8) (l:B8),d2 (a::b::c::d::e::f::g::i::j::k::l) 8=(j.toNat-48)*10+(k.toNat-48):=fun _ _ _ _ _ _ _ _ _ _ _=>rfl
  rw[v0,v2,v5,v8,t1,t2,t3];rfl
 ·exact⟨⟨dg1 _,dg1 _⟩,⟨dg1 _,dg1 _⟩,rfl,⟨dg1 _,dg1 _⟩,rfl,⟨dg1 _,dg1 _⟩⟩
theorem Og (n:Nat) (r:B8):¬Dx (Ic n++r):=by
 unfold Ic
 simp only[JX,List.cons_append,List.nil_append]
 rintro⟨_,⟨h,_⟩,_⟩
 exact absurd h (by show ¬AF 58;decide)
def UZ (n:Nat):Prop:=∃y m d,Fz n y m d
theorem Xg:∀(k n:Nat),n<yrS (k+1)->∃y,1<=y/\y<=k/\yrS y<=n/\n<yrS (y+1)
 | 0,n,h=>absurd h (by show ¬n<0;omega)
 | k+1,n,h=>by
  by_cases g:yrS (k+1)<=n
  ·exact⟨k+1,by omega,Nat.le_refl _,g,h⟩
  ·obtain⟨y,h1,h2,h3⟩:=Xg k n (by omega)
   exact⟨y,h1,by omega,h3⟩
theorem UB (y:Nat):∀(k r:Nat),r<Ey y (k+1)->∃m,1<=m/\m<=k/\Ey y m<=r/\r<Ey y (m+1)
 | 0,r,h=>absurd h (by show ¬r<0;omega)
 | k+1,r,h=>by
  by_cases g:Ey y (k+1)<=r
  ·exact⟨k+1,by omega,Nat.le_refl _,g,h⟩
  ·obtain⟨m,h1,h2,h3⟩:=UB y k r (by omega)
   exact⟨m,h1,by omega,h3⟩
theorem Xh {n:Nat} (h:n<=3652058):UZ n:=by
 obtain⟨y,h1,h2,h3,h4⟩:=Xg 9999 n (by show n<3652059;omega)
 rw[Jw h1]at h4
 obtain⟨m,m1,m2,m3,m4⟩:=UB y 12 (n-yrS y) (by rw[D3 y (by omega)];omega)
 rw[D3 y m1]at m4
 exact⟨y,m,n-yrS y-Ey y m+1,h1,h2,m1,m2,by omega,by omega,by omega⟩
theorem WQ {z:Int}:(if decide (z<0)=true then-((z.natAbs/60*60+z.natAbs%60:Nat):Int)else((z.natAbs/60*60+z.natAbs%60:Nat):Int))=z:=by
 by_cases h:z<0
 ·rw[if_pos (by simpa using h)];omega
 ·rw[if_neg (by simpa using h)];omega
theorem Wk {k td tn tz:Int} (h:DS k td tn tz) (hd:k≠2->UZ td.toNat):tmP (HQ k td tn tz)=(k,td,tn,tz,0):=by
 obtain⟨h1,h2,h3,h4,h5,h6,h7,h8,h9,h10,h11⟩:=h
 have etn:((tn.toNat:Nat):Int)=tn:=by omega
 have etd:((td.toNat:Nat):Int)=td:=by omega
 have clk:=fun r hr hr2=>VV (n:=tn.toNat) (r:=r) (by omega) hr hr2
 unfold HQ
 by_cases k1:k=1
 ·obtain⟨y,m,d,hD⟩:=hd (by omega)
  have:=MA hD []
  rw[List.append_nil]at this
  rw[if_pos k1,this]
  obtain⟨a1,a2,a3,a4,a5,a6,a7⟩:=hD
  unfold tmD
  rw[if_pos rfl,if_pos ⟨a1,a2,a3,a4,a5,a6⟩,show Kg y m d=td.toNat from a7.symm,etd,h10 k1,h11 (by omega),k1]
 ·rw[if_neg k1]
  by_cases k2:k=2
  ·have hc:=clk [] (by simpa [b0]using nd0) (by simp[b0])
   have hn:=Og tn.toNat []
   rw[List.append_nil]at hc hn
   rw[if_pos k2]
   unfold tmP
   rw[if_neg hn,hc]
   dsimp only
   rw[if_pos rfl,if_pos (M9 (by omega)),KZ,etn,h9 k2,h11 (by omega),k2]
  ·rw[if_neg k2]
   obtain⟨y,m,d,hD⟩:=hd k2
   have hD0:=hD
   obtain⟨a1,a2,a3,a4,a5,a6,a7⟩:=hD
   have a7':Kg y m d=td.toNat:=a7.symm
   by_cases k3:k=3
   ·have hc:=clk [] (by simpa [b0]using nd0) (by simp[b0])
    rw[List.append_nil]at hc
    rw[if_pos k3,MA hD0]
    unfold tmD
    rw[if_neg (by simp),if_pos (.inl rfl),List.drop_succ_cons,List.drop_zero,hc]
    dsimp only
    unfold tmO
    rw[if_pos rfl,if_pos ⟨⟨a1,a2,a3,a4,a5,a6⟩,M9 (by omega)⟩,KZ,etn,a7',etd,h11 (by omega),k3]
   ·have o1:AF (b0 (GZ tz) 0)->False:=by
     unfold GZ;split
     ·exact(by decide:¬AF 90)
     ·split
      ·exact(by decide:¬AF 45)
      ·exact(by decide:¬AF 43)
    have o2:b0 (GZ tz) 0≠46:=by
     unfold GZ;split
     ·exact(by decide:(90:UInt8)≠46)
     ·split
      ·exact(by decide:(45:UInt8)≠46)
      ·exact(by decide:(43:UInt8)≠46)
    have o3:GZ tz≠ []:=by unfold GZ;split<;>simp
    have hc:=clk (GZ tz) o1 o2
    rw[if_neg k3,MA hD0]
    unfold tmD
    rw[if_neg (by simp),if_pos (.inl rfl),List.drop_succ_cons,List.drop_zero,hc]
    dsimp only
    unfold tmO
    rw[if_neg o3,VD h7 h8]
    dsimp only
    rw[if_pos ⟨⟨a1,a2,a3,a4,a5,a6⟩,M9 (by omega),by omega,by omega⟩,KZ,etn,a7',etd,WQ,show k=4 by omega]
theorem JE:∀(l:B8),(∀c,c∈l->AF c)->BS l<10^l.length
 | [],_=>by decide
 | c::l,h=>by
  have ih:=JE l fun x hx=>h x (.tail _ hx)
  have hc:=(h c (.head _)).2
  unfold BS at ih⊢
  rw[show EN 0 (c::l)=EN (c.toNat-48) l by simp[EN],JG,List.length_cons,Nat.pow_succ]
  have:(c.toNat-48)*10^l.length<=9*10^l.length:=Nat.mul_le_mul_right _ (by omega)
  omega
theorem valN_ge {c:UInt8} {l:B8} (hc:AF c) (h0:c≠48):10^l.length<=BS (c::l):=by
 unfold BS
 rw[show EN 0 (c::l)=EN (c.toNat-48) l by simp[EN],JG]
 have h1:=hc.1
 have h2:c.toNat≠48:=fun e=>h0 (UInt8.toNat_inj.1 (by simpa using e))
 have:1*10^l.length<=(c.toNat-48)*10^l.length:=Nat.mul_le_mul_right _ (by omega)
 omega
theorem GP:∀l:B8,BS (Bk l)=BS l
 | []=>rfl
 | c::l=>by
  by_cases h:c=48
  ·subst h
   have:=I7 1 l
   rw[show List.replicate 1 (48:UInt8)++l=48::l from rfl]at this
   rw[this,GP l]
   unfold BS
   rw[show EN 0 (48::l)=EN 0 l by simp[EN]]
  ·rw[HS h]
theorem I6 (l:B8):∀c,c∈Bk l->c∈l:=fun c h=>(List.dropWhile_sublist (l:=l) (fun x:UInt8=>x==48)).subset h
theorem MD (l:B8):(Bk l).length<=l.length:=(List.dropWhile_sublist (l:=l) (fun x:UInt8=>x==48)).length_le
theorem Lo (l:B8):(Bk l).getD 0 0≠48:=by
 induction l with
 | nil=>decide
 | cons c l ih=>
  by_cases h:c=48
  ·subst h
   have:=I7 1 l
   rw[show List.replicate 1 (48:UInt8)++l=48::l from rfl]at this
   rw[this];exact ih
  ·rw[HS h];exact h
theorem Wf {l:B8} {k:Nat} (h:∀c,c∈l->AF c) (hk:k<(Bk l).length):10^k<=BS l:=by
 rw[<-GP l]
 have h0:=Lo l
 have hs:=I6 l
 generalize Bk l=m at*
 cases m with
 | nil=>exact absurd hk (Nat.not_lt_zero _)
 | cons c m=>
  have:=valN_ge (l:=m) (h c (hs c (.head _))) h0
  rw[List.length_cons]at hk
  exact Nat.le_trans (Nat.pow_le_pow_right (by decide) (by omega)) this
theorem U3 {l:B8} {k:Nat} (h:∀c,c∈l->AF c) (hk:(Bk l).length<=k):BS l<10^k:=by
 rw[<-GP l]
 exact Nat.lt_of_lt_of_le (JE _ fun c hc=>h c (I6 l c hc)) (Nat.pow_le_pow_right (by decide) hk)
theorem dcN_far {neg:Bool} {s:B8} {ex n m:Int} (hl:s.length<=100000000) (h1: -100000000<=ex) (h2:ex<=100000000) (hn:1000000000<=n) (hm:1000000000<=m) (less:Bool):
  dcN neg s (if less then ex-n else ex+n)=dcN neg s (if less then ex-m else ex+m):=by
 unfold dcN
 have hz:=Sv s
 by_cases h:s=[]
 ·rw[if_pos h,if_pos h]
 ·rw[if_neg h,if_neg h]
  cases less with
  | true=>
   simp only[if_true]
   rw[if_pos (by omega),if_pos (by omega)]
  | false=>
   simp only[Bool.false_eq_true,if_false]
   rw[if_pos (by omega),if_pos (by omega)]
theorem Lm {l:B8} {c:UInt8} (hc:c.toNat<128) {st:St} {K:B8->St->Prop} (hk:K (l.dropWhile (·==c)) st):CallT PR CY [.str l,.str [c]] [.one .str] st K:=by
 refine B4 (fun _ _=>by kernel_rfl) fun g w vargs s hr=>?_
 obtain⟨v,u,rfl,hv,hu⟩:=JW hr
 rw[A1 hv,A1 hu]
 refine Calls.mono (Tryz.strings_TrimLeft_one ⟨l.toArray⟩ c hc w) ?_
 rintro e w' ⟨rfl,rfl⟩
 exact⟨_,rfl,.str _,st,g,hk,s,Rel.str _,Ext.refl _ _⟩
theorem P6 {s p:B8} {st:St} {K:Bool->St->Prop} (hk:K (decide (s.take p.length=p)) st):CallT PR AT [.str s,.str p] [.one (.bool)] st K:=by
 refine HJ s p st K (FZ s p st _ (Aa (fun h=>⟨⟨by omega,h⟩,?_⟩) fun h=>?_))
 ·exact hk
 ·have:¬s.take p.length=p:=fun h0=>by
   have:=congrArg List.length h0
   rw[List.length_take]at this
   omega
  rw[decide_eq_false this]at hk
  exact hk
theorem u8i {c k:UInt8}:((c.toNat:Int)=(k.toNat:Int))↔c=k:=⟨fun h=>UInt8.toNat_inj.1 (by omega),fun h=>by rw[h]⟩
theorem take1 {s:B8} {c:UInt8} (hc:c≠0):s.take [c].length=[c]↔s.getD 0 0=c:=by
 cases s with
 | nil=>exact⟨fun h=>absurd h (by simp),fun h=>absurd (show(0:UInt8)=c from h).symm hc⟩
 | cons a s=>show [a]=[c]↔a=c;simp
theorem In {s:B8} {c:UInt8} (hc:c≠0) {st:St} {K:Bool->St->Prop} (hk:K (decide (s.getD 0 0=c)) st):CallT PR AT [.str s,.str [c]] [.one (.bool)] st K:=
 P6 (by rw[decide_eq_decide.2 (take1 hc)];exact hk)
theorem NE:∀(s:B8) (k:Nat),k<=s.length->(∀j,j<k->AF (s.getD j 0))->(k=s.length∨¬AF (s.getD k 0))->(AC s).length=k
 | [],k,h,_,_=>by
  have:k=0:=by simpa using h
  subst this;rfl
 | a::s,0,_,_,h=>by
  have h2:¬AF a:=by
   rcases h with h | h
   ·simp at h
   ·exact h
  unfold AC
  rw[List.takeWhile_cons_of_neg (by simpa using h2)];rfl
 | a::s,k+1,h1,h2,h3=>by
  have ha:AF a:=h2 0 (by omega)
  have ih:=NE s k (by simpa using h1) (fun j hj=>h2 (j+1) (by omega)) (by
   rcases h3 with h3 | h3
   ·exact .inl (by simpa using h3)
   ·exact .inr h3)
  unfold AC at ih⊢
  rw[List.takeWhile_cons_of_pos (by simpa using ha),List.length_cons,ih]
theorem ST {s:B8} (hl:s.length<=1000000000) {st:St} {K:Int->St->Prop} (hk:K ((AC s).length:Nat) st):CallT PR CD [.str s] [.one (.int .i64)] st K:=by
 refine Mv s st K ⟨fun n s' st'=>s=s'/\st=st'/\∃k:Nat,n=k/\k<=s.length/\∀j,j<k->AF (s.getD j 0),fun n _ _=>(s.length-n).toNat,⟨rfl,rfl,0,rfl,Nat.zero_le _,fun j h=>absurd h (Nat.not_lt_zero _)⟩,?_⟩
 rintro _ _ _ ⟨rfl,rfl,k,rfl,hk1,hd⟩
 rw[Int.toNat_natCast]
 have fin:(k=s.length∨¬AF (s.getD k 0))->K ((k:Nat):Int) st:=fun h=>by rw[NE s k hk1 hd h]at hk;exact hk
 refine Aa (fun g=>⟨⟨by omega,g⟩,Aa (fun g1=>⟨⟨by omega,g⟩,Aa (fun g2=>?_) fun g2=>fin (.inr fun h=>g2 (by have:=h.2;omega))⟩) fun g1=>fin (.inr fun h=>g1 (by have:=h.1;omega))⟩) fun g=>fin (.inl (by omega))
 rw[Ai _ (by omega) (by omega)]
 refine⟨⟨rfl,rfl,k+1,by omega,by omega,fun j hj=>?_⟩,by dsimp only;omega⟩
 by_cases hjk:j=k
 ·subst hjk;exact⟨by omega,by omega⟩
 ·exact hd j (by omega)
theorem Kz {l:B8} {k:Nat} (h:k<l.length):BS (l.take (k+1))=10*BS (l.take k)+((List.getD l k 0).toNat-48):=by
 rw[List.take_succ_eq_append_getElem h]
 unfold BS
 rw[JF]
 have:l[k]=List.getD l k 0:=by simp[List.getD,h]
 rw[<-this];rfl
theorem PF {l:B8} (hd:∀c,c∈l->AF c) (h:l.length<=18) (k:Nat) (hk:k<l.length):BS (l.take k)<100000000000000000:=by
 have h1:=JE (l.take k) fun c hc=>hd c (List.mem_of_mem_take hc)
 rw[List.length_take,Nat.min_eq_left (by omega)]at h1
 have:(10:Nat)^k<=10^17:=Nat.pow_le_pow_right (by decide) (by omega)
 omega
theorem Wj {l:B8} (hl:l.length<=18) (hd:∀c,c∈l->AF c) (h0:l.getD 0 0≠48) {st:St} {K:Int->Int->St->Prop} (hk:K (BS l:Nat) 0 st):CallT PR EA [.str l] [.one (.int .i64),.one (.int .i64)] st K:=by
 refine LS l st K (Pg (by omega) ?_)
 have hno:decide (NS l)=true:=decide_eq_true ⟨by omega,hd,fun _=>h0⟩
 rw[hno]
 refine Ar (fun h=>by cases h) fun _=>?_
 refine⟨fun n i l' m st'=>l=l'/\st=st'/\(l.length:Int)=m/\∃k:Nat,i=k/\k<=l.length/\n=(BS (l.take k):Nat),fun _ i _ _ _=>(l.length-i).toNat,⟨rfl,rfl,rfl,0,rfl,Nat.zero_le _,rfl⟩,?_⟩
 rintro _ _ _ _ _ ⟨rfl,rfl,rfl,k,rfl,hkl,rfl⟩
 rw[Int.toNat_natCast]
 refine Aa (fun g=>⟨⟨by omega,g⟩,?_⟩) fun g=>?_
 ·have hk':k<l.length:=by omega
  have hv:=PF hd hl k hk'
  have hs:=Kz hk'
  have hc:=hd _ (J9 hk')
  obtain⟨c1,c2⟩:=hc
  rw[Mg _ (by omega) (by omega),Ai (((List.getD l k 0).toNat:Int)-48) (by omega) (by omega),Ai (9223372036854775807-_) (by omega) (by omega),Int.tdiv_eq_ediv_of_nonneg (by omega),Ai _ (by omega) (by omega)]
  refine Aa (fun g2=>by omega) fun g2=>?_
  rw[Ai (((BS (l.take k):Nat):Int)*10) (by omega) (by omega),Ai _ (by omega) (by omega),Ai _ (by omega) (by omega)]
  exact⟨⟨rfl,rfl,rfl,k+1,by omega,by omega,by rw[hs];omega⟩,by dsimp only;omega⟩
 ·have:k=l.length:=by omega
  subst this
  rw[List.take_length];exact hk
theorem WW {ex:Int} {less:Bool} {l:B8} (h1: -100000000<=ex) (h2:ex<=100000000) (hd:∀c,c∈l->AF c) (h0:l.getD 0 0≠48) {st:St} {K:Int->St->Prop}
  (hk:K (if less then ex-((if l.length<=12 then BS l else 1099511627776:Nat):Int)else ex+((if l.length<=12 then BS l else 1099511627776:Nat):Int)) st):CallT PR D8 [.int .i64 ex,.bool less,.str l] [.one (.int .i64)] st K:=by
 refine Ku ex less l st K (Aa (fun g=>?_) fun g=>?_)
 ·have g':l.length<=12:=by omega
  rw[if_pos g']at hk
  have hv:=JE l hd
  have:(10:Nat)^l.length<=10^12:=Nat.pow_le_pow_right (by decide) g'
  refine Wj (by omega) hd h0 (Ar (fun e=>?_) fun e=>?_)
  ·rw[Ai _ (by omega) (by omega)];rw[if_pos e]at hk;exact hk
  ·rw[Ai _ (by omega) (by omega)];rw[e]at hk;exact hk
 ·rw[if_neg (show ¬l.length<=12 by omega)]at hk
  refine Ar (fun e=>?_) fun e=>?_
  ·rw[Ai _ (by omega) (by omega)];rw[if_pos e]at hk;exact hk
  ·rw[Ai _ (by omega) (by omega)];rw[e]at hk;exact hk
abbrev KD (K:Bool->B8->Int->Int->St->Prop) (r:Bool×B8×Int×Int) (st:St):Prop:=K r.1 r.2.1 r.2.2.1 r.2.2.2 st
theorem norm_ok {neg:Bool} {s:B8} {ex:Int} (hl:s.length<=2000000) (h1: -3000000000000<=ex) (h2:ex<=3000000000000) {st:St} {K:Bool->B8->Int->Int->St->Prop} (hk:KD K (dcN neg s ex) st):
  CallT PR ED [.bool neg,.str s,.int .i64 ex] [.agg [.bool,.str,.int .i64],.one (.int .i64)] st K:=by
 unfold KD dcN at hk
 refine LV neg s ex st K (Aa (fun g=>by rw[if_pos g]at hk;exact hk) fun g=>JI (by decide) (by omega) ?_)
 rw[if_neg g]at hk
 have ht:=HP s
 have e1:i64.wrap ((s.length:Int)-((Lib.trimRightB s 48).length:Int))=(Bt s:Nat):=by rw[Ai _ (by omega) (by omega)];omega
 rw[e1]
 have e2:i64.wrap ((s.length:Int)-(Bt s:Nat))=((s.length-Bt s:Nat):Int):=by rw[Ai _ (by omega) (by omega)];omega
 rw[e2,Int.toNat_natCast,Ai (400-_) (by omega) (by omega),Ai (-400-_) (by omega) (by omega),Ai (ex+_) (by omega) (by omega)]
 have hlen:(s.take (s.length-Bt s)).length=s.length-Bt s:=by rw[List.length_take];omega
 rw[hlen]
 refine⟨⟨by omega,by omega⟩,Aa (fun g1=>?_) fun g1=>Aa (fun g2=>?_) fun g2=>Aa (fun g3=>?_) fun g3=>?_⟩
 ·rw[if_pos (by omega)]at hk;exact hk
 ·rw[if_pos (by omega)]at hk;exact hk
 ·rw[if_pos (by omega)]at hk;exact hk
 ·rw[if_neg (by omega)]at hk;exact hk
theorem P4 {neg:Bool} {s:B8} {ex:Int} (hl:s.length<=2000000) (hd:∀c,c∈s->AF c) (h1: -3000000000000<=ex) (h2:ex<=3000000000000) {st:St} {K:Bool->B8->Int->Int->St->Prop} (hk:KD K (dcN neg (Bk s) ex) st):
  CallT PR Cg [.bool neg,.str s,.int .i64 ex] [.agg [.bool,.str,.int .i64],.one (.int .i64)] st K:=by
 refine LW neg s ex st K ⟨fun i neg' s' ex' n _ _ _ st'=>neg=neg'/\s=s'/\ex=ex'/\(s.length:Int)=n/\st=st'/\0<=i,fun i _ _ _ _ _ _ _ _=>(s.length-i).toNat,⟨rfl,rfl,rfl,rfl,rfl,by omega⟩,?_⟩
 rintro i _ _ _ _ _ _ _ _ ⟨rfl,rfl,rfl,rfl,rfl,hi⟩
 refine Aa (fun g=>?_) fun g=>?_
 ·have hc:=hd _ (J9 (show i.toNat<s.length by omega))
  obtain⟨c1,c2⟩:=hc
  refine⟨⟨hi,g⟩,Aa (fun g1=>by omega) fun _=>⟨⟨hi,g⟩,Aa (fun g1=>by omega) fun _=>?_⟩⟩
  rw[Ai _ (by omega) (by omega)]
  exact⟨⟨rfl,rfl,rfl,rfl,rfl,by omega⟩,by dsimp only;omega⟩
 ·refine Lm (by decide) (norm_ok (Nat.le_trans (MD s) hl) h1 h2 hk)
theorem dP_ok {s:B8} (hl:s.length<=1000000) {st:St} {K:Bool->B8->Int->Int->St->Prop} (hk:KD K (dcP s) st):CallT PR BW [.str s] [.agg [.bool,.str,.int .i64],.one (.int .i64)] st K:=by
 refine Kw s st K (In (by decide) ?_)
 refine⟨fun s1 neg _ _ _ st'=>st=st'/\dcP s=dcQ neg s1/\s1.length<=s.length,Aa (fun g=>?_) fun g=>?_,?_⟩
 ·refine⟨⟨by omega,?_⟩,rfl,?_,?_⟩
  ·cases s with
   | nil=>exact absurd g (by decide)
   | cons a s=>rw[List.length_cons];omega
  ·unfold dcP;rw[if_pos g,decide_eq_true g];rfl
  ·rw[List.length_drop];omega
 ·refine⟨rfl,?_,Nat.le_refl _⟩
  unfold dcP;rw[if_neg g,decide_eq_false g]
 rintro s1 neg _ _ _ _ ⟨rfl,h1,hl1⟩
 rw[h1]at hk
 refine ST (by omega) ?_
 have hrl:=Pe s1
 refine⟨fun s2 neg2 n _ _ _ st'=>s1=s2/\neg=neg2/\n=((AC s1).length:Nat)/\st=st'/\dcQ neg s1=dcF neg (AC s1) (s1.drop (AC s1).length),Aa (fun g=>?_) fun g=>Aa (fun g2=>?_) fun g2=>?_,?_⟩
 ·have:AC s1=[]:=List.length_eq_zero_iff.1 (by omega)
  unfold KD dcQ at hk
  rw[if_pos (.inl this)]at hk;exact hk
 ·refine⟨⟨by omega,by omega⟩,Aa (fun g3=>?_) fun g3=>⟨rfl,rfl,rfl,rfl,?_⟩⟩
  ·have:s1.getD 0 0=48:=u8i.1 g3
   unfold KD dcQ at hk
   rw[if_pos (.inr ⟨by omega,this⟩)]at hk;exact hk
  ·unfold dcQ
   rw[if_neg]
   rintro(h | ⟨_,h⟩)
   ·exact g (by rw[h];rfl)
   ·exact g3 (by show((s1.getD 0 0).toNat:Int)=48;rw[h];rfl)
 ·refine⟨rfl,rfl,rfl,rfl,?_⟩
  unfold dcQ
  rw[if_neg]
  rintro(h | ⟨h,_⟩)
  ·exact g (by rw[h];rfl)
  ·omega
 rintro _ _ _ _ _ _ _ ⟨rfl,rfl,rfl,rfl,h2⟩
 rw[h2]at hk
 rw[Int.toNat_natCast,Jp]
 refine⟨⟨by omega,by omega⟩,⟨by omega,by omega⟩,?_⟩
 have hdg:=ND s1
 generalize hr:s1.drop (AC s1).length=r at*
 generalize ha:AC s1=a at*
 have hrl2:a.length+r.length<=1000000:=by
  have:r.length=s1.length-a.length:=by rw[<-hr,List.length_drop]
  omega
 clear hr ha h1 h2
 refine⟨fun s3 all ex neg3 _ _ _ st'=>neg=neg3/\st=st'/\dcF neg a r=dcE neg all ex s3/\ -1000000<=ex/\ex<=0/\all.length<=1000000/\s3.length<=1000000/\∀c,c∈all->AF c,In (by decide) (Aa (fun g=>?_) fun g=>?_),?_⟩
 ·have hr1:1<=r.length:=by
   cases r with
   | nil=>exact absurd g (by decide)
   | cons c r=>rw[List.length_cons];omega
  refine⟨⟨by omega,by omega⟩,ST (by show(r.drop 1).length<=_;rw[List.length_drop];omega) ?_⟩
  rw[show Int.toNat (1:Int)=1 from rfl]
  have hd1:=Pe (r.drop 1)
  have hd2:=ND (r.drop 1)
  have hd3:=Jp (r.drop 1)
  rw[List.length_drop]at hd1
  generalize hf:AC (r.drop 1)=f at*
  refine Aa (fun g2=>?_) fun g2=>?_
  ·have:f=[]:=List.length_eq_zero_iff.1 (by omega)
   unfold KD dcF at hk
   rw[if_pos g,hf,if_pos this]at hk;exact hk
  ·rw[Ai (((f.length:Nat):Int)+1) (by omega) (by omega),Ai (0-_) (by omega) (by omega),show((((f.length:Nat):Int)+1).toNat)=1+f.length by omega]
   have hdt:(r.take (1+f.length)).drop 1=f:=by rw[List.drop_take,Nat.add_sub_cancel_left];exact hd3
   refine⟨⟨by omega,by omega,by omega⟩,?_⟩
   show(a.length+((r.take (1+f.length)).drop 1).length<=_)/\_
   rw[hdt]
   refine⟨by omega,⟨by omega,by omega⟩,rfl,rfl,?_,by omega,by omega,by rw[List.length_append];omega,by rw[List.length_drop];omega,fun c hc=>?_⟩
   ·unfold dcF
    rw[if_pos g,hf,if_neg (fun e=>g2 (by rw[e];rfl))]
    rw[show(0:Int)-(f.length:Nat)= -(f.length:Nat) by omega]
   ·rcases List.mem_append.1 hc with hc | hc
    ·exact hdg c hc
    ·exact hd2 c hc
 ·refine⟨rfl,rfl,?_,by omega,by omega,by omega,by omega,hdg⟩
  unfold dcF;rw[if_neg g]
 rintro s3 all ex _ _ _ _ _ ⟨rfl,rfl,h3,x1,x2,x3,x4,x5⟩
 rw[h3]at hk
 clear h3 hdg hrl2
 refine Aa (fun g=>?_) fun g=>?_
 ·have hpos:1<=s3.length:=List.length_pos_iff.2 g
  refine⟨fun s4 neg4 all4 ex4 _ _ _ st'=>s3=s4/\neg=neg4/\all=all4/\ex=ex4/\st=st'/\(s3.getD 0 0=101∨s3.getD 0 0=69),?_,?_⟩
  ·have n101:((s3.getD 0 0).toNat:Int)≠101↔s3.getD 0 0≠101:=not_congr (u8i (k:=101))
   have n69:((s3.getD 0 0).toNat:Int)≠69↔s3.getD 0 0≠69:=not_congr (u8i (k:=69))
   refine⟨⟨by omega,by omega⟩,Aa (fun g1=>⟨⟨by omega,by omega⟩,Aa (fun g2=>?_) fun g2=>⟨rfl,rfl,rfl,rfl,rfl,.inr (Decidable.not_not.1 fun h=>g2 (n69.2 h))⟩⟩) fun g1=>⟨rfl,rfl,rfl,rfl,rfl,.inl (Decidable.not_not.1 fun h=>g1 (n101.2 h))⟩⟩
   unfold KD dcE at hk
   rw[if_neg g,if_neg (by rintro(h | h);exact n101.1 g1 h;exact n69.1 g2 h)]at hk
   exact hk
  rintro _ _ _ _ _ _ _ _ ⟨rfl,rfl,rfl,rfl,rfl,he⟩
  unfold KD dcE at hk
  rw[if_neg g,if_pos he]at hk
  refine⟨⟨by omega,by omega⟩,In (by decide) ?_⟩
  show ∃_,_
  refine⟨fun s5 neg5 all5 ex5 less _ _ _ st'=>neg=neg5/\all=all5/\ex=ex5/\st=st'/\s5.length<=1000000/\KD K (dcX neg all ex less s5) st,Aa (fun g1=>?_) fun g1=>In (by decide) (Aa (fun g2=>?_) fun g2=>?_),?_⟩
  ·have g1':(s3.drop 1).getD 0 0=45:=g1
   rw[if_pos g1']at hk
   refine⟨⟨by omega,?_⟩,rfl,rfl,rfl,rfl,?_,?_⟩
   ·have:1<=(s3.drop 1).length:=by
     cases hc:s3.drop 1 with
     | nil=>rw[hc]at g1';exact absurd g1' (by decide)
     | cons c r=>rw[List.length_cons];omega
    exact Int.ofNat_le.2 this
   ·show((s3.drop 1).drop 1).length<=_;rw[List.length_drop,List.length_drop];omega
   ·rw[decide_eq_true g1]
    show KD K (dcX neg all ex true ((s3.drop 1).drop 1)) st
    rw[List.drop_drop];exact hk
  ·have g1':¬(s3.drop 1).getD 0 0=45:=g1
   have g2':(s3.drop 1).getD 0 0=43:=g2
   rw[if_neg g1',if_pos g2']at hk
   refine⟨⟨by omega,?_⟩,rfl,rfl,rfl,rfl,?_,?_⟩
   ·have:1<=(s3.drop 1).length:=by
     cases hc:s3.drop 1 with
     | nil=>rw[hc]at g2';exact absurd g2' (by decide)
     | cons c r=>rw[List.length_cons];omega
    exact Int.ofNat_le.2 this
   ·show((s3.drop 1).drop 1).length<=_;rw[List.length_drop,List.length_drop];omega
   ·rw[decide_eq_false g1]
    show KD K (dcX neg all ex false ((s3.drop 1).drop 1)) st
    rw[List.drop_drop];exact hk
  ·have g1':¬(s3.drop 1).getD 0 0=45:=g1
   have g2':¬(s3.drop 1).getD 0 0=43:=g2
   rw[if_neg g1',if_neg g2']at hk
   refine⟨rfl,rfl,rfl,rfl,?_,?_⟩
   ·show(s3.drop 1).length<=_;rw[List.length_drop];omega
   ·rw[decide_eq_false g1];exact hk
  rintro s5 _ _ _ less _ _ _ _ ⟨rfl,rfl,rfl,rfl,hl5,hk5⟩
  unfold KD dcX at hk5
  refine Aa (fun g1=>by rw[if_pos (.inl g1)]at hk5;exact hk5) fun g1=>ST (by omega) (Aa (fun g2=>?_) fun g2=>?_)
  ·rw[if_pos (.inr (by omega))]at hk5;exact hk5
  ·have hall:AC s5=s5:=by
    have:=Pd s5
    have h0:s5.drop (AC s5).length=[]:=List.drop_of_length_le (by omega)
    rw[h0,List.append_nil]at this
    exact this.symm
   have hd5:∀c,c∈s5->AF c:=by rw[<-hall];exact ND s5
   rw[if_neg (by rintro(h | h);exact g1 h;exact h (by rw[hall]))]at hk5
   refine Lm (by decide) (WW (by omega) (by omega) (fun c hc=>hd5 c (I6 s5 c hc)) (Lo s5) ?_)
   show CallT PR Cg [.bool neg,.str all,.int .i64 (if less=true then ex-((if (Bk s5).length<=12 then BS (Bk s5)else 1099511627776:Nat):Int)else ex+((if (Bk s5).length<=12 then BS (Bk s5)else 1099511627776:Nat):Int))] _ _ _
   rw[GP]
   have sm:=MD all
   by_cases h12:(Bk s5).length<=12
   ·have hn:=U3 hd5 h12
    rw[if_pos h12]
    refine P4 (by omega) x5 ?_ ?_ hk5
    ·split<;>omega
    ·split<;>omega
   ·have hf:=Wf (k:=12) hd5 (by omega)
    rw[if_neg h12]
    refine P4 (by omega) x5 ?_ ?_ ?_
    ·split<;>omega
    ·split<;>omega
    ·have:=dcN_far (neg:=neg) (s:=Bk all) (ex:=ex) (n:=((1099511627776:Nat):Int)) (m:=(BS s5:Nat)) (by omega) (by omega) (by omega) (by omega) (by omega) less
     unfold KD
     rw[this];exact hk5
 ·have g0:s3=[]:=Decidable.not_not.1 g
  unfold KD dcE at hk
  rw[if_pos g0]at hk
  exact P4 (by omega) x5 (by omega) (by omega) hk
theorem GT {α:Type} {l m:List α} {k:Nat} {x y:α} (h:l.take k=m.take k) (hx:l[k]? =some x) (hy:m[k]? =some y) (e:x=y):l.take (k+1)=m.take (k+1):=by
 rw[KJ hx,KJ hy,h,e]
theorem sc_eq {s t:Sc} (h1:s.kind=t.kind) (h2:s.b=t.b) (h3:s.neg=t.neg) (h4:s.dg=t.dg) (h5:s.ex=t.ex) (h6:s.tk=t.tk) (h7:s.td=t.td) (h8:s.tn=t.tn) (h9:s.tz=t.tz) (h10:s.text=t.text) (h11:s.bytes=t.bytes):s=t:=by
 cases s;cases t;simp_all
section
theorem Kn:∀l m:List Vl,Bx (l++m)=Bx l+Bx m
 | [],m=>by simp[Bx]
 | v::r,m=>by simp only[List.cons_append,Bx,Kn r m];omega
theorem Mh {l:List Vl} {k:Nat} {w:Vl} (h:l[k]? =some w):Bx (l.take (k+1))=Bx (l.take k)+w.cnt:=by
 rw[KJ h,Kn];simp[Bx]
theorem NU (l:List Vl) (k:Nat):Bx (l.take k)<=Bx l:=by
 have:=Kn (l.take k) (l.drop k)
 rw[List.take_append_drop]at this;omega
mutual
theorem Qm:∀v:Vl,v.cnt<=v.sz
 | .mk s l f=>by
  have:=Mc l
  have:=Md f
  unfold Vl.cnt;rw[szs];omega
theorem Mc:∀l:List Vl,Bx l<=CJ l
 | []=>by unfold Bx;exact Nat.zero_le _
 | v::r=>by
  unfold Bx CJ
  have:=Qm v
  have:=Mc r
  omega
theorem cntd_sz:∀d:Fd,d.cnt<=d.sz
 | .mk k v=>by unfold Fd.cnt Fd.sz;have:=Qm v;omega
theorem Md:∀l:List Fd,BR l<=CX l
 | []=>by unfold BR;exact Nat.zero_le _
 | d::r=>by
  unfold BR CX
  have:=cntd_sz d
  have:=Md r
  omega
end
end
theorem SlR.ldb {st:St} {u:TV} {l:B8} {k:Nat} (h:SlR st 1 u l.length (AJ l)) (hk:k<l.length):Ac st [] (.t (ixT 1 u k)) 0=some (Ie l[k]):=by
 have:=h.ldc (by rw[Dc];omega) hk
 rw[List.drop_eq_getElem_cons (by rw[Dc];omega)]at this
 simp only[Ah,List.take_succ_cons,List.take_zero]at this
 cases hq:Ac st [] (.t (ixT 1 u k)) 0 with
 | none=>rw[hq]at this;cases this
 | some y=>
  rw[hq]at this
  simp only[Option.map_some,Option.some.injEq,List.cons.injEq,and_true]at this
  rw[this];simp[AJ]
def zs (n:Nat):B8:=List.replicate n 48
theorem MQ:∀n,Lib.repeatL [48] n=zs n
 | 0=>rfl
 | n+1=>by
  show [48]++Lib.repeatL [48] n=_
  rw[MQ n];rfl
theorem Sq (n:Nat):(zs n).length=n:=by simp[zs]
theorem OH {n:Nat} (hn:n<=2000000) {st:St} {K:B8->St->Prop} (hk:K (zs n) st):CallT PR DE [.str [48],.int .i64 (n:Int)] [.one .str] st K:=by
 refine B4 (fun _ _=>by kernel_rfl) fun g w vargs s hr=>?_
 obtain⟨v,u,rfl,hv,hu⟩:=JW hr
 rw[A1 hv,Rr hu]
 refine Calls.mono (Tryz.strings_Repeat ⟨#[48]⟩ n w (by omega) (by simp[ByteArray.size];omega)) ?_
 rintro e w' ⟨rfl,hb⟩
 obtain⟨s',e'⟩:=s.world hb.size (s.below.trans (hb.mono s.fits)) hb.block
 refine⟨_,rfl,.str (zs n),st,g,hk,s',?_,e'⟩
 have:Lib.repeatL (ByteArray.mk #[48]).data.toList n=zs n:=MQ n
 rw[this];exact Rel.str _
theorem Eh (st:St) (b:Nat) (o:Iz):(st.put b o).box b=o:=by simp[St.put]
theorem GG (st:St) (o:Iz) (t:Option Nat):(st.push o t).box st.nb=o:=by simp[St.push]
theorem GI.set {st:St} {u:TV} {n i:Nat} {xs:List TV} {bs:List Nat} {x:TV} {K:St->Prop} (h:GI st 1 u n xs bs) (hi:i<n) (hK:∀st',GI st' 1 u n (xs.set i x) bs->StX (·∈bs) st st'->K st'):stB st (ixT 1 u i) [x] K:=by
 rcases h with⟨h0,_⟩ | ⟨b,cap,tail,rfl,h1,h2,h3,h4,h5,rfl⟩
 ·omega
 ·simp only[ixT,Nat.zero_add,Nat.mul_one,stB]
  have hl:(xs++tail).length=cap:=by omega
  rw[List.length_append]at hl
  refine⟨_,h2,by rw[List.length_append,List.length_singleton];omega,hK _ (.inr ⟨b,cap,tail,rfl,h1,?_,by rw[List.length_append,List.length_set];omega,by rw[List.length_set];exact h4,h5,rfl⟩) (StX.put (S:=(·∈ [b])) (.head _) _)⟩
  rw[Eh]
  simp only[setAll]
  rw[List.set_append_left _ _ (by omega)]
def BxB (st0 st:St) (u:TV) (l:B8):Prop:=∃bs,GI st 1 u l.length (AJ l) bs/\Ap st0 st/\∀x,x∈bs->st0.nb<=x
theorem BxB.nil {st0 st:St} (e:Ap st0 st):BxB st0 st .nilSlice []:=⟨[],GI.nil _ _,e,fun x hx=>by cases hx⟩
theorem BxB.rd {st0 st:St} {u:TV} {l:B8} (h:BxB st0 st u l):SlR st 1 u l.length (AJ l):=by
 obtain⟨bs,h1,_⟩:=h;exact h1.rd
theorem BxB.ext {st0 st:St} {u:TV} {l:B8} (h:BxB st0 st u l):Ap st0 st:=by
 obtain⟨bs,_,h2,_⟩:=h;exact h2
theorem BxB.app {st0 st:St} {u:TV} {l:B8} {c:UInt8} {x:TV} {K:TV->St->Prop} (h:BxB st0 st u l) (hx:x=Ie c) (hl:l.length<=100000000) (hK:∀u' st',BxB st0 st' u' (l++[c])->K u' st'):Kk 5 1 1 u 1 [x] st K:=by
 obtain⟨bs,h1,h2,h3⟩:=h
 subst hx
 refine V4 h1 (by omega) rfl (by omega) fun u' st' bs' ho e hb=>hK u' st' ⟨bs',?_,?_,?_⟩
 ·rw[List.length_append,List.length_singleton,<-IU];exact ho
 ·exact StX.ext h2 e h3
 ·rcases hb with⟨rfl,_⟩ | rfl
  ·exact h3
  ·intro y hy;rw[List.mem_singleton.1 hy];exact h2.nb
theorem TS (l:B8) (i:Nat) (c:UInt8):(AJ l).set i (Ie c)=AJ (l.set i c):=by
 unfold AJ;rw[List.map_set]
theorem BxB.set {st0 st:St} {u:TV} {l:B8} {i:Nat} {c:UInt8} {x:TV} {K:St->Prop} (h:BxB st0 st u l) (hx:x=Ie c) (hi:i<l.length) (hK:∀st',BxB st0 st' u (l.set i c)->K st'):stB st (ixT 1 u i) [x] K:=by
 obtain⟨bs,h1,h2,h3⟩:=h
 subst hx
 refine h1.set hi fun st' ho e=>hK st' ⟨bs,?_,StX.ext h2 e h3,h3⟩
 rw[List.length_set,<-TS];exact ho
theorem zrep_u8 (n:Nat):Hr [.int .u8 (0:Int)] (n*1)=AJ (List.replicate n 0):=by
 unfold Hr AJ
 rw[Nat.mul_one,List.map_replicate]
 refine List.ext_getElem (by simp) fun i h1 h2=>?_
 simp[Ie,Nat.mod_one]
theorem BxB.make {st0 st:St} (e:Ap st0 st) (n:Nat):BxB st0 (st.push (.cells (Hr [.int .u8 (0:Int)] (n*1))) (some 5)) (.ms 1 st.nb 0 n n) (List.replicate n 0):=by
 refine⟨[st.nb],.inr ⟨st.nb,n,[],by rw[List.length_replicate],by simp[St.push],?_,?_,?_,?_,rfl⟩,e.push _ _,fun x hx=>by rw[List.mem_singleton.1 hx];exact e.nb⟩
 ·rw[zrep_u8,List.append_nil,GG]
 ·rw[List.append_nil,Dc,List.length_replicate,Nat.mul_one]
 ·rw[Dc];omega
 ·rw[List.length_replicate];exact Nat.le_refl _
theorem UJ {c:UInt8} {f:Int->Prop} (h:f (c.toNat:Int)):Af (.int .u8) (Ie c) f:=Az h
theorem BxB.ld {st0 st:St} {u:TV} {l:B8} {i:Nat} (h:BxB st0 st u l) (hi:i<l.length):Ac st [] (.t (ixT 1 u i)) 0=some (Ie l[i]):=h.rd.ldb hi
theorem BxB.str {st0 st:St} {u:TV} {l:B8} {K:B8->Prop} (h:BxB st0 st u l) (hk:K l):Ae ((toBytes st u).map TV.str) fun x=>Af .str x K:=
 Ad (x:= .str l) (by rw[h.rd.toBytes];rfl) (Al hk)
theorem SW {st0 st:St} {u:TV} {l:B8} (hl:l.length<=100000000) (h:BxB st0 st u l) {K:St->Prop} (hk:∀st',BxB st0 st' u l.reverse->K st'):CallT PR DH [u] [] st K:=by
 refine Jy u st K (Ab h.rd.isSl ?_)
 rw[h.rd.lenS,Ai _ (by omega) (by omega)]
 refine⟨fun i k b st'=>u=b/\∃(n:Nat) (m:B8),i=n/\k=(l.length:Int)-1-n/\2*n<=l.length+1/\m.length=l.length/\BxB st0 st' u m/\∀j,j<l.length->m.getD j 0=if j<n∨l.length-n<=j then l.getD (l.length-1-j) 0 else l.getD j 0,fun i _ _ _=>(l.length-i).toNat,⟨rfl,0,l,rfl,by omega,by omega,rfl,h,fun j hj=>by rw[if_neg (by omega)]⟩,?_⟩
 rintro _ _ _ st1 ⟨rfl,n,m,rfl,rfl,hn,hm,hb,hall⟩
 refine Aa (fun g=>?_) fun g=>hk _ ?_
 ·have hk':Int.toNat ((l.length:Int)-1-n)=l.length-1-n:=by omega
  have hr:=hb.rd
  have hnl:n<m.length:=by omega
  have hkl:l.length-1-n<m.length:=by omega
  rw[hr.lenZ,hk',Int.toNat_natCast]
  refine⟨⟨by omega,by omega⟩,Ad (hb.ld hkl) (UJ ⟨⟨by omega,by omega⟩,Ad (hb.ld hnl) (UJ ⟨⟨by omega,by omega⟩,hb.set (c:=m[l.length-1-n]) rfl hnl fun st2 hb2=>⟨⟨by omega,by omega⟩,hb2.set (c:=m[n]) rfl (by rw[List.length_set];exact hkl) fun st3 hb3=>?_⟩⟩)⟩)⟩
  rw[Ai _ (by omega) (by omega),Ai _ (by omega) (by omega)]
  refine⟨⟨rfl,n+1,_,by omega,by omega,by omega,by rw[List.length_set,List.length_set];exact hm,hb3,fun j hj=>?_⟩,by dsimp only;omega⟩
  have h1:=hall n (by omega)
  have h2:=hall (l.length-1-n) (by omega)
  rw[if_neg (by omega)]at h1 h2
  have e1:m.getD n 0=m[n]:=by rw[List.getD_eq_getElem?_getD,List.getElem?_eq_getElem hnl];rfl
  have e2:m.getD (l.length-1-n) 0=m[l.length-1-n]:=by rw[List.getD_eq_getElem?_getD,List.getElem?_eq_getElem hkl];rfl
  have e3:((m.set n m[l.length-1-n]).set (l.length-1-n) m[n]).getD j 0=if j=l.length-1-n then m[n]else if j=n then m[l.length-1-n]else m.getD j 0:=by
   rw[List.getD_eq_getElem?_getD,List.getElem?_set,List.getElem?_set]
   by_cases c1:j=l.length-1-n
   ·rw[if_pos c1.symm,if_pos c1,if_pos (by rw[List.length_set];omega)];rfl
   ·rw[if_neg (fun e=>c1 e.symm),if_neg c1]
    by_cases c2:j=n
    ·rw[if_pos c2.symm,if_pos c2,if_pos (by omega)];rfl
    ·rw[if_neg (fun e=>c2 e.symm),if_neg c2,List.getD_eq_getElem?_getD]
  rw[e3]
  by_cases c1:j=l.length-1-n
  ·rw[if_pos c1,if_pos (by omega),<-e1,h1];congr 1;omega
  ·rw[if_neg c1]
   by_cases c2:j=n
   ·rw[if_pos c2,if_pos (by omega),<-e2,h2];congr 1;omega
   ·rw[if_neg c2,hall j hj]
    by_cases c3:j<n∨l.length-n<=j
    ·rw[if_pos c3,if_pos (by omega)]
    ·rw[if_neg c3,if_neg (by omega)]
 ·have:m=l.reverse:=by
   refine List.ext_getElem (by simpa using hm) fun j h1 h2=>?_
   have:=hall j (by omega)
   rw[List.getD_eq_getElem?_getD,List.getElem?_eq_getElem h1,Option.getD_some]at this
   rw[this,List.getElem_reverse]
   by_cases c:j<n∨l.length-n<=j
   ·rw[if_pos c,List.getD_eq_getElem?_getD,List.getElem?_eq_getElem (by omega),Option.getD_some]
   ·rw[if_neg c,List.getD_eq_getElem?_getD,List.getElem?_eq_getElem (by omega),Option.getD_some]
    congr 1;omega
  rw[<-this];exact hb
theorem dg_w8 {n:Nat} (x:Int) (h:x=n):u8.wrap (i64.wrap (48+x.tmod 10))=(((48+n%10).toUInt8.toNat:Nat):Int):=by
 subst h
 rw[Int.tmod_eq_emod_of_nonneg (by omega),Ai _ (by omega) (by omega),Dm _ (by omega),Mg _ (by omega) (by omega)];omega
theorem Tt {n:Nat} (hn:n<=9000000000000000000) {st:St} {K:B8->St->Prop} (hk:∀st',Ap st st'->K (Jh n) st'):CallT PR DI [.int .i64 (n:Int)] [.one .str] st K:=by
 have hlen:(Jh n).length<=19:=Nc 19 n (by omega)
 refine Jz _ st K ⟨fun k b st'=>∃(m:Nat) (l:B8),k=m/\m<=n/\BxB st st' b l/\Jh n=Jh m++l.reverse,fun k _ _=>k.toNat,⟨n,[],rfl,Nat.le_refl _,BxB.nil (Ap.refl _),by simp⟩,?_⟩
 rintro _ b st1 ⟨m,l,rfl,hm,hb,he⟩
 have hll:l.length<=19:=by rw[he,List.length_append,List.length_reverse]at hlen;omega
 refine Aa (fun g=>?_) fun g=>?_
 ·refine hb.app (c:=(48+m%10).toUInt8) (by rw[dg_w8 _ rfl];rfl) (by omega) fun u' st2 hb2=>?_
  have hd:i64.wrap ((m:Int).tdiv 10)=((m/10:Nat):Int):=by rw[Int.tdiv_eq_ediv_of_nonneg (by omega),Ai _ (by omega) (by omega)];omega
  rw[hd]
  refine⟨⟨m/10,_,rfl,by omega,hb2,?_⟩,by dsimp only;omega⟩
  rw[he,Gy (by omega),List.reverse_append,List.reverse_singleton,List.append_assoc]
 ·have h0:m=0:=by omega
  subst h0
  rw[Gx,List.nil_append]at he
  refine SW (by omega) hb fun st2 hb2=>hb2.str ?_
  rw[<-he];exact hk _ hb2.ext
theorem QK {n:Nat} (hn:n<=9000000000000000000) {st:St} {K:B8->St->Prop} (hk:∀st',Ap st st'->K (whN n) st'):CallT PR CM [.int .i64 (n:Int)] [.one .str] st K:=by
 unfold whN at hk
 refine Kt _ st K (Aa (fun g=>?_) fun g=>Tt hn fun st' e=>?_)
 ·have:=hk st (Ap.refl _)
  rw[if_pos (by omega)]at this;exact this
 ·have:=hk st' e
  rw[if_neg (by omega)]at this;exact this
theorem UE (p:Int):Lb p=if p<1 then 101::45::whN (1-p).toNat else 101::whN (p-1).toNat:=by
 unfold Lb;split<;>rfl
def MO (neg:Bool):B8:=if neg then [45]else []
theorem Ri (neg:Bool):(MO neg).length<=1:=by cases neg<;>decide
theorem L4 {n:Nat} (h:n<10^18):(whN n).length<=18:=by
 unfold whN;split
 ·decide
 ·exact Nc 18 n h
theorem XE {neg:Bool} {dg:B8} {ex:Int} (h:CW neg dg ex) {st:St} {K:B8->St->Prop} (hk:∀st',Ap st st'->K (dcT neg dg ex) st'):CallT PR Dl [.agg [.bool neg,.str dg,.int .i64 ex]] [.one .str] st K:=by
 have e0:=Ap.refl st
 unfold dcT at hk
 by_cases hne:dg=[]
 ·rw[if_pos hne]at hk
  refine Hl neg dg ex st K ⟨fun _ _ _ _=>False,Aa (fun _=>hk st e0) fun g=>absurd hne g,fun _ _ _ _ h=>h.elim⟩
 rw[if_neg hne]at hk
 obtain⟨h1,h2,h3,h4,h5,h6⟩:=h.2 hne
 have hpos:=List.length_pos_iff.2 hne
 have hs:=Ri neg
 have hw:i64.wrap ((dg.length:Int)+ex)=dg.length+ex:=Ai _ (by omega) (by omega)
 refine Hl neg dg ex st K ⟨fun b s n st'=>neg=b/\dg=s/\ex=n/\st=st',Aa (fun g=>absurd g hne) fun _=>Lz (by omega) ?_,?_⟩
 ·rw[decide_eq_true h]
  exact⟨rfl,rfl,rfl,rfl⟩
 rintro _ _ _ _ ⟨rfl,rfl,rfl,rfl⟩
 refine⟨fun s b s1 n st'=>MO neg=s/\neg=b/\dg=s1/\ex=n/\st=st',Ar (fun hb=>⟨by rw[hb];rfl,rfl,rfl,rfl,rfl⟩) fun hb=>⟨by rw[hb];rfl,rfl,rfl,rfl,rfl⟩,?_⟩
 rintro _ _ _ _ _ ⟨rfl,rfl,rfl,rfl,rfl⟩
 rw[hw]
 have hk':=hk
 rw[show(if neg=true then [45]else [])=MO neg from rfl]at hk
 refine⟨fun s n p b s2 n2 st'=>MO neg=s/\(dg.length:Int)=n/\(dg.length:Int)+ex=p/\dg=s2/\st=st'/\¬(0<=ex/\dg.length+ex<=21)/\¬(ex<0/\1<=dg.length+ex/\dg.length+ex<=21)/\¬(-5<=dg.length+ex/\dg.length+ex<=0),?_,?_⟩
 ·refine⟨fun b s n p b4 s3 n3 st'=>b=decide (0<=ex/\dg.length+ex<=21)/\MO neg=s/\(dg.length:Int)=n/\(dg.length:Int)+ex=p/\dg=s3/\ex=n3/\st=st',?_,?_⟩
  ·refine Aa (fun g=>⟨?_,rfl,rfl,rfl,rfl,rfl,rfl⟩) fun g=>⟨?_,rfl,rfl,rfl,rfl,rfl,rfl⟩
   ·exact decide_eq_decide.2 ⟨fun g2=>⟨g,g2⟩,fun g2=>g2.2⟩
   ·exact(decide_eq_false fun g2=>g g2.1).symm
  rintro _ _ _ _ _ _ _ _ ⟨rfl,rfl,rfl,rfl,rfl,rfl,rfl⟩
  refine Aa (fun g=>?_) fun g=>?_
  ·rw[if_pos g]at hk
   obtain⟨g1,g2⟩:=g
   obtain⟨m,rfl⟩:∃m:Nat,ex=m:=⟨ex.toNat,by omega⟩
   refine⟨by omega,OH (by omega) ⟨by rw[List.length_append,Sq];omega,?_⟩⟩
   have:=hk st e0
   rw[Int.toNat_natCast,<-List.append_assoc]at this
   exact this
  rw[if_neg g]at hk
  refine⟨fun b s n p b5 s5 n4 st'=>b=decide (ex<0/\1<=dg.length+ex/\dg.length+ex<=21)/\MO neg=s/\(dg.length:Int)=n/\(dg.length:Int)+ex=p/\dg=s5/\ex=n4/\st=st',?_,?_⟩
  ·refine Aa (fun g1=>Aa (fun g2=>⟨?_,rfl,rfl,rfl,rfl,rfl,rfl⟩) fun g2=>⟨?_,rfl,rfl,rfl,rfl,rfl,rfl⟩) fun g1=>⟨?_,rfl,rfl,rfl,rfl,rfl,rfl⟩
   ·exact decide_eq_decide.2 ⟨fun g3=>⟨g1,g2,g3⟩,fun g3=>g3.2.2⟩
   ·exact(decide_eq_false fun g3=>g2 g3.2.1).symm
   ·exact(decide_eq_false fun g3=>g1 g3.1).symm
  rintro _ _ _ _ _ _ _ _ ⟨rfl,rfl,rfl,rfl,rfl,rfl,rfl⟩
  refine Aa (fun g2=>?_) fun g2=>?_
  ·rw[if_pos g2]at hk
   obtain⟨g3,g4,g5⟩:=g2
   have hlt:(List.take (Int.toNat ((dg.length:Int)+ex)) dg).length<=dg.length:=by rw[List.length_take];omega
   have hld:(List.drop (Int.toNat ((dg.length:Int)+ex)) dg).length<=dg.length:=by rw[List.length_drop];omega
   refine⟨⟨by omega,by omega⟩,by omega,by rw[List.length_append];show _+1<=_;omega,⟨by omega,by omega⟩,by simp only[List.length_append];show _+1+_<=_;omega,?_⟩
   have:=hk st e0
   rw[<-List.append_assoc,List.append_cons]at this
   exact this
  rw[if_neg g2]at hk
  refine Aa (fun g3=>Aa (fun g4=>?_) fun g4=>⟨rfl,rfl,rfl,rfl,rfl,g,g2,fun g5=>g4 g5.2⟩) fun g3=>⟨rfl,rfl,rfl,rfl,rfl,g,g2,fun g5=>g3 g5.1⟩
  rw[if_pos ⟨g3,g4⟩]at hk
  obtain⟨m,hm⟩:∃m:Nat,(0:Int)-((dg.length:Int)+ex)=m:=⟨(0-((dg.length:Int)+ex)).toNat,by omega⟩
  rw[Ai _ (by omega) (by omega),hm]
  have hm2:(-((dg.length:Int)+ex)).toNat=m:=by omega
  rw[hm2]at hk
  refine⟨by show _+2<=_;omega,OH (by omega) ⟨by rw[List.length_append,Sq];show _+2+_<=_;omega,by simp only[List.length_append,Sq];show _+2+_+_<=_;omega,?_⟩⟩
  have:=hk st e0
  rw[List.append_cons,List.append_cons,<-List.append_assoc,List.append_assoc (MO neg)]at this
  exact this
 ·rintro _ _ _ _ _ _ _ ⟨rfl,rfl,rfl,rfl,rfl,g1,g2,g3⟩
  rw[if_neg g1,if_neg g2,if_neg g3,UE]at hk
  have ht1:(List.take (Int.toNat 1) dg).length=1:=by rw[List.length_take];omega
  have hd1:(List.drop (Int.toNat 1) dg).length<=dg.length:=by rw[List.length_drop];omega
  refine⟨⟨by omega,by omega⟩,by omega,fun s p st'=>MO neg++(dg.take 1++(if 1<dg.length then 46::dg.drop 1 else []))=s/\(dg.length:Int)+ex=p/\st=st',?_,?_⟩
  ·refine Aa (fun g4=>⟨⟨by omega,by omega⟩,by show 1+_<=_;omega,by simp only[List.length_append];show _+(1+_)<=_;omega,?_,rfl,rfl⟩) fun g4=>⟨?_,rfl,rfl⟩
   ·rw[if_pos (by omega),List.append_assoc];rfl
   ·rw[if_neg (by omega),List.append_nil];rfl
  rintro s _ _ ⟨hs0,rfl,rfl⟩
  have hsl:s.length<=300:=by
   rw[<-hs0]
   have:(if 1<dg.length then 46::dg.drop 1 else []).length<=dg.length:=by
    split
    ·rw[List.length_cons,List.length_drop];omega
    ·simp
   simp only[List.length_append,List.length_take];omega
  refine Aa (fun g4=>?_) fun g4=>?_
  ·rw[if_pos g4]at hk
   obtain⟨m,hm⟩:∃m:Nat,(1:Int)-((dg.length:Int)+ex)=m:=⟨(1-((dg.length:Int)+ex)).toNat,by omega⟩
   have hwl:=L4 (n:=m) (by omega)
   rw[Ai _ (by omega) (by omega),hm]
   refine⟨by show _+2<=_;omega,QK (by omega) fun st' e'=>⟨by rw[List.length_append];show _+2+_<=_;omega,?_⟩⟩
   have:=hk st' e'
   rw[<-List.append_assoc (dg.take 1),<-List.append_assoc (MO neg),hs0,hm,Int.toNat_natCast,List.append_cons,List.append_cons,List.append_assoc s]at this
   exact this
  ·rw[if_neg g4]at hk
   obtain⟨m,hm⟩:∃m:Nat,((dg.length:Int)+ex)-1=m:=⟨(((dg.length:Int)+ex)-1).toNat,by omega⟩
   have hwl:=L4 (n:=m) (by omega)
   rw[Ai _ (by omega) (by omega),hm]
   refine⟨by show _+1<=_;omega,QK (by omega) fun st' e'=>⟨by rw[List.length_append];show _+1+_<=_;omega,?_⟩⟩
   have:=hk st' e'
   rw[<-List.append_assoc (dg.take 1),<-List.append_assoc (MO neg),hs0,hm,Int.toNat_natCast,List.append_cons]at this
   exact this
def monX (y m:Nat):Nat:=if 1<=y/\y<=9999/\1<=m/\m<=12 then J2 y m else 0
theorem J0 {y m:Nat} (h1:1<=y) (h2:y<=9999) (h3:1<=m) (h4:m<=12):monX y m=J2 y m:=if_pos ⟨h1,h2,h3,h4⟩
theorem LH {y:Nat} {st:St} {K:Bool->St->Prop} (hk:K (decide (1<=y/\y<=9999)) st):CallT PR Cr [.int .i64 (y:Int)] [.one .bool] st K:=by
 refine JA _ st K (Aa (fun g=>?_) fun g=>?_)
 ·exact Er (decide_eq_decide.2 ⟨fun h=>by omega,fun h=>by omega⟩) hk
 ·rw[decide_eq_false (by omega)]at hk;exact hk
theorem TQ {y:Nat} (h1:1<=y) (h2:y<=9999) {st:St} {K:Bool->St->Prop} (hk:K (decide (OY y)) st):CallT PR D9 [.int .i64 (y:Int)] [.one .bool] st K:=by
 refine Kx _ st K (LH ?_)
 rw[decide_eq_true ⟨h1,h2⟩,Int.tmod_eq_emod_of_nonneg (by omega),Int.tmod_eq_emod_of_nonneg (by omega),Int.tmod_eq_emod_of_nonneg (by omega)]
 unfold OY at hk
 refine Aa (p:=True) (fun _=>Aa (fun g=>Aa (fun g2=>?_) fun g2=>?_) fun g=>?_) (fun h=>absurd trivial h)
 ·exact Er (decide_eq_true (show y%4=0/\(y%100≠0∨y%400=0)from⟨by omega,.inl (by omega)⟩) |>.symm) hk
 ·exact Er (decide_eq_decide.2 ⟨fun h=>⟨by omega,.inr (by omega)⟩,fun h=>by omega⟩) hk
 ·exact Er (decide_eq_false (show ¬(y%4=0/\(y%100≠0∨y%400=0))from fun h=>by omega) |>.symm) hk
theorem days_ix:∀k:Nat,k<12->k≠1->(([.int .i64 31,.int .i64 28,.int .i64 31,.int .i64 30,.int .i64 31,.int .i64 30,.int .i64 31,.int .i64 31,.int .i64 30,.int .i64 31,.int .i64 30,.int .i64 31]:List TV)[(0+k*1)+0]?)=some (.int .i64 (if k+1=4∨k+1=6∨k+1=9∨k+1=11 then 30 else 31))
 | 0,_,_=>rfl
 | 1,_,h=>absurd rfl h
 | 2,_,_=>rfl
 | 3,_,_=>rfl
 | 4,_,_=>rfl
 | 5,_,_=>rfl
 | 6,_,_=>rfl
 | 7,_,_=>rfl
 | 8,_,_=>rfl
 | 9,_,_=>rfl
 | 10,_,_=>rfl
 | 11,_,_=>rfl
 | k+12,h,_=>by omega
theorem FT {y m:Nat} (hm:m<=1000000) {st:St} {K:Int->St->Prop} (hk:K (monX y m:Nat) st):CallT PR AQ [.int .i64 (y:Int),.int .i64 (m:Int)] [.one (.int .i64)] st K:=by
 unfold monX at hk
 refine JD _ _ st K (LH ?_)
 by_cases hy:1<=y/\y<=9999
 ·rw[decide_eq_true hy]
  refine Aa (p:=False) (fun h=>h.elim) fun _=>Aa (fun g=>?_) fun g=>Aa (fun g2=>?_) fun g2=>?_
  ·rw[if_neg (by omega)]at hk;exact hk
  ·rw[if_neg (by omega)]at hk;exact hk
  ·rw[if_pos (by omega)]at hk
   unfold J2 at hk
   rw[Ai _ (by omega) (by omega)]
   refine Aa (fun g3=>TQ hy.1 hy.2 (Aa (fun g4=>?_) fun g4=>?_)) fun g3=>⟨⟨by omega,by omega⟩,?_⟩
   ·rw[if_pos (by omega),if_pos g4]at hk;exact hk
   ·rw[if_pos (by omega),if_neg g4]at hk
    refine⟨⟨by omega,by omega⟩,?_⟩
    have:m=2:=by omega
    subst this
    exact Ad (x:= .int .i64 28) rfl (Az hk)
   ·rw[if_neg (by omega)]at hk
    obtain⟨k,rfl⟩:∃k,m=k+1:=⟨m-1,by omega⟩
    rw[show(((k+1:Nat):Int)-1)=(k:Int) by omega,Int.toNat_natCast]
    refine Ad (days_ix k (by omega) (by omega)) (Az ?_)
    split
    ·rename_i h;rw[if_pos h]at hk;exact hk
    ·rename_i h;rw[if_neg h]at hk;exact hk
 ·rw[decide_eq_false hy]
  refine Aa (p:=True) (fun _=>?_) fun h=>absurd trivial h
  rw[if_neg (fun h=>hy ⟨h.1,h.2.1⟩)]at hk;exact hk
theorem FS {y:Nat} (h1:1<=y) (h2:y<=1000000) {st:St} {K:Int->St->Prop} (hk:K (yrS y:Nat) st):CallT PR Bq [.int .i64 (y:Int)] [.one (.int .i64)] st K:=by
 refine JB _ st K ?_
 obtain⟨k,rfl⟩:∃k,y=k+1:=⟨y-1,by omega⟩
 unfold yrS at hk
 rw[Nat.add_sub_cancel]at hk
 rw[show(((k+1:Nat):Int)-1)=(k:Int) by omega,Ai (k:Int) (by omega) (by omega),Int.tdiv_eq_ediv_of_nonneg (by omega),Int.tdiv_eq_ediv_of_nonneg (by omega),Int.tdiv_eq_ediv_of_nonneg (by omega)]
 rw[Ai (365*(k:Int)) (by omega) (by omega),Ai ((k:Int)/4) (by omega) (by omega),Ai ((k:Int)/100) (by omega) (by omega),Ai ((k:Int)/400) (by omega) (by omega),Ai (365*(k:Int)+(k:Int)/4) (by omega) (by omega),Ai (365*(k:Int)+(k:Int)/4-(k:Int)/100) (by omega) (by omega),Ai _ (by omega) (by omega)]
 have e:(((365*k+k/4-k/100+k/400:Nat):Nat):Int)=365*(k:Int)+(k:Int)/4-(k:Int)/100+(k:Int)/400:=by omega
 rw[e]at hk;exact hk
theorem LB {n y:Nat} (hy:1<=y) (hy2:y<=9999) (h1:yrS y<=n) (h2:n<yrS (y+1)) (hn:n<=3652058) {st:St} {K:Int->Int->Int->Int->St->Prop} (hk:∀m d:Nat,Fz n y m d->K y m d 0 st):
  ∃(I2:Int->Int->Int->St->Prop) (M2:Int->Int->Int->St->Nat),(I2 1 (i64.wrap ((n:Int)-(yrS y:Nat))) (y:Int) st)/\∀(month_1:Int) (rest_1:Int) (year_2:Int) (st5:St),I2 month_1 rest_1 year_2 st5->(
   CallT PR AQ [.int .i64 year_2,.int .i64 month_1] [.one (.int .i64)] st5 (fun (n3:Int) (st6:St)=>BIf (decide (n3<=rest_1)) (
    CallT PR AQ [.int .i64 year_2,.int .i64 month_1] [.one (.int .i64)] st6 (fun (n4:Int) (st7:St)=>(I2 (i64.wrap (month_1+1)) (i64.wrap (rest_1-n4)) year_2 st7/\M2 (i64.wrap (month_1+1)) (i64.wrap (rest_1-n4)) year_2 st7<M2 month_1 rest_1 year_2 st5)))
    (K year_2 month_1 (i64.wrap (rest_1+1)) 0 st6))):=by
 rw[Ai _ (by omega) (by omega)]
 refine⟨fun mo re ye st'=>(y:Int)=ye/\st=st'/\∃m:Nat,mo=m/\1<=m/\m<=12/\re=((n-yrS y-Ey y m:Nat):Int)/\Ey y m<=n-yrS y,fun mo _ _ _=>(13-mo).toNat,⟨rfl,rfl,1,rfl,by omega,by omega,by show _=((n-yrS y-0:Nat):Int);omega,Nat.zero_le _⟩,?_⟩
 rintro _ _ _ _ ⟨rfl,rfl,m,rfl,hm1,hm2,rfl,hm3⟩
 refine FT (by omega) ?_
 rw[J0 hy hy2 hm1 hm2]
 have hs:=D3 y hm1
 have hle:=J1 y m
 refine Aa (fun g=>FT (by omega) ?_) fun g=>?_
 ·rw[J0 hy hy2 hm1 hm2,Ai _ (by omega) (by omega),Ai _ (by omega) (by omega)]
  have hm:m≠12:=fun e=>by
   subst e
   rw[Jw hy]at h2;omega
  exact⟨⟨rfl,rfl,m+1,by omega,by omega,by omega,by rw[hs];omega,by rw[hs];omega⟩,by dsimp only;omega⟩
 ·rw[Ai _ (by omega) (by omega)]
  have:=hk m (n-yrS y-Ey y m+1) ⟨hy,hy2,hm1,hm2,by omega,by omega,by omega⟩
  exact this
theorem date_ok {n:Nat} (hn:n<=3652058) {st:St} {K:Int->Int->Int->Int->St->Prop} (hk:∀y m d:Nat,Fz n y m d->K y m d 0 st):CallT PR Ea [.int .i64 (n:Int)] [.one (.int .i64),.one (.int .i64),.one (.int .i64),.one (.int .i64)] st K:=by
 refine Ky _ st K (JC _ st _ (Aa (fun _=>?_) fun g=>by omega))
 rw[decide_eq_true (by omega)]
 refine Aa (p:=False) (fun h=>h.elim) fun _=>?_
 rw[Int.tdiv_eq_ediv_of_nonneg (by omega),Ai ((n:Int)/366) (by omega) (by omega),Ai _ (by omega) (by omega)]
 refine⟨fun ye n1 st'=>(n:Int)=n1/\st=st'/\∃y:Nat,ye=y/\1<=y/\y<=9999/\yrS y<=n,fun ye _ _=>(10000-ye).toNat,⟨rfl,rfl,n/366+1,by omega,by omega,by omega,by unfold yrS;rw[Nat.add_sub_cancel];omega⟩,?_⟩
 rintro ye _ _ ⟨rfl,rfl,y,hye,hy1,hy2,hy3⟩
 refine Aa (fun g=>?_) fun g=>?_<;>subst hye
 ·rw[Ai _ (by omega) (by omega),show((y:Int)+1)=((y+1:Nat):Int) by omega]
  refine FS (by omega) (by omega) (Aa (fun g2=>⟨⟨rfl,rfl,y+1,rfl,by omega,by omega,by omega⟩,by dsimp only;omega⟩) fun g2=>FS hy1 (by omega) ?_)
  exact LB hy1 hy2 hy3 (by omega) hn fun m d hd=>hk y m d hd
 ·refine FS hy1 (by omega) ?_
  have:y=9999:=by omega
  have h10:yrS (y+1)=3652059:=by rw[this];rfl
  exact LB hy1 hy2 hy3 (by omega) hn fun m d hd=>hk y m d hd
theorem Uv (y:Nat):∀m,Ey y m<=31*m
 | 0=>Nat.le_refl _
 | 1=>Nat.zero_le _
 | m+2=>by
  have:=Uv y (m+1)
  have:=J1 y (m+1)
  simp only[Ey];omega
def TR (r:Nat) (st:St):Option B8->Prop
 | some s=>r<st.nb/\st.box r= .cells [.str s,.bool false]/\s.length<=1000000
 | none=>r<st.nb/\∃s,st.box r= .cells [.str s,.bool true]/\s.length<=1000000
theorem TR.get {r:Nat} {st:St} {S:Option B8} (h:TR r st S):r<st.nb/\∃s,st.box r= .cells [.str s,.bool S.isNone]/\s.length<=1000000/\(∀x,S=some x->s=x):=by
 cases S with
 | none=>obtain⟨h1,s,h2,h3⟩:=h;exact⟨h1,s,h2,h3,fun x hx=>by cases hx⟩
 | some s=>obtain⟨h1,h2,h3⟩:=h;exact⟨h1,s,h2,h3,fun x hx=>by cases hx;rfl⟩
def TM (r f:Nat) (st:St) (S:Option B8) (l:List TV):Prop:=TR r st S/\f<st.nb/\st.box f= .cells l/\r≠f
theorem I0 {r:Nat} {st:St} {s:B8} {b:Bool} (h:st.box r= .cells [.str s,.bool b]) (hr:r<st.nb) (hl:s.length<=1000000) {K:St->Prop} (hk:∀st',StX (·=r) st st'->TR r st' none->K st'):
  stB st (.box r 1) [.bool true] K:=
 ⟨_,h,by simp,hk _ (StX.put (S:=(·=r)) rfl _) ⟨hr,s,by simp[St.put,setAll],hl⟩⟩
theorem KE {r:Nat} {st:St} {s t:B8} {S:Option B8} (h:TR r st S) (ht:t.length<=1000000) {K:St->Prop} (hk:∀st',StX (·=r) st st'->TR r st' (S.map fun _=>t)->K st'):
  stB st (.box r 0) [.str t] K:=by
 obtain⟨hr,s,hb,hl,_⟩:=h.get
 refine⟨_,hb,by simp,hk _ (StX.put (S:=(·=r)) rfl _) ?_⟩
 cases S with
 | none=>exact⟨hr,t,by simp[St.put,setAll],ht⟩
 | some x=>exact⟨hr,by simp[St.put,setAll],ht⟩
def JZ (w:Nat) (s:B8):Prop:=w<=s.length/\∀i,i<w->AF (s.getD i 0)
instance (w:Nat) (s:B8):Decidable (JZ w s):=inferInstanceAs (Decidable (_/\_))
def Iy (w:Nat) (S:Option B8) (n:Nat) (T:Option B8):Prop:=match S with
 | none=>T=none
 | some s=>if JZ w s then T=some (s.drop w)/\n=BS (s.take w)else T=none
theorem Oy {l:B8} {w:Nat} (hw:w<=l.length) (h:∀i,i<w->AF (l.getD i 0)):BS (l.take w)<10^w:=by
 have h1:=JE (l.take w) fun c hc=>by
  obtain⟨i,hi⟩:=List.getElem?_of_mem hc
  have hl:=(List.getElem?_eq_some_iff.1 hi).1
  rw[List.length_take]at hl
  rw[List.getElem?_take,if_pos (by omega)]at hi
  have:=h i (by omega)
  rwa [List.getD,hi]at this
 rwa [List.length_take,Nat.min_eq_left hw]at h1
theorem FD {r:Nat} {w:Nat} (hw:w<=9) {st:St} {S:Option B8} (h:TR r st S) {K:Int->St->Prop} (hk:∀(n:Nat) st' T,n<10^w->StX (·=r) st st'->TR r st' T->Iy w S n T->K (n:Nat) st'):
  CallT PR Ax [.box r 0,.int .i64 (w:Nat)] [.one (.int .i64)] st K:=by
 obtain⟨hr,s,hb,hl,hx⟩:=h.get
 have hs:Ac st [] (.t (.box r 0)) 0=some (.str s):=by simp[Ac,hb]
 have p10:0<10^w:=Nat.pow_pos (by decide)
 have p18:10^w<=10^9:=Nat.pow_le_pow_right (by decide) hw
 have bad:¬JZ w s->∀st',StX (·=r) st st'->TR r st' none->K ((0:Nat):Int) st':=fun hn st' e h'=>hk 0 st' none p10 e h' (by
  cases S with
  | none=>rfl
  | some x=>rw[<-hx x rfl];show(if JZ w s then _ else _);rw[if_neg hn])
 refine Gq r _ st K (Ad hs (Al (Aa (fun g=>I0 hb hr hl (bad fun h=>by have:=h.1;omega)) fun g=>?_)))
 refine⟨fun n i p w' m st'=> .box r 0=p/\((w:Nat):Int)=w'/\((w:Nat):Int)=m/\st=st'/\∃k:Nat,i=k/\k<=w/\n=(BS (s.take k):Nat)/\∀j,j<k->AF (s.getD j 0),fun _ i _ _ _ _=>(w-i).toNat,⟨rfl,rfl,rfl,rfl,0,rfl,Nat.zero_le _,rfl,fun j h=>absurd h (Nat.not_lt_zero _)⟩,?_⟩
 rintro _ _ _ _ _ _ ⟨rfl,rfl,rfl,rfl,k,rfl,hkw,rfl,hd⟩
 rw[Int.toNat_natCast]
 have hv:=Oy (l:=s) (w:=k) (by omega) hd
 have p1:10^k<=10^9:=Nat.pow_le_pow_right (by decide) (by omega)
 refine Aa (fun g1=>Ab rfl (Ab rfl (Ad hs (Al ⟨⟨by omega,by omega⟩,Aa (fun g2=>?_) fun g2=>Ab rfl (Ab rfl (Ad hs (Al ⟨⟨by omega,by omega⟩,Aa (fun g3=>?_) fun g3=>?_⟩)))⟩)))) fun g1=>?_
 ·exact Ab rfl (Ab rfl (I0 hb hr hl (bad fun h=>by have:=(h.2 k (by omega)).1;omega)))
 ·exact Ab rfl (Ab rfl (I0 hb hr hl (bad fun h=>by have:=(h.2 k (by omega)).2;omega)))
 ·refine Ab rfl (Ab rfl (Ad hs (Al ⟨⟨by omega,by omega⟩,?_⟩)))
  have hsn:=Kz (l:=s) (k:=k) (by omega)
  rw[Mg _ (by omega) (by omega),Ai (10*_) (by omega) (by omega),Ai (((s.getD k 0).toNat:Int)-48) (by omega) (by omega),Ai (_+_) (by omega) (by omega),Ai _ (by omega) (by omega)]
  refine⟨⟨rfl,rfl,rfl,rfl,k+1,by omega,by omega,by rw[hsn];omega,fun j hj=>?_⟩,by dsimp only;omega⟩
  by_cases hjk:j=k
  ·subst hjk;exact⟨by omega,by omega⟩
  ·exact hd j (by omega)
 ·have hkk:k=w:=by omega
  subst hkk
  refine Ab rfl (Ab rfl (Ad hs (Al ⟨⟨by omega,by omega⟩,Ab rfl (Ab rfl (KE (s:=s) h (by rw[List.length_drop];omega) fun st' e h'=>hk _ st' _ hv e h' ?_))⟩)))
  cases S with
  | none=>rfl
  | some x=>
   obtain rfl:=hx x rfl
   show(if JZ k s then _ else _)
   rw[if_pos ⟨by omega,hd⟩]
   exact⟨rfl,rfl⟩
def L3 (of:B8) (S:Option B8) (c:Nat) (T:Option B8):Prop:=match S with
 | none=>T=none
 | some s=>if s.getD 0 0∈of then T=some (s.drop 1)/\c=(s.getD 0 0).toNat else T=none
theorem FC {r:Nat} {of:B8} (hof:(0:UInt8)∉of) (hlo:of.length<=100) {st:St} {S:Option B8} (h:TR r st S) {K:Int->St->Prop} (hk:∀(n:Nat) st' T,n<256->StX (·=r) st st'->TR r st' T->L3 of S n T->K (n:Nat) st'):
  CallT PR AB [.box r 0,.str of] [.one (.int .u8)] st K:=by
 obtain⟨hr,s,hb,hl,hx⟩:=h.get
 have hs:Ac st [] (.t (.box r 0)) 0=some (.str s):=by simp[Ac,hb]
 have bad:s.getD 0 0∉of->∀st',StX (·=r) st st'->TR r st' none->K ((0:Nat):Int) st':=fun hn st' e h'=>hk 0 st' none (by decide) e h' (by
  cases S with
  | none=>rfl
  | some x=>rw[<-hx x rfl];show(if s.getD 0 0∈of then _ else _);rw[if_neg hn])
 refine HK r of st K (Ad hs (Al (Aa (fun g=>?_) fun g=>?_)))
 ·have hpos:0<s.length:=List.length_pos_iff.2 g
  refine⟨fun i p of' m st'=> .box r 0=p/\of=of'/\(of.length:Int)=m/\st=st'/\∃k:Nat,i=k/\k<=of.length/\∀j,j<k->of.getD j 0≠s.getD 0 0,fun i _ _ _ _=>(of.length-i).toNat,⟨rfl,rfl,rfl,rfl,0,rfl,Nat.zero_le _,fun j h=>absurd h (Nat.not_lt_zero _)⟩,?_⟩
  rintro _ _ _ _ _ ⟨rfl,rfl,rfl,rfl,k,rfl,hkw,hd⟩
  rw[Int.toNat_natCast]
  refine Aa (fun g1=>Ab rfl (Ab rfl (Ad hs (Al ⟨⟨by omega,by omega⟩,⟨by omega,g1⟩,Aa (fun g2=>?_) fun g2=>?_⟩)))) fun g1=>?_
  ·have g2':s.getD 0 0=of.getD k 0:=UInt8.toNat_inj.1 (Int.ofNat.inj g2)
   have hmem:s.getD 0 0∈of:=by rw[g2'];exact J9 (by omega)
   refine Ab rfl (Ab rfl (Ad hs (Al ⟨⟨by omega,by omega⟩,Ab rfl (Ab rfl (KE (s:=s) h (by rw[List.length_drop];omega) fun st' e h'=>⟨⟨by omega,g1⟩,hk _ st' _ (UInt8.toNat_lt _) e h' ?_⟩))⟩)))
   cases S with
   | none=>rfl
   | some x=>
    obtain rfl:=hx x rfl
    show(if s.getD 0 0∈of then _ else _)
    rw[if_pos hmem]
    exact⟨rfl,by rw[g2']⟩
  ·rw[Ai _ (by omega) (by omega)]
   refine⟨⟨rfl,rfl,rfl,rfl,k+1,by omega,by omega,fun j hj=>?_⟩,by dsimp only;omega⟩
   by_cases hjk:j=k
   ·subst hjk;exact fun e=>g2 (by rw[e];rfl)
   ·exact hd j (by omega)
  ·refine Ab rfl (Ab rfl (I0 hb hr hl (bad fun hm=>?_)))
   obtain⟨i,hi,he⟩:=List.getElem_of_mem hm
   exact hd i (by omega) (by rw[<-he];simp[List.getD,hi])
 ·have g0:s=[]:=Decidable.not_not.1 g
  exact I0 hb hr hl (bad (by rw[g0];exact hof))
def FracS (S:Option B8) (n:Nat) (T:Option B8):Prop:=match S with
 | none=>T=none
 | some s=>if AC s=[]∨9<(AC s).length then T=none else T=some (s.drop (AC s).length)/\n=RX (AC s)
theorem QT (l:B8):∀k,BS (l++List.replicate k 48)=BS l*10^k
 | 0=>by simp
 | k+1=>by
  rw[List.replicate_succ',<-List.append_assoc]
  have:=QT l k
  unfold BS at this⊢
  rw[JF,this,Nat.pow_succ]
  show 10*(EN 0 l*10^k)+(48-48)=_
  have e:10*(EN 0 l*10^k)=EN 0 l*(10^k*10):=by rw[Nat.mul_left_comm,Nat.mul_comm 10]
  rw[e];rfl
theorem M6 {n k:Nat} (hk:k<=9) (hn:n<10^k) {st:St} {K:Int->St->Prop} (h:K (n*10^(9-k):Nat) st):
  ∃(I:Int->Int->St->Prop) (M:Int->Int->St->Nat),I (n:Nat) (k:Nat) st/\∀(n2 k2:Int) (st5:St),I n2 k2 st5->BIf (decide (k2<9)) (I (i64.wrap (n2*10)) (i64.wrap (k2+1)) st5/\M (i64.wrap (n2*10)) (i64.wrap (k2+1)) st5<M n2 k2 st5) (K n2 st5):=by
 refine⟨fun n2 k2 st5=>st=st5/\∃j:Nat,k2=j/\j<=9/\∃m:Nat,n2=m/\m<10^j/\m*10^(9-j)=n*10^(9-k),fun _ k2 _=>(9-k2).toNat,⟨rfl,k,rfl,hk,n,rfl,hn,rfl⟩,?_⟩
 rintro _ _ _ ⟨rfl,j,rfl,hj,m,rfl,hm,he⟩
 have p9:10^j<=10^9:=Nat.pow_le_pow_right (by decide) hj
 refine Aa (fun g=>?_) fun g=>?_
 ·rw[Ai _ (by omega) (by omega),Ai _ (by omega) (by omega)]
  refine⟨⟨rfl,j+1,by omega,by omega,m*10,by omega,by rw[Nat.pow_succ];omega,?_⟩,by dsimp only;omega⟩
  rw[<-he,Nat.mul_assoc,show 9-j=(9-(j+1))+1 by omega,Nat.pow_succ,Nat.mul_comm 10]
 ·have:j=9:=by omega
  subst this
  rw[Nat.sub_self,Nat.pow_zero,Nat.mul_one]at he
  rw[<-he]at h;exact h
theorem Wl {r:Nat} {st:St} {S:Option B8} (h:TR r st S) {K:Int->St->Prop} (hk:∀(n:Nat) st' T,n<1000000000->StX (·=r) st st'->TR r st' T->FracS S n T->K (n:Nat) st'):
  CallT PR BG [.box r 0] [.one (.int .i64)] st K:=by
 obtain⟨hr,s,hb,hl,hx⟩:=h.get
 have hs:Ac st [] (.t (.box r 0)) 0=some (.str s):=by simp[Ac,hb]
 have bad:(AC s=[]∨9<(AC s).length)->∀st',StX (·=r) st st'->TR r st' none->K ((0:Nat):Int) st':=fun hn st' e h'=>hk 0 st' none (by decide) e h' (by
  cases S with
  | none=>rfl
  | some x=>rw[<-hx x rfl];show(if AC s=[]∨9<(AC s).length then _ else _);rw[if_pos hn])
 refine FB r st K ⟨fun n i p st'=> .box r 0=p/\st=st'/\∃k:Nat,i=k/\k<=s.length/\n=(BS (s.take (min k 9)):Nat)/\∀j,j<k->AF (s.getD j 0),fun _ i _ _=>(s.length-i).toNat,⟨rfl,rfl,0,rfl,Nat.zero_le _,rfl,fun j h=>absurd h (Nat.not_lt_zero _)⟩,?_⟩
 rintro _ _ _ _ ⟨rfl,rfl,k,rfl,hkl,rfl,hd⟩
 rw[Int.toNat_natCast]
 have p18:10^(min k 9)<=10^9:=Nat.pow_le_pow_right (by decide) (by omega)
 have hv:=Oy (l:=s) (w:=min k 9) (by omega) fun i hi=>hd i (by omega)
 have run:(k=s.length∨¬AF (s.getD k 0))->(AC s).length=k:=fun hs=>NE s k hkl hd hs
 have bad0:(k=s.length∨¬AF (s.getD k 0))->((k:Nat):Int)<1->stB st (.box r 1) [.bool true] fun st'=>K ((0:Nat):Int) st':=fun hs g=>I0 hb hr hl (bad (.inl (List.length_eq_zero_iff.1 (by rw[run hs];omega))))
 have bad9:(k=s.length∨¬AF (s.getD k 0))->(9:Int)<((k:Nat):Int)->stB st (.box r 1) [.bool true] fun st'=>K ((0:Nat):Int) st':=fun hs g=>I0 hb hr hl (bad (.inr (by rw[run hs];omega)))
 have good:(k=s.length∨¬AF (s.getD k 0))->¬((k:Nat):Int)<1->¬(9:Int)<((k:Nat):Int)->∀st',StX (·=r) st st'->TR r st' (S.map fun _=>s.drop k)->K ((BS (s.take (min k 9))*10^(9-k):Nat):Int) st':=fun hs g1 g2 st' e h'=>by
  have hrun:=run hs
  have htk:=Jp s
  rw[hrun]at htk
  have hm:min k 9=k:=by omega
  rw[hm]at hv⊢
  have hp:10^9=10^k*10^(9-k):=by rw[<-Nat.pow_add];congr 1;omega
  have hlt:BS (s.take k)*10^(9-k)<1000000000:=by
   have:=Nat.mul_lt_mul_of_pos_right hv (Nat.pow_pos (n:=9-k) (show 0<10 by decide))
   rw[<-hp]at this;exact this
  refine hk _ st' _ hlt e h' ?_
  cases S with
  | none=>rfl
  | some x=>
   obtain rfl:=hx x rfl
   show(if AC s=[]∨9<(AC s).length then _ else _)
   rw[if_neg (by rintro(h0 | h0);rw[h0]at hrun;simp at hrun;omega;omega),hrun]
   refine⟨rfl,?_⟩
   unfold RX
   rw[hrun,QT,htk]
 refine Ab rfl (Ab rfl (Ad hs (Al (Aa (fun g=>Ab rfl (Ab rfl (Ad hs (Al ⟨⟨by omega,g⟩,Aa (fun g1=>Ab rfl (Ab rfl (Ad hs (Al ⟨⟨by omega,g⟩,Aa (fun g2=>?_) fun g2=>?_⟩)))) fun g1=>?_⟩)))) fun g=>?_))))
 ·have hdk:∀j,j<k+1->AF (s.getD j 0):=fun j hj=>by
   by_cases hjk:j=k
   ·subst hjk;exact⟨by omega,by omega⟩
   ·exact hd j (by omega)
  refine Aa (fun g3=>Ab rfl (Ab rfl (Ad hs (Al ⟨⟨by omega,g⟩,?_⟩)))) fun g3=>?_
  ·have hsn:=Kz (l:=s) (k:=k) (by omega)
   have hm:min k 9=k:=by omega
   have hm1:min (k+1) 9=k+1:=by omega
   rw[hm]at hv⊢
   rw[hm]at p18
   rw[Mg _ (by omega) (by omega),Ai (10*_) (by omega) (by omega),Ai (((s.getD k 0).toNat:Int)-48) (by omega) (by omega),Ai (_+_) (by omega) (by omega),Ai _ (by omega) (by omega)]
   exact⟨⟨rfl,rfl,k+1,by omega,by omega,by rw[hm1,hsn];omega,hdk⟩,by dsimp only;omega⟩
  ·rw[Ai _ (by omega) (by omega)]
   exact⟨⟨rfl,rfl,k+1,by omega,by omega,by rw[show min (k+1) 9=min k 9 by omega],hdk⟩,by dsimp only;omega⟩
 ·have hs':k=s.length∨¬AF (s.getD k 0):= .inr fun h=>g2 (by have:=h.2;omega)
  exact Aa (fun g3=>Ab rfl (Ab rfl (bad0 hs' g3))) fun g3=>Aa (fun g4=>Ab rfl (Ab rfl (bad9 hs' g4))) fun g4=>Ab rfl (Ab rfl (Ad hs (Al ⟨⟨by omega,by omega⟩,Ab rfl (Ab rfl (KE (s:=s) h (by rw[List.length_drop];omega) fun st' e h'=>M6 (by omega) (by rw[show min k 9=k by omega]at*;exact hv) (good hs' g3 g4 st' e h')))⟩)))
 ·have hs':k=s.length∨¬AF (s.getD k 0):= .inr fun h=>g1 (by have:=h.1;omega)
  exact Aa (fun g3=>Ab rfl (Ab rfl (bad0 hs' g3))) fun g3=>Aa (fun g4=>Ab rfl (Ab rfl (bad9 hs' g4))) fun g4=>Ab rfl (Ab rfl (Ad hs (Al ⟨⟨by omega,by omega⟩,Ab rfl (Ab rfl (KE (s:=s) h (by rw[List.length_drop];omega) fun st' e h'=>M6 (by omega) (by rw[show min k 9=k by omega]at*;exact hv) (good hs' g3 g4 st' e h')))⟩)))
 ·have hs':k=s.length∨¬AF (s.getD k 0):= .inl (by omega)
  exact Aa (fun g3=>Ab rfl (Ab rfl (bad0 hs' g3))) fun g3=>Aa (fun g4=>Ab rfl (Ab rfl (bad9 hs' g4))) fun g4=>Ab rfl (Ab rfl (Ad hs (Al ⟨⟨by omega,by omega⟩,Ab rfl (Ab rfl (KE (s:=s) h (by rw[List.length_drop];omega) fun st' e h'=>M6 (by omega) (by rw[show min k 9=k by omega]at*;exact hv) (good hs' g3 g4 st' e h')))⟩)))
abbrev rfS (r f:Nat):Nat->Prop:=fun b=>b=r∨b=f
theorem TM.step {r f:Nat} {st st':St} {S T:Option B8} {l:List TV} (h:TM r f st S l) (e:StX (·=r) st st') (h':TR r st' T):TM r f st' T l:=
 ⟨h',Nat.lt_of_lt_of_le h.2.1 e.nb,(e.box f h.2.1 fun g=>h.2.2.2 g.symm).trans h.2.2.1,h.2.2.2⟩
theorem TM.put {r f i:Nat} {st:St} {S:Option B8} {l:List TV} {v:TV} (h:TM r f st S l) (hi:i<l.length) {K:St->Prop} (hk:∀st',StX (rfS r f) st st'->TM r f st' S (l.set i v)->K st'):stB st (.box f i) [v] K:=by
 obtain⟨h1,h2,h3,h4⟩:=h
 refine⟨_,h3,by simp;omega,hk _ (StX.put (S:=rfS r f) (.inr rfl) _) ⟨?_,h2,by simp[St.put,setAll],h4⟩⟩
 have hne:((st.put f (.cells (setAll l i [v]))).box r)=st.box r:=by simp only[St.put];rw[if_neg h4]
 cases S with
 | none=>obtain⟨a1,s,a2,a3⟩:=h1;exact⟨a1,s,hne.trans a2,a3⟩
 | some s=>obtain⟨a1,a2,a3⟩:=h1;exact⟨a1,hne.trans a2,a3⟩
theorem HB {r f:Nat} {a b:St} (e:StX (·=r) a b):StX (rfS r f) a b:=e.mono fun _ h=> .inl h
def fcT (y mo d h mi sc nn sg oh om:Nat):List TV:=[.int .i64 (y:Nat),.int .i64 (mo:Nat),.int .i64 (d:Nat),.int .i64 (h:Nat),.int .i64 (mi:Nat),.int .i64 (sc:Nat),.int .i64 (nn:Nat),.int .u8 (sg:Nat),.int .i64 (oh:Nat),.int .i64 (om:Nat)]
theorem Iy.pos {w n:Nat} {s:B8} {T:Option B8} (h:Iy w (some s) n T) (f:JZ w s):T=some (s.drop w)/\n=BS (s.take w):=by
 change (if JZ w s then _ else _)at h
 rwa [if_pos f]at h
theorem Iy.neg {w n:Nat} {s:B8} {T:Option B8} (h:Iy w (some s) n T) (f:¬JZ w s):T=none:=by
 change (if JZ w s then _ else _)at h
 rwa [if_neg f]at h
theorem L3.pos {of:B8} {n:Nat} {s:B8} {T:Option B8} (h:L3 of (some s) n T) (f:s.getD 0 0∈of):T=some (s.drop 1)/\n=(s.getD 0 0).toNat:=by
 change (if s.getD 0 0∈of then _ else _)at h
 rwa [if_pos f]at h
theorem L3.neg {of:B8} {n:Nat} {s:B8} {T:Option B8} (h:L3 of (some s) n T) (f:s.getD 0 0∉of):T=none:=by
 change (if s.getD 0 0∈of then _ else _)at h
 rwa [if_neg f]at h
theorem Hh (s:B8) (k i:Nat):b0 (s.drop k) i=b0 s (k+i):=by simp[b0,List.getD]
theorem dd_drop (s:B8) (k i:Nat):dd (s.drop k) i↔dd s (k+i):=by
 unfold dd
 rw[Hh,Hh,Nat.add_assoc]
theorem d2_drop (s:B8) (k i:Nat):d2 (s.drop k) i=d2 s (k+i):=by
 unfold d2 dv
 rw[Hh,Hh,Nat.add_assoc]
theorem XU {s:B8} {k:Nat} (h:AF (b0 s k)):k<s.length:=by
 by_cases hk:k<s.length
 ·exact hk
 ·rw[show b0 s k=0 by simp[b0,List.getD,Nat.le_of_not_lt hk]]at h
  exact absurd h (by decide)
theorem numF2 (s:B8):JZ 2 s↔dd s 0:=by
 constructor
 ·intro h;exact⟨h.2 0 (by omega),h.2 1 (by omega)⟩
 ·intro h
  have:=XU h.2
  exact⟨by omega,fun i hi=>by
   rcases (by omega:i=0∨i=1)with rfl | rfl
   ·exact h.1
   ·exact h.2⟩
theorem Ut (s:B8):JZ 4 s↔dd s 0/\dd s 2:=by
 constructor
 ·intro h;exact⟨⟨h.2 0 (by omega),h.2 1 (by omega)⟩,⟨h.2 2 (by omega),h.2 3 (by omega)⟩⟩
 ·intro h
  have:=XU h.2.2
  exact⟨by omega,fun i hi=>by
   rcases (by omega:i=0∨i=1∨i=2∨i=3)with rfl | rfl | rfl | rfl
   ·exact h.1.1
   ·exact h.1.2
   ·exact h.2.1
   ·exact h.2.2⟩
theorem val2 {s:B8} (h:JZ 2 s):BS (s.take 2)=d2 s 0:=by
 rcases s with _ | ⟨a,_ | ⟨b,r⟩⟩
 ·exact absurd h.1 (by simp)
 ·exact absurd h.1 (by simp)
 ·show 10*(10*0+(a.toNat-48))+(b.toNat-48)=(a.toNat-48)*10+(b.toNat-48)
  omega
theorem val4 {s:B8} (h:JZ 4 s):BS (s.take 4)=d2 s 0*100+d2 s 2:=by
 rcases s with _ | ⟨a,_ | ⟨b,_ | ⟨c,_ | ⟨d,r⟩⟩⟩⟩
 ·exact absurd h.1 (by simp)
 ·exact absurd h.1 (by simp)
 ·exact absurd h.1 (by simp)
 ·exact absurd h.1 (by simp)
 ·show 10*(10*(10*(10*0+(a.toNat-48))+(b.toNat-48))+(c.toNat-48))+(d.toNat-48)=((a.toNat-48)*10+(b.toNat-48))*100+((c.toNat-48)*10+(d.toNat-48))
  omega
theorem one1 {s:B8} {c:UInt8}:s.getD 0 0∈ [c]↔b0 s 0=c:=by rw[List.mem_singleton];rfl
theorem FE {s:B8} {k m n:Nat} {T:Option B8} (hm:k+2=m) (h:Iy 2 (some (s.drop k)) n T):(dd s k->T=some (s.drop m)/\n=d2 s k)/\(¬dd s k->T=none):=by
 have e:JZ 2 (s.drop k)↔dd s k:=by rw[numF2,dd_drop];rfl
 constructor
 ·intro f
  have f':=e.2 f
  obtain⟨h1,h2⟩:=h.pos f'
  exact⟨by rw[h1,List.drop_drop,hm],by rw[h2,val2 f',d2_drop];rfl⟩
 ·intro f;exact h.neg fun g=>f (e.1 g)
theorem ID {s:B8} {k m n:Nat} {c:UInt8} {T:Option B8} (hm:k+1=m) (h:L3 [c] (some (s.drop k)) n T):(b0 s k=c->T=some (s.drop m))/\(b0 s k≠c->T=none):=by
 have e:(s.drop k).getD 0 0∈ [c]↔b0 s k=c:=by rw[one1,Hh];rfl
 exact⟨fun f=>by rw[(h.pos (e.2 f)).1,List.drop_drop,hm],fun f=>h.neg fun g=>f (e.1 g)⟩
theorem step4 {s:B8} {n:Nat} {T:Option B8} (h:Iy 4 (some s) n T):(dd s 0/\dd s 2->T=some (s.drop 4)/\n=d2 s 0*100+d2 s 2)/\(¬(dd s 0/\dd s 2)->T=none):=
 ⟨fun f=>⟨(h.pos ((Ut s).2 f)).1,by rw[(h.pos ((Ut s).2 f)).2,val4 ((Ut s).2 f)]⟩,fun f=>h.neg fun g=>f ((Ut s).1 g)⟩
theorem VS {s:B8} {y c m c' d:Nat} {T1 T2 T3 T4 T5:Option B8} (s1:Iy 4 (some s) y T1) (s2:L3 [45] T1 c T2) (s3:Iy 2 T2 m T3) (s4:L3 [45] T3 c' T4) (s5:Iy 2 T4 d T5):
  (Dx s->T5=some (s.drop 10)/\y=d2 s 0*100+d2 s 2/\m=d2 s 5/\d=d2 s 8)/\(¬Dx s->T5=none):=by
 by_cases f1:dd s 0/\dd s 2
 ·obtain⟨rfl,v1⟩:=(step4 s1).1 f1
  by_cases f2:b0 s 4=45
  ·obtain rfl:=(ID (m:=5) rfl s2).1 f2
   by_cases f3:dd s 5
   ·obtain⟨rfl,v3⟩:=(FE (m:=7) rfl s3).1 f3
    by_cases f4:b0 s 7=45
    ·obtain rfl:=(ID (m:=8) rfl s4).1 f4
     by_cases f5:dd s 8
     ·obtain⟨rfl,v5⟩:=(FE (m:=10) rfl s5).1 f5
      exact⟨fun _=>⟨rfl,v1,v3,v5⟩,fun h=>absurd ⟨f1.1,f1.2,f2,f3,f4,f5⟩ h⟩
     ·exact⟨fun h=>absurd h.2.2.2.2.2 f5,fun _=>(FE (m:=10) rfl s5).2 f5⟩
    ·obtain rfl:=(ID (m:=8) rfl s4).2 f4
     exact⟨fun h=>absurd h.2.2.2.2.1 f4,fun _=>s5⟩
   ·obtain rfl:=(FE (m:=7) rfl s3).2 f3
    obtain rfl:T4=none:=s4
    exact⟨fun h=>absurd h.2.2.2.1 f3,fun _=>s5⟩
  ·obtain rfl:=(ID (m:=5) rfl s2).2 f2
   obtain rfl:T3=none:=s3
   obtain rfl:T4=none:=s4
   exact⟨fun h=>absurd h.2.2.1 f2,fun _=>s5⟩
 ·obtain rfl:=(step4 s1).2 f1
  obtain rfl:T2=none:=s2
  obtain rfl:T3=none:=s3
  obtain rfl:T4=none:=s4
  exact⟨fun h=>absurd ⟨h.1,h.2.1⟩ f1,fun _=>s5⟩
def DateS (S:Option B8) (y m d:Nat) (T:Option B8):Prop:=match S with
 | none=>T=none
 | some s=>(Dx s->T=some (s.drop 10)/\y=d2 s 0*100+d2 s 2/\m=d2 s 5/\d=d2 s 8)/\(¬Dx s->T=none)
theorem Q3 {r f:Nat} {st:St} {S:Option B8} {h mi sc nn sg oh om:Nat} (hm:TM r f st S (fcT 0 0 0 h mi sc nn sg oh om)) {K:St->Prop}
  (hk:∀y mo d st' T,y<10000->mo<100->d<100->StX (rfS r f) st st'->TM r f st' T (fcT y mo d h mi sc nn sg oh om)->DateS S y mo d T->K st'):CallT PR BD [.box r 0,.box f 0] [] st K:=by
 refine Ht r f st K (FD (w:=4) (by decide) hm.1 fun y st1 T1 b1 e1 h1 s1=>(hm.step e1 h1).put (by simp[fcT]) fun st2 e2 m2=>?_)
 refine FC (of:=[45]) (by decide) (by decide) m2.1 fun c st3 T3 b3 e3 h3 s3=>FD (w:=2) (by decide) h3 fun mo st4 T4 b4 e4 h4 s4=>((m2.step e3 h3).step e4 h4).put (by simp[fcT]) fun st5 e5 m5=>?_
 refine FC (of:=[45]) (by decide) (by decide) m5.1 fun c' st6 T6 b6 e6 h6 s6=>FD (w:=2) (by decide) h6 fun d st7 T7 b7 e7 h7 s7=>((m5.step e6 h6).step e7 h7).put (by simp[fcT]) fun st8 e8 m8=>?_
 refine hk y mo d st8 T7 b1 b4 b7 ((((((((HB e1).trans e2).trans (HB e3)).trans (HB e4)).trans e5).trans (HB e6)).trans (HB e7)).trans e8) m8 ?_
 cases S with
 | some s=>exact VS s1 s3 s4 s6 s7
 | none=>
  have:=(show T1=none from s1)
  subst this
  have:=(show T3=none from s3)
  subst this
  have:=(show T4=none from s4)
  subst this
  have:=(show T6=none from s6)
  subst this
  exact s7
theorem TG {s:B8} {h c m c' d:Nat} {T1 T2 T3 T4 T5:Option B8} (s1:Iy 2 (some s) h T1) (s2:L3 [58] T1 c T2) (s3:Iy 2 T2 m T3) (s4:L3 [58] T3 c' T4) (s5:Iy 2 T4 d T5):
  (Ka s->T5=some (s.drop 8)/\h=d2 s 0/\m=d2 s 3/\d=d2 s 6)/\(¬Ka s->T5=none):=by
 have s1':Iy 2 (some (s.drop 0)) h T1:=by rw[List.drop_zero];exact s1
 by_cases f1:dd s 0
 ·obtain⟨rfl,v1⟩:=(FE (m:=2) rfl s1').1 f1
  by_cases f2:b0 s 2=58
  ·obtain rfl:=(ID (m:=3) rfl s2).1 f2
   by_cases f3:dd s 3
   ·obtain⟨rfl,v3⟩:=(FE (m:=5) rfl s3).1 f3
    by_cases f4:b0 s 5=58
    ·obtain rfl:=(ID (m:=6) rfl s4).1 f4
     by_cases f5:dd s 6
     ·obtain⟨rfl,v5⟩:=(FE (m:=8) rfl s5).1 f5
      exact⟨fun _=>⟨rfl,v1,v3,v5⟩,fun h=>absurd ⟨f1,f2,f3,f4,f5⟩ h⟩
     ·exact⟨fun h=>absurd h.2.2.2.2 f5,fun _=>(FE (m:=8) rfl s5).2 f5⟩
    ·obtain rfl:=(ID (m:=6) rfl s4).2 f4
     exact⟨fun h=>absurd h.2.2.2.1 f4,fun _=>s5⟩
   ·obtain rfl:=(FE (m:=5) rfl s3).2 f3
    obtain rfl:T4=none:=s4
    exact⟨fun h=>absurd h.2.2.1 f3,fun _=>s5⟩
  ·obtain rfl:=(ID (m:=3) rfl s2).2 f2
   obtain rfl:T3=none:=s3
   obtain rfl:T4=none:=s4
   exact⟨fun h=>absurd h.2.1 f2,fun _=>s5⟩
 ·obtain rfl:=(FE (m:=2) rfl s1').2 f1
  obtain rfl:T2=none:=s2
  obtain rfl:T3=none:=s3
  obtain rfl:T4=none:=s4
  exact⟨fun h=>absurd h.1 f1,fun _=>s5⟩
def So (S:Option B8) (h mi sc nn:Nat) (T:Option B8):Prop:=match S with
 | none=>T=none
 | some s=>match HD s with
  | none=>T=none
  | some (h',mi',sc',f',r')=>T=some r'/\h=h'/\mi=mi'/\sc=sc'/\nn=f'
theorem TR.src {r:Nat} {st:St} {S:Option B8} (h:TR r st S):∃s,Ac st [] (.t (.box r 0)) 0=some (.str s)/\s.length<=1000000/\∀x,S=some x->s=x:=by
 obtain⟨_,s,hb,hl,hx⟩:=h.get
 exact⟨s,by simp[Ac,hb],hl,hx⟩
theorem KI {r f:Nat} {st:St} {S:Option B8} {y mo d sg oh om:Nat} (hm:TM r f st S (fcT y mo d 0 0 0 0 sg oh om)) {K:St->Prop}
  (hk:∀h mi sc nn st' T,h<100->mi<100->sc<100->nn<1000000000->StX (rfS r f) st st'->TM r f st' T (fcT y mo d h mi sc nn sg oh om)->So S h mi sc nn T->K st'):CallT PR A6 [.box r 0,.box f 0] [] st K:=by
 refine GL r f st K (FD (w:=2) (by decide) hm.1 fun y st1 T1 b1 e1 h1 s1=>(hm.step e1 h1).put (by simp[fcT]) fun st2 e2 m2=>?_)
 refine FC (of:=[58]) (by decide) (by decide) m2.1 fun c st3 T3 b3 e3 h3 s3=>FD (w:=2) (by decide) h3 fun mo st4 T4 b4 e4 h4 s4=>((m2.step e3 h3).step e4 h4).put (by simp[fcT]) fun st5 e5 m5=>?_
 refine FC (of:=[58]) (by decide) (by decide) m5.1 fun c' st6 T6 b6 e6 h6 s6=>FD (w:=2) (by decide) h6 fun d st7 T7 b7 e7 h7 s7=>((m5.step e6 h6).step e7 h7).put (by simp[fcT]) fun st8 e8 m8=>?_
 have E:=(((((((HB e1).trans e2).trans (HB e3)).trans (HB e4)).trans e5).trans (HB e6)).trans (HB e7)).trans e8
 have comb:∀s,S=some s->(Ka s->T7=some (s.drop 8)/\y=d2 s 0/\mo=d2 s 3/\d=d2 s 6)/\(¬Ka s->T7=none):=fun s hs=>by
  subst hs;exact TG s1 s3 s4 s6 s7
 have nn:S=none->T7=none:=fun hs=>by
  subst hs
  obtain rfl:T1=none:=s1
  obtain rfl:T3=none:=s3
  obtain rfl:T4=none:=s4
  obtain rfl:T6=none:=s6
  exact s7
 clear s1 s3 s4 s6 s7 m2 m5
 obtain⟨t,ht,hl,hx⟩:=m8.1.src
 have plain:(∀x,T7=some x->b0 x 0≠46)->K st8:=fun hp=>hk y mo d 0 st8 T7 b1 b4 b7 (by decide) E m8 (by
  cases S with
  | none=>exact nn rfl
  | some s=>
   unfold So;dsimp only
   obtain⟨c1,c2⟩:=comb s rfl
   unfold HD
   by_cases fc:Ka s
   ·obtain⟨rfl,v1,v2,v3⟩:=c1 fc
    rw[if_pos fc,if_neg (by have:=hp _ rfl;rw[Hh]at this;exact this)]
    exact⟨rfl,v1,v2,v3,rfl⟩
   ·rw[if_neg fc];exact c2 fc)
 refine Ad ht (Al (Aa (fun g=>Ad ht (Al ⟨⟨by omega,by have:=List.length_pos_iff.2 g;omega⟩,Aa (fun g1=>?_) fun g1=>?_⟩)) fun g=>?_))
 ·have hpos:=List.length_pos_iff.2 g
  refine Ad ht (Al ⟨⟨by omega,by omega⟩,KE (s:=t) m8.1 (by rw[List.length_drop];omega) fun st9 e9 h9=>?_⟩)
  refine Wl h9 fun n st10 T10 b10 e10 h10 s10=>((m8.step e9 h9).step e10 h10).put (by simp[fcT]) fun st11 e11 m11=>?_
  refine hk y mo d n st11 T10 b1 b4 b7 b10 (((E.trans (HB e9)).trans (HB e10)).trans e11) m11 ?_
  have g46:b0 t 0=46:=(u8i (k:=46)).1 g1
  cases S with
  | none=>
   obtain rfl:=nn rfl
   exact s10
  | some s=>
   unfold So;dsimp only
   obtain⟨c1,c2⟩:=comb s rfl
   unfold HD
   by_cases fc:Ka s
   ·obtain⟨rfl,v1,v2,v3⟩:=c1 fc
    obtain rfl:=hx _ rfl
    rw[Hh]at g46
    rw[if_pos fc,if_pos g46]
    have hd9:(s.drop 8).drop (Int.toNat 1)=s.drop 9:=by rw[List.drop_drop];rfl
    have s11:FracS (some (s.drop 9)) n T10:=by rw[<-hd9];exact s10
    change (if _ then _ else _)at s11
    by_cases hf:AC (s.drop 9)=[]∨9<(AC (s.drop 9)).length
    ·rw[if_pos hf]at s11
     rw[if_pos hf];exact s11
    ·rw[if_neg hf]at s11
     rw[if_neg hf]
     refine⟨?_,v1,v2,v3,s11.2⟩
     rw[s11.1,List.drop_drop]
   ·obtain rfl:=c2 fc
    rw[if_neg fc];exact s10
 ·exact plain fun x hx'=>by
   obtain rfl:=hx x hx'
   exact fun h=>g1 ((u8i (k:=46)).2 h)
 ·have g0:t=[]:=Decidable.not_not.1 g
  exact plain fun x hx'=>by
   obtain rfl:=hx x hx'
   rw[g0];decide
end Go.TVF
