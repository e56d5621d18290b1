/- What the laws below rest on: a framework for Go programs, and contracts of the functions that they reach. -/
import Derived.Test.YtahjbepjlconkaaGreatDoorZqC
import Derived.Lib.DecodeN
set_option maxRecDepth 20000
set_option linter.unusedVariables false
set_option linter.unusedSimpArgs false
namespace Go.TVF
open Go.IntKind(i64 u8)
open Go Go.Proofs
section
def BQ (st:St) (sz:Nat) (u:TV) (n:Nat) (xs:List TV) (bs:List Nat):Prop:=
 (n=0/\xs=[]/\bs=[]/\(u= .nilSlice∨u= .list sz .full 0 []))∨∃b cap tail,u= .ms sz b 0 n cap/\b<st.nb/\st.box b= .cells (xs++tail)/\(xs++tail).length=cap*sz/\xs.length=n*sz/\n<=cap/\bs=[b]
theorem BQ.rd {st:St} {sz n:Nat} {u:TV} {xs:List TV} {bs:List Nat} (h:BQ st sz u n xs bs):SlR st sz u n xs:=by
 rcases h with⟨rfl,rfl,rfl,rfl | rfl⟩ | ⟨b,cap,tail,rfl,h1,h2,h3,h4,h5,rfl⟩
 ·exact .inl (.inl ⟨rfl,rfl,rfl⟩)
 ·exact .inl (.inr ⟨_,rfl⟩)
 ·exact .inr ⟨b,0,cap,_,rfl,h1,h2,by omega,h5,by rw[List.drop_zero,<-h4,List.take_left]⟩
theorem BQ.frame {S:Nat->Prop} {st st':St} (e:StX S st st') {sz n:Nat} {u:TV} {xs:List TV} {bs:List Nat} (hs:∀x,x∈bs->¬S x) (h:BQ st sz u n xs bs):BQ st' sz u n xs bs:=by
 rcases h with h | ⟨b,cap,tail,rfl,h1,h2,h3,h4,h5,rfl⟩
 ·exact .inl h
 ·exact .inr ⟨b,cap,tail,rfl,Nat.lt_of_lt_of_le h1 e.nb,(e.box b h1 (hs b (.head _))).trans h2,h3,h4,h5,rfl⟩
theorem BQ.lt {st:St} {sz n:Nat} {u:TV} {xs:List TV} {bs:List Nat} (h:BQ st sz u n xs bs):∀x,x∈bs->x<st.nb:=by
 rcases h with⟨_,_,rfl,_⟩ | ⟨b,cap,tail,rfl,h1,h2,h3,h4,h5,rfl⟩
 ·intro x hx;cases hx
 ·intro x hx;rcases List.mem_singleton.1 hx with rfl;exact h1
mutual
def VlO (st:St):Vl->List TV->List Nat->Prop
 | .mk s l f,cs,fp=>∃ub ul uf xl xf bb bl bf fl ff,cs=[.int .i64 s.kind,.bool s.b,.bool s.neg,.str s.dg,.int .i64 s.ex,.int .i64 s.tk,.int .i64 s.td,.int .i64 s.tn,.int .i64 s.tz,.str s.text,ub,ul,uf]/\
   BQ st 1 ub s.bytes.length (AV s.bytes) bb/\BQ st 13 ul l.length xl bl/\VsO st l xl fl/\BQ st 14 uf f.length xf bf/\FsO st f xf ff/\fp=bb++(bl++(fl++(bf++ff)))
def VsO (st:St):List Vl->List TV->List Nat->Prop
 | [],xs,fp=>xs=[]/\fp=[]
 | v::r,xs,fp=>∃a b p q,xs=a++b/\fp=p++q/\VlO st v a p/\VsO st r b q
def FdO (st:St):Fd->List TV->List Nat->Prop
 | .mk k v,xs,fp=>∃cs,xs= .str k::cs/\VlO st v cs fp
def FsO (st:St):List Fd->List TV->List Nat->Prop
 | [],xs,fp=>xs=[]/\fp=[]
 | d::r,xs,fp=>∃a b p q,xs=a++b/\fp=p++q/\FdO st d a p/\FsO st r b q
end
mutual
theorem VlO.frame {S:Nat->Prop} {st st':St} (e:StX S st st'):∀{v:Vl} {cs:List TV} {fp:List Nat},(∀x,x∈fp->¬S x)->VlO st v cs fp->VlO st' v cs fp
 | .mk s l f,cs,fp,hs,h=>by
  unfold VlO at h⊢;obtain⟨ub,ul,uf,xl,xf,bb,bl,bf,fl,ff,h0,h1,h2,h3,h4,h5,h6⟩:=h;subst h6;simp only[List.mem_append]at hs;exact⟨ub,ul,uf,xl,xf,bb,bl,bf,fl,ff,h0,h1.frame e (λx hx=>hs x (.inl hx)),h2.frame e (λx hx=>hs x (.inr (.inl hx))),VsO.frame e (λx hx=>hs x (.inr (.inr (.inl hx)))) h3,
   h4.frame e (λx hx=>hs x (.inr (.inr (.inr (.inl hx))))),FsO.frame e (λx hx=>hs x (.inr (.inr (.inr (.inr hx))))) h5,rfl⟩
theorem VsO.frame {S:Nat->Prop} {st st':St} (e:StX S st st'):∀{l:List Vl} {cs:List TV} {fp:List Nat},(∀x,x∈fp->¬S x)->VsO st l cs fp->VsO st' l cs fp
 | [],cs,fp,hs,h=>by unfold VsO at h⊢;exact h
 | v::r,cs,fp,hs,h=>by
  unfold VsO at h⊢;obtain⟨a,b,p,q,h0,rfl,h1,h2⟩:=h;simp only[List.mem_append]at hs;exact⟨a,b,p,q,h0,rfl,VlO.frame e (λx hx=>hs x (.inl hx)) h1,VsO.frame e (λx hx=>hs x (.inr hx)) h2⟩
theorem FdO.frame {S:Nat->Prop} {st st':St} (e:StX S st st'):∀{d:Fd} {cs:List TV} {fp:List Nat},(∀x,x∈fp->¬S x)->FdO st d cs fp->FdO st' d cs fp
 | .mk key v,cs,fp,hs,h=>by
  unfold FdO at h⊢;obtain⟨c,h0,h1⟩:=h;exact⟨c,h0,VlO.frame e hs h1⟩
theorem FsO.frame {S:Nat->Prop} {st st':St} (e:StX S st st'):∀{l:List Fd} {cs:List TV} {fp:List Nat},(∀x,x∈fp->¬S x)->FsO st l cs fp->FsO st' l cs fp
 | [],cs,fp,hs,h=>by unfold FsO at h⊢;exact h
 | d::r,cs,fp,hs,h=>by
  unfold FsO at h⊢;obtain⟨a,b,p,q,h0,rfl,h1,h2⟩:=h;simp only[List.mem_append]at hs;exact⟨a,b,p,q,h0,rfl,FdO.frame e (λx hx=>hs x (.inl hx)) h1,FsO.frame e (λx hx=>hs x (.inr hx)) h2⟩
end
theorem VsO.snoc {st:St} {v:Vl} {cv:List TV} {pv:List Nat}:∀{l:List Vl} {xs:List TV} {fp:List Nat},VsO st l xs fp->VlO st v cv pv->VsO st (l++[v]) (xs++cv) (fp++pv)
 | [],xs,fp,h,hv=>by
  unfold VsO at h;obtain⟨rfl,rfl⟩:=h;show VsO st [v] _ _;unfold VsO;exact⟨cv,[],pv,[],by simp,by simp,hv,by unfold VsO;exact⟨rfl,rfl⟩⟩
 | w::r,xs,fp,h,hv=>by
  unfold VsO at h;obtain⟨a,b,p,q,rfl,rfl,h1,h2⟩:=h;show VsO st (w::(r++[v])) _ _;unfold VsO;exact⟨a,b++cv,p,q++pv,by simp,by simp,h1,VsO.snoc h2 hv⟩
theorem FsO.snoc {st:St} {d:Fd} {cv:List TV} {pv:List Nat}:∀{l:List Fd} {xs:List TV} {fp:List Nat},FsO st l xs fp->FdO st d cv pv->FsO st (l++[d]) (xs++cv) (fp++pv)
 | [],xs,fp,h,hv=>by
  unfold FsO at h;obtain⟨rfl,rfl⟩:=h;show FsO st [d] _ _;unfold FsO;exact⟨cv,[],pv,[],by simp,by simp,hv,by unfold FsO;exact⟨rfl,rfl⟩⟩
 | w::r,xs,fp,h,hv=>by
  unfold FsO at h;obtain⟨a,b,p,q,rfl,rfl,h1,h2⟩:=h;show FsO st (w::(r++[d])) _ _;unfold FsO;exact⟨a,b++cv,p,q++pv,by simp,by simp,h1,FsO.snoc h2 hv⟩
theorem Xh (xs ys tail:List TV) (h:ys.length<=tail.length):setAll (xs++tail) xs.length ys=xs++ys++tail.drop ys.length:=by
 have e:tail=tail.take ys.length++tail.drop ys.length:=(List.take_append_drop _ _).symm;have:=Mp ys xs (tail.take ys.length) (tail.drop ys.length) (by simp;omega);rw[List.append_assoc,List.take_append_drop]at this;exact this
theorem G9 {T sz bytes:Nat} {st:St} {u:TV} {n k:Nat} {xs ys:List TV} {bs:List Nat} {K:TV->St->Prop} (h:BQ st sz u n xs bs) (hk1:0<k) (hy:ys.length=k*sz) (hby:(n+k)*bytes<=140737488355328)
  (hK:∀u' st' bs',BQ st' sz u' (n+k) (xs++ys) bs'->StX (·∈bs) st st'->((bs'=bs/\bs≠ [])∨bs'=[st.nb])->K u' st'):Jb T sz bytes u k ys st K:=by
 obtain⟨m,rfl⟩:∃m,k=m+1:=⟨k-1,by omega⟩;have fresh:∀(zs:List TV) (N cap:Nat),zs.length=N*sz->N<=cap->BQ (st.push (.cells (zs++Ia ((cap-N)*sz))) (some T)) sz (.ms sz st.nb 0 N cap) N zs [st.nb]:=λzs N cap h1 h2=>
  .inr ⟨st.nb,cap,Ia ((cap-N)*sz),rfl,by simp[St.push],by simp[St.push],by rw[List.length_append,h1];simp only[Ia,List.length_replicate];rw[<-Nat.add_mul];congr 1;omega,h1,h2,rfl⟩
 rcases h with⟨rfl,rfl,rfl,rfl | rfl⟩ | ⟨b,cap,tail,rfl,h1,h2,h3,h4,h5,rfl⟩
 ·simp only[Jb,Al]
  refine⟨by simpa using hby,λcap hc=>hK _ _ [st.nb] ?_ (StX.of ((Ag.refl st).push _ _)) (.inr rfl)⟩;have:=fresh ys (m+1) cap hy hc;simpa using this
 ·simp only[Jb,Nat.beq_refl]
  refine⟨hby,λcap hc=>hK _ _ [st.nb] ?_ (StX.of ((Ag.refl st).push _ _)) (.inr rfl)⟩;have:=fresh ys (0+(m+1)) cap (by rw[hy];congr 1;omega) hc;simpa using this
 ·simp only[Jb,Nat.beq_refl]
  rw[List.length_append]at h3;refine⟨hby,_,h2,by rw[List.length_append];omega,λhc=>?_,λhc cap' hc'=>?_⟩
  ·have hmul:(n+(m+1))*sz<=cap*sz:=Nat.mul_le_mul_right _ hc
   rw[Nat.add_mul]at hmul;rw[Nat.zero_add,<-h4,Xh xs ys tail (by omega)];refine hK _ _ [b] (.inr ⟨b,cap,tail.drop ys.length,rfl,h1,by simp[St.put],by simp only[List.length_append,List.length_drop];omega,by rw[List.length_append,h4,hy,<-Nat.add_mul],hc,rfl⟩) (StX.put (S:=(·∈ [b])) (.head _) _) (.inl ⟨rfl,by simp⟩)
  ·rw[List.drop_zero,<-h4,List.take_left]
   exact hK _ _ [st.nb] (fresh (xs++ys) (n+(m+1)) cap' (by rw[List.length_append,h4,hy,<-Nat.add_mul]) hc') (StX.of ((Ag.refl st).push _ _)) (.inr rfl)
end
section
mutual
def Vl.sz:Vl->Nat
 | .mk s l f=>1+s.bytes.length+s.text.length+s.dg.length+E5 l+Ev f
def E5:List Vl->Nat
 | []=>0
 | v::r=>v.sz+E5 r
def Fd.sz:Fd->Nat
 | .mk k v=>k.length+v.sz
def Ev:List Fd->Nat
 | []=>0
 | d::r=>d.sz+Ev r
end
theorem Vl.sz_pos (v:Vl):1<=v.sz:=by cases v;unfold Vl.sz;omega
theorem Hc:∀l:List Vl,l.length<=E5 l
 | []=>Nat.le_refl _
 | v::r=>by have:=Hc r;have:=v.sz_pos;unfold E5;simp only[List.length_cons];omega
theorem Gq:∀l:List Fd,l.length<=Ev l
 | []=>Nat.le_refl _
 | .mk k v::r=>by have:=Gq r;have:=v.sz_pos;unfold Ev Fd.sz;simp only[List.length_cons];omega
theorem MQ:∀{l:List Vl} {i:Nat} {v:Vl},l[i]? =some v->v.sz<=E5 l
 | [],i,v,h=>by simp at h
 | w::r,0,v,h=>by simp at h;subst h;unfold E5;omega
 | w::r,i+1,v,h=>by have:=MQ (by simpa using h:r[i]? =some v);unfold E5;omega
theorem Nz:∀{l:List Fd} {i:Nat} {d:Fd},l[i]? =some d->d.sz<=Ev l
 | [],i,v,h=>by simp at h
 | w::r,0,v,h=>by simp at h;subst h;unfold Ev;omega
 | w::r,i+1,v,h=>by have:=Nz (by simpa using h:r[i]? =some v);unfold Ev;omega
theorem QM {st:St} {ys:List TV}:∀(k j:Nat),j+k<=ys.length->AE st [] (.t (.rptr ys)) j k=some ((ys.drop j).take k)
 | 0,j,h=>by simp[AE]
 | k+1,j,h=>by
  show(match Af st [] (.t (.rptr ys)) j with | some x=>(AE st [] (.t (.rptr ys)) (j+1) k).map (x::·) | none=>none)=_
  have hj:j<ys.length:=by omega
  have:Af st [] (.t (.rptr ys)) j=some ys[j]:=by simp[Af,hj]
  rw[this];simp only;rw[QM k (j+1) (by omega),List.drop_eq_getElem_cons hj];rfl
theorem SlR.ldc {st:St} {sz n i:Nat} {u:TV} {xs:List TV} (h:SlR st sz u n xs) (hl:xs.length=n*sz) (hi:i<n):AE st [] (.t (ixT sz u i)) 0 sz=some ((xs.drop (i*sz)).take sz):=by
 have hm:(i+1)*sz<=n*sz:=Nat.mul_le_mul_right _ hi;rw[Nat.add_mul,Nat.one_mul]at hm;rcases h with(⟨rfl,rfl,rfl⟩ | ⟨tip,rfl⟩) | ⟨b,off,cap,l,rfl,h2,h3,h4,h5,rfl⟩
 ·omega
 ·show AE st [] (.t (.rptr (xs.drop (i*sz)))) 0 sz=_
  rw[QM sz 0 (by rw[List.length_drop];omega),List.drop_zero]
 ·have hc:n*sz<=cap*sz:=Nat.mul_le_mul_right _ h5
  have e1:(((l.drop off).take (n*sz)).drop (i*sz)).take sz=(l.drop (off+i*sz)).take sz:=by
   rw[List.drop_take,List.drop_drop,List.take_take,Nat.min_eq_left (by omega)]
  rw[e1];have e:=Np (B:=l.drop (off+i*sz+sz)) (st:=st) (b:=b) ((l.drop (off+i*sz)).take sz) l 0 (off+i*sz) h3 (by
   have:=List.take_append_drop sz (l.drop (off+i*sz));rw[List.drop_drop]at this;rw[Nat.add_zero];exact this.symm)
  rw[show((l.drop (off+i*sz)).take sz).length=sz by simp;omega]at e;exact e
theorem SlR.lenZ {st:St} {sz n:Nat} {u:TV} {xs:List TV} (h:SlR st sz u n xs):TVF.lenZ sz u=n:=by
 rcases h with(⟨rfl,rfl,rfl⟩ | ⟨tip,rfl⟩) | ⟨b,off,cap,l,rfl,h2,h3,h4,h5,rfl⟩
 ·rfl
 ·simp[TVF.lenZ]
 ·simp[TVF.lenZ]
theorem SlR.lenS {st:St} {sz n:Nat} {u:TV} {xs:List TV} (h:SlR st sz u n xs):TVF.lenS u=n:=by
 rcases h with(⟨rfl,rfl,rfl⟩ | ⟨tip,rfl⟩) | ⟨b,off,cap,l,rfl,h2,h3,h4,h5,rfl⟩<;>rfl
theorem SlR.isSl {st:St} {sz n:Nat} {u:TV} {xs:List TV} (h:SlR st sz u n xs):TVF.isSl u=true:=by
 rcases h with(⟨rfl,rfl,rfl⟩ | ⟨tip,rfl⟩) | ⟨b,off,cap,l,rfl,h2,h3,h4,h5,rfl⟩<;>rfl
theorem BQ.nil (st:St) (sz:Nat):BQ st sz .nilSlice 0 [] []:= .inl ⟨rfl,rfl,rfl,.inl rfl⟩
theorem X6 {n1:Int} {b1 b2:Bool} {s2:B8} {n2 n3 n4 n5 n6:Int} {s3:B8} {u1 u2 u3:TV} {f:Fun [.int .i64,.bool,.bool,.str,.int .i64,.int .i64,.int .i64,.int .i64,.int .i64,.str,.tv,.tv,.tv] Prop} (h:f n1 b1 b2 s2 n2 n3 n4 n5 n6 s3 u1 u2 u3):
  R4 [.int .i64,.bool,.bool,.str,.int .i64,.int .i64,.int .i64,.int .i64,.int .i64,.str,.tv,.tv,.tv] (.agg [.int .i64 n1,.bool b1,.bool b2,.str s2,.int .i64 n2,.int .i64 n3,.int .i64 n4,.int .i64 n5,.int .i64 n6,.str s3,u1,u2,u3]) f:=h
theorem Ee {n1:Int} {b1 b2:Bool} {s2:B8} {n2 n3 n4 n5 n6:Int} {s3:B8} {u1 u2 u3:TV} (h1:Av u1=true) (h2:Av u2=true) (h3:Av u3=true):
  List.all [.int .i64 n1,.bool b1,.bool b2,.str s2,.int .i64 n2,.int .i64 n3,.int .i64 n4,.int .i64 n5,.int .i64 n6,.str s3,u1,u2,u3] Av=true:=by
 simp only[List.all_cons,List.all_nil,h1,h2,h3,Bool.and_true];rfl
theorem AaK {st:St} {u:TV} {l:B8} (h:SlR st 1 u l.length (AV l)) (hl:l.length<=10000000) {K:TV->St->Prop} (hk:∀v st' bs,BQ st' 1 v l.length (AV l) bs->Ag st st'->(∀x,x∈bs->st.nb<=x)->bs.Nodup->K v st'):
  CallT PR CC [u] [.one .tv] st K:=by
 have hb1:(AV l).length=l.length*1:=by rw[It];omega
 have hone:List.all (AV l) Av=true:=by
  rw[List.all_eq_true];intro x hx;simp only[AV,List.mem_map]at hx;obtain⟨y,_,rfl⟩:=hx;rfl
 refine Gy _ st K (Aa h.isSl ?_);cases hq:Cj u with
 | true=>
  show K .nilSlice st;have h0:l=[]:=by
   rcases h with(⟨rfl,h1,_⟩ | ⟨tip,rfl⟩) | ⟨b,off,cap,m,rfl,_⟩
   ·exact List.eq_nil_of_length_eq_zero h1
   ·cases hq
   ·cases hq
  subst h0;exact hk _ st [] (BQ.nil _ _) (Ag.refl _) (λx hx=>by cases hx) List.nodup_nil
 | false=>
  show AS (DW st 1 u) _;refine Ac (h.src hb1) (Aa hone ?_);cases hlen:l.length with
  | zero=>
   have h0:l=[]:=List.eq_nil_of_length_eq_zero hlen;subst h0;simp only[Jb,Nat.beq_refl];exact⟨by omega,hk _ st [] (.inl ⟨rfl,rfl,rfl,.inr rfl⟩) (Ag.refl _) (λx hx=>by cases hx) List.nodup_nil⟩
  | succ m=>
   refine G9 (.inl ⟨rfl,rfl,rfl,.inr rfl⟩) (by omega) (by rw[hb1,hlen]) (by omega) λu' st' bs' ho e hbs=>?_;rw[Nat.zero_add,List.nil_append,<-hlen]at ho;rcases hbs with⟨_,h0⟩ | rfl
   ·exact absurd rfl h0
   ·exact hk _ st' _ ho (StX.ext (Ag.refl st) e (λi hi=>by cases hi)) (λx hx=>by rw[List.mem_singleton.1 hx];exact Nat.le_refl _) (by simp)
end
section
mutual
theorem VlO.lt {st:St}:∀{v:Vl} {cs:List TV} {fp:List Nat},VlO st v cs fp->∀x,x∈fp->x<st.nb
 | .mk s l f,cs,fp,h=>by
  unfold VlO at h;obtain⟨ub,ul,uf,xl,xf,bb,bl,bf,fl,ff,h0,h1,h2,h3,h4,h5,rfl⟩:=h;intro x hx;simp only[List.mem_append]at hx;rcases hx with hx | hx | hx | hx | hx
  ·exact h1.lt x hx
  ·exact h2.lt x hx
  ·exact VsO.lt h3 x hx
  ·exact h4.lt x hx
  ·exact FsO.lt h5 x hx
theorem VsO.lt {st:St}:∀{l:List Vl} {cs:List TV} {fp:List Nat},VsO st l cs fp->∀x,x∈fp->x<st.nb
 | [],cs,fp,h=>by unfold VsO at h;rw[h.2];intro x hx;cases hx
 | v::r,cs,fp,h=>by
  unfold VsO at h;obtain⟨a,b,p,q,_,rfl,h1,h2⟩:=h;intro x hx;rcases List.mem_append.1 hx with hx | hx
  ·exact VlO.lt h1 x hx
  ·exact VsO.lt h2 x hx
theorem FdO.lt {st:St}:∀{d:Fd} {cs:List TV} {fp:List Nat},FdO st d cs fp->∀x,x∈fp->x<st.nb
 | .mk key v,cs,fp,h=>by
  unfold FdO at h;obtain⟨c,_,h1⟩:=h;exact VlO.lt h1
theorem FsO.lt {st:St}:∀{l:List Fd} {cs:List TV} {fp:List Nat},FsO st l cs fp->∀x,x∈fp->x<st.nb
 | [],cs,fp,h=>by unfold FsO at h;rw[h.2];intro x hx;cases hx
 | d::r,cs,fp,h=>by
  unfold FsO at h;obtain⟨a,b,p,q,_,rfl,h1,h2⟩:=h;intro x hx;rcases List.mem_append.1 hx with hx | hx
  ·exact FdO.lt h1 x hx
  ·exact FsO.lt h2 x hx
end
theorem Vl.cnt_pos (v:Vl):1<=v.cnt:=by cases v;unfold Vl.cnt;omega
theorem NQ:∀{l:List Vl} {i:Nat} {v:Vl},l[i]? =some v->v.cnt<=AH l
 | [],i,v,h=>by simp at h
 | w::r,0,v,h=>by simp at h;subst h;unfold AH;omega
 | w::r,i+1,v,h=>by have:=NQ (by simpa using h:r[i]? =some v);unfold AH;omega
theorem Or:∀{l:List Fd} {i:Nat} {d:Fd},l[i]? =some d->d.cnt<=AX l
 | [],i,v,h=>by simp at h
 | w::r,0,v,h=>by simp at h;subst h;unfold AX;omega
 | w::r,i+1,v,h=>by have:=Or (by simpa using h:r[i]? =some v);unfold AX;omega
theorem I0 {A B:List Nat} (ha:A.Nodup) (hb:B.Nodup) (h:∀x,x∈A->x∉B):(A++B).Nodup:=
 List.nodup_append.2 ⟨ha,hb,λx hx y hy e=>h x hx (e▸hy)⟩
structure Uz (b0:Nat) (st:St) (bl fl:List Nat):Prop where
 nd:(bl++fl).Nodup
 lo:∀x,x∈bl++fl->b0<=x
theorem Uz.nil (b0:Nat) (st:St):Uz b0 st [] []:=⟨List.nodup_nil,λx hx=>by cases hx⟩
theorem Uz.snoc {b0 m k:Nat} {st st':St} {bl fl bs' fp:List Nat} (h:Uz b0 st bl fl) (hm:∀x,x∈bl++fl->x<m) (h0:b0<=m) (hk:∀x,x∈fp->m<=x/\x<k) (nd:fp.Nodup) (hmk:m<=k) (hb:(bs'=bl/\bl≠ [])∨bs'=[k]):Uz b0 st' bs' (fl++fp):=by
 have ndf:=(List.nodup_append.1 h.nd);have hfl:∀x,x∈fl->x<m:=λx hx=>hm x (List.mem_append_right _ hx);have nfp:(fl++fp).Nodup:=I0 ndf.2.1 nd λx hx hx'=>by have:=hfl x hx;have:=(hk x hx').1;omega
 rcases hb with⟨rfl,_⟩ | rfl
 ·refine⟨I0 ndf.1 nfp λx hx hx'=>?_,λx hx=>?_⟩
  ·rcases List.mem_append.1 hx' with hx' | hx'
   ·exact ndf.2.2 x hx x hx' rfl
   ·have:=hm x (List.mem_append_left _ hx);have:=(hk x hx').1;omega
  ·rcases List.mem_append.1 hx with hx | hx
   ·exact h.lo x (List.mem_append_left _ hx)
   ·rcases List.mem_append.1 hx with hx | hx
    ·exact h.lo x (List.mem_append_right _ hx)
    ·have:=(hk x hx).1;omega
 ·refine⟨I0 (by simp) nfp λx hx hx'=>?_,λx hx=>?_⟩
  ·rcases List.mem_singleton.1 hx with rfl
   rcases List.mem_append.1 hx' with hx' | hx'
   ·have:=hfl x hx';omega
   ·have:=(hk x hx').2;omega
  ·rcases List.mem_append.1 hx with hx | hx
   ·rcases List.mem_singleton.1 hx with rfl;omega
   ·rcases List.mem_append.1 hx with hx | hx
    ·exact h.lo x (List.mem_append_right _ hx)
    ·have:=(hk x hx).1;omega
theorem VA {k:B8} {n1:Int} {b1 b2:Bool} {s2:B8} {n2 n3 n4 n5 n6:Int} {s3:B8} {u1 u2 u3:TV} (h1:Av u1=true) (h2:Av u2=true) (h3:Av u3=true):
  List.all [.str k,.int .i64 n1,.bool b1,.bool b2,.str s2,.int .i64 n2,.int .i64 n3,.int .i64 n4,.int .i64 n5,.int .i64 n6,.str s3,u1,u2,u3] Av=true:=by
 simp only[List.all_cons,List.all_nil,h1,h2,h3,Bool.and_true];rfl
def AQ (s:Sc) (ub ul uf:TV):List TV:=[.int .i64 s.kind,.bool s.b,.bool s.neg,.str s.dg,.int .i64 s.ex,.int .i64 s.tk,.int .i64 s.td,.int .i64 s.tn,.int .i64 s.tz,.str s.text,ub,ul,uf]
theorem AaI:∀(N:Nat) (v:Vl),v.sz<=N->N<=2000000->∀{st:St} {cs:List TV} {L:Int} {K:Int->Bool->Bool->B8->Int->Int->Int->Int->Int->B8->TV->TV->TV->St->Prop},VlR st v cs->(v.cnt:Int)<=L->L<=100000000->
  (∀ub ul uf st' fp,VlO st' v (AQ v.sc ub ul uf) fp->Av ub=true->Av ul=true->Av uf=true->fp.Nodup->(∀x,x∈fp->st.nb<=x)->Ag st st'->K v.sc.kind v.sc.b v.sc.neg v.sc.dg v.sc.ex v.sc.tk v.sc.td v.sc.tn v.sc.tz v.sc.text ub ul uf st')->
  CallT PR DG [.agg cs,.int .i64 L] [.agg [.int .i64,.bool,.bool,.str,.int .i64,.int .i64,.int .i64,.int .i64,.int .i64,.str,.tv,.tv,.tv]] st K:=by
 intro N;induction N with
 | zero=>intro v h;have:=v.sz_pos;omega
 | succ N ih=>
 intro v hN hN2 st cs L K h hL hL2 hk;cases v with
 | mk s l f=>
 have hsz:(Vl.mk s l f).sz=1+s.bytes.length+s.text.length+s.dg.length+E5 l+Ev f:=by unfold Vl.sz;rfl
 have hct:(Vl.mk s l f).cnt=1+AH l+AX f:=by unfold Vl.cnt;rfl
 have hll:=Hc l;have hfl:=Gq f;unfold VlR at h;obtain⟨ub,ul,uf,xl,xf,rfl,h1,h2,h3,h4,h5⟩:=h;have hxl:=h3.len;have hxf:=h5.len;refine O5 _ _ _ _ _ _ _ _ _ _ _ _ _ L st K (AaK h1 (by omega) λv1 st1 bb ho e1 lo1 nd1=>Aa (by rw[List.all_cons,ho.rd.one];rfl) (Ab (λg=>absurd g (by omega)) λ_=>Aa h2.isSl ?_));refine⟨λl1 n1 left u n2 a1 a2 a3 a4 a5 a6 a7 a8 a9 a10 a11 a12 a13 _ _ _ _ _ _ _ _ _ _ _ _ _ st'=>L=left/\ul=u/\(l.length:Int)=n2/\s.kind=a1/\s.b=a2/\s.neg=a3/\s.dg=a4/\s.ex=a5/\s.tk=a6/\s.td=a7/\s.tn=a8/\s.tz=a9/\s.text=a10/\v1=a11/\uf=a13/\
   ∃(k:Nat) (ys:List TV) (bl fp:List Nat),n1=(k:Int)/\k<=l.length/\BQ st' 13 l1 k ys bl/\VsO st' (l.take k) ys fp/\Uz st1.nb st' bl fp/\Ag st1 st',
  λ_ n1 _ _ _ _ _ _ _ _ _ _ _ _ _ _ _ _ _ _ _ _ _ _ _ _ _ _ _ _ _ _=>(l.length-n1).toNat,⟨rfl,rfl,by rw[h2.lenS],rfl,rfl,rfl,rfl,rfl,rfl,rfl,rfl,rfl,rfl,rfl,rfl,0,[],[],[],rfl,Nat.zero_le _,BQ.nil _ _,by simp only[List.take_zero];unfold VsO;exact⟨rfl,rfl⟩,Uz.nil _ _,Ag.refl _⟩,?_⟩
 rintro l1 _ _ _ _ _ _ _ _ _ _ _ _ _ _ _ v3 _ _ _ _ _ _ _ _ _ _ _ _ _ _ st2 ⟨rfl,rfl,rfl,rfl,rfl,rfl,rfl,rfl,rfl,rfl,rfl,rfl,rfl,rfl,rfl,k,ys,bl,fp,rfl,hkl,hol,hvs,hgr,e2⟩;have e12:=e1.trans e2;refine Ab (λg=>?_) λg=>?_
 ·have hkl2:k<l.length:=by omega
  have h2':=h2.keep e12.keeps;have h3':=h3.keep e12.keeps;have gw:l[k]? =some l[k]:=List.getElem?_eq_getElem hkl2;obtain⟨cw,hw,hcw,hcl⟩:=h3'.get gw;have hwsz:=MQ gw;have hwct:=NQ gw;have hwc1:=(l[k]).cnt_pos;generalize l[k]=w at*;have hld:(AE st2 [] (.t (ixT 13 ul (Int.toNat (k:Int)))) 0 13).map TV.agg=some (.agg cw):=by
   rw[Int.toNat_natCast,h2'.ldc hxl hkl2,hcw];rfl
  unfold zIz Rz CN HH By ziT;rw[h2'.lenZ];have hw0:=hw;cases w with
  | mk s' l' f'=>
  unfold VlR at hw0;obtain⟨ub',ul',uf',xl',xf',rfl,w1,w2,w3,w4,w5⟩:=hw0;refine⟨⟨by omega,by omega⟩,Ac hld (X6 (Aa (Ee w1.one w2.one w4.one) ?_))⟩;rw[Ah _ (by omega) (by omega)];refine ih _ (by omega) (by omega) hw (by omega) (by omega) λub2 ul2 uf2 st3 fp2 ho2 o1 o2 o3 nd2 lo2 e3=>Aa (Ee o1 o2 o3) ?_;have hol3:=hol.frame (StX.of (S:=λ_=>False) e3) (λ_ _ h=>h);have hvs3:=hvs.frame (StX.of (S:=λ_=>False) e3) (λ_ _ h=>h);refine G9 hol3 (by omega) rfl (by omega) λu' st4 bs' ho4 e4 hbs=>?_;have hm:∀x,x∈bl++fp->x<st2.nb:=λx hx=>(List.mem_append.1 hx).elim (hol.lt x) (hvs.lt x);have hlt2:=ho2.lt;have hnd:=List.nodup_append.1 hgr.nd;have e14:Ag st1 st4:=StX.ext (e2.trans e3) e4 λi hi=>hgr.lo i (List.mem_append_left _ hi);have hvs4:VsO st4 (l.take (k+1)) (ys++AQ s' ub2 ul2 uf2) (fp++fp2):=by
   have t1:l.take (k+1)=l.take k++[.mk s' l' f']:=by
    have:=(List.getElem?_eq_some_iff.1 gw);obtain⟨q1,q2⟩:=this;rw[List.take_succ_eq_append_getElem q1,q2]
   rw[t1];exact VsO.snoc (hvs3.frame e4 λx hx hx'=>hnd.2.2 x hx' x hx rfl) (ho2.frame e4 λx hx hx'=>by have:=lo2 x hx;have:=hol.lt x hx';omega)
  exact⟨⟨rfl,rfl,rfl,rfl,rfl,rfl,rfl,rfl,rfl,rfl,rfl,rfl,rfl,rfl,rfl,k+1,_,bs',fp++fp2,by rw[Ah _ (by omega) (by omega)];omega,by omega,ho4,hvs4,hgr.snoc hm e2.nb (λx hx=>⟨lo2 x hx,hlt2 x hx⟩) nd2 e3.nb hbs,e14⟩,by dsimp only;rw[Ah _ (by omega) (by omega)];omega⟩
 ·have hk:k=l.length:=by omega
  subst hk;rw[List.take_length]at hvs;have hm:∀x,x∈bl++fp->x<st2.nb:=λx hx=>(List.mem_append.1 hx).elim (hol.lt x) (hvs.lt x);refine Aa h4.isSl ?_;refine⟨λf1 n1 left l2 u n2 a1 a2 a3 a4 a5 a6 a7 a8 a9 a10 a11 a12 a13 _ _ _ _ _ _ _ _ _ _ _ _ _ st'=>L=left/\l1=l2/\uf=u/\(f.length:Int)=n2/\s.kind=a1/\s.b=a2/\s.neg=a3/\s.dg=a4/\s.ex=a5/\s.tk=a6/\s.td=a7/\s.tn=a8/\s.tz=a9/\s.text=a10/\v1=a11/\
    ∃(k:Nat) (zs:List TV) (bf ff:List Nat),n1=(k:Int)/\k<=f.length/\BQ st' 14 f1 k zs bf/\FsO st' (f.take k) zs ff/\Uz st2.nb st' bf ff/\Ag st2 st',
   λ_ n1 _ _ _ _ _ _ _ _ _ _ _ _ _ _ _ _ _ _ _ _ _ _ _ _ _ _ _ _ _ _ _=>(f.length-n1).toNat,⟨rfl,rfl,rfl,by rw[h4.lenS],rfl,rfl,rfl,rfl,rfl,rfl,rfl,rfl,rfl,rfl,rfl,0,[],[],[],rfl,Nat.zero_le _,BQ.nil _ _,by simp only[List.take_zero];unfold FsO;exact⟨rfl,rfl⟩,Uz.nil _ _,Ag.refl _⟩,?_⟩
  rintro f1 _ _ _ _ _ _ _ _ _ _ _ _ _ _ _ _ _ _ _ _ _ _ _ _ _ _ _ _ _ _ _ st5 ⟨rfl,rfl,rfl,rfl,rfl,rfl,rfl,rfl,rfl,rfl,rfl,rfl,rfl,rfl,rfl,k,zs,bf,ff,rfl,hkf,hof,hfs,hgf,e5⟩;have e15:=e12.trans e5;refine Ab (λg=>?_) λg=>?_
  ·have hkf2:k<f.length:=by omega
   have h4':=h4.keep e15.keeps;have h5':=h5.keep e15.keeps;have gw:f[k]? =some f[k]:=List.getElem?_eq_getElem hkf2;obtain⟨cw,hw,hcw,hcl⟩:=h5'.get gw;have hwsz:=Nz gw;have hwct:=Or gw;generalize f[k]=w at*;have hld:(AE st5 [] (.t (ixT 14 uf (Int.toNat (k:Int)))) 0 14).map TV.agg=some (.agg cw):=by
    rw[Int.toNat_natCast,h4'.ldc hxf hkf2,hcw];rfl
   unfold zIz S7 MM HH By ziT;rw[h4'.lenZ];cases w with
   | mk key w=>
   unfold FdR at hw;obtain⟨cw2,rfl,hw⟩:=hw;have hwk:(Fd.mk key w).sz=key.length+w.sz:=by unfold Fd.sz;rfl
   have hwk2:(Fd.mk key w).cnt=w.cnt:=by unfold Fd.cnt;rfl
   have hwc1:=w.cnt_pos;have hw0:=hw;cases w with
   | mk s' l' f'=>
   unfold VlR at hw0;obtain⟨ub',ul',uf',xl',xf',rfl,w1,w2,w3,w4,w5⟩:=hw0;refine⟨⟨by omega,by omega⟩,Ac hld (decA14 (Aa (VA w1.one w2.one w4.one) ?_))⟩;rw[Ah _ (by omega) (by omega)];refine ih _ (by omega) (by omega) hw (by omega) (by omega) λub2 ul2 uf2 st6 fp2 ho2 o1 o2 o3 nd2 lo2 e6=>Aa (VA o1 o2 o3) ?_;have hof6:=hof.frame (StX.of (S:=λ_=>False) e6) (λ_ _ h=>h);have hfs6:=hfs.frame (StX.of (S:=λ_=>False) e6) (λ_ _ h=>h);refine G9 hof6 (by omega) rfl (by omega) λu' st7 bs' ho7 e7 hbs=>?_;have hm5:∀x,x∈bf++ff->x<st5.nb:=λx hx=>(List.mem_append.1 hx).elim (hof.lt x) (hfs.lt x);have hlt2:=ho2.lt;have hnd:=List.nodup_append.1 hgf.nd;have e27:Ag st2 st7:=StX.ext (e5.trans e6) e7 λi hi=>hgf.lo i (List.mem_append_left _ hi);have hd7:FdO st7 (.mk key (.mk s' l' f')) (.str key::AQ s' ub2 ul2 uf2) fp2:=by
    unfold FdO;exact⟨_,rfl,ho2.frame e7 λx hx hx'=>by have:=lo2 x hx;have:=hof.lt x hx';omega⟩
   have hfs7:FsO st7 (f.take (k+1)) (zs++ .str key::AQ s' ub2 ul2 uf2) (ff++fp2):=by
    have t1:f.take (k+1)=f.take k++[.mk key (.mk s' l' f')]:=by
     obtain⟨q1,q2⟩:=List.getElem?_eq_some_iff.1 gw;rw[List.take_succ_eq_append_getElem q1,q2]
    rw[t1];exact FsO.snoc (hfs6.frame e7 λx hx hx'=>hnd.2.2 x hx' x hx rfl) hd7
   exact⟨⟨rfl,rfl,rfl,rfl,rfl,rfl,rfl,rfl,rfl,rfl,rfl,rfl,rfl,rfl,rfl,k+1,_,bs',ff++fp2,by rw[Ah _ (by omega) (by omega)];omega,by omega,ho7,hfs7,hgf.snoc hm5 e5.nb (λx hx=>⟨lo2 x hx,hlt2 x hx⟩) nd2 e6.nb hbs,e27⟩,by dsimp only;rw[Ah _ (by omega) (by omega)];omega⟩
  ·have hk2:k=f.length:=by omega
   subst hk2;rw[List.take_length]at hfs;have ho5:=ho.frame (StX.of (S:=λ_=>False) (e2.trans e5)) (λ_ _ h=>h);have hol5:=hol.frame (StX.of (S:=λ_=>False) e5) (λ_ _ h=>h);have hvs5:=hvs.frame (StX.of (S:=λ_=>False) e5) (λ_ _ h=>h);have hb1:=ho.lt;have e1n:=e1.nb;have e2n:=e2.nb;refine Aa (by rw[List.all_cons,hol.rd.one];rfl) (Aa (by rw[List.all_cons,hof.rd.one];rfl) (Aa (Ee ho.rd.one hol.rd.one hof.rd.one) ?_));refine hk v1 l1 f1 st5 (bb++(bl++(fp++(bf++ff)))) (by unfold VlO;exact⟨v1,l1,f1,ys,zs,bb,bl,bf,fp,ff,rfl,ho5,hol5,hvs5,hof,hfs,rfl⟩) ho.rd.one hol.rd.one hof.rd.one ?_ ?_ e15
   ·have e:bl++(fp++(bf++ff))=(bl++fp)++(bf++ff):=by simp
    rw[e];refine I0 nd1 (I0 hgr.nd hgf.nd λx hx hx'=>?_) λx hx hx'=>?_
    ·have:=hm x hx;have:=hgf.lo x hx';omega
    ·have:=hb1 x hx
     rcases List.mem_append.1 hx' with hx' | hx'
     ·have:=hgr.lo x hx';omega
     ·have:=hgf.lo x hx';omega
   ·intro x hx
    have e:bb++(bl++(fp++(bf++ff)))=bb++((bl++fp)++(bf++ff)):=by simp
    rw[e]at hx;rcases List.mem_append.1 hx with hx | hx
    ·exact lo1 x hx
    ·rcases List.mem_append.1 hx with hx | hx
     ·have:=hgr.lo x hx;omega
     ·have:=hgf.lo x hx;omega
end
section
def insF (d:Fd):List Fd->List Fd
 | []=>[d]
 | x::r=>match Op.bytesLess d.key x.key with
  | true=>d::x::r
  | false=>x::insF d r
def sortFd (f:List Fd):List Fd:=f.foldl (λout d=>insF d out) []
def IG (f:List Fd):Prop:=(f.map Fd.key).Nodup
mutual
def YL:Vl->Vl
 | .mk s l f=> .mk s (sortVs l) (sortFd (sortFs f))
def sortVs:List Vl->List Vl
 | []=>[]
 | v::r=>YL v::sortVs r
def sortD:Fd->Fd
 | .mk k v=> .mk k (YL v)
def sortFs:List Fd->List Fd
 | []=>[]
 | d::r=>sortD d::sortFs r
end
end
theorem WO.snoc {α β:Type} {R:α->β->Prop} {a:α} {b:β} {l:List α} {m:List β} (h:WO R l m) (r:R a b):WO R (l++[a]) (m++[b]):=by
 induction h with
 | nil=>exact .cons r .nil
 | cons r' _ ih=>exact .cons r' ih
theorem BQ.store {st:St} {sz n i o:Nat} {u:TV} {A c B ys:List TV} {bs:List Nat} (h:BQ st sz u n (A++c++B) bs) (hA:A.length=i*sz+o) (hc:0<c.length) (hy:ys.length=c.length) {k:St->Prop} (hk:∀st',BQ st' sz u n (A++ys++B) bs->StX (·∈bs) st st'->k st'):stB st (AU (ixT sz u i) o) ys k:=by
 rcases h with⟨_,h1,_⟩ | ⟨b,cap,tail,rfl,h1,h2,h3,h4,h5,rfl⟩
 ·simp only[List.append_eq_nil_iff]at h1
  rw[h1.1.2]at hc;exact absurd hc (by simp)
 ·have e:A++c++B++tail=A++c++(B++tail):=by simp
  have e2:setAll (A++c++B++tail) (0+i*sz+o) ys=A++ys++B++tail:=by
   rw[e,show 0+i*sz+o=A.length by omega,Mp ys A c (B++tail) hy];simp
  refine⟨_,h2,by simp only[List.length_append];omega,?_⟩;rw[e2];refine hk _ (.inr ⟨b,cap,tail,rfl,h1,by simp[St.put],?_,?_,h5,rfl⟩) (StX.put (S:=(·∈ [b])) (.head _) _)
  ·simp only[List.length_append]at h3⊢;omega
  ·simp only[List.length_append]at h4⊢;omega
theorem BQ.ld {st:St} {sz n i o:Nat} {u:TV} {A c B:List TV} {bs:List Nat} (h:BQ st sz u n (A++c++B) bs) (hA:A.length=i*sz+o) (hc:0<c.length):AE st [] (.t (AU (ixT sz u i) o)) 0 c.length=some c:=by
 rcases h with⟨_,h1,_⟩ | ⟨b,cap,tail,rfl,h1,h2,h3,h4,h5,rfl⟩
 ·simp only[List.append_eq_nil_iff]at h1
  rw[h1.1.2]at hc;exact absurd hc (by simp)
 ·exact Np (B:=B++tail) c _ 0 (0+i*sz+o) h2 (by
   rw[show 0+i*sz+o+0=A.length by omega,List.append_assoc,List.append_assoc,List.drop_left])
theorem MP {l:List Vl} {v:Vl} (h:v∈l):v.sz<=E5 l:=by
 obtain⟨i,hi⟩:=List.getElem?_of_mem h;exact MQ hi
theorem KM {l:List Fd} {v:Fd} (h:v∈l):v.sz<=Ev l:=by
 obtain⟨i,hi⟩:=List.getElem?_of_mem h;exact Nz hi
theorem StX.out2 {S T:Nat->Prop} {a b c:St} (h:StX S a b) (k:StX T b c) (hs:∀i,i<a.nb->T i->S i):StX S a c:=
 ⟨Nat.le_trans h.nb k.nb,λi hi g=>(k.box i (Nat.lt_of_lt_of_le hi h.nb) λt=>g (hs i hi t)).trans (h.box i hi g),Nat.le_trans h.nt k.nt,λi hi=>(k.live i (Nat.lt_of_lt_of_le hi h.nt)).trans (h.live i hi),λi hi=>(k.ty i (Nat.lt_of_lt_of_le hi h.nt)).trans (h.ty i hi),λi hi=>(k.bt i (Nat.lt_of_lt_of_le hi h.nb)).trans (h.bt i hi)⟩
theorem copy_ok {v:Vl} (hN:v.sz<=2000000) (hC:v.cnt<=65536) {st:St} {cs:List TV} {K:Int->Bool->Bool->B8->Int->Int->Int->Int->Int->B8->TV->TV->TV->St->Prop} (h:VlR st v cs)
  (hk:∀ub ul uf st' fp,VlO st' v (AQ v.sc ub ul uf) fp->Av ub=true->Av ul=true->Av uf=true->fp.Nodup->(∀x,x∈fp->st.nb<=x)->Ag st st'->K v.sc.kind v.sc.b v.sc.neg v.sc.dg v.sc.ex v.sc.tk v.sc.td v.sc.tn v.sc.tz v.sc.text ub ul uf st'):
  CallT PR Gg [.agg cs] [.agg [.int .i64,.bool,.bool,.str,.int .i64,.int .i64,.int .i64,.int .i64,.int .i64,.str,.tv,.tv,.tv]] st K:=by
 have h0:=h;cases v with
 | mk s l f=>
 unfold VlR at h0;obtain⟨ub,ul,uf,xl,xf,rfl,_⟩:=h0;exact RJ _ _ _ _ _ _ _ _ _ _ _ _ _ st K (AaI 2000000 _ hN (by omega) h (by omega) (by omega) λub ul uf st' fp g o1 o2 o3 nd lo e=>Aa (Ee o1 o2 o3) (hk ub ul uf st' fp g o1 o2 o3 nd lo e))
theorem Gh {T:Nat} {st0 st:St} {v:TV} {l ys:B8} {k:Nat} {xs:List TV} {K:TV->St->Prop} (e:Ag st0 st) (h:JP st0.nt st v l) (hkl:k=ys.length) (hx:xs=AV ys) (hby:l.length+ys.length<=140737488355328)
  (hK:∀v' st',Ag st0 st'->st'.box=st.box->JP st0.nt st' v' (l++ys)->K v' st'):Bn T 1 1 v k xs st K:=by
 subst hkl hx;exact Yq e h hby hK
theorem natB_lt (n:Nat) (h:n<256):n.toUInt8.toNat=n:=by simp;omega
theorem or_u8 (x y:Nat) (hx:x<2^8) (hy:y<2^8):AI .or .u8 (x:Int) (y:Int)=((x ||| y:Nat):Int):=by
 have h:x ||| y<2^8:=Nat.or_lt_two_pow hx hy;show IntKind.wrap .u8 ((BitVec.ofInt 8 (x:Int) ||| BitVec.ofInt 8 (y:Int)).toNat:Int)=_;simp only[BitVec.ofInt_natCast,BitVec.toNat_or,BitVec.toNat_ofNat];rw[Nat.mod_eq_of_lt (by omega),Nat.mod_eq_of_lt (by omega),PH _ (by omega) (by omega)]
theorem Wa {st0 st:St} {ul:TV} {xl:List TV} {l:List Vl} (hke:CH st0 st) (h2:SlR st0 13 ul l.length xl) (h3:VsR st0 l xl) {i:Int} {k:Nat} (hi:i=k) (hk:k<l.length) {f:Fun [.int .i64,.bool,.bool,.str,.int .i64,.int .i64,.int .i64,.int .i64,.int .i64,.str,.tv,.tv,.tv] Prop}
  (hf:∀s' l' f' ub1 ul1 uf1,l[k]? =some (.mk s' l' f')->VlR st0 (.mk s' l' f') (AQ s' ub1 ul1 uf1)->List.all (AQ s' ub1 ul1 uf1) Av=true->f s'.kind s'.b s'.neg s'.dg s'.ex s'.tk s'.td s'.tn s'.tz s'.text ub1 ul1 uf1):
  (0<=i/\i<(lenZ 13 ul:Int))/\AS ((AE st [] (.t (ixT 13 ul (Int.toNat i))) 0 13).map TV.agg) λx=>R4 [.int .i64,.bool,.bool,.str,.int .i64,.int .i64,.int .i64,.int .i64,.int .i64,.str,.tv,.tv,.tv] x f:=by
 subst hi;have gw:l[k]? =some l[k]:=List.getElem?_eq_getElem hk;obtain⟨cw,hw,hcw,hcl⟩:=h3.get gw;rw[h2.lenZ,Int.toNat_natCast,(h2.keep hke).ldc h3.len hk,hcw];generalize l[k]=w at*;cases w with
 | mk s' l' f'=>
 have hw0:=hw;unfold VlR at hw0;obtain⟨ub',ul',uf',xl',xf',rfl,w1,w2,w3,w4,w5⟩:=hw0;exact⟨⟨by omega,by omega⟩,Ac rfl (X6 (hf s' l' f' ub' ul' uf' gw hw (Ee w1.one w2.one w4.one)))⟩
theorem el14 {st0 st:St} {uf:TV} {xf:List TV} {l:List Fd} (hke:CH st0 st) (h2:SlR st0 14 uf l.length xf) (h3:FsR st0 l xf) {i:Int} {k:Nat} (hi:i=k) (hk:k<l.length) {f:Fun [.str,.int .i64,.bool,.bool,.str,.int .i64,.int .i64,.int .i64,.int .i64,.int .i64,.str,.tv,.tv,.tv] Prop}
  (hf:∀key s' l' f' ub1 ul1 uf1,l[k]? =some (.mk key (.mk s' l' f'))->VlR st0 (.mk s' l' f') (AQ s' ub1 ul1 uf1)->List.all (.str key::AQ s' ub1 ul1 uf1) Av=true->f key s'.kind s'.b s'.neg s'.dg s'.ex s'.tk s'.td s'.tn s'.tz s'.text ub1 ul1 uf1):
  (0<=i/\i<(lenZ 14 uf:Int))/\AS ((AE st [] (.t (ixT 14 uf (Int.toNat i))) 0 14).map TV.agg) λx=>R4 [.str,.int .i64,.bool,.bool,.str,.int .i64,.int .i64,.int .i64,.int .i64,.int .i64,.str,.tv,.tv,.tv] x f:=by
 subst hi;have gw:l[k]? =some l[k]:=List.getElem?_eq_getElem hk;obtain⟨cw,hw,hcw,hcl⟩:=h3.get gw;rw[h2.lenZ,Int.toNat_natCast,(h2.keep hke).ldc h3.len hk,hcw];generalize l[k]=w at*;cases w with
 | mk key w=>
 cases w with
 | mk s' l' f'=>
 have hw0:=hw;unfold FdR at hw0;obtain⟨cw2,rfl,hw1⟩:=hw0;have hw2:=hw1;unfold VlR at hw2;obtain⟨ub',ul',uf',xl',xf',rfl,w1,w2,w3,w4,w5⟩:=hw2;exact⟨⟨by omega,by omega⟩,Ac rfl (decA14 (hf key s' l' f' ub' ul' uf' gw hw1 (VA w1.one w2.one w4.one)))⟩
theorem Et {α:Type} {l:List α} {k:Nat} {v:α} (h:l[k]? =some v):l.take (k+1)=l.take k++[v]:=by
 obtain⟨q1,q2⟩:=List.getElem?_eq_some_iff.1 h;rw[List.take_succ_eq_append_getElem q1,q2]
theorem FT {α:Type} {l:List α} {k:Nat} {v:α} (h:l[k]? =some v):v∈l:=by
 obtain⟨q1,q2⟩:=List.getElem?_eq_some_iff.1 h;rw[<-q2];exact List.getElem_mem q1
end Go.TVF
section
namespace Go.TVF
open Go.IntKind(i64 u8)
open Go
theorem or_i64 (x y:Nat) (hx:x<2^63) (hy:y<2^63):AI .or .i64 (x:Int) (y:Int)=((x ||| y:Nat):Int):=by
 have h:=Nat.or_lt_two_pow hx hy;show IntKind.wrap .i64 ((BitVec.ofInt 64 (x:Int) ||| BitVec.ofInt 64 (y:Int)).toNat:Int)=_;grind [Ah]
theorem Uw (x y:Nat) (hx:x<2^8) (hy:y<2^8):AI .and .u8 (x:Int) (y:Int)=((x&&&y:Nat):Int):=by
 have h:x&&&y<2^8:=Nat.and_lt_two_pow _ hy;show IntKind.wrap .u8 ((BitVec.ofInt 8 (x:Int)&&&BitVec.ofInt 8 (y:Int)).toNat:Int)=_;grind [PH]
theorem or_add (a b m:Nat) (hb:b<2^m) (h:a*2^m+b<2^63):AI .or .i64 ((a*2^m:Nat):Int) (b:Int)=((a*2^m+b:Nat):Int):=by
 have hb':b<2^63:=by omega
 rw[or_i64 _ _ (by omega) hb',Nat.mul_comm a,Nat.two_pow_add_eq_or_of_lt hb]
theorem G7 {α:Type} (l:List α) (i:Nat) (d:α) (h:i<l.length):l.take (i+1)=l.take i++[l.getD i d]:=by
 simp_all
theorem ZL (a c:UInt8):((a.toNat:Int)=(c.toNat:Int))↔a=c:=by
 grind [UInt8.toNat_inj]
theorem Lm {α:Type} (l:List α) (i:Nat) (d:α) (h:i<l.length):l.drop i=l.getD i d::l.drop (i+1):=by
 simp_all
theorem Io {α:Type} (l:List α) (i j:Nat):(l.take j).drop i=(l.drop i).take (j-i):=by
 rw[List.drop_take]
def bt (l:B8) (i:Nat):Nat:=(l.getD i 0).toNat
theorem If (l:B8) (i:Nat):bt l i<256:=(l.getD i 0).toNat_lt
theorem GY (l:B8) (i j:Nat):bt (l.drop i) j=bt l (i+j):=by grind [bt]
def dN (l:B8):Nat×Nat:=Lib.decodeN l.length (bt l 0) (bt l 1) (bt l 2) (bt l 3)
def ul (l:B8):Nat:=if l=[]∨dN l=(65533,1)then 0 else(dN l).2
def ur (l:B8):Nat:=(dN l).1
def B5 (r:Nat):Prop:=r<=1114111/\(r<55296∨57343<r)
instance (r:Nat):Decidable (B5 r):=by unfold B5;infer_instance
def DJ (r:Nat):B8:=
 if r<128 then [UInt8.ofNat r]else if r<2048 then [UInt8.ofNat (192+r/64),UInt8.ofNat (128+r%64)]
 else if r<65536 then [UInt8.ofNat (224+r/4096),UInt8.ofNat (128+r/64%64),UInt8.ofNat (128+r%64)]
 else [UInt8.ofNat (240+r/262144),UInt8.ofNat (128+r/4096%64),UInt8.ofNat (128+r/64%64),UInt8.ofNat (128+r%64)]
theorem Ef (n:Nat) (c:UInt8):UInt8.ofNat n=c↔n%256=c.toNat:=by
 rw[<-UInt8.toNat_inj];simp
theorem Qd (l:B8) (h:1<=l.length):l.take 1=[l.getD 0 0]:=by
 grind [G7]
theorem Qc (l:B8) (h:2<=l.length):l.take 2=[l.getD 0 0,l.getD 1 0]:=by
 grind [G7]
theorem Jl (l:B8) (h:3<=l.length):l.take 3=[l.getD 0 0,l.getD 1 0,l.getD 2 0]:=by
 grind [G7]
theorem N7 (l:B8) (h:4<=l.length):l.take 4=[l.getD 0 0,l.getD 1 0,l.getD 2 0,l.getD 3 0]:=by
 grind [G7,Jl]
def rsz (b0:Nat):Nat:=if 240<=b0 then 4 else if 224<=b0 then 3 else if 192<=b0 then 2 else 1
def rb0 (b0:Nat):Nat:=if 240<=b0 then b0%8 else if 224<=b0 then b0%16 else if 192<=b0 then b0%32 else b0
def Ed (l:B8) (r0:Nat):Nat->Nat
 | 0=>r0
 | j+1=>Ed l r0 j*64+bt l (j+1)%64
theorem racc_lt (l:B8) (r0:Nat) (h:r0<256):∀j,Ed l r0 j<256*64^j
 :=by intro a0;induction a0<;>grind [Ed]
theorem rsz_le (b0:Nat):1<=rsz b0/\rsz b0<=4:=by
 grind [rsz]
def Xn (l:B8):Nat×Nat:=
 let size:=rsz (bt l 0)
 let r:=Ed l (rb0 (bt l 0)) (size-1)
 if l.length<size then(0,0)else if B5 r/\DJ r=l.take size then(r,size)else(0,0)
theorem Ep {a b:UInt8} {x y:B8}:(a::x=b::y)↔a=b/\x=y:=by simp
set_option maxHeartbeats 4000000 in
theorem Jt (l:B8) (h:l≠ []):Xn l=if ul l=0 then(0,0)else(ur l,ul l):=by
 have hl:1<=l.length:=by cases l with | nil=>exact absurd rfl h | cons a r=>simp
 have h0:=If l 0;have h1:=If l 1;have h2:=If l 2;have h3:=If l 3;have e0:(l.getD 0 0).toNat=bt l 0:=rfl;have e1:(l.getD 1 0).toNat=bt l 1:=rfl;have e2:(l.getD 2 0).toNat=bt l 2:=rfl;have e3:(l.getD 3 0).toNat=bt l 3:=rfl;have hul:ul l=if dN l=(65533,1)then 0 else(dN l).2:=by simp[ul,h]
 rw[hul,ur];unfold dN;generalize hb0:bt l 0=b0 at*;generalize hb1:bt l 1=b1 at*;generalize hb2:bt l 2=b2 at*;generalize hb3:bt l 3=b3 at*;unfold Xn;simp only[hb0];by_cases c4:240<=b0
 ·have r4:rsz b0=4:=by unfold rsz;rw[if_pos c4]
  have rb:rb0 b0=b0%8:=by unfold rb0;rw[if_pos c4]
  rw[r4,rb];simp only[Nat.reduceSub,Ed,hb1,hb2,hb3,Nat.zero_add,Nat.reduceAdd];by_cases hn:l.length<4
  ·rw[if_pos hn]
   have:Lib.decodeN l.length b0 b1 b2 b3=(65533,1):=by
    unfold Lib.decodeN;rw[if_neg (by omega),if_neg (by omega),if_neg (by omega),if_neg (by omega)]
   rw[this];simp
  ·rw[if_neg hn]
   have hEnc:(B5 (((b0%8*64+b1%64)*64+b2%64)*64+b3%64)/\DJ (((b0%8*64+b1%64)*64+b2%64)*64+b3%64)=l.take 4)↔(b0/8=30/\b1/64=2/\b2/64=2/\b3/64=2/\65536<=((b0%8*64+b1%64)*64+b2%64)*64+b3%64/\((b0%8*64+b1%64)*64+b2%64)*64+b3%64<=1114111):=by
    rw[N7 l (by omega)];generalize hr:((b0%8*64+b1%64)*64+b2%64)*64+b3%64=r;unfold B5 DJ;by_cases k1:r<128
    ·rw[if_pos k1];simp;omega
    ·rw[if_neg k1]
     by_cases k2:r<2048
     ·rw[if_pos k2];simp;omega
     ·rw[if_neg k2]
      by_cases k3:r<65536
      ·rw[if_pos k3];simp;omega
      ·rw[if_neg k3]
       simp only[Ep,Ef,e0,e1,e2,e3,and_true];omega
   by_cases hE:b0/8=30/\b1/64=2/\b2/64=2/\b3/64=2/\65536<=((b0%8*64+b1%64)*64+b2%64)*64+b3%64/\((b0%8*64+b1%64)*64+b2%64)*64+b3%64<=1114111
   ·rw[if_pos (hEnc.2 hE)]
    have:Lib.decodeN l.length b0 b1 b2 b3=(((b0%8*64+b1%64)*64+b2%64)*64+b3%64,4):=by
     unfold Lib.decodeN;rw[if_neg (by omega),if_neg (by omega),if_neg (by omega),if_pos (by omega),if_pos (by omega)];simp only[Prod.mk.injEq,and_true];omega
    rw[this];simp
   ·rw[if_neg (λhh=>hE (hEnc.1 hh))]
    have:Lib.decodeN l.length b0 b1 b2 b3=(65533,1):=by
     unfold Lib.decodeN;rw[if_neg (by omega),if_neg (by omega),if_neg (by omega)];split
     ·rw[if_neg (by omega)]
     ·rfl
    rw[this];simp
 ·by_cases c3:224<=b0
  ·have r4:rsz b0=3:=by unfold rsz;rw[if_neg c4,if_pos c3]
   have rb:rb0 b0=b0%16:=by unfold rb0;rw[if_neg c4,if_pos c3]
   rw[r4,rb];simp only[Nat.reduceSub,Ed,hb1,hb2,Nat.zero_add,Nat.reduceAdd];by_cases hn:l.length<3
   ·rw[if_pos hn]
    have:Lib.decodeN l.length b0 b1 b2 b3=(65533,1):=by
     unfold Lib.decodeN;rw[if_neg (by omega),if_neg (by omega),if_neg (by omega),if_neg (by omega)]
    rw[this];simp
   ·rw[if_neg hn]
    have hEnc:(B5 ((b0%16*64+b1%64)*64+b2%64)/\DJ ((b0%16*64+b1%64)*64+b2%64)=l.take 3)↔(b1/64=2/\b2/64=2/\2048<=(b0%16*64+b1%64)*64+b2%64/\B5 ((b0%16*64+b1%64)*64+b2%64)):=by
     rw[Jl l (by omega)];generalize hr:(b0%16*64+b1%64)*64+b2%64=r;unfold B5 DJ;by_cases k1:r<128
     ·rw[if_pos k1];simp;omega
     ·rw[if_neg k1]
      by_cases k2:r<2048
      ·rw[if_pos k2];simp;omega
      ·rw[if_neg k2]
       by_cases k3:r<65536
       ·rw[if_pos k3]
        simp only[Ep,Ef,e0,e1,e2,and_true];omega
       ·omega
    by_cases hE:b1/64=2/\b2/64=2/\2048<=(b0%16*64+b1%64)*64+b2%64/\B5 ((b0%16*64+b1%64)*64+b2%64)
    ·rw[if_pos (hEnc.2 hE)]
     have:Lib.decodeN l.length b0 b1 b2 b3=((b0%16*64+b1%64)*64+b2%64,3):=by
      unfold B5 at hE;unfold Lib.decodeN;rw[if_neg (by omega),if_neg (by omega),if_pos (by omega),if_pos (by omega)];simp only[Prod.mk.injEq,and_true];omega
     rw[this];simp
    ·rw[if_neg (λhh=>hE (hEnc.1 hh))]
     have:Lib.decodeN l.length b0 b1 b2 b3=(65533,1):=by
      unfold B5 at hE;unfold Lib.decodeN;rw[if_neg (by omega),if_neg (by omega)];split
      ·rw[if_neg (by omega)]
      ·rw[if_neg (by omega)]
     rw[this];simp
  ·by_cases c2:192<=b0
   ·have r4:rsz b0=2:=by unfold rsz;rw[if_neg c4,if_neg c3,if_pos c2]
    have rb:rb0 b0=b0%32:=by unfold rb0;rw[if_neg c4,if_neg c3,if_pos c2]
    rw[r4,rb];simp only[Nat.reduceSub,Ed,hb1,Nat.zero_add,Nat.reduceAdd];by_cases hn:l.length<2
    ·rw[if_pos hn]
     have:Lib.decodeN l.length b0 b1 b2 b3=(65533,1):=by
      unfold Lib.decodeN;rw[if_neg (by omega),if_neg (by omega),if_neg (by omega),if_neg (by omega)]
     rw[this];simp
    ·rw[if_neg hn]
     have hEnc:(B5 (b0%32*64+b1%64)/\DJ (b0%32*64+b1%64)=l.take 2)↔(b1/64=2/\128<=b0%32*64+b1%64):=by
      rw[Qc l (by omega)];generalize hr:b0%32*64+b1%64=r;unfold B5 DJ;by_cases k1:r<128
      ·rw[if_pos k1];simp;omega
      ·rw[if_neg k1,if_pos (by omega)]
       simp only[Ep,Ef,e0,e1,and_true];omega
     by_cases hE:b1/64=2/\128<=b0%32*64+b1%64
     ·rw[if_pos (hEnc.2 hE)]
      have:Lib.decodeN l.length b0 b1 b2 b3=(b0%32*64+b1%64,2):=by
       unfold Lib.decodeN;rw[if_neg (by omega),if_pos (by omega),if_pos (by omega)]
      rw[this];simp
     ·rw[if_neg (λhh=>hE (hEnc.1 hh))]
      have:Lib.decodeN l.length b0 b1 b2 b3=(65533,1):=by
       unfold Lib.decodeN;rw[if_neg (by omega)];split
       ·rw[if_neg (by omega)]
       ·rw[if_neg (by omega),if_neg (by omega)]
      rw[this];simp
   ·have r4:rsz b0=1:=by unfold rsz;rw[if_neg c4,if_neg c3,if_neg c2]
    have rb:rb0 b0=b0:=by unfold rb0;rw[if_neg c4,if_neg c3,if_neg c2]
    rw[r4,rb];simp only[Nat.reduceSub,Ed];rw[if_neg (by omega),Qd l hl];have hEnc:(B5 b0/\DJ b0=[l.getD 0 0])↔b0<128:=by
     unfold B5 DJ;by_cases k1:b0<128
     ·rw[if_pos k1];simp only[Ep,Ef,e0,and_true];omega
     ·rw[if_neg k1,if_pos (by omega)];simp;omega
    by_cases hE:b0<128
    ·rw[if_pos (hEnc.2 hE)]
     have:Lib.decodeN l.length b0 b1 b2 b3=(b0,1):=by unfold Lib.decodeN;rw[if_pos hE]
     rw[this,if_neg (by simp;omega)];simp only[Prod.mk.injEq];rw[if_neg (by omega)];simp
    ·rw[if_neg (λhh=>hE (hEnc.1 hh))]
     have:Lib.decodeN l.length b0 b1 b2 b3=(65533,1):=by
      unfold Lib.decodeN;rw[if_neg (by omega),if_neg (by omega),if_neg (by omega),if_neg (by omega)]
     rw[this];simp
theorem YA (l:B8) (h:ul l≠0):B5 (ur l)/\DJ (ur l)=l.take (ul l)/\ul l<=l.length/\ul l<=4:=by
 have hne:l≠ []:=λh0=>h (by simp[ul,h0]);have e:=Jt l hne;grind [Xn,rsz_le]
theorem PZ (l:B8):ul l<=l.length:=by
 by_cases h:ul l=0
 all_goals simp_all[YA]
theorem US (l:B8) (h:l≠ []) (hb:bt l 0<128):ul l=1/\ur l=bt l 0:=by
 grind [dN,ul,ur,Go.Lib.decodeN]
theorem Te (l:B8) (h:l≠ []):ul l=0↔dN l=(65533,1):=by
 grind [ul,dN,Go.Lib.decodeN]
theorem X7 (l:B8) (h:ul l≠0):dN l=(ur l,ul l):=by
 have hne:l≠ []:=λh0=>h (by simp[ul,h0]);have hul:ul l=if dN l=(65533,1)then 0 else(dN l).2:=by grind [ul]
 have hd:dN l≠(65533,1):=λhd=>h ((Te l hne).2 hd);rw[if_neg hd]at hul;rw[hul];rfl
theorem ul_not (l:B8) (h:ul l≠0):¬(ur l=65533/\ul l=1):=by
 grind [ul,X7]
def Ct (l:B8):Nat:=if h:ul l=0 then 0 else ul l+Ct (l.drop (ul l))
termination_by l.length
decreasing_by
 grind [PZ]
theorem Cv (l:B8) (h:ul l=0):Ct l=0:=by grind [Ct]
theorem Fe (l:B8) (h:ul l≠0):Ct l=ul l+Ct (l.drop (ul l)):=by grind [Ct]
theorem Yy:∀(n:Nat) (l:B8),l.length<=n->Ct l<=l.length
 :=by intro a0;induction a0<;>grind [Cv,PZ,Fe]
end Go.TVF
end
namespace Go.TVF
open Go.IntKind(i64 u8)
open Go Go.Proofs
def Cz (c:UInt8):Prop:=48<=c.toNat/\c.toNat<=57
instance (c:UInt8):Decidable (Cz c):=inferInstanceAs (Decidable (_/\_))
def BR (l:B8):Nat:=(l.reverse.takeWhile (·==48)).length
def Gv (neg:Bool) (dg:B8) (ex:Int):Prop:=
 (dg=[]->neg=false/\ex=0)/\(dg≠ []->dg.length<=120/\(∀c,c∈dg->Cz c)/\dg.getD 0 0≠48/\BR dg=0/\ -400<=ex/\ex<=400)
instance (neg:Bool) (dg:B8) (ex:Int):Decidable (Gv neg dg ex):=inferInstanceAs (Decidable ((_->_)/\(_->_)))
def HG (k d n z:Int):Prop:=
 1<=k/\k<=4/\0<=d/\d<=3652058/\0<=n/\n<=86399999999999/\ -1439<=z/\z<=1439/\(k=2->d=0)/\(k=1->n=0)/\(k≠4->z=0)
instance (k d n z:Int):Decidable (HG k d n z):=inferInstanceAs (Decidable (_/\_/\_/\_/\_/\_/\_/\_/\(_->_)/\(_->_)/\(_->_)))
def SC (y:Nat):Prop:=y%4=0/\(y%100≠0∨y%400=0)
instance (y:Nat):Decidable (SC y):=inferInstanceAs (Decidable (_/\_))
def Po (y m:Nat):Nat:=if m=2 then(if SC y then 29 else 28)else if m=4∨m=6∨m=9∨m=11 then 30 else 31
def LJ (y:Nat):Nat->Nat
 | 0=>0
 | 1=>0
 | m+2=>LJ y (m+1)+Po y (m+1)
def yrS (y:Nat):Nat:=365*(y-1)+(y-1)/4-(y-1)/100+(y-1)/400
theorem yrS_mono {a b:Nat} (h1:1<=a) (h:a<=b):yrS a<=yrS b:=by
 rcases Nat.eq_or_lt_of_le h with rfl | h
 all_goals grind [yrS]
theorem monS_12 (y:Nat):LJ y 12+Po y 12=if SC y then 366 else 365:=by
 simp[LJ,Po];by_cases h:SC y<;>simp[h]
theorem X3 (k q:Nat) (h:0<q):(k+1)/q=k/q+(if (k+1)%q=0 then 1 else 0):=by
 grind [Nat.succ_div,Nat.dvd_iff_mod_eq_zero]
theorem yrS_succ {y:Nat} (h:1<=y):yrS (y+1)=yrS y+(LJ y 12+Po y 12):=by
 rw[monS_12];obtain⟨k,rfl⟩:∃k,y=k+1:=⟨y-1,by omega⟩;unfold yrS;simp;rw[X3 k 4 (by omega),X3 k 100 (by omega),X3 k 400 (by omega)];have m1:(k+1)%400=0->(k+1)%100=0:=λh=>by omega
 have m2:(k+1)%100=0->(k+1)%4=0:=λh=>by omega
 by_cases a4:(k+1)%4=0
 ·rw[if_pos a4]
  by_cases a100:(k+1)%100=0
  ·rw[if_pos a100]
   by_cases a400:(k+1)%400=0
   ·rw[if_pos a400,if_pos ⟨a4,.inr a400⟩];omega
   ·rw[if_neg a400,if_neg (λh=>h.2.elim (λh=>h a100) a400)];omega
  ·rw[if_neg a100,if_neg (λh=>a100 (m1 h)),if_pos ⟨a4,.inl a100⟩];omega
 ·rw[if_neg a4,if_neg (λh=>a4 (m2 h)),if_neg (λh=>a4 (m2 (m1 h))),if_neg (λh=>a4 h.1)];omega
theorem Aap (y:Nat):∀{a b:Nat},a<=b->LJ y a<=LJ y b:=by
 intro a b h;induction b with
 | zero=>grind
 | succ b ih=>
  by_cases hab:a=b+1
  ·grind
  ·cases b<;>grind [LJ]
theorem Sy (y:Nat) {m:Nat} (h:1<=m):LJ y (m+1)=LJ y m+Po y m:=by
 cases m with
 | zero=>omega
 | succ m=>rfl
section
structure Rr (s:Sc) (l:List Vl) (f:List Fd):Prop where
 k0:0<=s.kind
 k7:s.kind<=7
 bo:s.kind≠1->s.b=false
 nu:s.kind≠2->s.neg=false/\s.dg=[]/\s.ex=0
 ti:s.kind≠3->s.tk=0/\s.td=0/\s.tn=0/\s.tz=0
 tx:s.kind≠4->s.text=[]
 by_:s.kind≠5->s.bytes=[]
 ls:s.kind≠6->l=[]
 fs:s.kind≠7->f=[]
noncomputable instance (s:Sc) (l:List Vl) (f:List Fd):Decidable (Rr s l f):=Classical.propDecidable _
def U8 (s:B8):Prop:=Ct s=s.length
instance (s:B8):Decidable (U8 s):=inferInstanceAs (Decidable (_=_))
def ER (seen:List B8):List Fd->Nat
 | []=>0
 | d::r=>if U8 d.key then(if 1024<d.key.length then 10 else if d.key∈seen then 8 else ER (d.key::seen) r)else 5
noncomputable def Ho (s:Sc) (l:List Vl) (f:List Fd):Nat:=
 if Rr s l f then(if Gv s.neg s.dg s.ex then(if s.kind=3->HG s.tk s.td s.tn s.tz then(if U8 s.text then(if 65536<s.text.length then 10 else if 65536<s.bytes.length then 10 else ER [] f)else 5)else 2)else 2)else 6
noncomputable def JR (x:Nat×Nat) (f:Nat->Nat×Nat):Nat×Nat:=if x.2=0 then f x.1 else x
mutual
noncomputable def D7 (d n:Nat):Vl->Nat×Nat
 | .mk s l f=>if 48<d then(n,9)else if 65536<=n then(n,10)else if Ho s l f≠0 then(n,Ho s l f)else JR (DL (d+1) (n+1) l) λm=>Dp (d+1) m f
noncomputable def DL (d n:Nat):List Vl->Nat×Nat
 | []=>(n,0)
 | v::r=>JR (D7 d n v) λm=>DL d m r
noncomputable def NK (d n:Nat):Fd->Nat×Nat
 | .mk _ v=>D7 d n v
noncomputable def Dp (d n:Nat):List Fd->Nat×Nat
 | []=>(n,0)
 | x::r=>JR (NK d n x) λm=>Dp d m r
end
noncomputable def BV (v:Vl):Nat:=(D7 1 0 v).2
theorem Cy {x:Nat×Nat} {f:Nat->Nat×Nat} (h:(JR x f).2=0):x.2=0/\(f x.1).2=0:=by
 unfold JR at h;split at h
 ·rename_i h0;exact⟨h0,h⟩
 ·rename_i h0;exact absurd h h0
theorem DE {x:Nat×Nat} {f:Nat->Nat×Nat} (h:x.2=0):JR x f=f x.1:=by unfold JR;rw[if_pos h]
theorem N5 {x:Nat×Nat} {f:Nat->Nat×Nat} (h:x.2≠0):JR x f=x:=by unfold JR;rw[if_neg h]
theorem VR:∀(f:List Fd) (seen:List B8),ER seen f=0->IG f/\(∀d,d∈f->d.key∉seen/\U8 d.key/\d.key.length<=1024)
 | [],seen,_=>⟨List.nodup_nil,λd h=>by cases h⟩
 | d::r,seen,h=>by
  unfold ER at h;split at h
  ·rename_i h1
   split at h
   ·cases h
   ·rename_i h2
    split at h
    ·cases h
    ·rename_i h3
     obtain⟨k1,k2⟩:=VR r (d.key::seen) h;refine⟨?_,λx hx=>?_⟩
     ·unfold IG
      rw[List.map_cons,List.nodup_cons];refine⟨λhm=>?_,k1⟩;obtain⟨x,hx,he⟩:=List.mem_map.1 hm;exact(k2 x hx).1 (he▸.head _)
     ·rcases List.mem_cons.1 hx with rfl | hx
      ·exact⟨h3,h1,by omega⟩
      ·obtain⟨q1,q2,q3⟩:=k2 x hx
       exact⟨λhm=>q1 (.tail _ hm),q2,q3⟩
  ·cases h
structure K3 (s:Sc) (l:List Vl) (f:List Fd):Prop where
 own:Rr s l f
 dec:Gv s.neg s.dg s.ex
 time:s.kind=3->HG s.tk s.td s.tn s.tz
 text:U8 s.text
 tlen:s.text.length<=65536
 blen:s.bytes.length<=65536
 keys:ER [] f=0
theorem Sw {s:Sc} {l:List Vl} {f:List Fd}:Ho s l f=0↔K3 s l f:=by
 unfold Ho;constructor
 ·intro h
  split at h
  ·rename_i h1
   split at h
   ·rename_i h2
    split at h
    ·rename_i h3
     split at h
     ·rename_i h4
      split at h
      ·cases h
      ·rename_i h5
       split at h
       ·cases h
       ·rename_i h6
        exact⟨h1,h2,h3,h4,by omega,by omega,h⟩
     ·cases h
    ·cases h
   ·cases h
  ·cases h
 ·intro h
  rw[if_pos h.own,if_pos h.dec,if_pos h.time,if_pos h.text,if_neg (by have:=h.tlen;omega),if_neg (by have:=h.blen;omega)];exact h.keys
mutual
def AY:Vl->Prop
 | .mk s l f=>K3 s l f/\BW l/\Cc f
def BW:List Vl->Prop
 | []=>True
 | v::r=>AY v/\BW r
def HF:Fd->Prop
 | .mk _ v=>AY v
def Cc:List Fd->Prop
 | []=>True
 | d::r=>HF d/\Cc r
end
mutual
theorem Uj:∀(v:Vl) (d n:Nat),(D7 d n v).2=0->AY v
 | .mk s l f,d,n,h=>by
  unfold D7 at h;unfold AY;split at h
  ·cases h
  ·split at h
   ·cases h
   ·split at h
    ·rename_i h1;exact absurd h h1
    ·rename_i h1
     obtain⟨h2,h3⟩:=Cy h;exact⟨Sw.1 (Decidable.of_not_not h1),Wq l _ _ h2,Ww f _ _ h3⟩
theorem Wq:∀(l:List Vl) (d n:Nat),(DL d n l).2=0->BW l
 | [],d,n,_=>by unfold BW;trivial
 | v::r,d,n,h=>by
  unfold DL at h;unfold BW;obtain⟨h2,h3⟩:=Cy h;exact⟨Uj v _ _ h2,Wq r _ _ h3⟩
theorem chkD_ok:∀(x:Fd) (d n:Nat),(NK d n x).2=0->HF x
 | .mk k v,d,n,h=>by unfold NK at h;unfold HF;exact Uj v _ _ h
theorem Ww:∀(l:List Fd) (d n:Nat),(Dp d n l).2=0->Cc l
 | [],d,n,_=>by unfold Cc;trivial
 | x::r,d,n,h=>by
  unfold Dp at h;unfold Cc;obtain⟨h2,h3⟩:=Cy h;exact⟨chkD_ok x _ _ h2,Ww r _ _ h3⟩
end
end
theorem SlR.isPtr {st:St} {sz n i:Nat} {u:TV} {xs:List TV} (h:SlR st sz u n xs) (hi:i<n):TVF.isPtr (ixT sz u i)=true:=by
 rcases h with(⟨rfl,rfl,rfl⟩ | ⟨tip,rfl⟩) | ⟨b,off,cap,l,rfl,_⟩
 ·omega
 ·rfl
 ·rfl
theorem SlR.ldcf {st:St} {sz n i f m:Nat} {u:TV} {xs:List TV} (h:SlR st sz u n xs) (hl:xs.length=n*sz) (hi:i<n) (hf:f+m<=sz):AE st [] (.t (AU (ixT sz u i) f)) 0 m=some ((xs.drop (i*sz+f)).take m):=by
 have hm:(i+1)*sz<=n*sz:=Nat.mul_le_mul_right _ hi;rw[Nat.add_mul,Nat.one_mul]at hm;rcases h with(⟨rfl,rfl,rfl⟩ | ⟨tip,rfl⟩) | ⟨b,off,cap,l,rfl,h2,h3,h4,h5,rfl⟩
 ·omega
 ·show AE st [] (.t (.rptr ((xs.drop (i*sz)).drop f))) 0 m=_
  rw[List.drop_drop,QM m 0 (by rw[List.length_drop];omega),List.drop_zero]
 ·have hc:n*sz<=cap*sz:=Nat.mul_le_mul_right _ h5
  have e1:(((l.drop off).take (n*sz)).drop (i*sz+f)).take m=(l.drop (off+i*sz+f)).take m:=by
   rw[List.drop_take,List.drop_drop,List.take_take,Nat.min_eq_left (by omega),Nat.add_assoc]
  rw[e1];have e:=Np (B:=l.drop (off+i*sz+f+m)) (st:=st) (b:=b) ((l.drop (off+i*sz+f)).take m) l 0 (off+i*sz+f) h3 (by
   have:=List.take_append_drop m (l.drop (off+i*sz+f));rw[List.drop_drop]at this;rw[Nat.add_zero];exact this.symm)
  rw[show((l.drop (off+i*sz+f)).take m).length=m by simp;omega]at e;exact e
theorem SlR.ldf {st:St} {sz n i f:Nat} {u x:TV} {xs:List TV} (h:SlR st sz u n xs) (hl:xs.length=n*sz) (hi:i<n) (hf:f<sz) (hx:xs[i*sz+f]? =some x):Af st [] (.t (AU (ixT sz u i) f)) 0=some x:=by
 have:=h.ldcf (f:=f) (m:=1) hl hi (by omega);have hlt:i*sz+f<xs.length:=by
  obtain⟨q,_⟩:=List.getElem?_eq_some_iff.1 hx;exact q
 rw[List.drop_eq_getElem_cons hlt]at this;rw[List.getElem?_eq_getElem hlt]at hx;simp only[AE,List.take_succ_cons,List.take_zero]at this;cases hq:Af st [] (.t (AU (ixT sz u i) f)) 0 with
 | none=>rw[hq]at this;cases this
 | some y=>
  rw[hq]at this;simp only[Option.map_some,Option.some.injEq,List.cons.injEq,and_true]at this;rw[this];exact hx
theorem CH.trans {a b c:St} (h:CH a b) (k:CH b c):CH a c:=⟨Nat.le_trans h.1 k.1,λi hi=>(k.2 i (Nat.lt_of_lt_of_le hi h.1)).trans (h.2 i hi)⟩
theorem AO {s:B8} {f:B8->Prop} (h:f s):CG .str (.str s) f:=h
theorem Am {k:IntKind} {n:Int} {f:Int->Prop} (h:f n):CG (.int k) (.int k n) f:=by
 simp only[CG];exact h
theorem DO {b:Bool} {f:Bool->Prop} (h:f b):CG .bool (.bool b) f:=h
theorem GM {α:Type} {K:α->St->Prop} {a b:α} {st:St} (h:a=b) (hk:K b st):K a st:=h▸hk
theorem u8wrap (n:Nat):IntKind.wrap .u8 (n:Int)=((UInt8.ofNat n).toNat:Int):=by
 unfold IntKind.wrap;simp only[IntKind.signed,IntKind.bits];simp
 try omega
def rD (l:B8):Nat×Nat:=if ul l=0 then(0,0)else(ur l,ul l)
theorem UL (l:B8):Ct l<=l.length:=Yy _ l (Nat.le_refl _)
theorem MS:Ct []=0:=Cv _ (by simp[ul])
theorem Rd.ldx {sz:Nat} {v:TV} {n:Nat} {xs:List TV} (h:Rd sz v n xs) (st:St) (i j:Nat) {x:TV} (hx:xs[i*sz+j]? =some x):Af st [] (.t (ixT sz v i)) j=some x:=by
 obtain⟨hlt,hx⟩:=List.getElem?_eq_some_iff.1 hx;rw[h.ld st i j hlt,hx]
def hdS (b:Nat):Nat:=if b<128 then 1 else if 192<=b/\b<224 then 2 else if 224<=b/\b<240 then 3 else if 240<=b/\b<248 then 4 else 0
def hdB (b:Nat):Nat:=if b<128 then b else if 192<=b/\b<224 then b%32 else if 224<=b/\b<240 then b%16 else if 240<=b/\b<248 then b%8 else 0
def wid (r:Nat):Nat:=if r<128 then 1 else if r<2048 then 2 else if r<65536 then 3 else 4
theorem Lt (a m:Nat) (ha:a<256) (hm:m<=8):AI .and .u8 (a:Int) ((2^m-1:Nat):Int)=((a%2^m:Nat):Int):=by
 have:2^m<=2^8:=Nat.pow_le_pow_right (by decide) hm;rw[Uw _ _ ha (by omega),Nat.and_two_pow_sub_one_eq_mod]
theorem head_ok {B:Int} {b:Nat} {st:St} {K:Int->Int->St->Prop} (hB:B=(b:Int)) (hb:b<256) (hk:K (hdS b:Nat) (hdB b:Nat) st):CallT PR KO [.int .u8 B] [.one (.int .i64),.one (.int .i64)] st K:=by
 have m31:AI .and .u8 B (31:Int)=((b%32:Nat):Int):=by rw[hB];exact Lt b 5 hb (by decide)
 have m15:AI .and .u8 B (15:Int)=((b%16:Nat):Int):=by rw[hB];exact Lt b 4 hb (by decide)
 have m7:AI .and .u8 B (7:Int)=((b%8:Nat):Int):=by rw[hB];exact Lt b 3 hb (by decide)
 unfold hdS hdB at hk;have kk:∀(x y x' y':Int),x=x'->y=y'->K x' y' st->K x y st:=λx y x' y' h1 h2 hk=>by rw[h1,h2];exact hk
 refine UN B st K ?_;rw[m31,m15,m7,Ah B (by omega) (by omega),Ah ((b%32:Nat):Int) (by omega) (by omega),Ah ((b%16:Nat):Int) (by omega) (by omega),Ah ((b%8:Nat):Int) (by omega) (by omega)];by_cases g1:b<128
 ·rw[if_pos g1,if_pos g1]at hk
  exact Ab (λ_=>kk _ _ _ _ rfl hB hk) λh=>by omega
 rw[if_neg g1,if_neg g1]at hk;refine Ab (λh=>by omega) λ_=>?_;by_cases g2:192<=b/\b<224
 ·rw[if_pos g2,if_pos g2]at hk
  exact Ab (λ_=>Ab (λ_=>hk) λh=>by omega) λh=>by omega
 rw[if_neg g2,if_neg g2]at hk;by_cases g3:224<=b/\b<240
 ·rw[if_pos g3,if_pos g3]at hk
  refine Ab (λ_=>Ab (λh=>by omega) λ_=>?_) λh=>by omega
  exact Ab (λ_=>Ab (λ_=>hk) λh=>by omega) λh=>by omega
 rw[if_neg g3,if_neg g3]at hk;by_cases g4:240<=b/\b<248
 ·rw[if_pos g4,if_pos g4]at hk
  refine Ab (λ_=>Ab (λh=>by omega) λ_=>?_) λh=>by omega
  refine Ab (λ_=>Ab (λh=>by omega) λ_=>?_) λh=>by omega
  exact Ab (λ_=>Ab (λ_=>hk) λh=>by omega) λh=>by omega
 rw[if_neg g4,if_neg g4]at hk
 repeat' first
  | exact hk
  | omega
  | refine Ab (λ_=>?_) λ_=>?_
theorem Aad {R:Int} {r:Nat} {st:St} {K:Bool->St->Prop} (hR:R=(r:Int)) (hk:K (decide (B5 r)) st):CallT PR Ix [.int .i64 R] [.one (.bool)] st K:=by
 unfold B5 at hk;refine RK R st K (Ab (λ_=>Ab (λh2=>Ab (λh3=>?_) λh3=>?_) λh2=>?_) λh1=>by omega)
 ·exact GM (decide_eq_true (by omega)).symm hk
 ·exact GM (decide_eq_decide.2 (by omega)) hk
 ·exact GM (decide_eq_false (by omega)).symm hk
theorem width_ok {R:Int} {r:Nat} {st:St} {K:Int->St->Prop} (hR:R=(r:Int)) (hk:K (wid r:Nat) st):CallT PR JC [.int .i64 R] [.one (.int .i64)] st K:=by
 unfold wid at hk;refine S9 R st K (Ab (λh1=>?_) λh1=>Ab (λh2=>?_) λh2=>Ab (λh3=>?_) λh3=>?_)
 ·rw[if_pos (by omega)]at hk;exact hk
 ·rw[if_neg (by omega),if_pos (by omega)]at hk;exact hk
 ·rw[if_neg (by omega),if_neg (by omega),if_pos (by omega)]at hk;exact hk
 ·rw[if_neg (by omega),if_neg (by omega),if_neg (by omega)]at hk;exact hk
def TE (l:B8):Prop:=hdS (bt l 0)≠0/\hdS (bt l 0)<=l.length/\(∀j,1<=j->j<hdS (bt l 0)->bt l j/64=2)/\B5 (Ed l (hdB (bt l 0)) (hdS (bt l 0)-1))/\wid (Ed l (hdB (bt l 0)) (hdS (bt l 0)-1))=hdS (bt l 0)
theorem pd_val (l:B8) (h:l≠ []) (hp:TE l):ul l=hdS (bt l 0)/\ur l=Ed l (hdB (bt l 0)) (hdS (bt l 0)-1):=by
 obtain⟨p1,p2,p3,p4,p5⟩:=hp;have e:=Jt l h;have h0:=If l 0;have e0:(l.getD 0 0).toNat=bt l 0:=rfl;have e1:(l.getD 1 0).toNat=bt l 1:=rfl;have e2:(l.getD 2 0).toNat=bt l 2:=rfl;have e3:(l.getD 3 0).toNat=bt l 3:=rfl;have fin:∀n r,rsz (bt l 0)=n->rb0 (bt l 0)=r->n=hdS (bt l 0)->r=hdB (bt l 0)->DJ (Ed l r (n-1))=l.take n->ul l=hdS (bt l 0)/\ur l=Ed l (hdB (bt l 0)) (hdS (bt l 0)-1):=by
  intro n r hn hr hn2 hr2 henc;unfold Xn at e;simp only[hn,hr]at e;rw[if_neg (by omega),if_pos ⟨by rw[hr2,hn2];exact p4,henc⟩]at e;by_cases hz:ul l=0
  ·rw[if_pos hz]at e;simp only[Prod.mk.injEq]at e;omega
  ·rw[if_neg hz]at e;simp only[Prod.mk.injEq]at e
   exact⟨by omega,by rw[<-hr2,<-hn2];exact e.1.symm⟩
 have h1:=If l 1;have h2:=If l 2;have h3:=If l 3;by_cases g1:bt l 0<128
 ·have hs:hdS (bt l 0)=1:=by unfold hdS;rw[if_pos g1]
  have hb:hdB (bt l 0)=bt l 0:=by unfold hdB;rw[if_pos g1]
  refine fin 1 (bt l 0) (by unfold rsz;rw[if_neg (by omega),if_neg (by omega),if_neg (by omega)]) (by unfold rb0;rw[if_neg (by omega),if_neg (by omega),if_neg (by omega)]) hs.symm hb.symm ?_;rw[Qd l (by omega)];simp only[Nat.sub_self,Ed];unfold DJ;rw[if_pos g1];simp only[Ep,Ef,e0,and_true];omega
 by_cases g2:192<=bt l 0/\bt l 0<224
 ·have hs:hdS (bt l 0)=2:=by unfold hdS;rw[if_neg g1,if_pos g2]
  have hb:hdB (bt l 0)=bt l 0%32:=by unfold hdB;rw[if_neg g1,if_pos g2]
  rw[hs]at p3 p5;rw[hb]at p5;have q1:=p3 1 (by omega) (by omega);refine fin 2 (bt l 0%32) (by unfold rsz;rw[if_neg (by omega),if_neg (by omega),if_pos (by omega)]) (by unfold rb0;rw[if_neg (by omega),if_neg (by omega),if_pos (by omega)]) hs.symm hb.symm ?_;rw[Qc l (by omega)];simp only[Nat.reduceSub,Ed,Nat.zero_add]at p5⊢;generalize bt l 0=b0 at*;generalize bt l 1=b1 at*;unfold wid at p5;unfold DJ;by_cases k1:b0%32*64+b1%64<128
  ·rw[if_pos k1]at p5;omega
  rw[if_neg k1]at p5⊢;by_cases k2:b0%32*64+b1%64<2048
  ·rw[if_pos k2]
   simp only[Ep,Ef,e0,e1,and_true];omega
  ·rw[if_neg k2]at p5;split at p5<;>omega
 by_cases g3:224<=bt l 0/\bt l 0<240
 ·have hs:hdS (bt l 0)=3:=by unfold hdS;rw[if_neg g1,if_neg g2,if_pos g3]
  have hb:hdB (bt l 0)=bt l 0%16:=by unfold hdB;rw[if_neg g1,if_neg g2,if_pos g3]
  rw[hs]at p3 p5;rw[hb]at p5;have q1:=p3 1 (by omega) (by omega);have q2:=p3 2 (by omega) (by omega);refine fin 3 (bt l 0%16) (by unfold rsz;rw[if_neg (by omega),if_pos (by omega)]) (by unfold rb0;rw[if_neg (by omega),if_pos (by omega)]) hs.symm hb.symm ?_;rw[Jl l (by omega)];simp only[Nat.reduceSub,Ed,Nat.zero_add,Nat.reduceAdd]at p5⊢;generalize bt l 0=b0 at*;generalize bt l 1=b1 at*;generalize bt l 2=b2 at*;generalize hr:(b0%16*64+b1%64)*64+b2%64=r at*;unfold wid at p5;unfold DJ;by_cases k1:r<128
  ·rw[if_pos k1]at p5;omega
  rw[if_neg k1]at p5⊢;by_cases k2:r<2048
  ·rw[if_pos k2]at p5;omega
  rw[if_neg k2]at p5⊢;by_cases k3:r<65536
  ·rw[if_pos k3]
   simp only[Ep,Ef,e0,e1,e2,and_true];omega
  ·rw[if_neg k3]at p5;omega
 by_cases g4:240<=bt l 0/\bt l 0<248
 ·have hs:hdS (bt l 0)=4:=by unfold hdS;rw[if_neg g1,if_neg g2,if_neg g3,if_pos g4]
  have hb:hdB (bt l 0)=bt l 0%8:=by unfold hdB;rw[if_neg g1,if_neg g2,if_neg g3,if_pos g4]
  rw[hs]at p3 p4 p5;rw[hb]at p4 p5;have q1:=p3 1 (by omega) (by omega);have q2:=p3 2 (by omega) (by omega);have q3:=p3 3 (by omega) (by omega);refine fin 4 (bt l 0%8) (by unfold rsz;rw[if_pos (by omega)]) (by unfold rb0;rw[if_pos (by omega)]) hs.symm hb.symm ?_;rw[N7 l (by omega)];simp only[Nat.reduceSub,Ed,Nat.zero_add,Nat.reduceAdd]at p4 p5⊢;generalize bt l 0=b0 at*;generalize bt l 1=b1 at*;generalize bt l 2=b2 at*;generalize bt l 3=b3 at*;generalize hr:((b0%8*64+b1%64)*64+b2%64)*64+b3%64=r at*;unfold wid at p5;unfold DJ;by_cases k1:r<128
  ·rw[if_pos k1]at p5;omega
  rw[if_neg k1]at p5⊢;by_cases k2:r<2048
  ·rw[if_pos k2]at p5;omega
  rw[if_neg k2]at p5⊢;by_cases k3:r<65536
  ·rw[if_pos k3]at p5;omega
  rw[if_neg k3];have:=p4.1;simp only[Ep,Ef,e0,e1,e2,e3,and_true];omega
 ·exfalso
  unfold hdS at p1;rw[if_neg g1,if_neg g2,if_neg g3,if_neg g4]at p1;exact p1 rfl
theorem pd_iff (l:B8) (h:l≠ []):ul l≠0->TE l:=by
 intro hu;have e:=Jt l h;rw[if_neg hu]at e;have h0:=If l 0;have e0:(l.getD 0 0).toNat=bt l 0:=rfl;have e1:(l.getD 1 0).toNat=bt l 1:=rfl;have e2:(l.getD 2 0).toNat=bt l 2:=rfl;have e3:(l.getD 3 0).toNat=bt l 3:=rfl;have h1:=If l 1;have h2:=If l 2;have h3:=If l 3;have hc:¬l.length<rsz (bt l 0)/\B5 (Ed l (rb0 (bt l 0)) (rsz (bt l 0)-1))/\DJ (Ed l (rb0 (bt l 0)) (rsz (bt l 0)-1))=l.take (rsz (bt l 0)):=by
  unfold Xn at e;simp only at e;split at e
  ·simp only[Prod.mk.injEq]at e;omega
  ·split at e
   ·rename_i a b;exact⟨a,b⟩
   ·simp only[Prod.mk.injEq]at e;omega
 obtain⟨hl,hch,henc⟩:=hc;by_cases g4:240<=bt l 0
 ·have r4:rsz (bt l 0)=4:=by unfold rsz;rw[if_pos g4]
  have rb:rb0 (bt l 0)=bt l 0%8:=by unfold rb0;rw[if_pos g4]
  rw[r4,rb]at henc hch;rw[r4]at hl;rw[N7 l (by omega)]at henc;unfold TE hdS hdB;simp only[Nat.reduceSub,Ed,Nat.zero_add,Nat.reduceAdd]at henc hch;generalize hb0:bt l 0=b0 at*;generalize hb1:bt l 1=b1 at*;generalize hb2:bt l 2=b2 at*;generalize hb3:bt l 3=b3 at*;have hr0:∃r,r=((b0%8*64+b1%64)*64+b2%64)*64+b3%64:=⟨_,rfl⟩;obtain⟨r,hr⟩:=hr0;rw[<-hr]at henc hch;have hmax:=hch.1;unfold DJ at henc;have hw:wid r=4/\b0=240+r/262144/\b1/64=2/\b2/64=2/\b3/64=2:=by
   unfold wid;split at henc
   ·simp at henc
   ·split at henc
    ·simp at henc
    ·split at henc
     ·simp at henc
     ·simp only[Ep,Ef,e0,e1,e2,e3,and_true]at henc
      refine⟨by rw[if_neg ‹_›,if_neg ‹_›,if_neg ‹_›],by omega,by omega,by omega,by omega⟩
  rw[if_neg (show ¬b0<128 by omega),if_neg (show ¬(192<=b0/\b0<224) by omega),if_neg (show ¬(224<=b0/\b0<240) by omega),if_pos (show 240<=b0/\b0<248 by omega),if_neg (show ¬b0<128 by omega),if_neg (show ¬(192<=b0/\b0<224) by omega),if_neg (show ¬(224<=b0/\b0<240) by omega),if_pos (show 240<=b0/\b0<248 by omega)];simp only[Nat.reduceSub,Ed,Nat.zero_add,Nat.reduceAdd,hb1,hb2,hb3];rw[<-hr];refine⟨by omega,by omega,λj j1 j2=>?_,hch,hw.1⟩;have:j=1∨j=2∨j=3:=by omega
  rcases this with rfl | rfl | rfl<;>omega
 by_cases g3:224<=bt l 0
 ·have r4:rsz (bt l 0)=3:=by unfold rsz;rw[if_neg g4,if_pos g3]
  have rb:rb0 (bt l 0)=bt l 0%16:=by unfold rb0;rw[if_neg g4,if_pos g3]
  rw[r4,rb]at henc hch;rw[r4]at hl;rw[Jl l (by omega)]at henc;unfold TE hdS hdB;simp only[Nat.reduceSub,Ed,Nat.zero_add,Nat.reduceAdd]at henc hch;generalize hb0:bt l 0=b0 at*;generalize hb1:bt l 1=b1 at*;generalize hb2:bt l 2=b2 at*;have hr0:∃r,r=(b0%16*64+b1%64)*64+b2%64:=⟨_,rfl⟩;obtain⟨r,hr⟩:=hr0;rw[<-hr]at henc hch;unfold DJ at henc;have hw:wid r=3/\b1/64=2/\b2/64=2:=by
   unfold wid;split at henc
   ·simp at henc
   ·split at henc
    ·simp at henc
    ·split at henc
     ·simp only[Ep,Ef,e0,e1,e2,and_true]at henc
      refine⟨by rw[if_neg ‹_›,if_neg ‹_›,if_pos ‹_›],by omega,by omega⟩
     ·simp at henc
  rw[if_neg (show ¬b0<128 by omega),if_neg (show ¬(192<=b0/\b0<224) by omega),if_pos (show 224<=b0/\b0<240 by omega),if_neg (show ¬b0<128 by omega),if_neg (show ¬(192<=b0/\b0<224) by omega),if_pos (show 224<=b0/\b0<240 by omega)];simp only[Nat.reduceSub,Ed,Nat.zero_add,Nat.reduceAdd,hb1,hb2];rw[<-hr];refine⟨by omega,by omega,λj j1 j2=>?_,hch,hw.1⟩;have:j=1∨j=2:=by omega
  rcases this with rfl | rfl<;>omega
 by_cases g2:192<=bt l 0
 ·have r4:rsz (bt l 0)=2:=by unfold rsz;rw[if_neg g4,if_neg g3,if_pos g2]
  have rb:rb0 (bt l 0)=bt l 0%32:=by unfold rb0;rw[if_neg g4,if_neg g3,if_pos g2]
  rw[r4,rb]at henc hch;rw[r4]at hl;rw[Qc l (by omega)]at henc;unfold TE hdS hdB;simp only[Nat.reduceSub,Ed,Nat.zero_add,Nat.reduceAdd]at henc hch;generalize hb0:bt l 0=b0 at*;generalize hb1:bt l 1=b1 at*;have hr0:∃r,r=b0%32*64+b1%64:=⟨_,rfl⟩;obtain⟨r,hr⟩:=hr0;rw[<-hr]at henc hch;unfold DJ at henc;have hw:wid r=2/\b1/64=2:=by
   unfold wid;split at henc
   ·simp at henc
   ·split at henc
    ·simp only[Ep,Ef,e0,e1,and_true]at henc
     refine⟨by rw[if_neg ‹_›,if_pos ‹_›],by omega⟩
    ·split at henc<;>simp at henc
  rw[if_neg (show ¬b0<128 by omega),if_pos (show 192<=b0/\b0<224 by omega),if_neg (show ¬b0<128 by omega),if_pos (show 192<=b0/\b0<224 by omega)];simp only[Nat.reduceSub,Ed,Nat.zero_add,hb1];rw[<-hr];refine⟨by omega,by omega,λj j1 j2=>?_,hch,hw.1⟩;have:j=1:=by omega
  subst this;omega
 ·have r4:rsz (bt l 0)=1:=by unfold rsz;rw[if_neg g4,if_neg g3,if_neg g2]
  have rb:rb0 (bt l 0)=bt l 0:=by unfold rb0;rw[if_neg g4,if_neg g3,if_neg g2]
  rw[r4,rb]at henc hch;rw[r4]at hl;rw[Qd l (by omega)]at henc;unfold TE hdS hdB;simp only[Nat.sub_self,Ed]at henc hch;generalize hb0:bt l 0=b0 at*;have hlt:b0<128:=by
   unfold DJ at henc;split at henc
   ·assumption
   ·split at henc
    ·simp at henc
    ·split at henc<;>simp at henc
  rw[if_pos hlt,if_pos hlt];simp only[Nat.sub_self,Ed];refine⟨by omega,by omega,λj j1 j2=>by omega,hch,by unfold wid;rw[if_pos hlt]⟩
theorem W1 {s:B8} {I:Int} {i:Nat} {st:St} {K:Int->Int->St->Prop} (hI:I=(i:Int)) (hl:s.length<=2000000) (hi:i<=s.length) (hk:K ((rD (s.drop i)).1:Nat) ((rD (s.drop i)).2:Nat) st):
  CallT PR Iy [.str s,.int .i64 I] [.one (.int .i64),.one (.int .i64)] st K:=by
 have no:¬TE (s.drop i)->s.drop i≠ []->K 0 0 st:=λh hne=>by
  have:ul (s.drop i)=0:=Decidable.byContradiction λh0=>h (pd_iff _ hne h0);unfold rD at hk;rw[if_pos this]at hk;exact hk
 have yes:TE (s.drop i)->s.drop i≠ []->K (Ed (s.drop i) (hdB (bt (s.drop i) 0)) (hdS (bt (s.drop i) 0)-1):Nat) (hdS (bt (s.drop i) 0):Nat) st:=λh hne=>by
  have hv:=pd_val _ hne h;unfold rD at hk;rw[if_neg (by rw[hv.1];exact h.1),hv.1,hv.2]at hk;exact hk
 have hlen:(s.drop i).length=s.length-i:=by simp
 have hb:∀j,bt (s.drop i) j=(s.getD (i+j) 0).toNat:=GY s i;refine RL s I st K (Ab (λh=>by omega) λ_=>Ab (λh=>?_) λh=>⟨⟨by omega,by omega⟩,?_⟩)
 ·have:s.drop i=[]:=List.drop_of_length_le (by omega)
  have h0:rD (s.drop i)=(0,0):=by rw[this];simp[rD,ul]
  rw[h0]at hk;exact hk
 have hne:s.drop i≠ []:=by
  intro h0;have:=congrArg List.length h0;rw[hlen]at this;simp only[List.length_nil]at this;omega
 have hb0:(List.getD s (Int.toNat I) 0).toNat=bt (s.drop i) 0:=by rw[hb,hI];rfl
 have hlt:=If (s.drop i) 0;rw[hb0];refine head_ok rfl hlt ?_;have hsz:hdS (bt (s.drop i) 0)<=4:=by unfold hdS;(repeat' split)<;>omega
 have hbz:hdB (bt (s.drop i) 0)<256:=by unfold hdB;(repeat' split)<;>omega
 unfold TE at no yes;generalize hdS (bt (s.drop i) 0)=n at*;generalize hdB (bt (s.drop i) 0)=r0 at*;rw[Ah _ (by omega) (by omega)];refine Ab (λg=>no (λhh=>hh.1 (by omega)) hne) λg1=>Ab (λg=>no (λhh=>by omega) hne) λg2=>?_;have hra:=racc_lt (s.drop i) r0 hbz;refine⟨λr j s' at' sz st2=>s=s'/\I=at'/\st=st2/\((n:Nat):Int)=sz/\∃k:Nat,j=((k+1:Nat):Int)/\k+1<=n/\r=((Ed (s.drop i) r0 k:Nat):Int)/\∀m,1<=m->m<=k->bt (s.drop i) m/64=2,λ_ j _ _ sz _=>(sz-j).toNat,⟨rfl,rfl,rfl,rfl,0,rfl,by omega,rfl,λm h1 h2=>by omega⟩,?_⟩;rintro _ _ _ _ _ _ ⟨rfl,rfl,rfl,rfl,k,rfl,hk1,rfl,hall⟩;have hrk:=hra k;have h64:64^k<=64^3:=Nat.pow_le_pow_right (by decide) (by omega);refine Ab (λh2=>?_) λh2=>?_
 ·rw[Ah (I+((k+1:Nat):Int)) (by omega) (by omega)]
  have hbk:(List.getD s (Int.toNat (I+((k+1:Nat):Int))) 0).toNat=bt (s.drop i) (k+1):=by
   rw[hb,show Int.toNat (I+((k+1:Nat):Int))=i+(k+1) by omega]
  have hbl:=If (s.drop i) (k+1);have h192:AI .and .u8 ((bt (s.drop i) (k+1):Nat):Int) (192:Int)=((bt (s.drop i) (k+1)&&&192:Nat):Int):=Uw _ 192 hbl (by decide);have hand:i64.wrap (AI .and .u8 ((bt (s.drop i) (k+1):Nat):Int) (63:Int))=((bt (s.drop i) (k+1)%64:Nat):Int):=by
   rw[show(63:Int)=((2^6-1:Nat):Int) by decide,Lt _ 6 hbl (by decide),Ah _ (by omega) (by omega)]
  have hmul:i64.wrap (((Ed (s.drop i) r0 k:Nat):Int)*2^(min (Int.toNat (6:Int)) (IntKind.bits .i64)))=((Ed (s.drop i) r0 k*2^6:Nat):Int):=by
   rw[show(2:Int)^(min (Int.toNat (6:Int)) (IntKind.bits .i64))=64 by decide,Ah _ (by omega) (by omega)];omega
  have hc:(bt (s.drop i) (k+1)&&&192)=128↔bt (s.drop i) (k+1)/64=2:=by
   have:∀x,x<256->((x&&&192)=128↔x/64=2):=by decide+kernel
   exact this _ hbl
  refine⟨⟨by omega,by omega⟩,?_⟩;rw[hbk,h192,hand,hmul,or_add _ _ 6 (by omega) (by omega),Ah _ (by omega) (by omega)];refine Ab (λh3=>no (λhh=>h3 ?_) hne) λh3=>?_
  ·have:=hh.2.2.1 (k+1) (by omega) (by omega)
   rw[hc.2 this];rfl
  ·have h4:bt (s.drop i) (k+1)/64=2:=hc.1 (by omega)
   refine⟨⟨rfl,rfl,rfl,rfl,k+1,by omega,by omega,by simp only[Ed],λm m1 m2=>?_⟩,by dsimp only;omega⟩;by_cases hm:m=k+1
   ·rw[hm];exact h4
   ·exact hall m m1 (by omega)
 ·have hks:k=n-1:=by omega
  subst hks;refine Aad rfl (Ao (λh3=>no (λhh=>?_) hne) λh3=>width_ok rfl (Ab (λh4=>no (λhh=>?_) hne) λh4=>?_))
  ·simp only[Bool.not_eq_true',decide_eq_false_iff_not]at h3
   exact h3 hh.2.2.2.1
  ·rw[hh.2.2.2.2]at h4;exact h4 rfl
  ·simp only[Bool.not_eq_false',decide_eq_true_eq]at h3
   exact yes ⟨by omega,by omega,λm m1 m2=>hall m m1 (by omega),h3,by omega⟩ hne
theorem uLen_ok {s:B8} {st:St} {K:Int->Int->St->Prop} (hl:s.length<=2000000) (hk:∀n:Int,K n (if Ct s=s.length then 0 else 5) st):CallT PR MC [.str s] [.one (.int .i64),.one (.int .i64)] st K:=by
 have hv:=UL s;refine WY s st K ⟨λn i s' st'=>s=s'/\st=st'/\∃k:Nat,i=(k:Int)/\k<=s.length/\k+Ct (s.drop k)=Ct s,λ_ i _ _=>(s.length-i).toNat,⟨rfl,rfl,0,rfl,by omega,by simp⟩,?_⟩;rintro n _ _ _ ⟨rfl,rfl,k,rfl,h1,h2⟩;refine Ab (λg1=>W1 rfl hl h1 ?_) λg1=>?_
 ·have hle:=PZ (s.drop k)
  rw[List.length_drop]at hle;unfold rD;by_cases h0:ul (s.drop k)=0
  ·rw[if_pos h0]
   rw[Cv _ h0]at h2;have:=hk 0;rw[if_neg (by omega)]at this;exact Ab (λ_=>this) λh=>absurd rfl h
  ·rw[if_neg h0]
   rw[Fe _ h0,List.drop_drop]at h2;refine Ab (λh=>absurd h (by show ¬((ul (s.drop k):Nat):Int)=0;omega)) λ_=>?_;have w:i64.wrap ((k:Int)+(ul (s.drop k):Nat))=((k+ul (s.drop k):Nat):Int):=by rw[Ah _ (by omega) (by omega)];omega
   dsimp only;rw[w];exact⟨⟨rfl,rfl,_,rfl,by omega,by omega⟩,by omega⟩
 ·rw[show s.drop k=[]from List.drop_of_length_le (by omega),MS]at h2
  have:=hk n;rw[if_pos (by omega)]at this;exact this
theorem Sf {s:B8} {st:St} {K:Bool->St->Prop} (hl:s.length<=2000000) (hk:K (decide (Ct s=s.length)) st):CallT PR GW [.str s] [.one (.bool)] st K:=by
 refine Ta s st K (uLen_ok hl λn=>?_);by_cases h:Ct s=s.length
 ·rw[if_pos h];rw[decide_eq_true h]at hk;exact hk
 ·rw[if_neg h];rw[decide_eq_false h]at hk;exact hk
theorem M4 {l:B8} {c:UInt8} (hc:c.toNat<128) (hl:l.length<=9223372036854775807) {st:St} {K:B8->St->Prop} (hk:K (Lib.trimRightB l c) st):CallT PR Em [.str l,.str [c]] [.one .str] st K:=by
 refine Fq (λ_ _=>by kernel_rfl) λg w vargs s hr=>?_;obtain⟨v,u,rfl,hv,hu⟩:=Qm hr;rw[Ec hv,Ec hu];refine Calls.mono (Tryz.strings_TrimRight_one ⟨l.toArray⟩ c hc w (by simpa [ByteArray.size]using hl)) ?_;rintro e w' ⟨rfl,rfl⟩;exact⟨_,rfl,.str _,st,g,hk,s,Rel.str _,Ext.refl _ _⟩
theorem Kp (l:B8):(Lib.trimRightB l 48).length+BR l=l.length:=by
 unfold Lib.trimRightB BR;have:=congrArg List.length (List.takeWhile_append_dropWhile (p:=λx:UInt8=>x==48) (l:=l.reverse));rw[List.length_append,List.length_reverse]at this;rw[List.length_reverse];omega
theorem zeros_ok {l:B8} (hl:l.length<=2000000) {st:St} {K:Int->St->Prop} (hk:K (BR l:Nat) st):CallT PR GE [.str l] [.one (.int .i64)] st K:=by
 refine Pf _ st K (M4 (by decide) (by omega) ?_);have:=Kp l;rw[Ah _ (by omega) (by omega),show((l.length:Nat):Int)-((Lib.trimRightB l 48).length:Int)=(BR l:Nat) by omega];exact hk
theorem Nx {l:B8} {n:Nat} (h:n<l.length):List.getD l n 0∈l:=by
 rw[List.getD_eq_getElem?_getD,List.getElem?_eq_getElem h,Option.getD_some];exact List.getElem_mem h
theorem all_snoc {P:UInt8->Prop} {l:B8} {n:Nat} (h:n<l.length) (h1:∀c,c∈l.take n->P c) (h2:P (List.getD l n 0)):∀c,c∈l.take (n+1)->P c:=by
 intro c hc;rw[G7 _ _ 0 h]at hc;rcases List.mem_append.1 hc with hc | hc
 ·exact h1 c hc
 ·rw[List.mem_singleton.1 hc];exact h2
theorem all_ok {l:B8} (hl:l.length<=2000000) {st:St} {K:Bool->St->Prop} (hk:K (decide (∀c,c∈l->Cz c)) st):CallT PR Iz [.str l] [.one .bool] st K:=by
 refine RN l st K ⟨λi s m st'=>l=s/\(l.length:Int)=m/\st=st'/\∃n:Nat,i=n/\n<=l.length/\∀c,c∈l.take n->Cz c,λi _ _ _=>(l.length-i).toNat,⟨rfl,rfl,rfl,0,rfl,Nat.zero_le _,λc hc=>by simp at hc⟩,?_⟩;rintro _ _ _ _ ⟨rfl,rfl,rfl,n,rfl,hn,hall⟩;refine Ab (λg=>?_) λg=>?_
 ·have hm:=Nx (l:=l) (n:=n) (by omega)
  have bad:¬Cz (List.getD l n 0)->K false st:=λhb=>by
   rw[decide_eq_false λh=>hb (h _ hm)]at hk;exact hk
  rw[Int.toNat_natCast];refine⟨⟨by omega,by omega⟩,Ab (λg2=>bad (by unfold Cz;omega)) λg2=>⟨⟨by omega,by omega⟩,Ab (λg3=>bad (by unfold Cz;omega)) λg3=>?_⟩⟩;rw[Ah _ (by omega) (by omega)];exact⟨⟨rfl,rfl,rfl,n+1,by omega,by omega,all_snoc (by omega) hall (by unfold Cz;omega)⟩,by dsimp only;omega⟩
 ·have:n=l.length:=by omega
  subst this;rw[List.take_length]at hall;rw[decide_eq_true hall]at hk;exact hk
def Rs (l:B8):Prop:=l.length<=600/\(∀c,c∈l->Cz c)/\(l≠ []->l.getD 0 0≠48)
instance (l:B8):Decidable (Rs l):=inferInstanceAs (Decidable (_/\_/\(_->_)))
theorem ne48 (c:UInt8):decide ((c.toNat:Int)≠48)=decide (c≠48):=by
 have:((c.toNat:Int)≠48)↔c≠48:=by rw[ne_eq,ne_eq,<-UInt8.toNat_inj];exact not_congr ⟨λh=>Int.ofNat.inj h,λh=>by rw[h];rfl⟩
 exact decide_eq_decide.2 this
theorem SP {l:B8} (hl:l.length<=2000000) {st:St} {K:Bool->St->Prop} (hk:K (decide (Rs l)) st):CallT PR E0 [.str l] [.one .bool] st K:=by
 have no:¬Rs l->K false st:=λh=>by rw[decide_eq_false h]at hk;exact hk
 refine Pg l st K (Ab (λg=>all_ok hl (Ab (λg2=>Ab (λg3=>?_) λg3=>⟨⟨by omega,by have:=List.length_pos_iff.2 g3;omega⟩,?_⟩) λg2=>no λh=>g2 h.2.1)) λg=>no λh=>g (by have:=h.1;omega))
 ·rw[decide_eq_true (show Rs l from⟨by omega,g2,λh=>absurd g3 h⟩)]at hk;exact hk
 ·rw[ne48]
  refine GM (decide_eq_decide.2 ?_) hk;exact⟨λh=>⟨by omega,g2,λ_=>h⟩,λh=>h.2.2 g3⟩
theorem I9 {neg:Bool} {l:B8} {ex:Int} (h:l≠ []):Gv neg l ex↔Rs l/\l.length<=120/\BR l=0/\ -400<=ex/\ex<=400:=by
 unfold Gv Rs;constructor
 ·intro g
  obtain⟨g1,g2,g3,g4,g5,g6⟩:=g.2 h;exact⟨⟨by omega,g2,λ_=>g3⟩,g1,g4,g5,g6⟩
 ·rintro⟨⟨g1,g2,g3⟩,g4,g5,g6,g7⟩
  exact⟨λe=>absurd e h,λ_=>⟨g4,g2,g3 h,g5,g6,g7⟩⟩
theorem SO {neg:Bool} {ex:Int}:Gv neg [] ex↔neg=false/\ex=0:=by
 unfold Gv;exact⟨λg=>g.1 rfl,λg=>⟨λ_=>g,λh=>absurd rfl h⟩⟩
theorem Wg {neg:Bool} {l:B8} {ex:Int} (hl:l.length<=2000000) {st:St} {K:Bool->St->Prop} (hk:K (decide (Gv neg l ex)) st):CallT PR FY [.agg [.bool neg,.str l,.int .i64 ex]] [.one .bool] st K:=by
 have no:¬Gv neg l ex->K false st:=λh=>by rw[decide_eq_false h]at hk;exact hk
 refine NX _ _ _ st K (Ab (λg=>?_) λg=>?_)
 ·subst g
  refine GM ?_ hk;rw[Bool.eq_iff_iff];simp[SO]
 ·refine SP hl (Ab (λg2=>Ab (λg3=>zeros_ok hl (Ab (λg4=>Ab (λg5=>?_) λg5=>?_) λg4=>?_)) λg3=>?_) λg2=>?_)
  ·exact GM (decide_eq_decide.2 (by rw[I9 g];exact⟨λh=>⟨g2,by omega,by omega,g5,h⟩,λh=>h.2.2.2.2⟩)) hk
  ·exact no λh=>g5 ((I9 g).1 h).2.2.2.1
  ·exact no λh=>g4 (by have:=((I9 g).1 h).2.2.1;omega)
  ·exact no λh=>g3 (by have:=((I9 g).1 h).2.1;omega)
  ·exact no λh=>g2 ((I9 g).1 h).1
theorem Tk {k d n z:Int} {st:St} {K:Bool->St->Prop} (hk:K (decide (HG k d n z)) st):CallT PR EY [.agg [.int .i64 k,.int .i64 d,.int .i64 n,.int .i64 z]] [.one .bool] st K:=by
 refine Pd _ _ _ _ st K ?_
 repeat' first
  | exact GM (Eq.symm (decide_eq_false (by unfold HG;omega))) hk
  | exact GM (Eq.symm (decide_eq_true (by unfold HG;omega))) hk
  | exact GM (decide_eq_decide.2 (by unfold HG;omega)) hk
  | refine Ab (λ_=>?_) λ_=>?_
theorem orc {c p r:Bool} {K:Bool->Prop} {R1 R2:Prop} (h1:K r->R1) (h2:K r->R2) (hk:K ((c&&p) || r)):BIf c (BIf p (K true) R1) R2:=by
 cases c<;>cases p<;>simp only[Bool.true_and,Bool.false_and,Bool.true_or,Bool.false_or]at hk<;>first | exact h1 hk | exact h2 hk | exact hk
theorem orn {c p r s:Bool} {K:Bool->Prop} {R1 R2:Prop} (hs:s=true) (h1:K r->R1) (h2:K r->R2) (hk:K ((c&&p) || r)):BIf c (need s (BIf p (K true) R1)) R2:=by
 subst hs;exact orc h1 h2 hk
theorem ore {c p s:Bool} {K:Bool->Prop} (hs:s=true) (hk:K (c&&p)):BIf c (need s (K p)) (K false):=by
 subst hs;cases c<;>exact hk
def exB (s:Sc) (l:List Vl) (f:List Fd):Bool:=
 (decide (s.kind≠1)&&s.b) || ((decide (s.kind≠2)&& !((s.neg==false)&&(decide (s.dg=[])&&(decide (s.ex=0)&&true)))) || ((decide (s.kind≠3)&& !(decide (s.tk=0)&&(decide (s.td=0)&&(decide (s.tn=0)&&(decide (s.tz=0)&&true))))) ||
  ((decide (s.kind≠4)&&decide (s.text≠ [])) || ((decide (s.kind≠5)&&decide (0<(s.bytes.length:Int))) || ((decide (s.kind≠6)&&decide (0<(l.length:Int))) || (decide (s.kind≠7)&&decide (0<(f.length:Int))))))))
theorem len_zero {α:Type} {l:List α}:¬0<(l.length:Int)↔l=[]:=by
 rw[<-List.length_eq_zero_iff];omega
theorem SJ {s:Sc} {l:List Vl} {f:List Fd} (h0:0<=s.kind) (h7:s.kind<=7):exB s l f=false↔Rr s l f:=by
 unfold exB;simp only[Bool.or_eq_false_iff,Bool.and_eq_false_imp,decide_eq_true_eq,Bool.not_eq_false',Bool.and_eq_true,beq_iff_eq,decide_eq_false_iff_not,len_zero,ne_eq,Decidable.not_not,and_true];constructor
 ·rintro⟨a,b,c,d,e,f,g⟩;exact⟨h0,h7,a,b,c,d,e,f,g⟩
 ·rintro⟨_,_,a,b,c,d,e,f,g⟩;exact⟨a,b,c,d,e,f,g⟩
theorem exB_eq {s:Sc} {l:List Vl} {f:List Fd} (h0:0<=s.kind) (h7:s.kind<=7):exB s l f= !decide (Rr s l f):=by
 cases h:exB s l f with
 | false=>rw[decide_eq_true ((SJ h0 h7).1 h)];rfl
 | true=>rw[decide_eq_false λo=>by rw[(SJ h0 h7).2 o]at h;cases h];rfl
theorem extra_ok {s:Sc} {l:List Vl} {f:List Fd} {ub ul uf:TV} {st:St} {K:Bool->St->Prop} (h1:isSl ub=true) (h2:isSl ul=true) (h3:isSl uf=true) (l1:lenS ub=s.bytes.length) (l2:lenS ul=l.length) (l3:lenS uf=f.length) (hk:K (exB s l f) st):
  CallT PR Hv [.agg (AQ s ub ul uf)] [.one .bool] st K:=by
 unfold exB at hk;refine PK _ _ _ _ _ _ _ _ _ _ _ _ _ st K ?_;rw[l1,l2,l3];revert hk
 repeat' first
  | (refineλhk=>ore (K:=λb=>K b st) h3 hk)
  | (refineλhk=>orn (K:=λb=>K b st) h1 ?_ ?_ hk)
  | (refineλhk=>orn (K:=λb=>K b st) h2 ?_ ?_ hk)
  | (refineλhk=>orc (K:=λb=>K b st) ?_ ?_ hk)
theorem key_ok {s:B8} (hl:s.length<=2000000) {st:St} {K:Int->St->Prop} (hk:K ((if U8 s then(if 1024<s.length then 10 else 0)else 5:Nat):Int) st):CallT PR JB [.str s] [.one (.int .i64)] st K:=by
 refine S8 _ st K (Sf hl (Ao (λg=>?_) λg=>?_))
 ·have hu:¬U8 s:=by unfold U8;simpa using g
  rw[if_neg hu]at hk;exact hk
 ·have hu:U8 s:=by unfold U8;simpa using g
  rw[if_pos hu]at hk;refine Ab (λg2=>?_) λg2=>?_
  ·have h3:1024<s.length:=by omega
   rw[if_pos h3]at hk;exact hk
  ·have h3:¬1024<s.length:=by omega
   rw[if_neg h3]at hk;exact hk
theorem Hz (k k':B8) (v:TV):∀es:List (B8×TV),AG k (Gk k' v es)=if k=k' then some v else AG k es
 | []=>by
  simp only[Gk,AG];by_cases h:k=k'<;>simp[h]
 | (k1,v1)::es=>by
  simp only[Gk];by_cases h1:k'=k1
  ·simp only[h1,decide_true,AG]
   by_cases h:k=k1<;>simp[h]
  ·simp only[h1,decide_false,AG,Hz k k' v es]
   by_cases h:k=k1
   ·simp[h,Ne.symm h1]
   ·simp[h]
def MapN (es:List (B8×TV)) (ns:List B8):Prop:=∀t,AG t es=if t∈ns then some (.bool true)else none
theorem MapN.add {es:List (B8×TV)} {ns:List B8} (h:MapN es ns) (t:B8):MapN (Gk t (.bool true) es) (t::ns):=by
 intro k;rw[Hz];by_cases hk:k=t
 ·simp[hk]
 ·rw[if_neg hk,h k];simp[hk]
theorem XE (seen:List B8) (d:Fd) (r:List Fd):ER seen (d::r)=if U8 d.key then(if 1024<d.key.length then 10 else if d.key∈seen then 8 else ER (d.key::seen) r)else 5:=rfl
theorem KW {α:Type} {l:List α} {k:Nat} {x:α} (h:l[k]? =some x):l.drop k=x::l.drop (k+1):=by
 obtain⟨q1,q2⟩:=List.getElem?_eq_some_iff.1 h;rw[List.drop_eq_getElem_cons q1,q2]
theorem key_len {f:List Fd} {d:Fd} (h:d∈f):d.key.length<=Ev f:=by
 have:=KM h;cases d;unfold Fd.sz at this;simp only[Fd.key];omega
theorem keys_ok {st0 st:St} {uf:TV} {xf:List TV} {f:List Fd} (hke:CH st0 st) (h4:SlR st0 14 uf f.length xf) (h5:FsR st0 f xf) (hN:Ev f<=2000000) {K:Int->St->Prop} (hk:∀st',Ag st st'->K (ER [] f:Nat) st'):
  CallT PR Iv [uf] [.one (.int .i64)] st K:=by
 have hfl:=Gq f;refine RF _ st K (Aa h4.isSl ⟨λi m u n st'=> .map st.nb=m/\uf=u/\(f.length:Int)=n/\∃(k:Nat) (ns:List B8) (es:List (B8×TV)),i=k/\k<=f.length/\Ag st st'/\st.nb<st'.nb/\st'.box st.nb= .map es/\MapN es ns/\ER [] f=ER ns (f.drop k),λi _ _ _ _=>(f.length-i).toNat,
  ⟨rfl,rfl,by rw[h4.lenS],0,[],[],rfl,Nat.zero_le _,(Ag.refl st).push _ _,by simp[St.push],by simp[St.push],λt=>by simp[AG],rfl⟩,?_⟩)
 rintro _ _ _ _ st1 ⟨rfl,rfl,rfl,k,ns,es,rfl,hkf,e1,hb,hm,hns,hE⟩;refine Ab (λg=>?_) λg=>?_
 ·refine el14 (hke.trans e1.keeps) h4 h5 rfl (by omega) λkey s' l' f' ub1 ul1 uf1 gw hw on=>Aa on ?_
  have hmem:=FT gw;have hkl:=key_len hmem;rw[KW gw,XE]at hE;change ER [] f=if U8 key then(if 1024<key.length then 10 else if key∈ns then 8 else ER (key::ns) (f.drop (k+1)))else 5 at hE
  change key.length<=_ at hkl;refine key_ok (by omega) ?_;by_cases g1:U8 key
  case neg=>
   rw[if_neg g1]at hE⊢;refine Ab (λ_=>?_) λh=>absurd (by decide) h;rw[<-hE];exact hk st1 e1
  rw[if_pos g1]at hE⊢;by_cases g2:1024<key.length
  ·rw[if_pos g2]at hE⊢
   refine Ab (λ_=>?_) λh=>absurd (by decide) h;rw[<-hE];exact hk st1 e1
  rw[if_neg g2]at hE⊢;refine Ab (λh=>absurd rfl h) λ_=>Ac (x:=es) (by simp only[DY,hm]) ?_;rw[hns key];by_cases g3:key∈ns
  ·rw[if_pos g3]at hE⊢
   refine DO (Ao (λ_=>?_) λh=>by cases h);have:=hk st1 e1;rw[hE]at this;exact this
  ·rw[if_neg g3]at hE⊢
   refine DO (Ao (λh=>by cases h) λ_=>⟨es,hm,?_⟩);rw[Ah _ (by omega) (by omega)];exact⟨⟨rfl,rfl,rfl,k+1,key::ns,_,by omega,by omega,StX.ext e1 (StX.put (S:=λi=>i=st.nb) rfl _) (λi hi=>by rw[hi];exact Nat.le_refl _),hb,by simp[St.put],hns.add key,hE⟩,by dsimp only;omega⟩
 ·have:k=f.length:=by omega
  subst this;rw[List.drop_length]at hE;have:=hk st1 e1;rw[hE]at this;exact this
theorem CH.stx {b:Nat} {a c d:St} (h:CH a c) (k:StX (λi=>i=b) c d) (hb:a.nb<=b):CH a d:=
 ⟨Nat.le_trans h.1 k.nb,λi hi=>(k.box i (Nat.lt_of_lt_of_le hi h.1) (by omega)).trans (h.2 i hi)⟩
theorem ZJ {d n:Nat} {s:Sc} {l:List Vl} {f:List Fd} (h1:¬48<d) (h2:¬65536<=n) (h3:Ho s l f=0):D7 d n (.mk s l f)=JR (DL (d+1) (n+1) l) λm=>Dp (d+1) m f:=by
 unfold D7;rw[if_neg h1,if_neg h2,if_neg (λh=>h h3)]
theorem Wv {d n:Nat} {s:Sc} {l:List Vl} {f:List Fd} (h1:¬48<d) (h2:¬65536<=n) (h3:Ho s l f≠0):D7 d n (.mk s l f)=(n,Ho s l f):=by
 unfold D7;rw[if_neg h1,if_neg h2,if_pos h3]
theorem Ra (d n:Nat) (v:Vl) (r:List Vl):DL d n (v::r)=JR (D7 d n v) λm=>DL d m r:=by rw[DL]
theorem Yd (d n:Nat) (k:B8) (v:Vl) (r:List Fd):Dp d n (.mk k v::r)=JR (D7 d n v) λm=>Dp d m r:=by rw[Dp,NK]
theorem WW:U8 []:=by unfold U8;rw[MS];rfl
theorem check_ok:∀(N:Nat) (v:Vl),v.sz<=N->N<=2000000->∀{st0 st:St} {cs:List TV} {b d n:Nat} {D:Int} {K:Int->St->Prop},VlR st0 v cs->CH st0 st->st0.nb<=b->b<st.nb->st.box b= .cells [.int .i64 (n:Nat)]->n<=65536->D=(d:Int)->d<=100->
  (∀st' (m:Nat),StX (λi=>i=b) st st'->st'.box b= .cells [.int .i64 (m:Nat)]->((D7 d n v).2=0->m=(D7 d n v).1/\m<=65536)->K ((D7 d n v).2:Nat) st')->CallT PR Eh [.agg cs,.int .i64 D,.box b 0] [.one (.int .i64)] st K:=by
 intro N;induction N with
 | zero=>intro v h;have:=v.sz_pos;omega
 | succ N ih=>
 intro v hN hN2 st0 st cs b d n D K h hke hb0 hb hbx hn hD hd hk;subst hD;cases v with
 | mk s l f=>
 have hsz:(Vl.mk s l f).sz=1+s.bytes.length+s.text.length+s.dg.length+E5 l+Ev f:=by unfold Vl.sz;rfl
 have hll:=Hc l;have hfl:=Gq f;unfold VlR at h;obtain⟨ub,ul,uf,xl,xf,rfl,h1,h2,h3,h4,h5⟩:=h;refine PL _ _ _ _ _ _ _ _ _ _ _ _ _ (d:Int) b st K ?_;refine Ac (x:= .int .i64 (n:Nat)) (by simp[Af,hbx]) (Am ?_);rw[Ah _ (by omega) (by omega)];refine⟨_,hbx,by simp,?_⟩;obtain⟨st1,hst1⟩:∃st1,st1=st.put b (.cells (setAll [.int .i64 (n:Nat)] 0 [.int .i64 ((n:Int)+1)])):=⟨_,rfl⟩;rw[<-hst1];have e1:StX (λi=>i=b) st st1:=by rw[hst1];exact StX.put (S:=λi=>i=b) rfl _
 have hb1:st1.box b= .cells [.int .i64 ((n+1:Nat):Int)]:=by rw[hst1];simp[St.put,setAll]
 have hke1:=hke.stx e1 hb0;refine⟨λdp p kd bo ng dg ex tk td tn tz tx u1 u2 u3 st'=>dp=d/\p= .box b 0/\ul=u2/\uf=u3/\¬48<d/\¬65536<=n/\Ho s l f=ER [] f/\StX (λi=>i=b) st st'/\st'.box b= .cells [.int .i64 ((n+1:Nat):Int)],?_,?_⟩
 ·--the value but for the values in it
  refine Ab (λg=>?_) λg=>?_
  ·have hc:D7 d n (.mk s l f)=(n,9):=by unfold D7;rw[if_pos (by omega)]
   have:=hk st1 (n+1) e1 hb1 (by rw[hc];intro h;cases h);rw[hc]at this;exact this
  refine Ac (x:= .int .i64 ((n+1:Nat):Int)) (by simp[Af,hb1]) (Am (Ab (λg2=>?_) λg2=>?_))
  ·have hc:D7 d n (.mk s l f)=(n,10):=by unfold D7;rw[if_neg (by omega),if_pos (by omega)]
   have:=hk st1 (n+1) e1 hb1 (by rw[hc];intro h;cases h);rw[hc]at this;exact this
  have hg1:¬48<d:=by omega
  have hg2:¬65536<=n:=by omega
  --an error of the value itself
  have err:∀st',StX (λi=>i=b) st st'->st'.box b= .cells [.int .i64 ((n+1:Nat):Int)]->Ho s l f≠0->K ((Ho s l f:Nat):Int) st':=λst' e' hb' ho=>by
   have hc:=Wv hg1 hg2 ho;have:=hk st' (n+1) e' hb' (by rw[hc];intro h;exact absurd h ho);rw[hc]at this;exact this
  refine⟨λq dp p kd bo ng dg ex tk td tn tz tx u1 u2 u3 st'=>dp=d/\p= .box b 0/\kd=s.kind/\ng=s.neg/\dg=s.dg/\ex=s.ex/\tk=s.tk/\td=s.td/\tn=s.tn/\tz=s.tz/\tx=s.text/\ub=u1/\ul=u2/\uf=u3/\q= !decide (Rr s l f)/\st1=st',?_,?_⟩
  ·refine Ab (λg3=>?_) λg3=>Ab (λg4=>?_) λg4=>?_
   ·exact⟨rfl,rfl,rfl,rfl,rfl,rfl,rfl,rfl,rfl,rfl,rfl,rfl,rfl,rfl,by rw[decide_eq_false λo=>by have:=o.k0;omega];rfl,rfl⟩
   ·exact⟨rfl,rfl,rfl,rfl,rfl,rfl,rfl,rfl,rfl,rfl,rfl,rfl,rfl,rfl,by rw[decide_eq_false λo=>by have:=o.k7;omega];rfl,rfl⟩
   ·exact extra_ok (s:=s) (l:=l) (f:=f) h1.isSl h2.isSl h4.isSl h1.lenS h2.lenS h4.lenS ⟨rfl,rfl,rfl,rfl,rfl,rfl,rfl,rfl,rfl,rfl,rfl,rfl,rfl,rfl,exB_eq (by omega) (by omega),rfl⟩
  rintro q _ _ _ bo _ _ _ _ _ _ _ _ _ _ _ _ ⟨rfl,rfl,rfl,rfl,rfl,rfl,rfl,rfl,rfl,rfl,rfl,rfl,rfl,rfl,rfl,rfl⟩;by_cases ho:Rr s l f
  case neg=>
   refine Ao (λ_=>?_) λh=>by rw[decide_eq_false ho]at h;cases h
   have h6:Ho s l f=6:=by unfold Ho;rw[if_neg ho]
   have:=err st1 e1 hb1 (by rw[h6];decide);rw[h6]at this;exact this
  refine Ao (λh=>by rw[decide_eq_true ho]at h;cases h) λ_=>?_;have hdec:s.kind≠2->Gv s.neg s.dg s.ex:=λhk2=>by
   obtain⟨q1,q2,q3⟩:=ho.nu hk2;rw[q2];exact SO.2 ⟨q1,q3⟩
  refine⟨λq dp p kd bo ng dg ex tk td tn tz tx u1 u2 u3 st'=>dp=d/\p= .box b 0/\kd=s.kind/\tx=s.text/\ub=u1/\ul=u2/\uf=u3/\q= !(decide (Gv s.neg s.dg s.ex)&&decide (s.kind=3->HG s.tk s.td s.tn s.tz))/\st1=st',?_,?_⟩
  ·refine Ab (λg3=>Wg (by omega) ?_) λg3=>Ab (λg4=>Tk ?_) λg4=>?_
   ·by_cases hq:Gv s.neg s.dg s.ex
    ·refine Ao (λh=>by rw[decide_eq_true hq]at h;cases h) λ_=>Ab (λg4=>by omega) λg4=>?_
     exact⟨rfl,rfl,rfl,rfl,rfl,rfl,rfl,by rw[decide_eq_true hq,decide_eq_true λh=>absurd h g4];rfl,rfl⟩
    ·refine Ao (λh=>?_) λh=>by rw[decide_eq_false hq]at h;cases h
     exact⟨rfl,rfl,rfl,rfl,rfl,rfl,rfl,by rw[decide_eq_false hq];rfl,rfl⟩
   ·exact⟨rfl,rfl,rfl,rfl,rfl,rfl,rfl,by rw[decide_eq_true (hdec g3),decide_eq_decide.2 (show(s.kind=3->HG s.tk s.td s.tn s.tz)↔_ from⟨λh=>h g4,λh _=>h⟩)];rfl,rfl⟩
   ·exact⟨rfl,rfl,rfl,rfl,rfl,rfl,rfl,by rw[decide_eq_true (hdec g3),decide_eq_true λh=>absurd h g4];rfl,rfl⟩
  rintro q _ _ _ bo2 ng2 dg2 ex2 tk2 td2 tn2 tz2 _ _ _ _ _ ⟨rfl,rfl,rfl,rfl,rfl,rfl,rfl,rfl,rfl⟩;by_cases hq:Gv s.neg s.dg s.ex
  case neg=>
   refine Ao (λ_=>?_) λh=>by rw[decide_eq_false hq]at h;cases h
   have h6:Ho s l f=2:=by unfold Ho;rw[if_pos ho,if_neg hq]
   have:=err st1 e1 hb1 (by rw[h6];decide);rw[h6]at this;exact this
  by_cases hq2:s.kind=3->HG s.tk s.td s.tn s.tz
  case neg=>
   refine Ao (λ_=>?_) λh=>by rw[decide_eq_true hq,decide_eq_false hq2]at h;cases h
   have h6:Ho s l f=2:=by unfold Ho;rw[if_pos ho,if_pos hq,if_neg hq2]
   have:=err st1 e1 hb1 (by rw[h6];decide);rw[h6]at this;exact this
  refine Ao (λh=>by rw[decide_eq_true hq,decide_eq_true hq2]at h;cases h) λ_=>?_
  --sizes
  have sizes:U8 s.text->∀(X:Prop),(Ho s l f=ER [] f->X)->BIf (decide (65536<(s.text.length:Int))) (K 10 st1) (need (isSl ub) (BIf (decide (65536<(lenS ub:Int))) (K 10 st1) X)):=λhu X hX=>by
   have h6:Ho s l f=if 65536<s.text.length then 10 else if 65536<s.bytes.length then 10 else ER [] f:=by unfold Ho;rw[if_pos ho,if_pos hq,if_pos hq2,if_pos hu]
   refine Ab (λg5=>?_) λg5=>Aa h1.isSl (Ab (λg6=>?_) λg6=>?_)
   ·rw[if_pos (by omega)]at h6
    have:=err st1 e1 hb1 (by rw[h6];decide);rw[h6]at this;exact this
   ·rw[h1.lenS]at g6
    rw[if_neg (by omega),if_pos (by omega)]at h6;have:=err st1 e1 hb1 (by rw[h6];decide);rw[h6]at this;exact this
   ·rw[h1.lenS]at g6
    rw[if_neg (by omega),if_neg (by omega)]at h6;exact hX h6
  refine Ab (λg3=>Sf (by omega) (Ao (λg4=>?_) λg4=>?_)) λg3=>?_
  ·have hu:¬U8 s.text:=by unfold U8;simpa using g4
   have h6:Ho s l f=5:=by unfold Ho;rw[if_pos ho,if_pos hq,if_pos hq2,if_neg hu]
   have:=err st1 e1 hb1 (by rw[h6];decide);rw[h6]at this;exact this
  ·exact sizes (by unfold U8;simpa using g4) _ λh6=>⟨rfl,rfl,rfl,rfl,hg1,hg2,h6,e1,hb1⟩
  ·exact sizes (by rw[ho.tx g3];exact WW) _ λh6=>⟨rfl,rfl,rfl,rfl,hg1,hg2,h6,e1,hb1⟩
 ·rintro _ _ kd bo ng dg ex tk td tn tz tx u1 _ _ st2 ⟨rfl,rfl,rfl,rfl,hg1,hg2,h6,e2,hb2⟩
  have hke2:=hke.stx e2 hb0;refine keys_ok hke2 h4 h5 (by omega) λst3 e3=>?_;have e23:=e2.trans (StX.of e3);have hb3:st3.box b= .cells [.int .i64 ((n+1:Nat):Int)]:=(e3.box b (by have:=e2.nb;omega)).trans hb2;refine Ab (λg=>?_) λg=>Aa h2.isSl ?_
  ·have ho:Ho s l f≠0:=by rw[h6];omega
   have hc:=Wv hg1 hg2 ho;have:=hk st3 (n+1) e23 hb3 (by rw[hc];intro h;exact absurd h ho);rw[hc,h6]at this;exact this
  have hone:Ho s l f=0:=by rw[h6];omega
  have hC:=ZJ hg1 hg2 hone;refine⟨λi dp p u m kd bo ng dg ex tk td tn tz tx u1 u2 u3 st'=>dp=d/\p= .box b 0/\ul=u/\m=(l.length:Int)/\uf=u3/\∃k c:Nat,i=k/\k<=l.length/\c<=65536/\StX (λi=>i=b) st st'/\st'.box b= .cells [.int .i64 ((c:Nat):Int)]/\DL (d+1) (n+1) l=DL (d+1) c (l.drop k),
   λi _ _ _ _ _ _ _ _ _ _ _ _ _ _ _ _ _ _=>(l.length-i).toNat,⟨rfl,rfl,rfl,by rw[h2.lenS],rfl,0,n+1,rfl,Nat.zero_le _,by omega,e23,hb3,rfl⟩,?_⟩
  rintro _ _ _ _ _ kd bo ng dg ex tk td tn tz tx u1 u2 _ st4 ⟨rfl,rfl,rfl,rfl,rfl,k,c,rfl,hkl,hc,e4,hb4,hE⟩;have hke4:=hke.stx e4 hb0;refine Ab (λg3=>?_) λg3=>?_
  ·refine Wa hke4 h2 h3 rfl (by omega) λs' l' f' ub1 ul1 uf1 gw hw on=>Aa on ?_
   have hwsz:=MQ gw;rw[KW gw,Ra]at hE;rw[Ah _ (by omega) (by omega)];refine ih _ (by omega) (by omega) (d:=d+1) hw hke4 hb0 (by have:=e4.nb;omega) hb4 hc (by omega) (by omega) λst5 m e5 hb5 hm=>?_;have e45:=e4.trans e5;refine Ab (λg4=>?_) λg4=>?_
   ·have hne:(D7 (d+1) c (.mk s' l' f')).2≠0:=by omega
    rw[N5 hne]at hE;have hc2:D7 d n (.mk s l f)=D7 (d+1) c (.mk s' l' f'):=by rw[hC,hE,N5 hne]
    have:=hk st5 m e45 hb5 (by rw[hc2];intro h;exact absurd h hne);rw[hc2]at this;exact this
   ·have hz:(D7 (d+1) c (.mk s' l' f')).2=0:=by omega
    rw[DE hz]at hE;obtain⟨hm1,hm2⟩:=hm hz;rw[Ah _ (by omega) (by omega)];exact⟨⟨rfl,rfl,rfl,rfl,rfl,k+1,m,by omega,by omega,hm2,e45,hb5,by rw[hE,hm1]⟩,by dsimp only;omega⟩
  ·have hkk:k=l.length:=by omega
   subst hkk;rw[List.drop_length]at hE;have hE2:DL (d+1) (n+1) l=(c,0):=by rw[hE,DL]
   rw[hE2,DE rfl]at hC;refine Aa h4.isSl ?_;refine⟨λi dp p u m st'=>dp=d/\p= .box b 0/\uf=u/\m=(f.length:Int)/\∃k c2:Nat,i=k/\k<=f.length/\c2<=65536/\StX (λi=>i=b) st st'/\st'.box b= .cells [.int .i64 ((c2:Nat):Int)]/\Dp (d+1) c f=Dp (d+1) c2 (f.drop k),
    λi _ _ _ _ _=>(f.length-i).toNat,⟨rfl,rfl,rfl,by rw[h4.lenS],0,c,rfl,Nat.zero_le _,hc,e4,hb4,rfl⟩,?_⟩
   rintro _ _ _ _ _ st5 ⟨rfl,rfl,rfl,rfl,k,c2,rfl,hkf,hc2,e5,hb5,hF⟩;have hke5:=hke.stx e5 hb0;refine Ab (λg4=>?_) λg4=>?_
   ·refine el14 hke5 h4 h5 rfl (by omega) λkey s' l' f' ub1 ul1 uf1 gw hw on=>Aa on ?_
    have hwsz:=Nz gw;have hwk:(Fd.mk key (.mk s' l' f')).sz=key.length+(Vl.mk s' l' f').sz:=by unfold Fd.sz;rfl
    rw[KW gw,Yd]at hF;rw[Ah _ (by omega) (by omega)];refine ih (.mk s' l' f') (by omega) (by omega) (d:=d+1) hw hke5 hb0 (by have:=e5.nb;omega) hb5 hc2 (by omega) (by omega) λst6 m e6 hb6 hm=>?_;have e56:=e5.trans e6;refine Ab (λg5=>?_) λg5=>?_
    ·have hne:(D7 (d+1) c2 (.mk s' l' f')).2≠0:=by omega
     rw[N5 hne]at hF;have hc3:D7 d n (.mk s l f)=D7 (d+1) c2 (.mk s' l' f'):=by rw[hC];exact hF
     have:=hk st6 m e56 hb6 (by rw[hc3];intro h;exact absurd h hne);rw[hc3]at this;exact this
    ·have hz:(D7 (d+1) c2 (.mk s' l' f')).2=0:=by omega
     rw[DE hz]at hF;obtain⟨hm1,hm2⟩:=hm hz;rw[Ah _ (by omega) (by omega)];exact⟨⟨rfl,rfl,rfl,rfl,k+1,m,by omega,by omega,hm2,e56,hb6,by rw[hF,hm1]⟩,by dsimp only;omega⟩
   ·have hkk:k=f.length:=by omega
    subst hkk;rw[List.drop_length]at hF;have hF2:D7 d n (.mk s l f)=(c2,0):=by rw[hC];show Dp (d+1) c f=_;rw[hF,Dp]
    have:=hk st5 c2 e5 hb5 (by rw[hF2];exactλ_=>⟨rfl,hc2⟩);rw[hF2]at this;exact this
section
theorem Rv {v:Vl} (hN:v.sz<=2000000) {st0 st:St} {cs:List TV} {K:Int->St->Prop} (h:VlR st0 v cs) (hke:CH st0 st) (hk:∀st',Ag st st'->K (BV v:Nat) st'):
  CallT PR AW [.agg cs] [.one (.int .i64)] st K:=by
 have h0:=h;cases v with
 | mk s l f=>
 unfold VlR at h0;obtain⟨ub,ul,uf,xl,xf,rfl,_⟩:=h0;have he:Ag st (st.push (.cells [.int .i64 0]) (some 3)):=(Ag.refl st).push _ _;refine PN _ _ _ _ _ _ _ _ _ _ _ _ _ st K ⟨[.int .i64 0],by simp[St.push],by simp,?_⟩;obtain⟨st1,hst1⟩:∃st1,st1=(st.push (.cells [.int .i64 0]) (some 3)).put st.nb (.cells (setAll [.int .i64 0] 0 [.int .i64 0])):=⟨_,rfl⟩;rw[<-hst1];have e1:Ag st st1:=by rw[hst1];exact StX.ext he (StX.put (S:=λi=>i=st.nb) rfl _) (λi hi=>by rw[hi];exact Nat.le_refl _)
 have hb1:st1.box st.nb= .cells [.int .i64 ((0:Nat):Int)]:=by rw[hst1];simp[St.put,setAll]
 exact check_ok 2000000 _ hN (by omega) (d:=1) h (hke.trans e1.keeps) hke.1 (by rw[hst1];simp[St.put,St.push]) hb1 (by omega) rfl (by omega) λst2 m e2 hb2 _=>hk st2 (StX.ext e1 e2 (λi hi=>by rw[hi];exact Nat.le_refl _))
mutual
theorem Um:∀(v:Vl) (d n:Nat),n<=65536->(D7 d n v).2=0->(D7 d n v).1<=65536
 | .mk s l f,d,n,hn,h=>by
  unfold D7 at h⊢;split at h
  ·cases h
  ·rename_i g1
   rw[if_neg g1];split at h
   ·cases h
   ·rename_i g2
    rw[if_neg g2];split at h
    ·rename_i h1;exact absurd h h1
    ·rename_i g3
     rw[if_neg g3];obtain⟨h2,h3⟩:=Cy h;rw[DE h2];exact Wz f _ _ (Wu l _ _ (by omega) h2) h3
theorem Wu:∀(l:List Vl) (d n:Nat),n<=65536->(DL d n l).2=0->(DL d n l).1<=65536
 | [],d,n,hn,_=>by unfold DL;exact hn
 | v::r,d,n,hn,h=>by
  unfold DL at h⊢;obtain⟨h2,h3⟩:=Cy h;rw[DE h2];exact Wu r _ _ (Um v _ _ hn h2) h3
theorem chkD_le:∀(x:Fd) (d n:Nat),n<=65536->(NK d n x).2=0->(NK d n x).1<=65536
 | .mk k v,d,n,hn,h=>by unfold NK at h⊢;exact Um v _ _ hn h
theorem Wz:∀(l:List Fd) (d n:Nat),n<=65536->(Dp d n l).2=0->(Dp d n l).1<=65536
 | [],d,n,hn,_=>by unfold Dp;exact hn
 | x::r,d,n,hn,h=>by
  unfold Dp at h⊢;obtain⟨h2,h3⟩:=Cy h;rw[DE h2];exact Wz r _ _ (chkD_le x _ _ hn h2) h3
end
theorem VsR.snoc {st:St} {v:Vl} {cv:List TV}:∀{l:List Vl} {xs:List TV},VsR st l xs->VlR st v cv->VsR st (l++[v]) (xs++cv)
 | [],xs,h,hv=>by
  unfold VsR at h;subst h;show VsR st [v] _;unfold VsR;exact⟨cv,[],by simp,hv,by unfold VsR;rfl⟩
 | w::r,xs,h,hv=>by
  unfold VsR at h;obtain⟨a,b,rfl,h1,h2⟩:=h;show VsR st (w::(r++[v])) _;unfold VsR;exact⟨a,b++cv,by simp,h1,VsR.snoc h2 hv⟩
end
theorem VlR.cells {st:St} {s:Sc} {l:List Vl} {f:List Fd} {cs:List TV} (h:VlR st (.mk s l f) cs):∃ub ul uf xl xf,cs=AQ s ub ul uf/\SlR st 1 ub s.bytes.length (AV s.bytes)/\SlR st 13 ul l.length xl/\VsR st l xl/\SlR st 14 uf f.length xf/\FsR st f xf:=by
 unfold VlR at h;obtain⟨ub,ul,uf,xl,xf,rfl,h⟩:=h;exact⟨ub,ul,uf,xl,xf,rfl,h⟩
theorem szs (s:Sc) (l:List Vl) (f:List Fd):(Vl.mk s l f).sz=1+s.bytes.length+s.text.length+s.dg.length+E5 l+Ev f:=by unfold Vl.sz;rfl
theorem szd (k:B8) (v:Vl):(Fd.mk k v).sz=k.length+v.sz:=by unfold Fd.sz;rfl
theorem keyLd {st0 st:St} {uf:TV} {xf:List TV} {l:List Fd} (hke:CH st0 st) (h2:SlR st0 14 uf l.length xf) (h3:FsR st0 l xf) {k:Nat} {d:Fd} (hd:l[k]? =some d):Af st [] (.t (AU (ixT 14 uf k) 0)) 0=some (.str d.key):=by
 obtain⟨hk,_⟩:=List.getElem?_eq_some_iff.1 hd;obtain⟨cw,hw,hcw,hcl⟩:=h3.get hd;have hx:xf[k*14+0]? =some (.str d.key):=by
  cases d with
  | mk key w=>
   unfold FdR at hw;obtain⟨cs,rfl,_⟩:=hw;have:=congrArg (λz=>z[0]?) hcw;simpa [Fd.key]using this
 exact(h2.keep hke).ldf h3.len hk (by omega) hx
section
mutual
theorem Rb:∀(v:Vl) (d n:Nat),(D7 d n v).2=0->(D7 d n v).1=n+v.cnt
 | .mk s l f,d,n,h=>by
  unfold D7 at h⊢;unfold Vl.cnt;split at h
  ·cases h
  ·rename_i g1
   rw[if_neg g1];split at h
   ·cases h
   ·rename_i g2
    rw[if_neg g2];split at h
    ·rename_i h1;exact absurd h h1
    ·rename_i g3
     rw[if_neg g3];obtain⟨h2,h3⟩:=Cy h;rw[DE h2,ST f _ _ h3,SS l _ _ h2];omega
theorem SS:∀(l:List Vl) (d n:Nat),(DL d n l).2=0->(DL d n l).1=n+AH l
 | [],d,n,_=>by unfold DL AH;rfl
 | v::r,d,n,h=>by
  unfold DL at h⊢;unfold AH;obtain⟨h2,h3⟩:=Cy h;rw[DE h2,SS r _ _ h3,Rb v _ _ h2];omega
theorem chkD_cnt:∀(x:Fd) (d n:Nat),(NK d n x).2=0->(NK d n x).1=n+x.cnt
 | .mk k v,d,n,h=>by unfold NK at h⊢;unfold Fd.cnt;exact Rb v _ _ h
theorem ST:∀(l:List Fd) (d n:Nat),(Dp d n l).2=0->(Dp d n l).1=n+AX l
 | [],d,n,_=>by unfold Dp AX;rfl
 | x::r,d,n,h=>by
  unfold Dp at h⊢;unfold AX;obtain⟨h2,h3⟩:=Cy h;rw[DE h2,ST r _ _ h3,chkD_cnt x _ _ h2];omega
end
theorem G8 {v:Vl} (h:BV v=0):v.cnt<=65536:=by
 have h1:=Rb v 1 0 h;have h2:=Um v 1 0 (by omega) h;omega
theorem OZ {v:Vl} (h:BV v=0):AY v:=Uj v 1 0 h
end
def Br (s:B8):B8:=s.takeWhile λc=>decide (Cz c)
def HL (n:Nat) (l:B8):Nat:=l.foldl (λn c=>10*n+(c.toNat-48)) n
def D4 (l:B8):Nat:=HL 0 l
def CO (l:B8):B8:=l.dropWhile (·==48)
def dcN (neg:Bool) (s:B8) (ex:Int):Bool×B8×Int×Int:=
 if s=[]then(false,[],0,0)else if 400<ex+BR s∨ex+BR s< -400∨120<s.length-BR s then(false,[],0,2)else(neg,s.take (s.length-BR s),ex+BR s,0)
def NH:Bool×B8×Int×Int:=(false,[],0,3)
def dcX (neg:Bool) (all:B8) (ex:Int) (less:Bool) (r:B8):Bool×B8×Int×Int:=
 if r=[]∨(Br r).length≠r.length then NH else dcN neg (CO all) (if less then ex-D4 r else ex+D4 r)
def dcE (neg:Bool) (all:B8) (ex:Int) (r:B8):Bool×B8×Int×Int:=
 if r=[]then dcN neg (CO all) ex else if r.getD 0 0=101∨r.getD 0 0=69 then
  (if (r.drop 1).getD 0 0=45 then dcX neg all ex true (r.drop 2)else if (r.drop 1).getD 0 0=43 then dcX neg all ex false (r.drop 2)else dcX neg all ex false (r.drop 1))
 else NH
def dcF (neg:Bool) (a:B8) (r:B8):Bool×B8×Int×Int:=
 if r.getD 0 0=46 then(if Br (r.drop 1)=[]then NH else dcE neg (a++Br (r.drop 1)) (-(Br (r.drop 1)).length) (r.drop (1+(Br (r.drop 1)).length)))
 else dcE neg a 0 r
def dcQ (neg:Bool) (s:B8):Bool×B8×Int×Int:=
 if Br s=[]∨(1<(Br s).length/\s.getD 0 0=48)then NH else dcF neg (Br s) (s.drop (Br s).length)
def dcP (s:B8):Bool×B8×Int×Int:=if s.getD 0 0=45 then dcQ true (s.drop 1)else dcQ false s
theorem I7 (s:B8):∀c,c∈Br s->Cz c:=by
 induction s with
 | nil=>intro c h;cases h
 | cons a s ih=>
  grind [Br,List.takeWhile_cons]
theorem Ln (s:B8):(Br s).length<=s.length:=(List.takeWhile_sublist _).length_le
theorem SM (s:B8):s=Br s++s.drop (Br s).length:=by
 induction s with
 | nil=>rfl
 | cons a s ih=>
  grind [Br,List.takeWhile_cons]
theorem MD (s:B8):s.take (Br s).length=Br s:=by
 grind [SM]
theorem Kb (l:B8) (c:UInt8):BR (l++[c])=if c=48 then BR l+1 else 0:=by
 grind [BR,List.takeWhile_cons]
theorem PF (l:B8):BR l<=l.length:=by
 grind [BR,List.takeWhile_sublist]
theorem OJ {c:UInt8} {l:B8} (h:c≠48):CO (c::l)=c::l:=by
 grind [CO,List.dropWhile_cons]
theorem Qe (k:Nat) (l:B8):CO (List.replicate k 48++l)=CO l:=by
 simp_all[CO]
theorem UR (n:Nat) (a b:B8):HL n (a++b)=HL (HL n a) b:=by
 grind [HL]
theorem nd0:¬Cz 0:=by decide
def b0 (s:B8) (k:Nat):UInt8:=s.getD k 0
def dv (s:B8) (k:Nat):Nat:=(b0 s k).toNat-48
def d2 (s:B8) (k:Nat):Nat:=dv s k*10+dv s (k+1)
def dd (s:B8) (k:Nat):Prop:=Cz (b0 s k)/\Cz (b0 s (k+1))
instance (s:B8) (k:Nat):Decidable (dd s k):=inferInstanceAs (Decidable (_/\_))
def OT (s:B8):Prop:=dd s 0/\b0 s 2=58/\dd s 3/\b0 s 5=58/\dd s 6
instance (s:B8):Decidable (OT s):=inferInstanceAs (Decidable (_/\_/\_/\_/\_))
def FL (s:B8):Prop:=dd s 0/\dd s 2/\b0 s 4=45/\dd s 5/\b0 s 7=45/\dd s 8
instance (s:B8):Decidable (FL s):=inferInstanceAs (Decidable (_/\_/\_/\_/\_/\_))
def V3 (f:B8):Nat:=D4 (f++List.replicate (9-f.length) 48)
def LL (s:B8):Option (Nat×Nat×Nat×Nat×B8):=
 if OT s then
  (if b0 s 8=46 then(if Br (s.drop 9)=[]∨9<(Br (s.drop 9)).length then none else some (d2 s 0,d2 s 3,d2 s 6,V3 (Br (s.drop 9)),s.drop (9+(Br (s.drop 9)).length)))
  else some (d2 s 0,d2 s 3,d2 s 6,0,s.drop 8))
 else none
def TF (s:B8):Option (Bool×Nat×Nat):=
 if s=[90]∨s=[122]then some (false,0,0)else if s.length=6/\(b0 s 0=43∨b0 s 0=45)/\dd s 1/\b0 s 3=58/\dd s 4 then some (decide (b0 s 0=45),d2 s 1,d2 s 4)else none
def okD (y m d:Nat):Prop:=1<=y/\y<=9999/\1<=m/\m<=12/\1<=d/\d<=Po y m
instance (y m d:Nat):Decidable (okD y m d):=inferInstanceAs (Decidable (_/\_/\_/\_/\_/\_))
def KY (y m d:Nat):Nat:=yrS y+LJ y m+(d-1)
abbrev TmR:=Int×Int×Int×Int×Int
def IS:TmR:=(0,0,0,0,3)
def IR:TmR:=(0,0,0,0,2)
def okC (h m s:Nat):Prop:=h<=23/\m<=59/\s<=59
instance (h m s:Nat):Decidable (okC h m s):=inferInstanceAs (Decidable (_/\_/\_))
def FK (h m s f:Nat):Nat:=((h*60+m)*60+s)*1000000000+f
def tmO (y mo d h m s f:Nat) (r:B8):TmR:=
 if r=[]then(if okD y mo d/\okC h m s then(3,(KY y mo d:Nat),(FK h m s f:Nat),0,0)else IR)
 else match TF r with
  | none=>IS
  | some (ls,oh,om)=>if okD y mo d/\okC h m s/\oh<=23/\om<=59 then(4,(KY y mo d:Nat),(FK h m s f:Nat),if ls then-((oh*60+om:Nat):Int)else((oh*60+om:Nat):Int),0)else IR
def tmD (y mo d:Nat) (r:B8):TmR:=
 if r=[]then(if okD y mo d then(1,(KY y mo d:Nat),0,0,0)else IR)
 else if b0 r 0=84∨b0 r 0=116∨b0 r 0=32 then
  match LL (r.drop 1)with
  | none=>IS
  | some (h,m,s,f,r')=>tmO y mo d h m s f r'
 else IS
def tmP (s:B8):TmR:=
 if FL s then tmD (d2 s 0*100+d2 s 2) (d2 s 5) (d2 s 8) (s.drop 10)
 else match LL s with
  | none=>IS
  | some (h,m,sc,f,r)=>if r=[]then(if okC h m sc then(2,0,(FK h m sc f:Nat),0,0)else IR)else IS
theorem M2:∀(l:B8) (a:Nat),HL a l=a*10^l.length+HL 0 l
 | [],a=>by simp[HL]
 | c::l,a=>by
  have h1:=M2 l (10*a+(c.toNat-48));have h2:=M2 l (10*0+(c.toNat-48));show HL (10*a+(c.toNat-48)) l=_+HL (10*0+(c.toNat-48)) l;rw[h1,h2,List.length_cons,Nat.pow_succ,Nat.add_mul,Nat.add_mul];have:10*a*10^l.length=a*(10^l.length*10):=by rw[Nat.mul_comm 10 a,Nat.mul_assoc,Nat.mul_comm 10]
  omega
theorem Y2 (y m:Nat):Po y m<=31:=by
 grind [Po]
theorem K6:∀(l:B8),(∀c,c∈l->Cz c)->D4 l<10^l.length
 | [],_=>by decide
 | c::l,h=>by
  have ih:=K6 l λx hx=>h x (.tail _ hx);have hc:=(h c (.head _)).2;unfold D4 at ih⊢;rw[show HL 0 (c::l)=HL (c.toNat-48) l by simp[HL],M2,List.length_cons,Nat.pow_succ];have:(c.toNat-48)*10^l.length<=9*10^l.length:=Nat.mul_le_mul_right _ (by omega);omega
theorem valN_ge {c:UInt8} {l:B8} (hc:Cz c) (h0:c≠48):10^l.length<=D4 (c::l):=by
 unfold D4;rw[show HL 0 (c::l)=HL (c.toNat-48) l by simp[HL],M2];have h1:=hc.1;have h2:c.toNat≠48:=λe=>h0 (UInt8.toNat_inj.1 (by simp_all));have:1*10^l.length<=(c.toNat-48)*10^l.length:=Nat.mul_le_mul_right _ (by omega);omega
theorem Jj:∀l:B8,D4 (CO l)=D4 l
 | []=>rfl
 | c::l=>by
  by_cases h:c=48
  ·subst h
   have:=Qe 1 l;rw[show List.replicate 1 (48:UInt8)++l=48::l from rfl]at this;rw[this,Jj l];unfold D4;rw[show HL 0 (48::l)=HL 0 l by simp[HL]]
  ·rw[OJ h]
theorem Mj (l:B8):∀c,c∈CO l->c∈l:=λc h=>(List.dropWhile_sublist (l:=l) (λx:UInt8=>x==48)).subset h
theorem Jn (l:B8):(CO l).length<=l.length:=(List.dropWhile_sublist (l:=l) (λx:UInt8=>x==48)).length_le
theorem Kt (l:B8):(CO l).getD 0 0≠48:=by
 induction l with
 | nil=>decide
 | cons c l ih=>
  by_cases h:c=48
  ·have:=Qe 1 l
   grind
  grind [OJ]
theorem valN_far {l:B8} {k:Nat} (h:∀c,c∈l->Cz c) (hk:k<(CO l).length):10^k<=D4 l:=by
 rw[<-Jj l];have h0:=Kt l;have hs:=Mj l;generalize CO l=m at*;cases m<;>grind [valN_ge,Nat.le_trans,Nat.pow_le_pow_right]
theorem ZX {l:B8} {k:Nat} (h:∀c,c∈l->Cz c) (hk:(CO l).length<=k):D4 l<10^k:=by
 grind [Jj,K6,Mj,Nat.lt_of_lt_of_le,Nat.pow_le_pow_right]
theorem dcN_far {neg:Bool} {s:B8} {ex n m:Int} (hl:s.length<=100000000) (h1: -100000000<=ex) (h2:ex<=100000000) (hn:1000000000<=n) (hm:1000000000<=m) (less:Bool):
  dcN neg s (if less then ex-n else ex+n)=dcN neg s (if less then ex-m else ex+m):=by
 grind [dcN,PF]
theorem ZE (neg:Bool) (s:B8) (ex:Int):(dcN neg s ex).2.1.length<=s.length:=by
 grind [dcN]
theorem dcX_len (neg:Bool) (all:B8) (ex:Int) (less:Bool) (r:B8):(dcX neg all ex less r).2.1.length<=all.length:=by
 grind [dcX,NH,ZE,Jn]
theorem dcE_len (neg:Bool) (all:B8) (ex:Int) (r:B8):(dcE neg all ex r).2.1.length<=all.length:=by
 grind [dcE,NH,dcX_len,ZE,Jn]
theorem dcF_len (neg:Bool) (a r:B8):(dcF neg a r).2.1.length<=a.length+r.length:=by
 grind [dcF,NH,dcE_len,Ln]
theorem dcQ_len (neg:Bool) (s:B8):(dcQ neg s).2.1.length<=s.length:=by
 grind [dcQ,NH,dcF_len,Ln]
theorem dcP_len (s:B8):(dcP s).2.1.length<=s.length:=by
 grind [dcP,dcQ_len]
theorem OI {l:B8} {c:UInt8} (hc:c.toNat<128) {st:St} {K:B8->St->Prop} (hk:K (l.dropWhile (·==c)) st):CallT PR EL [.str l,.str [c]] [.one .str] st K:=by
 refine Fq (λ_ _=>by kernel_rfl) λg w vargs s hr=>?_;obtain⟨v,u,rfl,hv,hu⟩:=Qm hr;rw[Ec hv,Ec hu];refine Calls.mono (Tryz.strings_TrimLeft_one ⟨l.toArray⟩ c hc w) ?_;rintro e w' ⟨rfl,rfl⟩;exact⟨_,rfl,.str _,st,g,hk,s,Rel.str _,Ext.refl _ _⟩
theorem Nw {s p:B8} {st:St} {K:Bool->St->Prop} (hk:K (decide (s.take p.length=p)) st):CallT PR Bq [.str s,.str p] [.one (.bool)] st K:=by
 refine Kk s p st K (Ij s p st _ (Ab (λh=>⟨⟨by omega,h⟩,?_⟩) λh=>?_))
 ·exact hk
 ·have:¬s.take p.length=p:=λh0=>by
   have:=congrArg List.length h0;rw[List.length_take]at this;omega
  rw[decide_eq_false this]at hk;exact hk
theorem u8i {c k:UInt8}:((c.toNat:Int)=(k.toNat:Int))↔c=k:=⟨λh=>UInt8.toNat_inj.1 (by omega),λh=>by rw[h]⟩
theorem take1 {s:B8} {c:UInt8} (hc:c≠0):s.take [c].length=[c]↔s.getD 0 0=c:=by
 cases s with
 | nil=>exact⟨λh=>absurd h (by simp),λh=>absurd (show(0:UInt8)=c from h).symm hc⟩
 | cons a s=>show [a]=[c]↔a=c;simp
theorem Lj {s:B8} {c:UInt8} (hc:c≠0) {st:St} {K:Bool->St->Prop} (hk:K (decide (s.getD 0 0=c)) st):CallT PR Bq [.str s,.str [c]] [.one (.bool)] st K:=
 Nw (by rw[decide_eq_decide.2 (take1 hc)];exact hk)
theorem Q1:∀(s:B8) (k:Nat),k<=s.length->(∀j,j<k->Cz (s.getD j 0))->(k=s.length∨¬Cz (s.getD k 0))->(Br s).length=k
 | [],k,h,_,_=>by
  have:k=0:=by simpa using h
  subst this;rfl
 | a::s,0,_,_,h=>by
  have h2:¬Cz a:=by
   rcases h with h | h
   ·simp at h
   ·exact h
  unfold Br;rw[List.takeWhile_cons_of_neg (by simpa using h2)];rfl
 | a::s,k+1,h1,h2,h3=>by
  have ha:Cz a:=h2 0 (by omega);have ih:=Q1 s k (by simpa using h1) (λj hj=>h2 (j+1) (by omega)) (by
   rcases h3 with h3 | h3
   ·exact .inl (by simpa using h3)
   ·exact .inr h3)
  unfold Br at ih⊢;rw[List.takeWhile_cons_of_pos (by simpa using ha),List.length_cons,ih]
theorem Xk {s:B8} (hl:s.length<=1000000000) {st:St} {K:Int->St->Prop} (hk:K ((Br s).length:Nat) st):CallT PR Eo [.str s] [.one (.int .i64)] st K:=by
 refine PU s st K ⟨λn s' st'=>s=s'/\st=st'/\∃k:Nat,n=k/\k<=s.length/\∀j,j<k->Cz (s.getD j 0),λn _ _=>(s.length-n).toNat,⟨rfl,rfl,0,rfl,Nat.zero_le _,λj h=>absurd h (Nat.not_lt_zero _)⟩,?_⟩;rintro _ _ _ ⟨rfl,rfl,k,rfl,hk1,hd⟩;rw[Int.toNat_natCast];have fin:(k=s.length∨¬Cz (s.getD k 0))->K ((k:Nat):Int) st:=λh=>by rw[Q1 s k hk1 hd h]at hk;exact hk
 refine Ab (λg=>⟨⟨by omega,g⟩,Ab (λg1=>⟨⟨by omega,g⟩,Ab (λg2=>?_) λg2=>fin (.inr λh=>g2 (by have:=h.2;omega))⟩) λg1=>fin (.inr λh=>g1 (by have:=h.1;omega))⟩) λg=>fin (.inl (by omega));rw[Ah _ (by omega) (by omega)];refine⟨⟨rfl,rfl,k+1,by omega,by omega,λj hj=>?_⟩,by dsimp only;omega⟩;by_cases hjk:j=k
 ·subst hjk;exact⟨by omega,by omega⟩
 ·exact hd j (by omega)
theorem N1 {l:B8} {k:Nat} (h:k<l.length):D4 (l.take (k+1))=10*D4 (l.take k)+((List.getD l k 0).toNat-48):=by
 rw[List.take_succ_eq_append_getElem h];unfold D4;rw[UR];have:l[k]=List.getD l k 0:=by simp[List.getD,h]
 rw[<-this];rfl
theorem Td {l:B8} (hd:∀c,c∈l->Cz c) (h:l.length<=18) (k:Nat) (hk:k<l.length):D4 (l.take k)<100000000000000000:=by
 have h1:=K6 (l.take k) λc hc=>hd c (List.mem_of_mem_take hc);rw[List.length_take,Nat.min_eq_left (by omega)]at h1;have:(10:Nat)^k<=10^17:=Nat.pow_le_pow_right (by decide) (by omega);omega
theorem toInt_ok {l:B8} (hl:l.length<=18) (hd:∀c,c∈l->Cz c) (h0:l.getD 0 0≠48) {st:St} {K:Int->Int->St->Prop} (hk:K (D4 l:Nat) 0 st):CallT PR GF [.str l] [.one (.int .i64),.one (.int .i64)] st K:=by
 refine Ph l st K (SP (by omega) ?_);have hno:decide (Rs l)=true:=decide_eq_true ⟨by omega,hd,λ_=>h0⟩;rw[hno];refine Ao (λh=>by cases h) λ_=>?_;refine⟨λn i l' m st'=>l=l'/\st=st'/\(l.length:Int)=m/\∃k:Nat,i=k/\k<=l.length/\n=(D4 (l.take k):Nat),λ_ i _ _ _=>(l.length-i).toNat,⟨rfl,rfl,rfl,0,rfl,Nat.zero_le _,rfl⟩,?_⟩;rintro _ _ _ _ _ ⟨rfl,rfl,rfl,k,rfl,hkl,rfl⟩;rw[Int.toNat_natCast];refine Ab (λg=>⟨⟨by omega,g⟩,?_⟩) λg=>?_
 ·have hk':k<l.length:=by omega
  have hv:=Td hd hl k hk';have hs:=N1 hk';have hc:=hd _ (Nx hk');obtain⟨c1,c2⟩:=hc;rw[PH _ (by omega) (by omega),Ah (((List.getD l k 0).toNat:Int)-48) (by omega) (by omega),Ah (9223372036854775807-_) (by omega) (by omega),Int.tdiv_eq_ediv_of_nonneg (by omega),Ah _ (by omega) (by omega)];refine Ab (λg2=>by omega) λg2=>?_;rw[Ah (((D4 (l.take k):Nat):Int)*10) (by omega) (by omega),Ah _ (by omega) (by omega),Ah _ (by omega) (by omega)];exact⟨⟨rfl,rfl,rfl,k+1,by omega,by omega,by rw[hs];omega⟩,by dsimp only;omega⟩
 ·have:k=l.length:=by omega
  subst this;rw[List.take_length];exact hk
theorem moved_ok {ex:Int} {less:Bool} {l:B8} (h1: -100000000<=ex) (h2:ex<=100000000) (hd:∀c,c∈l->Cz c) (h0:l.getD 0 0≠48) {st:St} {K:Int->St->Prop}
  (hk:K (if less then ex-((if l.length<=12 then D4 l else 1099511627776:Nat):Int)else ex+((if l.length<=12 then D4 l else 1099511627776:Nat):Int)) st):CallT PR FX [.int .i64 ex,.bool less,.str l] [.one (.int .i64)] st K:=by
 refine NW ex less l st K (Ab (λg=>?_) λg=>?_)
 ·have g':l.length<=12:=by omega
  rw[if_pos g']at hk;have hv:=K6 l hd;have:(10:Nat)^l.length<=10^12:=Nat.pow_le_pow_right (by decide) g';refine toInt_ok (by omega) hd h0 (Ao (λe=>?_) λe=>?_)
  ·rw[Ah _ (by omega) (by omega)];rw[if_pos e]at hk;exact hk
  ·rw[Ah _ (by omega) (by omega)];rw[e]at hk;exact hk
 ·rw[if_neg (show ¬l.length<=12 by omega)]at hk
  refine Ao (λe=>?_) λe=>?_
  ·rw[Ah _ (by omega) (by omega)];rw[if_pos e]at hk;exact hk
  ·rw[Ah _ (by omega) (by omega)];rw[e]at hk;exact hk
abbrev KD (K:Bool->B8->Int->Int->St->Prop) (r:Bool×B8×Int×Int) (st:St):Prop:=K r.1 r.2.1 r.2.2.1 r.2.2.2 st
theorem norm_ok {neg:Bool} {s:B8} {ex:Int} (hl:s.length<=2000000) (h1: -3000000000000<=ex) (h2:ex<=3000000000000) {st:St} {K:Bool->B8->Int->Int->St->Prop} (hk:KD K (dcN neg s ex) st):
  CallT PR GG [.bool neg,.str s,.int .i64 ex] [.agg [.bool,.str,.int .i64],.one (.int .i64)] st K:=by
 unfold KD dcN at hk;refine Pi neg s ex st K (Ab (λg=>by rw[if_pos g]at hk;exact hk) λg=>M4 (by decide) (by omega) ?_);rw[if_neg g]at hk;have ht:=Kp s;have e1:i64.wrap ((s.length:Int)-((Lib.trimRightB s 48).length:Int))=(BR s:Nat):=by rw[Ah _ (by omega) (by omega)];omega
 rw[e1];have e2:i64.wrap ((s.length:Int)-(BR s:Nat))=((s.length-BR s:Nat):Int):=by rw[Ah _ (by omega) (by omega)];omega
 rw[e2,Int.toNat_natCast,Ah (400-_) (by omega) (by omega),Ah (-400-_) (by omega) (by omega),Ah (ex+_) (by omega) (by omega)];have hlen:(s.take (s.length-BR s)).length=s.length-BR s:=by rw[List.length_take];omega
 rw[hlen];refine⟨⟨by omega,by omega⟩,Ab (λg1=>?_) λg1=>Ab (λg2=>?_) λg2=>Ab (λg3=>?_) λg3=>?_⟩
 ·rw[if_pos (by omega)]at hk;exact hk
 ·rw[if_pos (by omega)]at hk;exact hk
 ·rw[if_pos (by omega)]at hk;exact hk
 ·rw[if_neg (by omega)]at hk;exact hk
theorem TL {neg:Bool} {s:B8} {ex:Int} (hl:s.length<=2000000) (hd:∀c,c∈s->Cz c) (h1: -3000000000000<=ex) (h2:ex<=3000000000000) {st:St} {K:Bool->B8->Int->Int->St->Prop} (hk:KD K (dcN neg (CO s) ex) st):
  CallT PR DI [.bool neg,.str s,.int .i64 ex] [.agg [.bool,.str,.int .i64],.one (.int .i64)] st K:=by
 refine Pj neg s ex st K ⟨λi neg' s' ex' n _ _ _ st'=>neg=neg'/\s=s'/\ex=ex'/\(s.length:Int)=n/\st=st'/\0<=i,λi _ _ _ _ _ _ _ _=>(s.length-i).toNat,⟨rfl,rfl,rfl,rfl,rfl,by omega⟩,?_⟩;rintro i _ _ _ _ _ _ _ _ ⟨rfl,rfl,rfl,rfl,rfl,hi⟩;refine Ab (λg=>?_) λg=>?_
 ·have hc:=hd _ (Nx (show i.toNat<s.length by omega))
  obtain⟨c1,c2⟩:=hc;refine⟨⟨hi,g⟩,Ab (λg1=>by omega) λ_=>⟨⟨hi,g⟩,Ab (λg1=>by omega) λ_=>?_⟩⟩;rw[Ah _ (by omega) (by omega)];exact⟨⟨rfl,rfl,rfl,rfl,rfl,by omega⟩,by dsimp only;omega⟩
 ·refine OI (by decide) (norm_ok (Nat.le_trans (Jn s) hl) h1 h2 hk)
theorem dP_ok {s:B8} (hl:s.length<=1000000) {st:St} {K:Bool->B8->Int->Int->St->Prop} (hk:KD K (dcP s) st):CallT PR Ez [.str s] [.agg [.bool,.str,.int .i64],.one (.int .i64)] st K:=by
 refine NZ s st K (Lj (by decide) ?_);refine⟨λs1 neg _ _ _ st'=>st=st'/\dcP s=dcQ neg s1/\s1.length<=s.length,Ab (λg=>?_) λg=>?_,?_⟩
 ·refine⟨⟨by omega,?_⟩,rfl,?_,?_⟩
  ·cases s with
   | nil=>exact absurd g (by decide)
   | cons a s=>rw[List.length_cons];omega
  ·unfold dcP;rw[if_pos g,decide_eq_true g];rfl
  ·rw[List.length_drop];omega
 ·refine⟨rfl,?_,Nat.le_refl _⟩
  unfold dcP;rw[if_neg g,decide_eq_false g]
 rintro s1 neg _ _ _ _ ⟨rfl,h1,hl1⟩;rw[h1]at hk;refine Xk (by omega) ?_;have hrl:=Ln s1;refine⟨λs2 neg2 n _ _ _ st'=>s1=s2/\neg=neg2/\n=((Br s1).length:Nat)/\st=st'/\dcQ neg s1=dcF neg (Br s1) (s1.drop (Br s1).length),Ab (λg=>?_) λg=>Ab (λg2=>?_) λg2=>?_,?_⟩
 ·have:Br s1=[]:=List.length_eq_zero_iff.1 (by omega)
  unfold KD dcQ at hk;rw[if_pos (.inl this)]at hk;exact hk
 ·refine⟨⟨by omega,by omega⟩,Ab (λg3=>?_) λg3=>⟨rfl,rfl,rfl,rfl,?_⟩⟩
  ·have:s1.getD 0 0=48:=u8i.1 g3
   unfold KD dcQ at hk;rw[if_pos (.inr ⟨by omega,this⟩)]at hk;exact hk
  ·unfold dcQ
   rw[if_neg];rintro(h | ⟨_,h⟩)
   ·exact g (by rw[h];rfl)
   ·exact g3 (by show((s1.getD 0 0).toNat:Int)=48;rw[h];rfl)
 ·refine⟨rfl,rfl,rfl,rfl,?_⟩
  unfold dcQ;rw[if_neg];rintro(h | ⟨h,_⟩)
  ·exact g (by rw[h];rfl)
  ·omega
 rintro _ _ _ _ _ _ _ ⟨rfl,rfl,rfl,rfl,h2⟩;rw[h2]at hk;rw[Int.toNat_natCast,MD];refine⟨⟨by omega,by omega⟩,⟨by omega,by omega⟩,?_⟩;have hdg:=I7 s1;generalize hr:s1.drop (Br s1).length=r at*;generalize ha:Br s1=a at*;have hrl2:a.length+r.length<=1000000:=by
  have:r.length=s1.length-a.length:=by rw[<-hr,List.length_drop]
  omega
 clear hr ha h1 h2;refine⟨λs3 all ex neg3 _ _ _ st'=>neg=neg3/\st=st'/\dcF neg a r=dcE neg all ex s3/\ -1000000<=ex/\ex<=0/\all.length<=1000000/\s3.length<=1000000/\∀c,c∈all->Cz c,Lj (by decide) (Ab (λg=>?_) λg=>?_),?_⟩
 ·have hr1:1<=r.length:=by
   cases r with
   | nil=>exact absurd g (by decide)
   | cons c r=>rw[List.length_cons];omega
  refine⟨⟨by omega,by omega⟩,Xk (by show(r.drop 1).length<=_;rw[List.length_drop];omega) ?_⟩;rw[show Int.toNat (1:Int)=1 from rfl];have hd1:=Ln (r.drop 1);have hd2:=I7 (r.drop 1);have hd3:=MD (r.drop 1);rw[List.length_drop]at hd1;generalize hf:Br (r.drop 1)=f at*;refine Ab (λg2=>?_) λg2=>?_
  ·have:f=[]:=List.length_eq_zero_iff.1 (by omega)
   unfold KD dcF at hk;rw[if_pos g,hf,if_pos this]at hk;exact hk
  ·rw[Ah (((f.length:Nat):Int)+1) (by omega) (by omega),Ah (0-_) (by omega) (by omega),show((((f.length:Nat):Int)+1).toNat)=1+f.length by omega]
   have hdt:(r.take (1+f.length)).drop 1=f:=by rw[List.drop_take,Nat.add_sub_cancel_left];exact hd3
   refine⟨⟨by omega,by omega,by omega⟩,?_⟩;show(a.length+((r.take (1+f.length)).drop 1).length<=_)/\_;rw[hdt];refine⟨by omega,⟨by omega,by omega⟩,rfl,rfl,?_,by omega,by omega,by rw[List.length_append];omega,by rw[List.length_drop];omega,λc hc=>?_⟩
   ·unfold dcF
    rw[if_pos g,hf,if_neg (λe=>g2 (by rw[e];rfl))];rw[show(0:Int)-(f.length:Nat)= -(f.length:Nat) by omega]
   ·rcases List.mem_append.1 hc with hc | hc
    ·exact hdg c hc
    ·exact hd2 c hc
 ·refine⟨rfl,rfl,?_,by omega,by omega,by omega,by omega,hdg⟩
  unfold dcF;rw[if_neg g]
 rintro s3 all ex _ _ _ _ _ ⟨rfl,rfl,h3,x1,x2,x3,x4,x5⟩;rw[h3]at hk;clear h3 hdg hrl2;refine Ab (λg=>?_) λg=>?_
 ·have hpos:1<=s3.length:=List.length_pos_iff.2 g
  refine⟨λs4 neg4 all4 ex4 _ _ _ st'=>s3=s4/\neg=neg4/\all=all4/\ex=ex4/\st=st'/\(s3.getD 0 0=101∨s3.getD 0 0=69),?_,?_⟩
  ·have n101:((s3.getD 0 0).toNat:Int)≠101↔s3.getD 0 0≠101:=not_congr (u8i (k:=101))
   have n69:((s3.getD 0 0).toNat:Int)≠69↔s3.getD 0 0≠69:=not_congr (u8i (k:=69));refine⟨⟨by omega,by omega⟩,Ab (λg1=>⟨⟨by omega,by omega⟩,Ab (λg2=>?_) λg2=>⟨rfl,rfl,rfl,rfl,rfl,.inr (Decidable.not_not.1 λh=>g2 (n69.2 h))⟩⟩) λg1=>⟨rfl,rfl,rfl,rfl,rfl,.inl (Decidable.not_not.1 λh=>g1 (n101.2 h))⟩⟩;unfold KD dcE at hk;rw[if_neg g,if_neg (by rintro(h | h);exact n101.1 g1 h;exact n69.1 g2 h)]at hk
   exact hk
  rintro _ _ _ _ _ _ _ _ ⟨rfl,rfl,rfl,rfl,rfl,he⟩;unfold KD dcE at hk;rw[if_neg g,if_pos he]at hk;refine⟨⟨by omega,by omega⟩,Lj (by decide) ?_⟩;show ∃_,_;refine⟨λs5 neg5 all5 ex5 less _ _ _ st'=>neg=neg5/\all=all5/\ex=ex5/\st=st'/\s5.length<=1000000/\KD K (dcX neg all ex less s5) st,Ab (λg1=>?_) λg1=>Lj (by decide) (Ab (λg2=>?_) λg2=>?_),?_⟩
  ·have g1':(s3.drop 1).getD 0 0=45:=g1
   rw[if_pos g1']at hk;refine⟨⟨by omega,?_⟩,rfl,rfl,rfl,rfl,?_,?_⟩
   ·have:1<=(s3.drop 1).length:=by
     cases hc:s3.drop 1 with
     | nil=>rw[hc]at g1';exact absurd g1' (by decide)
     | cons c r=>rw[List.length_cons];omega
    exact Int.ofNat_le.2 this
   ·show((s3.drop 1).drop 1).length<=_;rw[List.length_drop,List.length_drop];omega
   ·rw[decide_eq_true g1]
    show KD K (dcX neg all ex true ((s3.drop 1).drop 1)) st;rw[List.drop_drop];exact hk
  ·have g1':¬(s3.drop 1).getD 0 0=45:=g1
   have g2':(s3.drop 1).getD 0 0=43:=g2;rw[if_neg g1',if_pos g2']at hk;refine⟨⟨by omega,?_⟩,rfl,rfl,rfl,rfl,?_,?_⟩
   ·have:1<=(s3.drop 1).length:=by
     cases hc:s3.drop 1 with
     | nil=>rw[hc]at g2';exact absurd g2' (by decide)
     | cons c r=>rw[List.length_cons];omega
    exact Int.ofNat_le.2 this
   ·show((s3.drop 1).drop 1).length<=_;rw[List.length_drop,List.length_drop];omega
   ·rw[decide_eq_false g1]
    show KD K (dcX neg all ex false ((s3.drop 1).drop 1)) st;rw[List.drop_drop];exact hk
  ·have g1':¬(s3.drop 1).getD 0 0=45:=g1
   have g2':¬(s3.drop 1).getD 0 0=43:=g2;rw[if_neg g1',if_neg g2']at hk;refine⟨rfl,rfl,rfl,rfl,?_,?_⟩
   ·show(s3.drop 1).length<=_;rw[List.length_drop];omega
   ·rw[decide_eq_false g1];exact hk
  rintro s5 _ _ _ less _ _ _ _ ⟨rfl,rfl,rfl,rfl,hl5,hk5⟩;unfold KD dcX at hk5;refine Ab (λg1=>by rw[if_pos (.inl g1)]at hk5;exact hk5) λg1=>Xk (by omega) (Ab (λg2=>?_) λg2=>?_)
  ·rw[if_pos (.inr (by omega))]at hk5;exact hk5
  ·have hall:Br s5=s5:=by
    have:=SM s5;have h0:s5.drop (Br s5).length=[]:=List.drop_of_length_le (by omega);rw[h0,List.append_nil]at this;exact this.symm
   have hd5:∀c,c∈s5->Cz c:=by rw[<-hall];exact I7 s5
   rw[if_neg (by rintro(h | h);exact g1 h;exact h (by rw[hall]))]at hk5
   refine OI (by decide) (moved_ok (by omega) (by omega) (λc hc=>hd5 c (Mj s5 c hc)) (Kt s5) ?_);show CallT PR DI [.bool neg,.str all,.int .i64 (if less=true then ex-((if (CO s5).length<=12 then D4 (CO s5)else 1099511627776:Nat):Int)else ex+((if (CO s5).length<=12 then D4 (CO s5)else 1099511627776:Nat):Int))] _ _ _;rw[Jj];have sm:=Jn all;by_cases h12:(CO s5).length<=12
   ·have hn:=ZX hd5 h12
    rw[if_pos h12];refine TL (by omega) x5 ?_ ?_ hk5
    ·split<;>omega
    ·split<;>omega
   ·have hf:=valN_far (k:=12) hd5 (by omega)
    rw[if_neg h12];refine TL (by omega) x5 ?_ ?_ ?_
    ·split<;>omega
    ·split<;>omega
    ·have:=dcN_far (neg:=neg) (s:=CO all) (ex:=ex) (n:=((1099511627776:Nat):Int)) (m:=(D4 s5:Nat)) (by omega) (by omega) (by omega) (by omega) (by omega) less
     unfold KD;rw[this];exact hk5
 ·have g0:s3=[]:=Decidable.not_not.1 g
  unfold KD dcE at hk;rw[if_pos g0]at hk;exact TL (by omega) x5 (by omega) (by omega) hk
theorem Jm {α:Type} {l m:List α} {k:Nat} {x y:α} (h:l.take k=m.take k) (hx:l[k]? =some x) (hy:m[k]? =some y) (e:x=y):l.take (k+1)=m.take (k+1):=by
 rw[Et hx,Et hy,h,e]
theorem sc_eq {s t:Sc} (h1:s.kind=t.kind) (h2:s.b=t.b) (h3:s.neg=t.neg) (h4:s.dg=t.dg) (h5:s.ex=t.ex) (h6:s.tk=t.tk) (h7:s.td=t.td) (h8:s.tn=t.tn) (h9:s.tz=t.tz) (h10:s.text=t.text) (h11:s.bytes=t.bytes):s=t:=by
 cases s;cases t;simp_all
section
def Dt (l:List Vl) (f:List Fd):List Vl:=l++f.map Fd.val
mutual
def OA:Vl->Nat
 | .mk _ l f=>1+max (EH l) (L4 f)
def EH:List Vl->Nat
 | []=>0
 | v::r=>max (OA v) (EH r)
def depD:Fd->Nat
 | .mk _ v=>OA v
def L4:List Fd->Nat
 | []=>0
 | d::r=>max (depD d) (L4 r)
end
theorem Lo:∀l m:List Vl,EH (l++m)=max (EH l) (EH m)
 | [],m=>by simp[EH]
 | v::r,m=>by simp only[List.cons_append,EH,Lo r m];omega
theorem SN:∀f:List Fd,L4 f=EH (f.map Fd.val)
 | []=>rfl
 | .mk k v::r=>by simp only[List.map_cons,EH,L4,SN r,depD,Fd.val]
theorem Fc:∀l m:List Vl,AH (l++m)=AH l+AH m
 | [],m=>by simp[AH]
 | v::r,m=>by simp only[List.cons_append,AH,Fc r m];omega
theorem SH:∀f:List Fd,AX f=AH (f.map Fd.val)
 | []=>rfl
 | .mk k v::r=>by simp only[List.map_cons,AH,AX,SH r,Fd.cnt,Fd.val]
theorem Wm (s:Sc) (l:List Vl) (f:List Fd):(Vl.mk s l f).cnt=1+AH (Dt l f):=by
 unfold Dt Vl.cnt;rw[Fc,<-SH];omega
theorem dep_kids (s:Sc) (l:List Vl) (f:List Fd):OA (Vl.mk s l f)=1+EH (Dt l f):=by
 unfold Dt OA;rw[Lo,<-SN]
mutual
theorem ZA:∀v:Vl,OA v<=v.cnt
 | .mk s l f=>by
  unfold OA Vl.cnt;have:=Q3 l;have:=We f;omega
theorem Q3:∀l:List Vl,EH l<=AH l
 | []=>by unfold EH;exact Nat.zero_le _
 | v::r=>by
  unfold EH AH;have:=ZA v;have:=Q3 r;omega
theorem depd_cnt:∀d:Fd,depD d<=d.cnt
 | .mk k v=>by unfold depD Fd.cnt;exact ZA v
theorem We:∀l:List Fd,L4 l<=AX l
 | []=>by unfold L4;exact Nat.zero_le _
 | d::r=>by
  unfold L4 AX;have:=depd_cnt d;have:=We r;omega
end
theorem VsR.all_one {st:St}:∀{l:List Vl} {xs:List TV},VsR st l xs->List.all xs Av=true
 | [],xs,h=>by unfold VsR at h;subst h;rfl
 | .mk s l f::r,xs,h=>by
  unfold VsR at h;obtain⟨a,b,rfl,h1,h2⟩:=h;obtain⟨ub,ul,uf,xl,xf,rfl,q1,q2,_,q4,_⟩:=h1.cells;rw[List.all_append,VsR.all_one h2,Bool.and_true];exact Ee q1.one q2.one q4.one
theorem VsR.app {st:St}:∀{l m:List Vl} {xs ys:List TV},VsR st l xs->VsR st m ys->VsR st (l++m) (xs++ys)
 | [],m,xs,ys,h,hm=>by unfold VsR at h;subst h;exact hm
 | v::r,m,xs,ys,h,hm=>by
  unfold VsR at h;obtain⟨a,b,rfl,h1,h2⟩:=h;show VsR st (v::(r++m)) _;unfold VsR;exact⟨a,b++ys,by simp,h1,VsR.app h2 hm⟩
theorem AaJ {st0 st:St} {u:TV} {l:List Vl} {xl:List TV} (hke:CH st0 st) (h:SlR st0 13 u l.length xl) (hv:VsR st0 l xl) (hl:l.length<=2000000) {K:TV->St->Prop} (hk:∀v st',Ag st st'->Own st.nt 13 st' v l.length xl->K v st'):
  CallT PR BL [u] [.one .tv] st K:=by
 have hxl:=hv.len;refine Ea _ st K (Aa h.isSl ?_);cases hq:Cj u with
 | true=>
  show K .nilSlice st;have h0:l=[]:=by
   rcases h with(⟨rfl,h1,_⟩ | ⟨tip,rfl⟩) | ⟨b,off,cap,m,rfl,_⟩
   ·exact List.eq_nil_of_length_eq_zero h1
   ·cases hq
   ·cases hq
  subst h0;have hx0:xl=[]:=List.eq_nil_of_length_eq_zero (by simpa using hxl);subst hx0;exact hk _ st (Ag.refl _) (Own.nil _ _ _)
 | false=>
  refine Ac ((h.keep hke).src hxl) (Aa hv.all_one ?_);refine NN (Ag.refl st) rfl (Own.full st.nt 13 st 0 []) (by simp only;omega) (λh0=>?_) λv1 st1 e1 _ ho=>?_
  ·simp only at h0
   exact List.eq_nil_of_length_eq_zero (by rw[hxl,h0,Nat.zero_mul])
  ·rw[List.nil_append,Nat.zero_add]at ho
   exact hk v1 st1 e1 ho
theorem Vt {s:Sc} {l:List Vl} {f:List Fd} (hN:(Vl.mk s l f).sz<=2000000) {st0 st:St} {ub ul uf:TV} {K:TV->St->Prop} (h:VlR st0 (.mk s l f) (AQ s ub ul uf)) (hke:CH st0 st)
  (hk:∀u xl st',Ag st st'->SlR st' 13 u (Dt l f).length xl->VsR st' (Dt l f) xl->K u st'):CallT PR Gd [.agg (AQ s ub ul uf)] [.one .tv] st K:=by
 have hsz:=szs s l f;have hll:=Hc l;have hfl:=Gq f;obtain⟨ub',ul',uf',xl,xf,hcs,h1,h2,h3,h4,h5⟩:=h.cells;simp only[AQ,List.cons.injEq,and_true,true_and]at hcs;obtain⟨rfl,rfl,rfl⟩:=hcs;have hxl:=h3.len;refine RE _ _ _ _ _ _ _ _ _ _ _ _ _ st K (AaJ hke h2 h3 (by omega) λv1 st1 e1 ho1=>Aa h4.isSl ?_);refine⟨λo i u n st'=>uf=u/\n=(f.length:Int)/\∃(k:Nat) (xs:List TV),i=k/\k<=f.length/\Ag st st'/\Own st.nt 13 st' o (l.length+k) (xl++xs)/\VsR st0 ((f.take k).map Fd.val) xs,λ_ i _ _ _=>(f.length-i).toNat,
  ⟨rfl,by rw[h4.lenS],0,[],rfl,Nat.zero_le _,e1,by simpa using ho1,by simp only[List.take_zero,List.map_nil];unfold VsR;rfl⟩,?_⟩
 rintro o _ _ _ st2 ⟨rfl,rfl,k,xs,rfl,hkf,e2,ho,hv⟩;refine Ab (λg2=>?_) λg2=>?_
 ·refine el14 (hke.trans e2.keeps) h4 h5 rfl (by omega) λkey s' l' f' ub1 ul1 uf1 gw hw on=>Aa on ?_
  have on2:List.all (AQ s' ub1 ul1 uf1) Av=true:=by
   rw[List.all_cons]at on;exact(Bool.and_eq_true_iff.1 on).2
  refine Aa on2 (NN e2 rfl ho (by omega) (λh=>by cases h) λv2 st3 e3 _ ho2=>?_);rw[Ah _ (by omega) (by omega)];refine⟨⟨rfl,rfl,k+1,xs++AQ s' ub1 ul1 uf1,by omega,by omega,e3,by simpa [AQ,Nat.add_assoc]using ho2,?_⟩,by dsimp only;omega⟩;rw[Et gw,List.map_append];exact VsR.snoc hv hw
 ·have hkk:k=f.length:=by omega
  subst hkk;rw[List.take_length]at hv;have hke2:=hke.trans e2.keeps;refine hk o (xl++xs) st2 e2 ?_ (VsR.keep hke2 (VsR.app h3 hv));unfold Dt;rw[List.length_append,List.length_map];exact .of_rd ho.rd
theorem PI {l:List Vl} {k:Nat} {w:Vl} (h:l[k]? =some w):AH (l.take (k+1))=AH (l.take k)+w.cnt:=by
 rw[Et h,Fc];simp[AH]
theorem X4 {l:List Vl} {k:Nat} {w:Vl} (h:l[k]? =some w):EH (l.take (k+1))=max (EH (l.take k)) (OA w):=by
 rw[Et h,Lo];simp[EH]
theorem Ii (l:List Vl) (k:Nat):AH (l.take k)<=AH l:=by
 have:=Fc (l.take k) (l.drop k);rw[List.take_append_drop]at this;omega
theorem Sa (l:List Vl):l.length<=AH l:=by
 induction l with
 | nil=>exact Nat.zero_le _
 | cons v r ih=>unfold AH;have:=v.cnt_pos;simp only[List.length_cons];omega
theorem L3 (l:List Vl) (k:Nat):EH (l.take k)<=EH l:=by
 have:=Lo (l.take k) (l.drop k);rw[List.take_append_drop]at this;omega
mutual
theorem ME:∀v:Vl,v.cnt<=v.sz
 | .mk s l f=>by
  have:=ZG l;have:=ZH f;unfold Vl.cnt;rw[szs];omega
theorem ZG:∀l:List Vl,AH l<=E5 l
 | []=>by unfold AH;exact Nat.zero_le _
 | v::r=>by
  unfold AH E5;have:=ME v;have:=ZG r;omega
theorem cntd_sz:∀d:Fd,d.cnt<=d.sz
 | .mk k v=>by unfold Fd.cnt Fd.sz;have:=ME v;omega
theorem ZH:∀l:List Fd,AX l<=Ev l
 | []=>by unfold AX;exact Nat.zero_le _
 | d::r=>by
  unfold AX Ev;have:=cntd_sz d;have:=ZH r;omega
end
theorem VO {s:Sc} {l:List Vl} {f:List Fd} {k:Nat} {w:Vl} (h:(Dt l f)[k]? =some w):w.sz+1<=(Vl.mk s l f).sz:=by
 have hsz:=szs s l f;rcases List.mem_append.1 (FT h)with h | h
 ·have:=MP h;omega
 ·obtain⟨d,hd,rfl⟩:=List.mem_map.1 h
  have:=KM hd;cases d;rw[szd]at this;simp only[Fd.val];omega
theorem size_ok:∀(N:Nat) (v:Vl),v.sz<=N->N<=2000000->∀{st0 st:St} {cs:List TV} {L:Int} {K:Int->St->Prop},VlR st0 v cs->CH st0 st->(v.cnt:Int)<=L->L<=100000000->(∀st',Ag st st'->K (v.cnt:Nat) st')->
  CallT PR Gb [.agg cs,.int .i64 L] [.one (.int .i64)] st K:=by
 intro N;induction N with
 | zero=>intro v h;have:=v.sz_pos;omega
 | succ N ih=>
 intro v hN hN2 st0 st cs L K h hke hL hL2 hk;cases v with
 | mk s l f=>
 have h0:=h;obtain⟨ub,ul,uf,xl,xf,rfl,_⟩:=h.cells;have hC:=Wm s l f;have hcs:=ME (.mk s l f);have hpos:=(Vl.mk s l f).cnt_pos;have hlen:=Sa (Dt l f);refine RC _ _ _ _ _ _ _ _ _ _ _ _ _ L st K (Ab (λg=>by omega) λ_=>Vt (by omega) h0 hke λu xl st1 e1 hu hv=>Aa hu.isSl ?_);refine⟨λn i le u' m st'=>u=u'/\le=L/\m=((Dt l f).length:Int)/\∃k:Nat,i=k/\k<=(Dt l f).length/\n=((1+AH ((Dt l f).take k):Nat):Int)/\Ag st1 st',λ_ i _ _ _ _=>((Dt l f).length-i).toNat,
  ⟨rfl,rfl,by rw[hu.lenS],0,rfl,Nat.zero_le _,rfl,Ag.refl _⟩,?_⟩
 rintro _ _ _ _ _ st2 ⟨rfl,rfl,rfl,k,rfl,hkl,rfl,e2⟩;have htk:=Ii (Dt l f) k;refine Ab (λg=>?_) λg=>?_
 ·refine Wa e2.keeps hu hv rfl (by omega) λs' l' f' ub1 ul1 uf1 gw hw on=>Aa on ?_
  have hwsz:=VO (s:=s) gw;have hwc:=PI gw;have htk2:=Ii (Dt l f) (k+1);rw[Ah (_-1) (by omega) (by omega)];refine ih _ (by omega) (by omega) hw e2.keeps (by omega) (by omega) λst3 e3=>?_;rw[Ah _ (by omega) (by omega),Ah _ (by omega) (by omega)];exact⟨⟨rfl,rfl,rfl,k+1,by omega,by omega,by omega,e2.trans e3⟩,by dsimp only;omega⟩
 ·have hkk:k=(Dt l f).length:=by omega
  rw[hkk,List.take_length,<-hC];exact hk st2 (e1.trans e2)
theorem ZU {v:Vl} (hN:v.sz<=2000000) (hC:v.cnt<=65536) {st0 st:St} {cs:List TV} {K:Int->St->Prop} (h:VlR st0 v cs) (hke:CH st0 st) (hk:∀st',Ag st st'->K (v.cnt:Nat) st'):CallT PR Gf [.agg cs] [.one (.int .i64)] st K:=by
 cases v with
 | mk s l f=>
 have h0:=h;obtain⟨ub,ul,uf,xl,xf,rfl,_⟩:=h.cells;exact RH _ _ _ _ _ _ _ _ _ _ _ _ _ st K (size_ok 2000000 _ hN (by omega) h0 hke (by omega) (by omega) hk)
theorem deep_ok:∀(N:Nat) (v:Vl),v.sz<=N->N<=2000000->∀{st0 st:St} {cs:List TV} {L:Int} {K:Int->St->Prop},VlR st0 v cs->CH st0 st->(v.cnt:Int)<=L->L<=100000000->(∀st',Ag st st'->K (OA v:Nat) st')->
  CallT PR Ge [.agg cs,.int .i64 L] [.one (.int .i64)] st K:=by
 intro N;induction N with
 | zero=>intro v h;have:=v.sz_pos;omega
 | succ N ih=>
 intro v hN hN2 st0 st cs L K h hke hL hL2 hk;cases v with
 | mk s l f=>
 have h0:=h;obtain⟨ub,ul,uf,xl,xf,rfl,_⟩:=h.cells;have hC:=Wm s l f;have hD:=dep_kids s l f;have hcs:=ME (.mk s l f);have hpos:=(Vl.mk s l f).cnt_pos;have hlen:=Sa (Dt l f);have hdc:=Q3 (Dt l f);refine RG _ _ _ _ _ _ _ _ _ _ _ _ _ L st K (Ab (λg=>?_) λ_=>Vt (by omega) h0 hke λu xl st1 e1 hu hv=>Aa hu.isSl ?_)
 ·have:=hk st (Ag.refl _)
  rw[show OA (.mk s l f)=1 by omega]at this;exact this
 refine⟨λn i le u' m st'=>u=u'/\le=L/\m=((Dt l f).length:Int)/\∃k:Nat,i=k/\k<=(Dt l f).length/\n=((1+EH ((Dt l f).take k):Nat):Int)/\Ag st1 st',λ_ i _ _ _ _=>((Dt l f).length-i).toNat,
  ⟨rfl,rfl,by rw[hu.lenS],0,rfl,Nat.zero_le _,rfl,Ag.refl _⟩,?_⟩
 rintro _ _ _ _ _ st2 ⟨rfl,rfl,rfl,k,rfl,hkl,rfl,e2⟩;have htk:=L3 (Dt l f) k;refine Ab (λg=>?_) λg=>?_
 ·refine Wa e2.keeps hu hv rfl (by omega) λs' l' f' ub1 ul1 uf1 gw hw on=>Aa on ?_
  have hwsz:=VO (s:=s) gw;have hwc:=PI gw;have hwd:=X4 gw;have htk2:=L3 (Dt l f) (k+1);have htk3:=Ii (Dt l f) (k+1);rw[Ah (_-1) (by omega) (by omega)];refine ih _ (by omega) (by omega) hw e2.keeps (by omega) (by omega) λst3 e3=>?_;rw[Ah _ (by omega) (by omega),Ah _ (by omega) (by omega)];exact⟨⟨rfl,rfl,rfl,k+1,by omega,by omega,by rw[hwd];omega,e2.trans e3⟩,by dsimp only;omega⟩
 ·have hkk:k=(Dt l f).length:=by omega
  rw[hkk,List.take_length,<-hD];exact hk st2 (e1.trans e2)
theorem WM {v:Vl} (hN:v.sz<=2000000) (hC:v.cnt<=65536) {st0 st:St} {cs:List TV} {K:Int->St->Prop} (h:VlR st0 v cs) (hke:CH st0 st) (hk:∀st',Ag st st'->K (OA v:Nat) st'):CallT PR Fy [.agg cs] [.one (.int .i64)] st K:=by
 cases v with
 | mk s l f=>
 have h0:=h;obtain⟨ub,ul,uf,xl,xf,rfl,_⟩:=h.cells;exact PM _ _ _ _ _ _ _ _ _ _ _ _ _ st K (deep_ok 2000000 _ hN (by omega) h0 hke (by omega) (by omega) hk)
end
theorem SlR.ldb {st:St} {u:TV} {l:B8} {k:Nat} (h:SlR st 1 u l.length (AV l)) (hk:k<l.length):Af st [] (.t (ixT 1 u k)) 0=some (L7 l[k]):=by
 have:=h.ldc (by rw[It];omega) hk;rw[List.drop_eq_getElem_cons (by rw[It];omega)]at this;simp only[AE,List.take_succ_cons,List.take_zero]at this;cases hq:Af st [] (.t (ixT 1 u k)) 0 with
 | none=>rw[hq]at this;cases this
 | some y=>
  rw[hq]at this;simp only[Option.map_some,Option.some.injEq,List.cons.injEq,and_true]at this;rw[this];simp[AV]
def zs (n:Nat):B8:=List.replicate n 48
theorem Ig (st:St) (b:Nat) (o:JQ):(st.put b o).box b=o:=by simp[St.put]
theorem box_push (st:St) (o:JQ) (t:Option Nat):(st.push o t).box st.nb=o:=by simp[St.push]
def monX (y m:Nat):Nat:=if 1<=y/\y<=9999/\1<=m/\m<=12 then Po y m else 0
theorem TK {y m:Nat} (h1:1<=y) (h2:y<=9999) (h3:1<=m) (h4:m<=12):monX y m=Po y m:=if_pos ⟨h1,h2,h3,h4⟩
theorem O0 {y:Nat} {st:St} {K:Bool->St->Prop} (hk:K (decide (1<=y/\y<=9999)) st):CallT PR D1 [.int .i64 (y:Int)] [.one .bool] st K:=by
 refine MX _ st K (Ab (λg=>?_) λg=>?_)
 ·exact GM (decide_eq_decide.2 ⟨λh=>by omega,λh=>by omega⟩) hk
 ·rw[decide_eq_false (by omega)]at hk;exact hk
theorem Yk {y:Nat} (h1:1<=y) (h2:y<=9999) {st:St} {K:Bool->St->Prop} (hk:K (decide (SC y)) st):CallT PR FZ [.int .i64 (y:Int)] [.one .bool] st K:=by
 refine N0 _ st K (O0 ?_);rw[decide_eq_true ⟨h1,h2⟩,Int.tmod_eq_emod_of_nonneg (by omega),Int.tmod_eq_emod_of_nonneg (by omega),Int.tmod_eq_emod_of_nonneg (by omega)];unfold SC at hk;refine Ab (p:=True) (λ_=>Ab (λg=>Ab (λg2=>?_) λg2=>?_) λg=>?_) (λh=>absurd trivial h)
 ·exact GM (decide_eq_true (show y%4=0/\(y%100≠0∨y%400=0)from⟨by omega,.inl (by omega)⟩) |>.symm) hk
 ·exact GM (decide_eq_decide.2 ⟨λh=>⟨by omega,.inr (by omega)⟩,λh=>by omega⟩) hk
 ·exact GM (decide_eq_false (show ¬(y%4=0/\(y%100≠0∨y%400=0))fromλh=>by omega) |>.symm) hk
theorem days_ix:∀k:Nat,k<12->k≠1->(([.int .i64 31,.int .i64 28,.int .i64 31,.int .i64 30,.int .i64 31,.int .i64 30,.int .i64 31,.int .i64 31,.int .i64 30,.int .i64 31,.int .i64 30,.int .i64 31]:List TV)[(0+k*1)+0]?)=some (.int .i64 (if k+1=4∨k+1=6∨k+1=9∨k+1=11 then 30 else 31))
 | 0,_,_=>rfl
 | 1,_,h=>absurd rfl h
 | 2,_,_=>rfl
 | 3,_,_=>rfl
 | 4,_,_=>rfl
 | 5,_,_=>rfl
 | 6,_,_=>rfl
 | 7,_,_=>rfl
 | 8,_,_=>rfl
 | 9,_,_=>rfl
 | 10,_,_=>rfl
 | 11,_,_=>rfl
 | k+12,h,_=>by omega
theorem O1 {y m:Nat} (hm:m<=1000000) {st:St} {K:Int->St->Prop} (hk:K (monX y m:Nat) st):CallT PR D2 [.int .i64 (y:Int),.int .i64 (m:Int)] [.one (.int .i64)] st K:=by
 unfold monX at hk;refine MZ _ _ st K (O0 ?_);by_cases hy:1<=y/\y<=9999
 ·rw[decide_eq_true hy]
  refine Ab (p:=False) (λh=>h.elim) λ_=>Ab (λg=>?_) λg=>Ab (λg2=>?_) λg2=>?_
  ·rw[if_neg (by omega)]at hk;exact hk
  ·rw[if_neg (by omega)]at hk;exact hk
  ·rw[if_pos (by omega)]at hk
   unfold Po at hk;rw[Ah _ (by omega) (by omega)];refine Ab (λg3=>Yk hy.1 hy.2 (Ab (λg4=>?_) λg4=>?_)) λg3=>⟨⟨by omega,by omega⟩,?_⟩
   ·rw[if_pos (by omega),if_pos g4]at hk;exact hk
   ·rw[if_pos (by omega),if_neg g4]at hk
    refine⟨⟨by omega,by omega⟩,?_⟩;have:m=2:=by omega
    subst this;exact Ac (x:= .int .i64 28) rfl (Am hk)
   ·rw[if_neg (by omega)]at hk
    obtain⟨k,rfl⟩:∃k,m=k+1:=⟨m-1,by omega⟩;rw[show(((k+1:Nat):Int)-1)=(k:Int) by omega,Int.toNat_natCast];refine Ac (days_ix k (by omega) (by omega)) (Am ?_);split
    ·rename_i h;rw[if_pos h]at hk;exact hk
    ·rename_i h;rw[if_neg h]at hk;exact hk
 ·rw[decide_eq_false hy]
  refine Ab (p:=True) (λ_=>?_) λh=>absurd trivial h;rw[if_neg (λh=>hy ⟨h.1,h.2.1⟩)]at hk;exact hk
theorem WD {y:Nat} (h1:1<=y) (h2:y<=1000000) {st:St} {K:Int->St->Prop} (hk:K (yrS y:Nat) st):CallT PR FC [.int .i64 (y:Int)] [.one (.int .i64)] st K:=by
 refine MY _ st K ?_;obtain⟨k,rfl⟩:∃k,y=k+1:=⟨y-1,by omega⟩;unfold yrS at hk;rw[Nat.add_sub_cancel]at hk;rw[show(((k+1:Nat):Int)-1)=(k:Int) by omega,Ah (k:Int) (by omega) (by omega),Int.tdiv_eq_ediv_of_nonneg (by omega),Int.tdiv_eq_ediv_of_nonneg (by omega),Int.tdiv_eq_ediv_of_nonneg (by omega)];rw[Ah (365*(k:Int)) (by omega) (by omega),Ah ((k:Int)/4) (by omega) (by omega),Ah ((k:Int)/100) (by omega) (by omega),Ah ((k:Int)/400) (by omega) (by omega),Ah (365*(k:Int)+(k:Int)/4) (by omega) (by omega),Ah (365*(k:Int)+(k:Int)/4-(k:Int)/100) (by omega) (by omega),Ah _ (by omega) (by omega)];have e:(((365*k+k/4-k/100+k/400:Nat):Nat):Int)=365*(k:Int)+(k:Int)/4-(k:Int)/100+(k:Int)/400:=by omega
 rw[e]at hk;exact hk
theorem Y1 (y:Nat):∀m,LJ y m<=31*m
 | 0=>Nat.le_refl _
 | 1=>Nat.zero_le _
 | m+2=>by
  have:=Y1 y (m+1);have:=Y2 y (m+1);simp only[LJ];omega
def TR (r:Nat) (st:St):Option B8->Prop
 | some s=>r<st.nb/\st.box r= .cells [.str s,.bool false]/\s.length<=1000000
 | none=>r<st.nb/\∃s,st.box r= .cells [.str s,.bool true]/\s.length<=1000000
theorem TR.get {r:Nat} {st:St} {S:Option B8} (h:TR r st S):r<st.nb/\∃s,st.box r= .cells [.str s,.bool S.isNone]/\s.length<=1000000/\(∀x,S=some x->s=x):=by
 cases S with
 | none=>obtain⟨h1,s,h2,h3⟩:=h;exact⟨h1,s,h2,h3,λx hx=>by cases hx⟩
 | some s=>obtain⟨h1,h2,h3⟩:=h;exact⟨h1,s,h2,h3,λx hx=>by cases hx;rfl⟩
def TM (r f:Nat) (st:St) (S:Option B8) (l:List TV):Prop:=TR r st S/\f<st.nb/\st.box f= .cells l/\r≠f
theorem Mi {r:Nat} {st:St} {s:B8} {b:Bool} (h:st.box r= .cells [.str s,.bool b]) (hr:r<st.nb) (hl:s.length<=1000000) {K:St->Prop} (hk:∀st',StX (·=r) st st'->TR r st' none->K st'):
  stB st (.box r 1) [.bool true] K:=
 ⟨_,h,by simp,hk _ (StX.put (S:=(·=r)) rfl _) ⟨hr,s,by simp[St.put,setAll],hl⟩⟩
theorem N3 {r:Nat} {st:St} {s t:B8} {S:Option B8} (h:TR r st S) (ht:t.length<=1000000) {K:St->Prop} (hk:∀st',StX (·=r) st st'->TR r st' (S.map λ_=>t)->K st'):
  stB st (.box r 0) [.str t] K:=by
 obtain⟨hr,s,hb,hl,_⟩:=h.get;refine⟨_,hb,by simp,hk _ (StX.put (S:=(·=r)) rfl _) ?_⟩;cases S with
 | none=>exact⟨hr,t,by simp[St.put,setAll],ht⟩
 | some x=>exact⟨hr,by simp[St.put,setAll],ht⟩
def Nk (w:Nat) (s:B8):Prop:=w<=s.length/\∀i,i<w->Cz (s.getD i 0)
instance (w:Nat) (s:B8):Decidable (Nk w s):=inferInstanceAs (Decidable (_/\_))
def LO (w:Nat) (S:Option B8) (n:Nat) (T:Option B8):Prop:=match S with
 | none=>T=none
 | some s=>if Nk w s then T=some (s.drop w)/\n=D4 (s.take w)else T=none
theorem Se {l:B8} {w:Nat} (hw:w<=l.length) (h:∀i,i<w->Cz (l.getD i 0)):D4 (l.take w)<10^w:=by
 have h1:=K6 (l.take w) λc hc=>by
  obtain⟨i,hi⟩:=List.getElem?_of_mem hc;have hl:=(List.getElem?_eq_some_iff.1 hi).1;rw[List.length_take]at hl;rw[List.getElem?_take,if_pos (by omega)]at hi;have:=h i (by omega);rwa [List.getD,hi]at this
 rwa [List.length_take,Nat.min_eq_left hw]at h1
theorem HS {r:Nat} {w:Nat} (hw:w<=9) {st:St} {S:Option B8} (h:TR r st S) {K:Int->St->Prop} (hk:∀(n:Nat) st' T,n<10^w->StX (·=r) st st'->TR r st' T->LO w S n T->K (n:Nat) st'):
  CallT PR AB [.box r 0,.int .i64 (w:Nat)] [.one (.int .i64)] st K:=by
 obtain⟨hr,s,hb,hl,hx⟩:=h.get;have hs:Af st [] (.t (.box r 0)) 0=some (.str s):=by simp[Af,hb]
 have p10:0<10^w:=Nat.pow_pos (by decide);have p18:10^w<=10^9:=Nat.pow_le_pow_right (by decide) hw;have bad:¬Nk w s->∀st',StX (·=r) st st'->TR r st' none->K ((0:Nat):Int) st':=λhn st' e h'=>hk 0 st' none p10 e h' (by
  cases S with
  | none=>rfl
  | some x=>rw[<-hx x rfl];show(if Nk w s then _ else _);rw[if_neg hn])
 refine IO r _ st K (Ac hs (AO (Ab (λg=>Mi hb hr hl (bad λh=>by have:=h.1;omega)) λg=>?_)));refine⟨λn i p w' m st'=> .box r 0=p/\((w:Nat):Int)=w'/\((w:Nat):Int)=m/\st=st'/\∃k:Nat,i=k/\k<=w/\n=(D4 (s.take k):Nat)/\∀j,j<k->Cz (s.getD j 0),λ_ i _ _ _ _=>(w-i).toNat,⟨rfl,rfl,rfl,rfl,0,rfl,Nat.zero_le _,rfl,λj h=>absurd h (Nat.not_lt_zero _)⟩,?_⟩;rintro _ _ _ _ _ _ ⟨rfl,rfl,rfl,rfl,k,rfl,hkw,rfl,hd⟩;rw[Int.toNat_natCast];have hv:=Se (l:=s) (w:=k) (by omega) hd;have p1:10^k<=10^9:=Nat.pow_le_pow_right (by decide) (by omega);refine Ab (λg1=>Aa rfl (Aa rfl (Ac hs (AO ⟨⟨by omega,by omega⟩,Ab (λg2=>?_) λg2=>Aa rfl (Aa rfl (Ac hs (AO ⟨⟨by omega,by omega⟩,Ab (λg3=>?_) λg3=>?_⟩)))⟩)))) λg1=>?_
 ·exact Aa rfl (Aa rfl (Mi hb hr hl (bad λh=>by have:=(h.2 k (by omega)).1;omega)))
 ·exact Aa rfl (Aa rfl (Mi hb hr hl (bad λh=>by have:=(h.2 k (by omega)).2;omega)))
 ·refine Aa rfl (Aa rfl (Ac hs (AO ⟨⟨by omega,by omega⟩,?_⟩)))
  have hsn:=N1 (l:=s) (k:=k) (by omega);rw[PH _ (by omega) (by omega),Ah (10*_) (by omega) (by omega),Ah (((s.getD k 0).toNat:Int)-48) (by omega) (by omega),Ah (_+_) (by omega) (by omega),Ah _ (by omega) (by omega)];refine⟨⟨rfl,rfl,rfl,rfl,k+1,by omega,by omega,by rw[hsn];omega,λj hj=>?_⟩,by dsimp only;omega⟩;by_cases hjk:j=k
  ·subst hjk;exact⟨by omega,by omega⟩
  ·exact hd j (by omega)
 ·have hkk:k=w:=by omega
  subst hkk;refine Aa rfl (Aa rfl (Ac hs (AO ⟨⟨by omega,by omega⟩,Aa rfl (Aa rfl (N3 (s:=s) h (by rw[List.length_drop];omega) λst' e h'=>hk _ st' _ hv e h' ?_))⟩)));cases S with
  | none=>rfl
  | some x=>
   obtain rfl:=hx x rfl;show(if Nk k s then _ else _);rw[if_pos ⟨by omega,hd⟩];exact⟨rfl,rfl⟩
def Pt (of:B8) (S:Option B8) (c:Nat) (T:Option B8):Prop:=match S with
 | none=>T=none
 | some s=>if s.getD 0 0∈of then T=some (s.drop 1)/\c=(s.getD 0 0).toNat else T=none
theorem HR {r:Nat} {of:B8} (hof:(0:UInt8)∉of) (hlo:of.length<=100) {st:St} {S:Option B8} (h:TR r st S) {K:Int->St->Prop} (hk:∀(n:Nat) st' T,n<256->StX (·=r) st st'->TR r st' T->Pt of S n T->K (n:Nat) st'):
  CallT PR AT [.box r 0,.str of] [.one (.int .u8)] st K:=by
 obtain⟨hr,s,hb,hl,hx⟩:=h.get;have hs:Af st [] (.t (.box r 0)) 0=some (.str s):=by simp[Af,hb]
 have bad:s.getD 0 0∉of->∀st',StX (·=r) st st'->TR r st' none->K ((0:Nat):Int) st':=λhn st' e h'=>hk 0 st' none (by decide) e h' (by
  cases S with
  | none=>rfl
  | some x=>rw[<-hx x rfl];show(if s.getD 0 0∈of then _ else _);rw[if_neg hn])
 refine Km r of st K (Ac hs (AO (Ab (λg=>?_) λg=>?_)))
 ·have hpos:0<s.length:=List.length_pos_iff.2 g
  refine⟨λi p of' m st'=> .box r 0=p/\of=of'/\(of.length:Int)=m/\st=st'/\∃k:Nat,i=k/\k<=of.length/\∀j,j<k->of.getD j 0≠s.getD 0 0,λi _ _ _ _=>(of.length-i).toNat,⟨rfl,rfl,rfl,rfl,0,rfl,Nat.zero_le _,λj h=>absurd h (Nat.not_lt_zero _)⟩,?_⟩;rintro _ _ _ _ _ ⟨rfl,rfl,rfl,rfl,k,rfl,hkw,hd⟩;rw[Int.toNat_natCast];refine Ab (λg1=>Aa rfl (Aa rfl (Ac hs (AO ⟨⟨by omega,by omega⟩,⟨by omega,g1⟩,Ab (λg2=>?_) λg2=>?_⟩)))) λg1=>?_
  ·have g2':s.getD 0 0=of.getD k 0:=UInt8.toNat_inj.1 (Int.ofNat.inj g2)
   have hmem:s.getD 0 0∈of:=by rw[g2'];exact Nx (by omega)
   refine Aa rfl (Aa rfl (Ac hs (AO ⟨⟨by omega,by omega⟩,Aa rfl (Aa rfl (N3 (s:=s) h (by rw[List.length_drop];omega) λst' e h'=>⟨⟨by omega,g1⟩,hk _ st' _ (UInt8.toNat_lt _) e h' ?_⟩))⟩)));cases S with
   | none=>rfl
   | some x=>
    obtain rfl:=hx x rfl;show(if s.getD 0 0∈of then _ else _);rw[if_pos hmem];exact⟨rfl,by rw[g2']⟩
  ·rw[Ah _ (by omega) (by omega)]
   refine⟨⟨rfl,rfl,rfl,rfl,k+1,by omega,by omega,λj hj=>?_⟩,by dsimp only;omega⟩;by_cases hjk:j=k
   ·subst hjk;exactλe=>g2 (by rw[e];rfl)
   ·exact hd j (by omega)
  ·refine Aa rfl (Aa rfl (Mi hb hr hl (bad λhm=>?_)))
   obtain⟨i,hi,he⟩:=List.getElem_of_mem hm;exact hd i (by omega) (by rw[<-he];simp[List.getD,hi])
 ·have g0:s=[]:=Decidable.not_not.1 g
  exact Mi hb hr hl (bad (by rw[g0];exact hof))
def FracS (S:Option B8) (n:Nat) (T:Option B8):Prop:=match S with
 | none=>T=none
 | some s=>if Br s=[]∨9<(Br s).length then T=none else T=some (s.drop (Br s).length)/\n=V3 (Br s)
theorem UP (l:B8):∀k,D4 (l++List.replicate k 48)=D4 l*10^k
 | 0=>by simp
 | k+1=>by
  rw[List.replicate_succ',<-List.append_assoc];have:=UP l k;unfold D4 at this⊢;rw[UR,this,Nat.pow_succ];show 10*(HL 0 l*10^k)+(48-48)=_;have e:10*(HL 0 l*10^k)=HL 0 l*(10^k*10):=by rw[Nat.mul_left_comm,Nat.mul_comm 10]
  rw[e];rfl
theorem Qw {n k:Nat} (hk:k<=9) (hn:n<10^k) {st:St} {K:Int->St->Prop} (h:K (n*10^(9-k):Nat) st):
  ∃(I:Int->Int->St->Prop) (M:Int->Int->St->Nat),I (n:Nat) (k:Nat) st/\∀(n2 k2:Int) (st5:St),I n2 k2 st5->BIf (decide (k2<9)) (I (i64.wrap (n2*10)) (i64.wrap (k2+1)) st5/\M (i64.wrap (n2*10)) (i64.wrap (k2+1)) st5<M n2 k2 st5) (K n2 st5):=by
 refine⟨λn2 k2 st5=>st=st5/\∃j:Nat,k2=j/\j<=9/\∃m:Nat,n2=m/\m<10^j/\m*10^(9-j)=n*10^(9-k),λ_ k2 _=>(9-k2).toNat,⟨rfl,k,rfl,hk,n,rfl,hn,rfl⟩,?_⟩;rintro _ _ _ ⟨rfl,j,rfl,hj,m,rfl,hm,he⟩;have p9:10^j<=10^9:=Nat.pow_le_pow_right (by decide) hj;refine Ab (λg=>?_) λg=>?_
 ·rw[Ah _ (by omega) (by omega),Ah _ (by omega) (by omega)]
  refine⟨⟨rfl,j+1,by omega,by omega,m*10,by omega,by rw[Nat.pow_succ];omega,?_⟩,by dsimp only;omega⟩;rw[<-he,Nat.mul_assoc,show 9-j=(9-(j+1))+1 by omega,Nat.pow_succ,Nat.mul_comm 10]
 ·have:j=9:=by omega
  subst this;rw[Nat.sub_self,Nat.pow_zero,Nat.mul_one]at he;rw[<-he]at h;exact h
theorem tfrac_ok {r:Nat} {st:St} {S:Option B8} (h:TR r st S) {K:Int->St->Prop} (hk:∀(n:Nat) st' T,n<1000000000->StX (·=r) st st'->TR r st' T->FracS S n T->K (n:Nat) st'):
  CallT PR CY [.box r 0] [.one (.int .i64)] st K:=by
 obtain⟨hr,s,hb,hl,hx⟩:=h.get;have hs:Af st [] (.t (.box r 0)) 0=some (.str s):=by simp[Af,hb]
 have bad:(Br s=[]∨9<(Br s).length)->∀st',StX (·=r) st st'->TR r st' none->K ((0:Nat):Int) st':=λhn st' e h'=>hk 0 st' none (by decide) e h' (by
  cases S with
  | none=>rfl
  | some x=>rw[<-hx x rfl];show(if Br s=[]∨9<(Br s).length then _ else _);rw[if_pos hn])
 refine HK r st K ⟨λn i p st'=> .box r 0=p/\st=st'/\∃k:Nat,i=k/\k<=s.length/\n=(D4 (s.take (min k 9)):Nat)/\∀j,j<k->Cz (s.getD j 0),λ_ i _ _=>(s.length-i).toNat,⟨rfl,rfl,0,rfl,Nat.zero_le _,rfl,λj h=>absurd h (Nat.not_lt_zero _)⟩,?_⟩;rintro _ _ _ _ ⟨rfl,rfl,k,rfl,hkl,rfl,hd⟩;rw[Int.toNat_natCast];have p18:10^(min k 9)<=10^9:=Nat.pow_le_pow_right (by decide) (by omega);have hv:=Se (l:=s) (w:=min k 9) (by omega) λi hi=>hd i (by omega);have run:(k=s.length∨¬Cz (s.getD k 0))->(Br s).length=k:=λhs=>Q1 s k hkl hd hs;have bad0:(k=s.length∨¬Cz (s.getD k 0))->((k:Nat):Int)<1->stB st (.box r 1) [.bool true] λst'=>K ((0:Nat):Int) st':=λhs g=>Mi hb hr hl (bad (.inl (List.length_eq_zero_iff.1 (by rw[run hs];omega))));have bad9:(k=s.length∨¬Cz (s.getD k 0))->(9:Int)<((k:Nat):Int)->stB st (.box r 1) [.bool true] λst'=>K ((0:Nat):Int) st':=λhs g=>Mi hb hr hl (bad (.inr (by rw[run hs];omega)));have good:(k=s.length∨¬Cz (s.getD k 0))->¬((k:Nat):Int)<1->¬(9:Int)<((k:Nat):Int)->∀st',StX (·=r) st st'->TR r st' (S.map λ_=>s.drop k)->K ((D4 (s.take (min k 9))*10^(9-k):Nat):Int) st':=λhs g1 g2 st' e h'=>by
  have hrun:=run hs;have htk:=MD s;rw[hrun]at htk;have hm:min k 9=k:=by omega
  rw[hm]at hv⊢;have hp:10^9=10^k*10^(9-k):=by rw[<-Nat.pow_add];congr 1;omega
  have hlt:D4 (s.take k)*10^(9-k)<1000000000:=by
   have:=Nat.mul_lt_mul_of_pos_right hv (Nat.pow_pos (n:=9-k) (show 0<10 by decide));rw[<-hp]at this;exact this
  refine hk _ st' _ hlt e h' ?_;cases S with
  | none=>rfl
  | some x=>
   obtain rfl:=hx x rfl;show(if Br s=[]∨9<(Br s).length then _ else _);rw[if_neg (by rintro(h0 | h0);rw[h0]at hrun;simp at hrun;omega;omega),hrun]
   refine⟨rfl,?_⟩;unfold V3;rw[hrun,UP,htk]
 refine Aa rfl (Aa rfl (Ac hs (AO (Ab (λg=>Aa rfl (Aa rfl (Ac hs (AO ⟨⟨by omega,g⟩,Ab (λg1=>Aa rfl (Aa rfl (Ac hs (AO ⟨⟨by omega,g⟩,Ab (λg2=>?_) λg2=>?_⟩)))) λg1=>?_⟩)))) λg=>?_))))
 ·have hdk:∀j,j<k+1->Cz (s.getD j 0):=λj hj=>by
   by_cases hjk:j=k
   ·subst hjk;exact⟨by omega,by omega⟩
   ·exact hd j (by omega)
  refine Ab (λg3=>Aa rfl (Aa rfl (Ac hs (AO ⟨⟨by omega,g⟩,?_⟩)))) λg3=>?_
  ·have hsn:=N1 (l:=s) (k:=k) (by omega)
   have hm:min k 9=k:=by omega
   have hm1:min (k+1) 9=k+1:=by omega
   rw[hm]at hv⊢;rw[hm]at p18;rw[PH _ (by omega) (by omega),Ah (10*_) (by omega) (by omega),Ah (((s.getD k 0).toNat:Int)-48) (by omega) (by omega),Ah (_+_) (by omega) (by omega),Ah _ (by omega) (by omega)];exact⟨⟨rfl,rfl,k+1,by omega,by omega,by rw[hm1,hsn];omega,hdk⟩,by dsimp only;omega⟩
  ·rw[Ah _ (by omega) (by omega)]
   exact⟨⟨rfl,rfl,k+1,by omega,by omega,by rw[show min (k+1) 9=min k 9 by omega],hdk⟩,by dsimp only;omega⟩
 ·have hs':k=s.length∨¬Cz (s.getD k 0):= .inr λh=>g2 (by have:=h.2;omega)
  exact Ab (λg3=>Aa rfl (Aa rfl (bad0 hs' g3))) λg3=>Ab (λg4=>Aa rfl (Aa rfl (bad9 hs' g4))) λg4=>Aa rfl (Aa rfl (Ac hs (AO ⟨⟨by omega,by omega⟩,Aa rfl (Aa rfl (N3 (s:=s) h (by rw[List.length_drop];omega) λst' e h'=>Qw (by omega) (by rw[show min k 9=k by omega]at*;exact hv) (good hs' g3 g4 st' e h')))⟩)))
 ·have hs':k=s.length∨¬Cz (s.getD k 0):= .inr λh=>g1 (by have:=h.1;omega)
  exact Ab (λg3=>Aa rfl (Aa rfl (bad0 hs' g3))) λg3=>Ab (λg4=>Aa rfl (Aa rfl (bad9 hs' g4))) λg4=>Aa rfl (Aa rfl (Ac hs (AO ⟨⟨by omega,by omega⟩,Aa rfl (Aa rfl (N3 (s:=s) h (by rw[List.length_drop];omega) λst' e h'=>Qw (by omega) (by rw[show min k 9=k by omega]at*;exact hv) (good hs' g3 g4 st' e h')))⟩)))
 ·have hs':k=s.length∨¬Cz (s.getD k 0):= .inl (by omega)
  exact Ab (λg3=>Aa rfl (Aa rfl (bad0 hs' g3))) λg3=>Ab (λg4=>Aa rfl (Aa rfl (bad9 hs' g4))) λg4=>Aa rfl (Aa rfl (Ac hs (AO ⟨⟨by omega,by omega⟩,Aa rfl (Aa rfl (N3 (s:=s) h (by rw[List.length_drop];omega) λst' e h'=>Qw (by omega) (by rw[show min k 9=k by omega]at*;exact hv) (good hs' g3 g4 st' e h')))⟩)))
abbrev rfS (r f:Nat):Nat->Prop:=λb=>b=r∨b=f
theorem TM.step {r f:Nat} {st st':St} {S T:Option B8} {l:List TV} (h:TM r f st S l) (e:StX (·=r) st st') (h':TR r st' T):TM r f st' T l:=
 ⟨h',Nat.lt_of_lt_of_le h.2.1 e.nb,(e.box f h.2.1 λg=>h.2.2.2 g.symm).trans h.2.2.1,h.2.2.2⟩
theorem TM.put {r f i:Nat} {st:St} {S:Option B8} {l:List TV} {v:TV} (h:TM r f st S l) (hi:i<l.length) {K:St->Prop} (hk:∀st',StX (rfS r f) st st'->TM r f st' S (l.set i v)->K st'):stB st (.box f i) [v] K:=by
 obtain⟨h1,h2,h3,h4⟩:=h;refine⟨_,h3,by simp;omega,hk _ (StX.put (S:=rfS r f) (.inr rfl) _) ⟨?_,h2,by simp[St.put,setAll],h4⟩⟩;have hne:((st.put f (.cells (setAll l i [v]))).box r)=st.box r:=by simp only[St.put];rw[if_neg h4]
 cases S with
 | none=>obtain⟨a1,s,a2,a3⟩:=h1;exact⟨a1,s,hne.trans a2,a3⟩
 | some s=>obtain⟨a1,a2,a3⟩:=h1;exact⟨a1,hne.trans a2,a3⟩
theorem J9 {r f:Nat} {a b:St} (e:StX (·=r) a b):StX (rfS r f) a b:=e.mono λ_ h=> .inl h
def fcT (y mo d h mi sc nn sg oh om:Nat):List TV:=[.int .i64 (y:Nat),.int .i64 (mo:Nat),.int .i64 (d:Nat),.int .i64 (h:Nat),.int .i64 (mi:Nat),.int .i64 (sc:Nat),.int .i64 (nn:Nat),.int .u8 (sg:Nat),.int .i64 (oh:Nat),.int .i64 (om:Nat)]
theorem LO.pos {w n:Nat} {s:B8} {T:Option B8} (h:LO w (some s) n T) (f:Nk w s):T=some (s.drop w)/\n=D4 (s.take w):=by
 change (if Nk w s then _ else _)at h;rwa [if_pos f]at h
theorem LO.neg {w n:Nat} {s:B8} {T:Option B8} (h:LO w (some s) n T) (f:¬Nk w s):T=none:=by
 change (if Nk w s then _ else _)at h;rwa [if_neg f]at h
theorem Pt.pos {of:B8} {n:Nat} {s:B8} {T:Option B8} (h:Pt of (some s) n T) (f:s.getD 0 0∈of):T=some (s.drop 1)/\n=(s.getD 0 0).toNat:=by
 change (if s.getD 0 0∈of then _ else _)at h;rwa [if_pos f]at h
theorem Pt.neg {of:B8} {n:Nat} {s:B8} {T:Option B8} (h:Pt of (some s) n T) (f:s.getD 0 0∉of):T=none:=by
 change (if s.getD 0 0∈of then _ else _)at h;rwa [if_neg f]at h
theorem JM (s:B8) (k i:Nat):b0 (s.drop k) i=b0 s (k+i):=by simp[b0,List.getD]
theorem dd_drop (s:B8) (k i:Nat):dd (s.drop k) i↔dd s (k+i):=by
 unfold dd;rw[JM,JM,Nat.add_assoc]
theorem d2_drop (s:B8) (k i:Nat):d2 (s.drop k) i=d2 s (k+i):=by
 unfold d2 dv;rw[JM,JM,Nat.add_assoc]
theorem b0_lt {s:B8} {k:Nat} (h:Cz (b0 s k)):k<s.length:=by
 by_cases hk:k<s.length
 ·exact hk
 ·rw[show b0 s k=0 by simp[b0,List.getD,Nat.le_of_not_lt hk]]at h
  exact absurd h (by decide)
theorem numF2 (s:B8):Nk 2 s↔dd s 0:=by
 constructor
 ·intro h;exact⟨h.2 0 (by omega),h.2 1 (by omega)⟩
 ·intro h
  have:=b0_lt h.2;exact⟨by omega,λi hi=>by
   rcases (by omega:i=0∨i=1)with rfl | rfl
   ·exact h.1
   ·exact h.2⟩
theorem YW (s:B8):Nk 4 s↔dd s 0/\dd s 2:=by
 constructor
 ·intro h;exact⟨⟨h.2 0 (by omega),h.2 1 (by omega)⟩,⟨h.2 2 (by omega),h.2 3 (by omega)⟩⟩
 ·intro h
  have:=b0_lt h.2.2;exact⟨by omega,λi hi=>by
   rcases (by omega:i=0∨i=1∨i=2∨i=3)with rfl | rfl | rfl | rfl
   ·exact h.1.1
   ·exact h.1.2
   ·exact h.2.1
   ·exact h.2.2⟩
theorem val2 {s:B8} (h:Nk 2 s):D4 (s.take 2)=d2 s 0:=by
 rcases s with _ | ⟨a,_ | ⟨b,r⟩⟩
 ·exact absurd h.1 (by simp)
 ·exact absurd h.1 (by simp)
 ·show 10*(10*0+(a.toNat-48))+(b.toNat-48)=(a.toNat-48)*10+(b.toNat-48)
  omega
theorem val4 {s:B8} (h:Nk 4 s):D4 (s.take 4)=d2 s 0*100+d2 s 2:=by
 rcases s with _ | ⟨a,_ | ⟨b,_ | ⟨c,_ | ⟨d,r⟩⟩⟩⟩
 ·exact absurd h.1 (by simp)
 ·exact absurd h.1 (by simp)
 ·exact absurd h.1 (by simp)
 ·exact absurd h.1 (by simp)
 ·show 10*(10*(10*(10*0+(a.toNat-48))+(b.toNat-48))+(c.toNat-48))+(d.toNat-48)=((a.toNat-48)*10+(b.toNat-48))*100+((c.toNat-48)*10+(d.toNat-48))
  omega
theorem one1 {s:B8} {c:UInt8}:s.getD 0 0∈ [c]↔b0 s 0=c:=by rw[List.mem_singleton];rfl
theorem HT {s:B8} {k m n:Nat} {T:Option B8} (hm:k+2=m) (h:LO 2 (some (s.drop k)) n T):(dd s k->T=some (s.drop m)/\n=d2 s k)/\(¬dd s k->T=none):=by
 have e:Nk 2 (s.drop k)↔dd s k:=by rw[numF2,dd_drop];rfl
 constructor
 ·intro f
  have f':=e.2 f;obtain⟨h1,h2⟩:=h.pos f';exact⟨by rw[h1,List.drop_drop,hm],by rw[h2,val2 f',d2_drop];rfl⟩
 ·intro f;exact h.neg λg=>f (e.1 g)
theorem LR {s:B8} {k m n:Nat} {c:UInt8} {T:Option B8} (hm:k+1=m) (h:Pt [c] (some (s.drop k)) n T):(b0 s k=c->T=some (s.drop m))/\(b0 s k≠c->T=none):=by
 have e:(s.drop k).getD 0 0∈ [c]↔b0 s k=c:=by rw[one1,JM];rfl
 exact⟨λf=>by rw[(h.pos (e.2 f)).1,List.drop_drop,hm],λf=>h.neg λg=>f (e.1 g)⟩
theorem step4 {s:B8} {n:Nat} {T:Option B8} (h:LO 4 (some s) n T):(dd s 0/\dd s 2->T=some (s.drop 4)/\n=d2 s 0*100+d2 s 2)/\(¬(dd s 0/\dd s 2)->T=none):=
 ⟨λf=>⟨(h.pos ((YW s).2 f)).1,by rw[(h.pos ((YW s).2 f)).2,val4 ((YW s).2 f)]⟩,λf=>h.neg λg=>f ((YW s).1 g)⟩
theorem AaH {s:B8} {y c m c' d:Nat} {T1 T2 T3 T4 T5:Option B8} (s1:LO 4 (some s) y T1) (s2:Pt [45] T1 c T2) (s3:LO 2 T2 m T3) (s4:Pt [45] T3 c' T4) (s5:LO 2 T4 d T5):
  (FL s->T5=some (s.drop 10)/\y=d2 s 0*100+d2 s 2/\m=d2 s 5/\d=d2 s 8)/\(¬FL s->T5=none):=by
 by_cases f1:dd s 0/\dd s 2
 ·obtain⟨rfl,v1⟩:=(step4 s1).1 f1
  by_cases f2:b0 s 4=45
  ·obtain rfl:=(LR (m:=5) rfl s2).1 f2
   by_cases f3:dd s 5
   ·obtain⟨rfl,v3⟩:=(HT (m:=7) rfl s3).1 f3
    by_cases f4:b0 s 7=45
    ·obtain rfl:=(LR (m:=8) rfl s4).1 f4
     by_cases f5:dd s 8
     ·obtain⟨rfl,v5⟩:=(HT (m:=10) rfl s5).1 f5
      exact⟨λ_=>⟨rfl,v1,v3,v5⟩,λh=>absurd ⟨f1.1,f1.2,f2,f3,f4,f5⟩ h⟩
     ·exact⟨λh=>absurd h.2.2.2.2.2 f5,λ_=>(HT (m:=10) rfl s5).2 f5⟩
    ·obtain rfl:=(LR (m:=8) rfl s4).2 f4
     exact⟨λh=>absurd h.2.2.2.2.1 f4,λ_=>s5⟩
   ·obtain rfl:=(HT (m:=7) rfl s3).2 f3
    obtain rfl:T4=none:=s4;exact⟨λh=>absurd h.2.2.2.1 f3,λ_=>s5⟩
  ·obtain rfl:=(LR (m:=5) rfl s2).2 f2
   obtain rfl:T3=none:=s3;obtain rfl:T4=none:=s4;exact⟨λh=>absurd h.2.2.1 f2,λ_=>s5⟩
 ·obtain rfl:=(step4 s1).2 f1
  obtain rfl:T2=none:=s2;obtain rfl:T3=none:=s3;obtain rfl:T4=none:=s4;exact⟨λh=>absurd ⟨h.1,h.2.1⟩ f1,λ_=>s5⟩
def DateS (S:Option B8) (y m d:Nat) (T:Option B8):Prop:=match S with
 | none=>T=none
 | some s=>(FL s->T=some (s.drop 10)/\y=d2 s 0*100+d2 s 2/\m=d2 s 5/\d=d2 s 8)/\(¬FL s->T=none)
theorem UT {r f:Nat} {st:St} {S:Option B8} {h mi sc nn sg oh om:Nat} (hm:TM r f st S (fcT 0 0 0 h mi sc nn sg oh om)) {K:St->Prop}
  (hk:∀y mo d st' T,y<10000->mo<100->d<100->StX (rfS r f) st st'->TM r f st' T (fcT y mo d h mi sc nn sg oh om)->DateS S y mo d T->K st'):CallT PR CU [.box r 0,.box f 0] [] st K:=by
 refine J5 r f st K (HS (w:=4) (by decide) hm.1 λy st1 T1 b1 e1 h1 s1=>(hm.step e1 h1).put (by simp[fcT]) λst2 e2 m2=>?_);refine HR (of:=[45]) (by decide) (by decide) m2.1 λc st3 T3 b3 e3 h3 s3=>HS (w:=2) (by decide) h3 λmo st4 T4 b4 e4 h4 s4=>((m2.step e3 h3).step e4 h4).put (by simp[fcT]) λst5 e5 m5=>?_;refine HR (of:=[45]) (by decide) (by decide) m5.1 λc' st6 T6 b6 e6 h6 s6=>HS (w:=2) (by decide) h6 λd st7 T7 b7 e7 h7 s7=>((m5.step e6 h6).step e7 h7).put (by simp[fcT]) λst8 e8 m8=>?_;refine hk y mo d st8 T7 b1 b4 b7 ((((((((J9 e1).trans e2).trans (J9 e3)).trans (J9 e4)).trans e5).trans (J9 e6)).trans (J9 e7)).trans e8) m8 ?_;cases S with
 | some s=>exact AaH s1 s3 s4 s6 s7
 | none=>
  have:=(show T1=none from s1);subst this;have:=(show T3=none from s3);subst this;have:=(show T4=none from s4);subst this;have:=(show T6=none from s6);subst this;exact s7
theorem Yc {s:B8} {h c m c' d:Nat} {T1 T2 T3 T4 T5:Option B8} (s1:LO 2 (some s) h T1) (s2:Pt [58] T1 c T2) (s3:LO 2 T2 m T3) (s4:Pt [58] T3 c' T4) (s5:LO 2 T4 d T5):
  (OT s->T5=some (s.drop 8)/\h=d2 s 0/\m=d2 s 3/\d=d2 s 6)/\(¬OT s->T5=none):=by
 have s1':LO 2 (some (s.drop 0)) h T1:=by rw[List.drop_zero];exact s1
 by_cases f1:dd s 0
 ·obtain⟨rfl,v1⟩:=(HT (m:=2) rfl s1').1 f1
  by_cases f2:b0 s 2=58
  ·obtain rfl:=(LR (m:=3) rfl s2).1 f2
   by_cases f3:dd s 3
   ·obtain⟨rfl,v3⟩:=(HT (m:=5) rfl s3).1 f3
    by_cases f4:b0 s 5=58
    ·obtain rfl:=(LR (m:=6) rfl s4).1 f4
     by_cases f5:dd s 6
     ·obtain⟨rfl,v5⟩:=(HT (m:=8) rfl s5).1 f5
      exact⟨λ_=>⟨rfl,v1,v3,v5⟩,λh=>absurd ⟨f1,f2,f3,f4,f5⟩ h⟩
     ·exact⟨λh=>absurd h.2.2.2.2 f5,λ_=>(HT (m:=8) rfl s5).2 f5⟩
    ·obtain rfl:=(LR (m:=6) rfl s4).2 f4
     exact⟨λh=>absurd h.2.2.2.1 f4,λ_=>s5⟩
   ·obtain rfl:=(HT (m:=5) rfl s3).2 f3
    obtain rfl:T4=none:=s4;exact⟨λh=>absurd h.2.2.1 f3,λ_=>s5⟩
  ·obtain rfl:=(LR (m:=3) rfl s2).2 f2
   obtain rfl:T3=none:=s3;obtain rfl:T4=none:=s4;exact⟨λh=>absurd h.2.1 f2,λ_=>s5⟩
 ·obtain rfl:=(HT (m:=2) rfl s1').2 f1
  obtain rfl:T2=none:=s2;obtain rfl:T3=none:=s3;obtain rfl:T4=none:=s4;exact⟨λh=>absurd h.1 f1,λ_=>s5⟩
def WN (S:Option B8) (h mi sc nn:Nat) (T:Option B8):Prop:=match S with
 | none=>T=none
 | some s=>match LL s with
  | none=>T=none
  | some (h',mi',sc',f',r')=>T=some r'/\h=h'/\mi=mi'/\sc=sc'/\nn=f'
theorem TR.src {r:Nat} {st:St} {S:Option B8} (h:TR r st S):∃s,Af st [] (.t (.box r 0)) 0=some (.str s)/\s.length<=1000000/\∀x,S=some x->s=x:=by
 obtain⟨_,s,hb,hl,hx⟩:=h.get;exact⟨s,by simp[Af,hb],hl,hx⟩
theorem N6 {r f:Nat} {st:St} {S:Option B8} {y mo d sg oh om:Nat} (hm:TM r f st S (fcT y mo d 0 0 0 0 sg oh om)) {K:St->Prop}
  (hk:∀h mi sc nn st' T,h<100->mi<100->sc<100->nn<1000000000->StX (rfS r f) st st'->TM r f st' T (fcT y mo d h mi sc nn sg oh om)->WN S h mi sc nn T->K st'):CallT PR Cb [.box r 0,.box f 0] [] st K:=by
 refine Jh r f st K (HS (w:=2) (by decide) hm.1 λy st1 T1 b1 e1 h1 s1=>(hm.step e1 h1).put (by simp[fcT]) λst2 e2 m2=>?_);refine HR (of:=[58]) (by decide) (by decide) m2.1 λc st3 T3 b3 e3 h3 s3=>HS (w:=2) (by decide) h3 λmo st4 T4 b4 e4 h4 s4=>((m2.step e3 h3).step e4 h4).put (by simp[fcT]) λst5 e5 m5=>?_;refine HR (of:=[58]) (by decide) (by decide) m5.1 λc' st6 T6 b6 e6 h6 s6=>HS (w:=2) (by decide) h6 λd st7 T7 b7 e7 h7 s7=>((m5.step e6 h6).step e7 h7).put (by simp[fcT]) λst8 e8 m8=>?_;have E:=(((((((J9 e1).trans e2).trans (J9 e3)).trans (J9 e4)).trans e5).trans (J9 e6)).trans (J9 e7)).trans e8;have comb:∀s,S=some s->(OT s->T7=some (s.drop 8)/\y=d2 s 0/\mo=d2 s 3/\d=d2 s 6)/\(¬OT s->T7=none):=λs hs=>by
  subst hs;exact Yc s1 s3 s4 s6 s7
 have nn:S=none->T7=none:=λhs=>by
  subst hs;obtain rfl:T1=none:=s1;obtain rfl:T3=none:=s3;obtain rfl:T4=none:=s4;obtain rfl:T6=none:=s6;exact s7
 clear s1 s3 s4 s6 s7 m2 m5;obtain⟨t,ht,hl,hx⟩:=m8.1.src;have plain:(∀x,T7=some x->b0 x 0≠46)->K st8:=λhp=>hk y mo d 0 st8 T7 b1 b4 b7 (by decide) E m8 (by
  cases S with
  | none=>exact nn rfl
  | some s=>
   unfold WN;dsimp only;obtain⟨c1,c2⟩:=comb s rfl;unfold LL;by_cases fc:OT s
   ·obtain⟨rfl,v1,v2,v3⟩:=c1 fc
    rw[if_pos fc,if_neg (by have:=hp _ rfl;rw[JM]at this;exact this)];exact⟨rfl,v1,v2,v3,rfl⟩
   ·rw[if_neg fc];exact c2 fc)
 refine Ac ht (AO (Ab (λg=>Ac ht (AO ⟨⟨by omega,by have:=List.length_pos_iff.2 g;omega⟩,Ab (λg1=>?_) λg1=>?_⟩)) λg=>?_))
 ·have hpos:=List.length_pos_iff.2 g
  refine Ac ht (AO ⟨⟨by omega,by omega⟩,N3 (s:=t) m8.1 (by rw[List.length_drop];omega) λst9 e9 h9=>?_⟩);refine tfrac_ok h9 λn st10 T10 b10 e10 h10 s10=>((m8.step e9 h9).step e10 h10).put (by simp[fcT]) λst11 e11 m11=>?_;refine hk y mo d n st11 T10 b1 b4 b7 b10 (((E.trans (J9 e9)).trans (J9 e10)).trans e11) m11 ?_;have g46:b0 t 0=46:=(u8i (k:=46)).1 g1;cases S with
  | none=>
   obtain rfl:=nn rfl;exact s10
  | some s=>
   unfold WN;dsimp only;obtain⟨c1,c2⟩:=comb s rfl;unfold LL;by_cases fc:OT s
   ·obtain⟨rfl,v1,v2,v3⟩:=c1 fc
    obtain rfl:=hx _ rfl;rw[JM]at g46;rw[if_pos fc,if_pos g46];have hd9:(s.drop 8).drop (Int.toNat 1)=s.drop 9:=by rw[List.drop_drop];rfl
    have s11:FracS (some (s.drop 9)) n T10:=by rw[<-hd9];exact s10
    change (if _ then _ else _)at s11;by_cases hf:Br (s.drop 9)=[]∨9<(Br (s.drop 9)).length
    ·rw[if_pos hf]at s11
     rw[if_pos hf];exact s11
    ·rw[if_neg hf]at s11
     rw[if_neg hf];refine⟨?_,v1,v2,v3,s11.2⟩;rw[s11.1,List.drop_drop]
   ·obtain rfl:=c2 fc
    rw[if_neg fc];exact s10
 ·exact plain λx hx'=>by
   obtain rfl:=hx x hx';exactλh=>g1 ((u8i (k:=46)).2 h)
 ·have g0:t=[]:=Decidable.not_not.1 g
  exact plain λx hx'=>by
   obtain rfl:=hx x hx';rw[g0];decide
def Yu (S:Option B8) (sg oh om:Nat) (T:Option B8):Prop:=match S with
 | none=>T=none
 | some s=>(T=some []->∃ls,TF s=some (ls,oh,om)/\(ls=true↔sg=45))/\(T≠some []->TF s=none)
theorem Xr {s:B8} {sg oh om:Nat} {c:Nat} {T1 T2 T3 T:Option B8} (hsg:sg=(b0 s 0).toNat) (h0:b0 s 0=43∨b0 s 0=45) (hT:T1=some (s.drop 1)) (s1:LO 2 T1 oh T2) (s2:Pt [58] T2 c T3) (s3:LO 2 T3 om T):Yu (some s) sg oh om T:=by
 subst hT;have nz:¬(s=[90]∨s=[122]):=by
  rintro(h | h)<;>rw[h]at h0<;>revert h0<;>decide
 have no:T=none->(dd s 1->b0 s 3=58->dd s 4->False)->Yu (some s) sg oh om T:=λht hf=>by
  subst ht;refine⟨λh=>(by cases h),λ_=>?_⟩;unfold TF;rw[if_neg nz,if_neg λh=>hf h.2.2.1 h.2.2.2.1 h.2.2.2.2]
 by_cases f1:dd s 1
 ·obtain⟨rfl,rfl⟩:=(HT (m:=3) rfl s1).1 f1
  by_cases f2:b0 s 3=58
  ·obtain rfl:=(LR (m:=4) rfl s2).1 f2
   by_cases f3:dd s 4
   ·obtain⟨rfl,rfl⟩:=(HT (m:=6) rfl s3).1 f3
    have hl:=b0_lt f3.2;refine⟨λh=>⟨decide (b0 s 0=45),?_,?_⟩,λh=>?_⟩
    ·have h6:s.drop 6=[]:=Option.some.inj h
     have:=congrArg List.length h6;rw[List.length_drop]at this;simp at this;unfold TF;rw[if_neg nz,if_pos ⟨by omega,h0,f1,f2,f3⟩]
    ·rw[decide_eq_true_eq,hsg]
     exact⟨λh=>by rw[h];rfl,λh=>UInt8.toNat_inj.1 h⟩
    ·unfold TF
     rw[if_neg nz,if_neg];intro h';exact h (by rw[List.drop_of_length_le (by omega)])
   ·exact no ((HT (m:=6) rfl s3).2 f3) λ_ _ h=>f3 h
  ·obtain rfl:=(LR (m:=4) rfl s2).2 f2
   exact no s3 λ_ h _=>f2 h
 ·obtain rfl:=(HT (m:=3) rfl s1).2 f1
  obtain rfl:T3=none:=s2;exact no s3 λh _ _=>f1 h
theorem Yu.none {S T1 T:Option B8} {sg oh om:Nat} (h:Pt [90,122,43,45] S sg T1) (h1:T1=none) (ht:T=none):Yu S sg oh om T:=by
 subst h1 ht;cases S with
 | none=>rfl
 | some s=>
  refine⟨λh=>(by cases h),λ_=>?_⟩;have hn:s.getD 0 0∉ [90,122,43,45]:=λhm=>by have:=(h.pos hm).1;cases this
  unfold TF;rw[if_neg,if_neg]
  ·rintro⟨_,h | h,_⟩
   ·exact hn (by rw[show s.getD 0 0=43 from h];decide)
   ·exact hn (by rw[show s.getD 0 0=45 from h];decide)
  ·rintro(h | h)<;>rw[h]at hn<;>revert hn<;>decide
theorem Qb {r f:Nat} {st:St} {S:Option B8} {y mo d h mi sc nn:Nat} (hm:TM r f st S (fcT y mo d h mi sc nn 0 0 0)) {K:St->Prop}
  (hk:∀sg oh om st' T,sg<256->oh<100->om<100->StX (rfS r f) st st'->TM r f st' T (fcT y mo d h mi sc nn sg oh om)->Yu S sg oh om T->K st'):CallT PR Cw [.box r 0,.box f 0] [] st K:=by
 refine IN r f st K (HR (of:=[90,122,43,45]) (by decide) (by decide) hm.1 λsg st1 T1 b1 e1 h1 s1=>(hm.step e1 h1).put (by simp[fcT]) λst2 e2 m2=>?_);have hld:Af st2 [] (.t (.box f 7)) 0=some (.int .u8 (sg:Nat)):=by simp[Af,m2.2.2.1,fcT]
 have E2:=(J9 e1).trans e2;refine Ac hld (Am (Ab (λg=>?_) λg=>Ac hld (Am (Ab (λg2=>?_) λg2=>?_))))
 iterate 2
  ·refine HS (w:=2) (by decide) m2.1 λoh st3 T3 b3 e3 h3 s3=>(m2.step e3 h3).put (by simp[fcT]) λst4 e4 m4=>?_
   refine HR (of:=[58]) (by decide) (by decide) m4.1 λc st5 T5 b5 e5 h5 s5=>HS (w:=2) (by decide) h5 λom st6 T6 b6 e6 h6 s6=>((m4.step e5 h5).step e6 h6).put (by simp[fcT]) λst7 e7 m7=>?_;refine hk sg oh om st7 T6 b1 b3 b6 (((((E2.trans (J9 e3)).trans e4).trans (J9 e5)).trans (J9 e6)).trans e7) m7 ?_;cases T1 with
   | none=>
    obtain rfl:T3=none:=s3;obtain rfl:T5=none:=s5;exact Yu.none s1 rfl s6
   | some x=>
    cases S with
    | none=>cases (show some x=none from s1)
    | some s=>
     by_cases hmem:s.getD 0 0∈ [90,122,43,45]
     ·obtain⟨hT,hs⟩:=s1.pos hmem
      refine Xr hs ?_ hT s3 s5 s6;have hc:((b0 s 0).toNat:Int)=sg:=by rw[hs];rfl
      first
       | exact .inl (UInt8.toNat_inj.1 (by rw[show((43:UInt8).toNat)=43 from rfl];omega))
       | exact .inr (UInt8.toNat_inj.1 (by rw[show((45:UInt8).toNat)=45 from rfl];omega))
     ·cases s1.neg hmem
 ·refine hk sg 0 0 st2 T1 b1 (by decide) (by decide) E2 m2 ?_
  cases T1 with
  | none=>exact Yu.none s1 rfl rfl
  | some x=>
   cases S with
   | none=>cases (show some x=none from s1)
   | some s=>
    by_cases hmem:s.getD 0 0∈ [90,122,43,45]
    ·obtain⟨hT,hs⟩:=s1.pos hmem
     rw[hT];have h43:b0 s 0≠43:=λh=>g (by rw[hs,show s.getD 0 0=43 from h];rfl);have h45:b0 s 0≠45:=λh=>g2 (by rw[hs,show s.getD 0 0=45 from h];rfl);refine⟨λh=>⟨false,?_,⟨λh=>(by cases h),λh=>absurd (by omega) g2⟩⟩,λh=>?_⟩
     ·have h1:s.drop 1=[]:=Option.some.inj h
      unfold TF;rw[if_pos];rcases s with _ | ⟨a,_ | ⟨b,s⟩⟩
      ·exact absurd hmem (by decide)
      ·have ha:a∈ [90,122,43,45]:=hmem
       simp only[List.mem_cons,List.not_mem_nil,or_false]at ha;rcases ha with rfl | rfl | rfl | rfl
       ·exact .inl rfl
       ·exact .inr rfl
       ·exact absurd rfl h43
       ·exact absurd rfl h45
      ·cases h1
     ·unfold TF
      rw[if_neg,if_neg]
      ·rintro⟨_,h | h,_⟩
       ·exact h43 h
       ·exact h45 h
      ·rintro(h' | h')<;>exact h (by rw[h'];rfl)
    ·cases s1.neg hmem
theorem cday_ok {y m d:Nat} (hy:y<=100000) (hm:m<=1000) (hd:d<=1000) {st:St} {K:Int->Int->St->Prop} (hk:K (if okD y m d then(KY y m d:Nat)else 0) (if okD y m d then 0 else 2) st):
  CallT PR GH [.int .i64 (y:Nat),.int .i64 (m:Nat),.int .i64 (d:Nat)] [.one (.int .i64),.one (.int .i64)] st K:=by
 refine Pk _ _ _ st K (Ab (λg=>?_) λg=>O1 (by omega) (Ab (λg2=>?_) λg2=>?_))
 ·have hn:¬okD y m d:=λh=>by have:=h.2.2.2.2.1;omega
  rw[if_neg hn,if_neg hn]at hk;exact hk
 ·have hn:¬okD y m d:=λh=>by
   obtain⟨a1,a2,a3,a4,a5,a6⟩:=h;rw[TK a1 a2 a3 a4]at g2;omega
  rw[if_neg hn,if_neg hn]at hk;exact hk
 ·have hr:1<=y/\y<=9999/\1<=m/\m<=12:=by
   by_cases h:1<=y/\y<=9999/\1<=m/\m<=12
   ·exact h
   ·rw[show monX y m=0 from if_neg h]at g2
    omega
  obtain⟨a1,a2,a3,a4⟩:=hr;rw[TK a1 a2 a3 a4]at g2;have ok:okD y m d:=⟨a1,a2,a3,a4,by omega,by omega⟩;rw[if_pos ok,if_pos ok]at hk;have hyr:yrS y<=4000000:=by unfold yrS;omega
  refine WD a1 (by omega) ⟨λn i y' m' st'=>((y:Nat):Int)=y'/\((m:Nat):Int)=m'/\st=st'/\∃j:Nat,i=j/\1<=j/\j<=m/\n=((yrS y+LJ y j+(d-1):Nat):Int),λ_ i _ _ _=>(m-i).toNat,⟨rfl,rfl,rfl,1,rfl,by omega,by omega,?_⟩,?_⟩
  ·rw[Ah (((yrS y:Nat):Int)+((d:Nat):Int)) (by omega) (by omega),Ah _ (by omega) (by omega),show LJ y 1=0 from rfl];omega
  ·rintro _ _ _ _ _ ⟨rfl,rfl,rfl,j,rfl,hj1,hj2,rfl⟩
   have hms:=Y1 y j;refine Ab (λg3=>O1 (by omega) ?_) λg3=>?_
   ·have hmd:=Y2 y j
    rw[TK a1 a2 hj1 (by omega),Ah _ (by omega) (by omega),Ah _ (by omega) (by omega)];exact⟨⟨rfl,rfl,rfl,j+1,by omega,by omega,by omega,by rw[Sy y hj1];omega⟩,by dsimp only;omega⟩
   ·have:j=m:=by omega
    subst this;exact hk
def QX (n1 y mo d h mi sc nn sg oh om:Nat):TmR:=
 if (n1≠2->okD y mo d)/\okC h mi sc/\oh<=23/\om<=59 then((n1:Nat),(if n1=2 then 0 else(KY y mo d:Nat)),(FK h mi sc nn:Nat),(if sg=45 then-((oh*60+om:Nat):Int)else((oh*60+om:Nat):Int)),0)else IR
def FinS (s:B8) (n1:Nat) (T:Option B8) (y mo d h mi sc nn sg oh om:Nat):Prop:=(T=some []->tmP s=QX n1 y mo d h mi sc nn sg oh om)/\(T≠some []->tmP s=IS)
theorem CS {s:B8} {n1 y mo d h mi sc nn sg oh om:Nat} (e:tmP s=IS):FinS s n1 none y mo d h mi sc nn sg oh om:=⟨λh=>(by cases h),λ_=>e⟩
theorem QW {s:B8} (n1:Nat) {y mo d h mi sc nn sg oh om:Nat} {r:B8} (hn:n1<=4) (e:tmP s=QX n1 y mo d h mi sc nn sg oh om) (hr:r=[]):FinS s n1 (some r) y mo d h mi sc nn sg oh om:=⟨λ_=>e,λh=>absurd (by rw[hr]) h⟩
theorem okC0:okC 0 0 0:=by decide
theorem fin1 (y mo d:Nat):(if okD y mo d then((1:Int),((KY y mo d:Nat):Int),(0:Int),(0:Int),(0:Int))else IR)=QX 1 y mo d 0 0 0 0 0 0 0:=by
 unfold QX;by_cases h:okD y mo d
 ·rw[if_pos h,if_pos ⟨λ_=>h,okC0,by decide,by decide⟩];rfl
 ·rw[if_neg h,if_neg λg=>h (g.1 (by decide))]
theorem XU (h mi sc nn:Nat):(if okC h mi sc then((2:Int),(0:Int),((FK h mi sc nn:Nat):Int),(0:Int),(0:Int))else IR)=QX 2 0 0 0 h mi sc nn 0 0 0:=by
 unfold QX;by_cases g:okC h mi sc
 ·rw[if_pos g,if_pos ⟨λh=>absurd rfl h,g,by decide,by decide⟩];rfl
 ·rw[if_neg g,if_neg λk=>g k.2.1]
theorem fin3 (y mo d h mi sc nn:Nat):(if okD y mo d/\okC h mi sc then((3:Int),((KY y mo d:Nat):Int),((FK h mi sc nn:Nat):Int),(0:Int),(0:Int))else IR)=QX 3 y mo d h mi sc nn 0 0 0:=by
 unfold QX;by_cases g:okD y mo d/\okC h mi sc
 ·rw[if_pos g,if_pos ⟨λ_=>g.1,g.2,by decide,by decide⟩];rfl
 ·rw[if_neg g,if_neg λk=>g ⟨k.1 (by decide),k.2.1⟩]
theorem fin4 (y mo d h mi sc nn sg oh om:Nat) (ls:Bool) (hl:ls=true↔sg=45):(if okD y mo d/\okC h mi sc/\oh<=23/\om<=59 then((4:Int),((KY y mo d:Nat):Int),((FK h mi sc nn:Nat):Int),(if ls=true then-((oh*60+om:Nat):Int)else((oh*60+om:Nat):Int)),(0:Int))else IR)=QX 4 y mo d h mi sc nn sg oh om:=by
 unfold QX;by_cases g:okD y mo d/\okC h mi sc/\oh<=23/\om<=59
 ·have hp:(4≠2->okD y mo d)/\okC h mi sc/\oh<=23/\om<=59:=⟨λ_=>g.1,g.2⟩
  rw[if_pos g,if_pos hp];by_cases k:sg=45
  ·rw[if_pos k,if_pos (hl.2 k)];rfl
  ·rw[if_neg k,if_neg λh=>k (hl.1 h)];rfl
 ·rw[if_neg g,if_neg λk=>g ⟨k.1 (by decide),k.2⟩]
theorem N4 {s:B8} (hc:b0 s 2≠58) (h:¬FL s):tmP s=IS:=by
 unfold tmP;rw[if_neg h];have:LL s=none:=by unfold LL;rw[if_neg λg=>hc g.2.1]
 rw[this]
theorem fo_iff {s:B8}:s.getD 0 0∈ [84,116,32]↔(b0 s 0=84∨b0 s 0=116∨b0 s 0=32):=by
 simp only[List.mem_cons,List.not_mem_nil,or_false];rfl
theorem Ti {s:B8} (fd:FL s) (hne:s.drop 10≠ []) (fo:(s.drop 10).getD 0 0∈ [84,116,32]):tmP s=match LL (s.drop (10+1))with
  | none=>IS
  | some (h,m,sc,f,r')=>tmO (d2 s 0*100+d2 s 2) (d2 s 5) (d2 s 8) h m sc f r':=by
 unfold tmP tmD;rw[if_pos fd,if_neg hne,if_pos (fo_iff.1 fo),List.drop_drop]<;>rfl
theorem Th {s:B8} (fd:FL s) (hne:s.drop 10≠ []) (fo:(s.drop 10).getD 0 0∉ [84,116,32]):tmP s=IS:=by
 unfold tmP tmD;rw[if_pos fd,if_neg hne,if_neg λh=>fo (fo_iff.2 h)]
theorem at_pos' {s:B8} {k:Nat} {c:UInt8} (hc:c≠0) (h:b0 s k=c):k<s.length:=by
 by_cases hk:k<s.length
 ·exact hk
 ·rw[show b0 s k=0 by simp[b0,List.getD,Nat.le_of_not_lt hk]]at h
  exact absurd h.symm hc
theorem tform_ok {r f:Nat} {st:St} {s:B8} (hm:TM r f st (some s) (fcT 0 0 0 0 0 0 0 0 0 0)) {K:Int->St->Prop}
  (hk:∀(n1 y mo d h mi sc nn sg oh om:Nat) st' T,n1<=4->y<10000->mo<100->d<100->h<100->mi<100->sc<100->nn<1000000000->sg<256->oh<100->om<100->StX (rfS r f) st st'->TM r f st' T (fcT y mo d h mi sc nn sg oh om)->FinS s n1 T y mo d h mi sc nn sg oh om->K (n1:Nat) st'):
  CallT PR DT [.box r 0,.box f 0] [.one (.int .i64)] st K:=by
 obtain⟨x,hx,hl,hsx⟩:=hm.1.src;have hxs:x=s:=hsx s rfl;rw[hxs]at hx hl;clear hsx hxs;refine J4 r f st K (Ac hx (AO (Ab (λg=>Ac hx (AO ⟨⟨by omega,g⟩,Ab (λg1=>?_) λg1=>?_⟩)) λg=>?_)))
 ·have h58:b0 s 2=58:=(u8i (k:=58)).1 g1
  have nfd:¬FL s:=λh=>absurd h.2.1.1 (by rw[h58];decide);refine N6 hm λh mi sc nn st1 T c1 c2 c3 c4 e1 m1 s1=>hk 2 0 0 0 h mi sc nn 0 0 0 st1 T (by omega) (by decide) (by decide) (by decide) c1 c2 c3 c4 (by decide) (by decide) (by decide) e1 m1 ?_;unfold WN at s1;dsimp only at s1;have e:tmP s=match LL s with
   | none=>IS
   | some (h,m,sc,f,r)=>if r=[]then(if okC h m sc then(2,0,(FK h m sc f:Nat),0,0)else IR)else IS:=by unfold tmP;rw[if_neg nfd]<;>rfl
  cases hc:LL s with
  | none=>rw[hc]at s1 e;exact s1▸CS e
  | some p=>
   obtain⟨h',mi',sc',f',r'⟩:=p;rw[hc]at s1 e;dsimp only at s1 e;obtain⟨rfl,rfl,rfl,rfl,rfl⟩:=s1;by_cases hr:r'=[]
   ·rw[if_pos hr]at e
    exact QW _ (by decide) (by rw[e];exact XU _ _ _ _) hr
   ·rw[if_neg hr]at e
    exact⟨λh=>absurd (Option.some.inj h) hr,λ_=>e⟩
 ·have hnc:b0 s 2≠58:=λh=>g1 ((u8i (k:=58)).2 h)
  refine UT hm λy mo d st2 T2 b1 b2 b3 e2 m2 s2=>?_;obtain⟨x3,hx3,_,hs3⟩:=m2.1.src;refine Ac hx3 (AO (Ab (λg=>?_) λg=>HR (of:=[84,116,32]) (by decide) (by decide) m2.1 λc st3 T3 bc e3 h3 s3=>N6 (m2.step e3 h3) λh mi sc nn st4 T4 c1 c2 c3 c4 e4 m4 s4=>?_))
  ·refine hk 1 y mo d 0 0 0 0 0 0 0 st2 T2 (by omega) b1 b2 b3 (by decide) (by decide) (by decide) (by decide) (by decide) (by decide) (by decide) e2 m2 ?_
   by_cases fd:FL s
   ·obtain⟨rfl,rfl,rfl,rfl⟩:=s2.1 fd
    have h10:s.drop 10=[]:=by rw[<-hs3 _ rfl];exact g
    have e:tmP s=if okD (d2 s 0*100+d2 s 2) (d2 s 5) (d2 s 8)then((1:Int),((KY (d2 s 0*100+d2 s 2) (d2 s 5) (d2 s 8):Nat):Int),(0:Int),(0:Int),(0:Int))else IR:=by unfold tmP tmD;rw[if_pos fd,if_pos h10]
    exact QW _ (by decide) (by rw[e];exact fin1 _ _ _) h10
   ·obtain rfl:=s2.2 fd
    exact CS (by rw[N4 hnc fd])
  ·obtain⟨x4,hx4,_,hs4⟩:=m4.1.src
   have nofd:¬FL s->T4=none:=λfd=>by
    obtain rfl:=s2.2 fd;obtain rfl:T3=none:=s3;exact s4
   have E4:=(e2.trans (J9 e3)).trans e4;refine Ac hx4 (AO (Ab (λg4=>?_) λg4=>Qb m4 λsg oh om st5 T5 d1 d2 d3 e5 m5 s5=>?_))
   ·refine hk 3 y mo d h mi sc nn 0 0 0 st4 T4 (by omega) b1 b2 b3 c1 c2 c3 c4 (by decide) (by decide) (by decide) E4 m4 ?_
    by_cases fd:FL s
    ·obtain⟨rfl,rfl,rfl,rfl⟩:=s2.1 fd
     have hne:s.drop 10≠ []:=λe=>g (by rw[hs3 _ rfl];exact e);by_cases fo:(s.drop 10).getD 0 0∈ [84,116,32]
     ·obtain⟨rfl,_⟩:=s3.pos fo
      have e:=Ti fd hne fo;unfold WN at s4;dsimp only at s4;rw[List.drop_drop]at s4;cases hc:LL (s.drop (10+1))with
      | none=>rw[hc]at s4 e;exact s4▸CS e
      | some p=>
       obtain⟨h',mi',sc',f',r'⟩:=p;rw[hc]at s4 e;dsimp only at s4 e;obtain⟨rfl,rfl,rfl,rfl,rfl⟩:=s4;have hr:r'=[]:=by rw[<-hs4 _ rfl];exact g4
       unfold tmO at e;rw[if_pos hr]at e;exact QW _ (by decide) (by rw[e];exact fin3 _ _ _ _ _ _ _) hr
     ·obtain rfl:=s3.neg fo
      obtain rfl:T4=none:=s4;exact CS (Th fd hne fo)
    ·obtain rfl:=nofd fd
     exact CS (by rw[N4 hnc fd])
   ·refine hk 4 y mo d h mi sc nn sg oh om st5 T5 (by omega) b1 b2 b3 c1 c2 c3 c4 d1 d2 d3 (E4.trans e5) m5 ?_
    by_cases fd:FL s
    ·obtain⟨rfl,rfl,rfl,rfl⟩:=s2.1 fd
     have hne:s.drop 10≠ []:=λe=>g (by rw[hs3 _ rfl];exact e);by_cases fo:(s.drop 10).getD 0 0∈ [84,116,32]
     ·obtain⟨rfl,_⟩:=s3.pos fo
      have e:=Ti fd hne fo;unfold WN at s4;dsimp only at s4;rw[List.drop_drop]at s4;cases hc:LL (s.drop (10+1))with
      | none=>
       rw[hc]at s4 e;dsimp only at s4;subst s4;obtain rfl:T5=none:=s5;exact CS e
      | some p=>
       obtain⟨h',mi',sc',f',r'⟩:=p;rw[hc]at s4 e;dsimp only at s4 e;obtain⟨rfl,rfl,rfl,rfl,rfl⟩:=s4;have hr:r'≠ []:=λe=>g4 (by rw[hs4 _ rfl];exact e);unfold tmO at e;rw[if_neg hr]at e;by_cases h5:T5=some []
       ·obtain⟨ls,ho,hl⟩:=s5.1 h5
        rw[ho]at e;exact⟨λ_=>by rw[e];exact fin4 _ _ _ _ _ _ _ _ _ _ _ hl,λh=>absurd h5 h⟩
       ·have ho:=s5.2 h5
        rw[ho]at e;exact⟨λh=>absurd h h5,λ_=>e⟩
     ·obtain rfl:=s3.neg fo
      obtain rfl:T4=none:=s4;obtain rfl:T5=none:=s5;exact CS (Th fd hne fo)
    ·obtain rfl:=nofd fd
     obtain rfl:T5=none:=s5;exact CS (by rw[N4 hnc fd])
 ·have hnc:b0 s 2≠58:=λh=>by have:=at_pos' (by decide) h;omega
  refine UT hm λy mo d st2 T2 b1 b2 b3 e2 m2 s2=>?_;obtain⟨x3,hx3,_,hs3⟩:=m2.1.src;refine Ac hx3 (AO (Ab (λg=>?_) λg=>HR (of:=[84,116,32]) (by decide) (by decide) m2.1 λc st3 T3 bc e3 h3 s3=>N6 (m2.step e3 h3) λh mi sc nn st4 T4 c1 c2 c3 c4 e4 m4 s4=>?_))
  ·refine hk 1 y mo d 0 0 0 0 0 0 0 st2 T2 (by omega) b1 b2 b3 (by decide) (by decide) (by decide) (by decide) (by decide) (by decide) (by decide) e2 m2 ?_
   by_cases fd:FL s
   ·obtain⟨rfl,rfl,rfl,rfl⟩:=s2.1 fd
    have h10:s.drop 10=[]:=by rw[<-hs3 _ rfl];exact g
    have e:tmP s=if okD (d2 s 0*100+d2 s 2) (d2 s 5) (d2 s 8)then((1:Int),((KY (d2 s 0*100+d2 s 2) (d2 s 5) (d2 s 8):Nat):Int),(0:Int),(0:Int),(0:Int))else IR:=by unfold tmP tmD;rw[if_pos fd,if_pos h10]
    exact QW _ (by decide) (by rw[e];exact fin1 _ _ _) h10
   ·obtain rfl:=s2.2 fd
    exact CS (by rw[N4 hnc fd])
  ·obtain⟨x4,hx4,_,hs4⟩:=m4.1.src
   have nofd:¬FL s->T4=none:=λfd=>by
    obtain rfl:=s2.2 fd;obtain rfl:T3=none:=s3;exact s4
   have E4:=(e2.trans (J9 e3)).trans e4;refine Ac hx4 (AO (Ab (λg4=>?_) λg4=>Qb m4 λsg oh om st5 T5 d1 d2 d3 e5 m5 s5=>?_))
   ·refine hk 3 y mo d h mi sc nn 0 0 0 st4 T4 (by omega) b1 b2 b3 c1 c2 c3 c4 (by decide) (by decide) (by decide) E4 m4 ?_
    by_cases fd:FL s
    ·obtain⟨rfl,rfl,rfl,rfl⟩:=s2.1 fd
     have hne:s.drop 10≠ []:=λe=>g (by rw[hs3 _ rfl];exact e);by_cases fo:(s.drop 10).getD 0 0∈ [84,116,32]
     ·obtain⟨rfl,_⟩:=s3.pos fo
      have e:=Ti fd hne fo;unfold WN at s4;dsimp only at s4;rw[List.drop_drop]at s4;cases hc:LL (s.drop (10+1))with
      | none=>rw[hc]at s4 e;exact s4▸CS e
      | some p=>
       obtain⟨h',mi',sc',f',r'⟩:=p;rw[hc]at s4 e;dsimp only at s4 e;obtain⟨rfl,rfl,rfl,rfl,rfl⟩:=s4;have hr:r'=[]:=by rw[<-hs4 _ rfl];exact g4
       unfold tmO at e;rw[if_pos hr]at e;exact QW _ (by decide) (by rw[e];exact fin3 _ _ _ _ _ _ _) hr
     ·obtain rfl:=s3.neg fo
      obtain rfl:T4=none:=s4;exact CS (Th fd hne fo)
    ·obtain rfl:=nofd fd
     exact CS (by rw[N4 hnc fd])
   ·refine hk 4 y mo d h mi sc nn sg oh om st5 T5 (by omega) b1 b2 b3 c1 c2 c3 c4 d1 d2 d3 (E4.trans e5) m5 ?_
    by_cases fd:FL s
    ·obtain⟨rfl,rfl,rfl,rfl⟩:=s2.1 fd
     have hne:s.drop 10≠ []:=λe=>g (by rw[hs3 _ rfl];exact e);by_cases fo:(s.drop 10).getD 0 0∈ [84,116,32]
     ·obtain⟨rfl,_⟩:=s3.pos fo
      have e:=Ti fd hne fo;unfold WN at s4;dsimp only at s4;rw[List.drop_drop]at s4;cases hc:LL (s.drop (10+1))with
      | none=>
       rw[hc]at s4 e;dsimp only at s4;subst s4;obtain rfl:T5=none:=s5;exact CS e
      | some p=>
       obtain⟨h',mi',sc',f',r'⟩:=p;rw[hc]at s4 e;dsimp only at s4 e;obtain⟨rfl,rfl,rfl,rfl,rfl⟩:=s4;have hr:r'≠ []:=λe=>g4 (by rw[hs4 _ rfl];exact e);unfold tmO at e;rw[if_neg hr]at e;by_cases h5:T5=some []
       ·obtain⟨ls,ho,hl⟩:=s5.1 h5
        rw[ho]at e;exact⟨λ_=>by rw[e];exact fin4 _ _ _ _ _ _ _ _ _ _ _ hl,λh=>absurd h5 h⟩
       ·have ho:=s5.2 h5
        rw[ho]at e;exact⟨λh=>absurd h h5,λ_=>e⟩
     ·obtain rfl:=s3.neg fo
      obtain rfl:T4=none:=s4;obtain rfl:T5=none:=s5;exact CS (Th fd hne fo)
    ·obtain rfl:=nofd fd
     obtain rfl:T5=none:=s5;exact CS (by rw[N4 hnc fd])
end Go.TVF
