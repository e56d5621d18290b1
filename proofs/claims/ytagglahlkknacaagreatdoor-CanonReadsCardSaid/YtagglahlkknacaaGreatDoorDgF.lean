/- What the laws below rest on: a framework for Go programs, and contracts of the functions that they reach. -/
import Derived.Test.YtagglahlkknacaaGreatDoorDgE
set_option maxRecDepth 20000
set_option linter.unusedVariables false
set_option linter.unusedSimpArgs false
namespace Go.TVF
open Go.IntKind(i64 u8)
open Go Go.Proofs
theorem DI {g:Ai} {w:World} {l:B8} {v:Value} (h:Rel g w (.str l) v):v= .string ⟨l.toArray⟩:=by cases h;rfl
theorem SU {g:Ai} {w:World} {k:IntKind} {n:Int} {v:Value} (h:Rel g w (.int k n) v):v= .int k n:=by cases h;rfl
theorem Xu {g:Ai} {w:World} {x:TV} {vs:List Value} (h:AT g w [x] vs):∃v,vs=[v]/\Rel g w x v:=by
 obtain⟨v,h1,h2⟩:=h.get? (i:=0) rfl
 have:=h.1
 cases vs with
 | nil=>simp at this
 | cons a r=>cases r with
  | nil=>simp at h1;subst h1;exact⟨_,rfl,h2⟩
  | cons b r=>simp at this
theorem Ma {g:Ai} {w:World} {x y:TV} {vs:List Value} (h:AT g w [x,y] vs):∃v u,vs=[v,u]/\Rel g w x v/\Rel g w y u:=by
 obtain⟨v,h1,h2⟩:=h.get? (i:=0) rfl
 obtain⟨u,h3,h4⟩:=h.get? (i:=1) rfl
 have:=h.1
 cases vs with
 | nil=>simp at this
 | cons a r=>cases r with
  | nil=>simp at this
  | cons b r=>cases r with
   | nil=>simp at h1 h3;subst h1 h3;exact⟨_,_,rfl,h2,h4⟩
   | cons c r=>simp at this
theorem MJ:∀a b:B8,Lib.compareBytes a b<0↔Op.bytesLess a b=true
 | [],[]=>by simp[Lib.compareBytes,Op.bytesLess]
 | [],_::_=>by simp[Lib.compareBytes,Op.bytesLess]
 | _::_,[]=>by simp[Lib.compareBytes,Op.bytesLess]
 | a::x,b::y=>by
  unfold Lib.compareBytes Op.bytesLess
  by_cases h1:a<b
  ·simp[h1]
  ·by_cases h2:b<a
   ·have hne:a≠b:=fun e=>by subst e;exact UInt8.lt_irrefl _ h2
    simp[h1,h2,hne]
   ·have he:a=b:=UInt8.le_antisymm (UInt8.not_lt.1 h2) (UInt8.not_lt.1 h1)
    subst he
    simp[h1,MJ x y]
theorem UT {a b:B8} {st:St} {K:Int->St->Prop} (hk:K (Lib.compareBytes a b) st):CallT PR GF [.str a,.str b] [.one (.int .i64)] st K:=by
 refine EP (fun _ _=>by kernel_rfl) fun g w vargs s hr=>?_
 obtain⟨v,u,rfl,hv,hu⟩:=Ma hr
 rw[DI hv,DI hu]
 refine Calls.mono (Tryz.strings_Compare ⟨a.toArray⟩ ⟨b.toArray⟩ w) ?_
 rintro e w' ⟨rfl,rfl⟩
 exact⟨_,rfl,.int .i64 _,st,g,hk,s,Rel.int _ _,Ext.refl _ _⟩
theorem SJ:NX (.func DB []):=by
 intro c d st K hc hd hk
 obtain⟨kx,n1,b1,b2,s2,n2,n3,n4,n5,n6,s3,u1,u2,u3,rfl,_⟩:=hc
 obtain⟨ky,m1,c1,c2,t2,m2,m3,m4,m5,m6,t3,v1,v2,v3,rfl,_⟩:=hd
 exact Ly _ _ _ _ _ _ _ _ _ _ _ _ _ _ _ _ _ _ _ _ _ _ _ _ _ _ _ _ st K (UT (hk _ st (Ah.refl _) (MJ _ _)))
section
inductive Bc {α β:Type} (R:α->β->Prop):List α->List β->Prop
 | nil:Bc R [] []
 | cons {a:α} {b:β} {l:List α} {m:List β}:R a b->Bc R l m->Bc R (a::l) (b::m)
theorem Bc.len {α β:Type} {R:α->β->Prop} {l:List α} {m:List β} (h:Bc R l m):l.length=m.length:=by
 induction h with
 | nil=>rfl
 | cons _ _ ih=>simp[ih]
theorem Bc.perm {α β:Type} {R:α->β->Prop} {m m':List β} (p:m'.Perm m):∀{l:List α},Bc R l m->∃l',l'.Perm l/\Bc R l' m':=by
 induction p with
 | nil=>intro l h;cases h;exact⟨[],.nil,.nil⟩
 | cons x p ih=>
  intro l h
  cases h with
  | cons r h=>obtain⟨l',p',h'⟩:=ih h;exact⟨_::l',p'.cons _,.cons r h'⟩
 | swap x y l0=>
  intro l h
  cases h with
  | cons r1 h=>cases h with
   | cons r2 h=>exact⟨_,List.Perm.swap _ _ _,.cons r2 (.cons r1 h)⟩
 | trans p1 p2 ih1 ih2=>
  intro l h
  obtain⟨l1,q1,h1⟩:=ih2 h
  obtain⟨l2,q2,h2⟩:=ih1 h1
  exact⟨l2,q2.trans q1,h2⟩
theorem FsR.chunks {st:St}:∀{f:List Fd} {xs:List TV},FsR st f xs->∃cks:List (List TV),xs=cks.flatten/\Bc (FdR st) f cks
 | [],xs,h=>by unfold FsR at h;subst h;exact⟨[],rfl,.nil⟩
 | d::r,xs,h=>by
  unfold FsR at h
  obtain⟨a,b,rfl,h1,h2⟩:=h
  obtain⟨cks,rfl,h3⟩:=FsR.chunks h2
  exact⟨a::cks,by simp,.cons h1 h3⟩
theorem FsR.of_chunks {st:St} {f:List Fd} {cks:List (List TV)} (h:Bc (FdR st) f cks):FsR st f cks.flatten:=by
 induction h with
 | nil=>unfold FsR;rfl
 | cons r _ ih=>unfold FsR;exact⟨_,_,by simp,r,ih⟩
theorem SlR.one {st:St} {sz n:Nat} {u:TV} {xs:List TV} (h:SlR st sz u n xs):Ar u=true:=by
 rcases h with(⟨rfl,_⟩ | ⟨tip,rfl⟩) | ⟨b,off,cap,l,rfl,_⟩<;>rfl
theorem FdR.ck {st:St} {d:Fd} {cs:List TV} (h:FdR st d cs):Ck cs/\FC cs=d.key:=by
 cases d with
 | mk k v=>
  unfold FdR at h
  obtain⟨c,rfl,h⟩:=h
  cases v with
  | mk s l f=>
   unfold VlR at h
   obtain⟨ub,ul,uf,xl,xf,rfl,h1,h2,_,h3,_⟩:=h
   exact⟨⟨k,_,_,_,_,_,_,_,_,_,_,ub,ul,uf,rfl,h1.one,h2.one,h3.one⟩,rfl⟩
theorem Bc.cks {st:St} {f:List Fd} {cks:List (List TV)} (h:Bc (FdR st) f cks):∀c,c∈cks->Ck c:=by
 induction h with
 | nil=>intro c hc;cases hc
 | cons r _ ih=>
  intro c hc
  rcases List.mem_cons.1 hc with rfl | hc
  ·exact r.ck.1
  ·exact ih c hc
theorem SlR.src {st:St} {sz n:Nat} {u:TV} {xs:List TV} (h:SlR st sz u n xs) (hl:xs.length=n*sz):Bb st sz u=some (n,xs):=by
 rcases h with(⟨rfl,rfl,rfl⟩ | ⟨tip,rfl⟩) | ⟨b,off,cap,l,rfl,h2,h3,h4,h5,rfl⟩
 ·rfl
 ·simp[Bb]
 ·have hlt:n*sz<=cap*sz:=Nat.mul_le_mul_right _ h5
  have e:=IL (B:=l.drop (off+n*sz)) (st:=st) (b:=b) ((l.drop off).take (n*sz)) l 0 off h3 (by
   rw[Nat.add_zero,<-List.drop_drop,List.take_append_drop])
  rw[show((l.drop off).take (n*sz)).length=n*sz by simp;omega]at e
  simp only[Bb,Nat.beq_refl]
  rw[e]
theorem FsR.all_one {st:St} {f:List Fd} {xs:List TV} (h:FsR st f xs):List.all xs Ar=true:=by
 obtain⟨cks,rfl,h2⟩:=h.chunks
 rw[List.all_flatten,List.all_eq_true]
 exact fun c hc=>(h2.cks c hc).one
theorem Ah.keeps {a b:St} (h:Ah a b):BI a b:=⟨h.nb,h.box⟩
section
variable {st:St}
theorem Rf {data cmp:TV} {K:St->Prop} (hk:K st):CallT PR AZ [data,.int .i64 0,cmp] [] st K:=by
 refine Ch _ _ cmp st K ⟨fun a b' d n' c bs st'=>a=0/\b'=20/\n'=0/\bs=20/\st=st',fun _ _ _ _ _ _ _=>0,⟨rfl,rfl,rfl,rfl,rfl⟩,?_⟩
 rintro _ _ _ _ _ _ _ ⟨rfl,rfl,rfl,rfl,rfl⟩
 refine Aa (fun g=>absurd g (by omega)) fun _=>?_
 refine BF _ _ _ _ st _ ⟨fun i _ _ b' _ st'=>i=1/\b'=0/\st=st',fun _ _ _ _ _ _=>0,⟨by rw[Ad _ (by omega) (by omega)];rfl,rfl,rfl⟩,?_⟩
 rintro _ _ _ _ _ _ ⟨rfl,rfl,rfl⟩
 refine Aa (fun g=>absurd g (by omega)) fun _=>?_
 refine⟨fun bs _ n' _ st'=>bs=20/\n'=0/\st=st',fun _ _ _ _ _=>0,⟨rfl,rfl,rfl⟩,?_⟩
 rintro _ _ _ _ _ ⟨rfl,rfl,rfl⟩
 exact Aa (fun g=>absurd g (by omega)) fun _=>hk
def Qc (f:List Fd):Prop:=f.Pairwise fun x y=>Op.bytesLess y.key x.key=false
theorem srtF_of {st:St} {f:List Fd} {cks:List (List TV)} (h:Bc (FdR st) f cks) (hs:Srt lek cks):Qc f:=by
 induction h with
 | nil=>exact List.Pairwise.nil
 | cons r t ih=>
  rename_i d c f' cks'
  obtain⟨h1,h2⟩:=List.pairwise_cons.1 hs
  refine List.pairwise_cons.2 ⟨fun x hx=>?_,ih h2⟩
  have:∀{l:List Fd} {m:List (List TV)},Bc (FdR st) l m->x∈l->∃y,y∈m/\FdR st x y:=by
   intro l m h
   induction h with
   | nil=>intro hx;cases hx
   | cons r _ ih=>
    intro hx
    rcases List.mem_cons.1 hx with rfl | hx
    ·exact⟨_,.head _,r⟩
    ·obtain⟨y,h1,h2⟩:=ih hx;exact⟨y,.tail _ h1,h2⟩
  obtain⟨y,hy,hxy⟩:=this t hx
  have:=h1 y hy
  unfold lek at this
  rw[hxy.ck.2,r.ck.2]at this
  exact this
end
end
section
def BC (st:St) (sz:Nat) (u:TV) (n:Nat) (xs:List TV) (bs:List Nat):Prop:=
 (n=0/\xs=[]/\bs=[]/\(u= .nilSlice∨u= .list sz .full 0 []))∨∃b cap tail,u= .ms sz b 0 n cap/\b<st.nb/\st.box b= .cells (xs++tail)/\(xs++tail).length=cap*sz/\xs.length=n*sz/\n<=cap/\bs=[b]
theorem BC.rd {st:St} {sz n:Nat} {u:TV} {xs:List TV} {bs:List Nat} (h:BC st sz u n xs bs):SlR st sz u n xs:=by
 rcases h with⟨rfl,rfl,rfl,rfl | rfl⟩ | ⟨b,cap,tail,rfl,h1,h2,h3,h4,h5,rfl⟩
 ·exact .inl (.inl ⟨rfl,rfl,rfl⟩)
 ·exact .inl (.inr ⟨_,rfl⟩)
 ·exact .inr ⟨b,0,cap,_,rfl,h1,h2,by omega,h5,by rw[List.drop_zero,<-h4,List.take_left]⟩
theorem BC.frame {S:Nat->Prop} {st st':St} (e:StX S st st') {sz n:Nat} {u:TV} {xs:List TV} {bs:List Nat} (hs:∀x,x∈bs->¬S x) (h:BC st sz u n xs bs):BC st' sz u n xs bs:=by
 rcases h with h | ⟨b,cap,tail,rfl,h1,h2,h3,h4,h5,rfl⟩
 ·exact .inl h
 ·exact .inr ⟨b,cap,tail,rfl,Nat.lt_of_lt_of_le h1 e.nb,(e.box b h1 (hs b (.head _))).trans h2,h3,h4,h5,rfl⟩
theorem BC.lt {st:St} {sz n:Nat} {u:TV} {xs:List TV} {bs:List Nat} (h:BC st sz u n xs bs):∀x,x∈bs->x<st.nb:=by
 rcases h with⟨_,_,rfl,_⟩ | ⟨b,cap,tail,rfl,h1,h2,h3,h4,h5,rfl⟩
 ·intro x hx;cases hx
 ·intro x hx;rcases List.mem_singleton.1 hx with rfl;exact h1
mutual
def VlO (st:St):Vl->List TV->List Nat->Prop
 | .mk s l f,cs,fp=>∃ub ul uf xl xf bb bl bf fl ff,cs=[.int .i64 s.kind,.bool s.b,.bool s.neg,.str s.dg,.int .i64 s.ex,.int .i64 s.tk,.int .i64 s.td,.int .i64 s.tn,.int .i64 s.tz,.str s.text,ub,ul,uf]/\
   BC st 1 ub s.bytes.length (At s.bytes) bb/\BC st 13 ul l.length xl bl/\VsO st l xl fl/\BC st 14 uf f.length xf bf/\FsO st f xf ff/\fp=bb++(bl++(fl++(bf++ff)))
def VsO (st:St):List Vl->List TV->List Nat->Prop
 | [],xs,fp=>xs=[]/\fp=[]
 | v::r,xs,fp=>∃a b p q,xs=a++b/\fp=p++q/\VlO st v a p/\VsO st r b q
def FdO (st:St):Fd->List TV->List Nat->Prop
 | .mk k v,xs,fp=>∃cs,xs= .str k::cs/\VlO st v cs fp
def FsO (st:St):List Fd->List TV->List Nat->Prop
 | [],xs,fp=>xs=[]/\fp=[]
 | d::r,xs,fp=>∃a b p q,xs=a++b/\fp=p++q/\FdO st d a p/\FsO st r b q
end
mutual
theorem VlO.rd {st:St}:∀{v:Vl} {cs:List TV} {fp:List Nat},VlO st v cs fp->VlR st v cs
 | .mk s l f,cs,fp,h=>by
  unfold VlO at h
  unfold VlR
  obtain⟨ub,ul,uf,xl,xf,bb,bl,bf,fl,ff,h0,h1,h2,h3,h4,h5,_⟩:=h
  exact⟨ub,ul,uf,xl,xf,h0,h1.rd,h2.rd,VsO.rd h3,h4.rd,FsO.rd h5⟩
theorem VsO.rd {st:St}:∀{l:List Vl} {cs:List TV} {fp:List Nat},VsO st l cs fp->VsR st l cs
 | [],cs,fp,h=>by unfold VsO at h;unfold VsR;exact h.1
 | v::r,cs,fp,h=>by
  unfold VsO at h
  unfold VsR
  obtain⟨a,b,p,q,h0,_,h1,h2⟩:=h
  exact⟨a,b,h0,VlO.rd h1,VsO.rd h2⟩
theorem FdO.rd {st:St}:∀{d:Fd} {cs:List TV} {fp:List Nat},FdO st d cs fp->FdR st d cs
 | .mk key v,cs,fp,h=>by
  unfold FdO at h
  unfold FdR
  obtain⟨c,h0,h1⟩:=h
  exact⟨c,h0,VlO.rd h1⟩
theorem FsO.rd {st:St}:∀{l:List Fd} {cs:List TV} {fp:List Nat},FsO st l cs fp->FsR st l cs
 | [],cs,fp,h=>by unfold FsO at h;unfold FsR;exact h.1
 | d::r,cs,fp,h=>by
  unfold FsO at h
  unfold FsR
  obtain⟨a,b,p,q,h0,_,h1,h2⟩:=h
  exact⟨a,b,h0,FdO.rd h1,FsO.rd h2⟩
end
mutual
theorem VlO.frame {S:Nat->Prop} {st st':St} (e:StX S st st'):∀{v:Vl} {cs:List TV} {fp:List Nat},(∀x,x∈fp->¬S x)->VlO st v cs fp->VlO st' v cs fp
 | .mk s l f,cs,fp,hs,h=>by
  unfold VlO at h⊢
  obtain⟨ub,ul,uf,xl,xf,bb,bl,bf,fl,ff,h0,h1,h2,h3,h4,h5,h6⟩:=h
  subst h6
  simp only[List.mem_append]at hs
  exact⟨ub,ul,uf,xl,xf,bb,bl,bf,fl,ff,h0,h1.frame e (fun x hx=>hs x (.inl hx)),h2.frame e (fun x hx=>hs x (.inr (.inl hx))),VsO.frame e (fun x hx=>hs x (.inr (.inr (.inl hx)))) h3,
   h4.frame e (fun x hx=>hs x (.inr (.inr (.inr (.inl hx))))),FsO.frame e (fun x hx=>hs x (.inr (.inr (.inr (.inr hx))))) h5,rfl⟩
theorem VsO.frame {S:Nat->Prop} {st st':St} (e:StX S st st'):∀{l:List Vl} {cs:List TV} {fp:List Nat},(∀x,x∈fp->¬S x)->VsO st l cs fp->VsO st' l cs fp
 | [],cs,fp,hs,h=>by unfold VsO at h⊢;exact h
 | v::r,cs,fp,hs,h=>by
  unfold VsO at h⊢
  obtain⟨a,b,p,q,h0,rfl,h1,h2⟩:=h
  simp only[List.mem_append]at hs
  exact⟨a,b,p,q,h0,rfl,VlO.frame e (fun x hx=>hs x (.inl hx)) h1,VsO.frame e (fun x hx=>hs x (.inr hx)) h2⟩
theorem FdO.frame {S:Nat->Prop} {st st':St} (e:StX S st st'):∀{d:Fd} {cs:List TV} {fp:List Nat},(∀x,x∈fp->¬S x)->FdO st d cs fp->FdO st' d cs fp
 | .mk key v,cs,fp,hs,h=>by
  unfold FdO at h⊢
  obtain⟨c,h0,h1⟩:=h
  exact⟨c,h0,VlO.frame e hs h1⟩
theorem FsO.frame {S:Nat->Prop} {st st':St} (e:StX S st st'):∀{l:List Fd} {cs:List TV} {fp:List Nat},(∀x,x∈fp->¬S x)->FsO st l cs fp->FsO st' l cs fp
 | [],cs,fp,hs,h=>by unfold FsO at h⊢;exact h
 | d::r,cs,fp,hs,h=>by
  unfold FsO at h⊢
  obtain⟨a,b,p,q,h0,rfl,h1,h2⟩:=h
  simp only[List.mem_append]at hs
  exact⟨a,b,p,q,h0,rfl,FdO.frame e (fun x hx=>hs x (.inl hx)) h1,FsO.frame e (fun x hx=>hs x (.inr hx)) h2⟩
end
theorem VsO.snoc {st:St} {v:Vl} {cv:List TV} {pv:List Nat}:∀{l:List Vl} {xs:List TV} {fp:List Nat},VsO st l xs fp->VlO st v cv pv->VsO st (l++[v]) (xs++cv) (fp++pv)
 | [],xs,fp,h,hv=>by
  unfold VsO at h
  obtain⟨rfl,rfl⟩:=h
  show VsO st [v] _ _
  unfold VsO
  exact⟨cv,[],pv,[],by simp,by simp,hv,by unfold VsO;exact⟨rfl,rfl⟩⟩
 | w::r,xs,fp,h,hv=>by
  unfold VsO at h
  obtain⟨a,b,p,q,rfl,rfl,h1,h2⟩:=h
  show VsO st (w::(r++[v])) _ _
  unfold VsO
  exact⟨a,b++cv,p,q++pv,by simp,by simp,h1,VsO.snoc h2 hv⟩
theorem FsO.snoc {st:St} {d:Fd} {cv:List TV} {pv:List Nat}:∀{l:List Fd} {xs:List TV} {fp:List Nat},FsO st l xs fp->FdO st d cv pv->FsO st (l++[d]) (xs++cv) (fp++pv)
 | [],xs,fp,h,hv=>by
  unfold FsO at h
  obtain⟨rfl,rfl⟩:=h
  show FsO st [d] _ _
  unfold FsO
  exact⟨cv,[],pv,[],by simp,by simp,hv,by unfold FsO;exact⟨rfl,rfl⟩⟩
 | w::r,xs,fp,h,hv=>by
  unfold FsO at h
  obtain⟨a,b,p,q,rfl,rfl,h1,h2⟩:=h
  show FsO st (w::(r++[d])) _ _
  unfold FsO
  exact⟨a,b++cv,p,q++pv,by simp,by simp,h1,FsO.snoc h2 hv⟩
theorem Ub (xs ys tail:List TV) (h:ys.length<=tail.length):setAll (xs++tail) xs.length ys=xs++ys++tail.drop ys.length:=by
 have e:tail=tail.take ys.length++tail.drop ys.length:=(List.take_append_drop _ _).symm
 have:=IE ys xs (tail.take ys.length) (tail.drop ys.length) (by simp;omega)
 rw[List.append_assoc,List.take_append_drop]at this
 exact this
theorem Ky {T sz bytes:Nat} {st:St} {u:TV} {n k:Nat} {xs ys:List TV} {bs:List Nat} {K:TV->St->Prop} (h:BC st sz u n xs bs) (hk1:0<k) (hy:ys.length=k*sz) (hby:(n+k)*bytes<=140737488355328)
  (hK:∀u' st' bs',BC st' sz u' (n+k) (xs++ys) bs'->StX (·∈bs) st st'->((bs'=bs/\bs≠ [])∨bs'=[st.nb])->K u' st'):Jx T sz bytes u k ys st K:=by
 obtain⟨m,rfl⟩:∃m,k=m+1:=⟨k-1,by omega⟩
 have fresh:∀(zs:List TV) (N cap:Nat),zs.length=N*sz->N<=cap->BC (st.push (.cells (zs++FD ((cap-N)*sz))) (some T)) sz (.ms sz st.nb 0 N cap) N zs [st.nb]:=fun zs N cap h1 h2=>
  .inr ⟨st.nb,cap,FD ((cap-N)*sz),rfl,by simp[St.push],by simp[St.push],by rw[List.length_append,h1];simp only[FD,List.length_replicate];rw[<-Nat.add_mul];congr 1;omega,h1,h2,rfl⟩
 rcases h with⟨rfl,rfl,rfl,rfl | rfl⟩ | ⟨b,cap,tail,rfl,h1,h2,h3,h4,h5,rfl⟩
 ·simp only[Jx,Am]
  refine⟨by simpa using hby,fun cap hc=>hK _ _ [st.nb] ?_ (StX.of ((Ah.refl st).push _ _)) (.inr rfl)⟩
  have:=fresh ys (m+1) cap hy hc
  simpa using this
 ·simp only[Jx,Nat.beq_refl]
  refine⟨hby,fun cap hc=>hK _ _ [st.nb] ?_ (StX.of ((Ah.refl st).push _ _)) (.inr rfl)⟩
  have:=fresh ys (0+(m+1)) cap (by rw[hy];congr 1;omega) hc
  simpa using this
 ·simp only[Jx,Nat.beq_refl]
  rw[List.length_append]at h3
  refine⟨hby,_,h2,by rw[List.length_append];omega,fun hc=>?_,fun hc cap' hc'=>?_⟩
  ·have hmul:(n+(m+1))*sz<=cap*sz:=Nat.mul_le_mul_right _ hc
   rw[Nat.add_mul]at hmul
   rw[Nat.zero_add,<-h4,Ub xs ys tail (by omega)]
   refine hK _ _ [b] (.inr ⟨b,cap,tail.drop ys.length,rfl,h1,by simp[St.put],by simp only[List.length_append,List.length_drop];omega,by rw[List.length_append,h4,hy,<-Nat.add_mul],hc,rfl⟩) (StX.put (S:=(·∈ [b])) (.head _) _) (.inl ⟨rfl,by simp⟩)
  ·rw[List.drop_zero,<-h4,List.take_left]
   exact hK _ _ [st.nb] (fresh (xs++ys) (n+(m+1)) cap' (by rw[List.length_append,h4,hy,<-Nat.add_mul]) hc') (StX.of ((Ah.refl st).push _ _)) (.inr rfl)
end
section
mutual
def Vl.sz:Vl->Nat
 | .mk s l f=>1+s.bytes.length+s.text.length+s.dg.length+Ct l+BS f
def Ct:List Vl->Nat
 | []=>0
 | v::r=>v.sz+Ct r
def Fd.sz:Fd->Nat
 | .mk k v=>k.length+v.sz
def BS:List Fd->Nat
 | []=>0
 | d::r=>d.sz+BS r
end
theorem Vl.sz_pos (v:Vl):1<=v.sz:=by cases v;unfold Vl.sz;omega
theorem DF:∀l:List Vl,l.length<=Ct l
 | []=>Nat.le_refl _
 | v::r=>by have:=DF r;have:=v.sz_pos;unfold Ct;simp only[List.length_cons];omega
theorem CC:∀l:List Fd,l.length<=BS l
 | []=>Nat.le_refl _
 | .mk k v::r=>by have:=CC r;have:=v.sz_pos;unfold BS Fd.sz;simp only[List.length_cons];omega
theorem EO:∀{l:List Vl} {i:Nat} {v:Vl},l[i]? =some v->v.sz<=Ct l
 | [],i,v,h=>by simp at h
 | w::r,0,v,h=>by simp at h;subst h;unfold Ct;omega
 | w::r,i+1,v,h=>by have:=EO (by simpa using h:r[i]? =some v);unfold Ct;omega
theorem FH:∀{l:List Fd} {i:Nat} {d:Fd},l[i]? =some d->d.sz<=BS l
 | [],i,v,h=>by simp at h
 | w::r,0,v,h=>by simp at h;subst h;unfold BS;omega
 | w::r,i+1,v,h=>by have:=FH (by simpa using h:r[i]? =some v);unfold BS;omega
theorem O9 {st:St} {ys:List TV}:∀(k j:Nat),j+k<=ys.length->Al st [] (.t (.rptr ys)) j k=some ((ys.drop j).take k)
 | 0,j,h=>by simp[Al]
 | k+1,j,h=>by
  show(match Af st [] (.t (.rptr ys)) j with | some x=>(Al st [] (.t (.rptr ys)) (j+1) k).map (x::·) | none=>none)=_
  have hj:j<ys.length:=by omega
  have:Af st [] (.t (.rptr ys)) j=some ys[j]:=by simp[Af,hj]
  rw[this]
  simp only
  rw[O9 k (j+1) (by omega),List.drop_eq_getElem_cons hj]
  rfl
theorem SlR.ldc {st:St} {sz n i:Nat} {u:TV} {xs:List TV} (h:SlR st sz u n xs) (hl:xs.length=n*sz) (hi:i<n):Al st [] (.t (ixT sz u i)) 0 sz=some ((xs.drop (i*sz)).take sz):=by
 have hm:(i+1)*sz<=n*sz:=Nat.mul_le_mul_right _ hi
 rw[Nat.add_mul,Nat.one_mul]at hm
 rcases h with(⟨rfl,rfl,rfl⟩ | ⟨tip,rfl⟩) | ⟨b,off,cap,l,rfl,h2,h3,h4,h5,rfl⟩
 ·omega
 ·show Al st [] (.t (.rptr (xs.drop (i*sz)))) 0 sz=_
  rw[O9 sz 0 (by rw[List.length_drop];omega),List.drop_zero]
 ·have hc:n*sz<=cap*sz:=Nat.mul_le_mul_right _ h5
  have e1:(((l.drop off).take (n*sz)).drop (i*sz)).take sz=(l.drop (off+i*sz)).take sz:=by
   rw[List.drop_take,List.drop_drop,List.take_take,Nat.min_eq_left (by omega)]
  rw[e1]
  have e:=IL (B:=l.drop (off+i*sz+sz)) (st:=st) (b:=b) ((l.drop (off+i*sz)).take sz) l 0 (off+i*sz) h3 (by
   have:=List.take_append_drop sz (l.drop (off+i*sz))
   rw[List.drop_drop]at this
   rw[Nat.add_zero];exact this.symm)
  rw[show((l.drop (off+i*sz)).take sz).length=sz by simp;omega]at e
  exact e
theorem SlR.lenZ {st:St} {sz n:Nat} {u:TV} {xs:List TV} (h:SlR st sz u n xs):TVF.lenZ sz u=n:=by
 rcases h with(⟨rfl,rfl,rfl⟩ | ⟨tip,rfl⟩) | ⟨b,off,cap,l,rfl,h2,h3,h4,h5,rfl⟩
 ·rfl
 ·simp[TVF.lenZ]
 ·simp[TVF.lenZ]
theorem SlR.lenS {st:St} {sz n:Nat} {u:TV} {xs:List TV} (h:SlR st sz u n xs):TVF.lenS u=n:=by
 rcases h with(⟨rfl,rfl,rfl⟩ | ⟨tip,rfl⟩) | ⟨b,off,cap,l,rfl,h2,h3,h4,h5,rfl⟩<;>rfl
theorem SlR.isSl {st:St} {sz n:Nat} {u:TV} {xs:List TV} (h:SlR st sz u n xs):TVF.isSl u=true:=by
 rcases h with(⟨rfl,rfl,rfl⟩ | ⟨tip,rfl⟩) | ⟨b,off,cap,l,rfl,h2,h3,h4,h5,rfl⟩<;>rfl
theorem BC.nil (st:St) (sz:Nat):BC st sz .nilSlice 0 [] []:= .inl ⟨rfl,rfl,rfl,.inl rfl⟩
theorem Nv {n1:Int} {b1 b2:Bool} {s2:B8} {n2 n3 n4 n5 n6:Int} {s3:B8} {u1 u2 u3:TV} {f:Fun [.int .i64,.bool,.bool,.str,.int .i64,.int .i64,.int .i64,.int .i64,.int .i64,.str,.tv,.tv,.tv] Prop} (h:f n1 b1 b2 s2 n2 n3 n4 n5 n6 s3 u1 u2 u3):
  B4 [.int .i64,.bool,.bool,.str,.int .i64,.int .i64,.int .i64,.int .i64,.int .i64,.str,.tv,.tv,.tv] (.agg [.int .i64 n1,.bool b1,.bool b2,.str s2,.int .i64 n2,.int .i64 n3,.int .i64 n4,.int .i64 n5,.int .i64 n6,.str s3,u1,u2,u3]) f:=h
theorem Bv {n1:Int} {b1 b2:Bool} {s2:B8} {n2 n3 n4 n5 n6:Int} {s3:B8} {u1 u2 u3:TV} (h1:Ar u1=true) (h2:Ar u2=true) (h3:Ar u3=true):
  List.all [.int .i64 n1,.bool b1,.bool b2,.str s2,.int .i64 n2,.int .i64 n3,.int .i64 n4,.int .i64 n5,.int .i64 n6,.str s3,u1,u2,u3] Ar=true:=by
 simp only[List.all_cons,List.all_nil,h1,h2,h3,Bool.and_true];rfl
theorem WI {st:St} {u:TV} {l:B8} (h:SlR st 1 u l.length (At l)) (hl:l.length<=10000000) {K:TV->St->Prop} (hk:∀v st' bs,BC st' 1 v l.length (At l) bs->Ah st st'->(∀x,x∈bs->st.nb<=x)->bs.Nodup->K v st'):
  CallT PR B3 [u] [.one .tv] st K:=by
 have hb1:(At l).length=l.length*1:=by rw[BO];omega
 have hone:List.all (At l) Ar=true:=by
  rw[List.all_eq_true];intro x hx
  simp only[At,List.mem_map]at hx
  obtain⟨y,_,rfl⟩:=hx;rfl
 refine FR _ st K (Ab h.isSl ?_)
 cases hq:FT u with
 | true=>
  show K .nilSlice st
  have h0:l=[]:=by
   rcases h with(⟨rfl,h1,_⟩ | ⟨tip,rfl⟩) | ⟨b,off,cap,m,rfl,_⟩
   ·exact List.eq_nil_of_length_eq_zero h1
   ·cases hq
   ·cases hq
  subst h0
  exact hk _ st [] (BC.nil _ _) (Ah.refl _) (fun x hx=>by cases hx) List.nodup_nil
 | false=>
  show Ak (Bb st 1 u) _
  refine Ac (h.src hb1) (Ab hone ?_)
  cases hlen:l.length with
  | zero=>
   have h0:l=[]:=List.eq_nil_of_length_eq_zero hlen
   subst h0
   simp only[Jx,Nat.beq_refl]
   exact⟨by omega,hk _ st [] (.inl ⟨rfl,rfl,rfl,.inr rfl⟩) (Ah.refl _) (fun x hx=>by cases hx) List.nodup_nil⟩
  | succ m=>
   refine Ky (.inl ⟨rfl,rfl,rfl,.inr rfl⟩) (by omega) (by rw[hb1,hlen]) (by omega) fun u' st' bs' ho e hbs=>?_
   rw[Nat.zero_add,List.nil_append,<-hlen]at ho
   rcases hbs with⟨_,h0⟩ | rfl
   ·exact absurd rfl h0
   ·exact hk _ st' _ ho (StX.ext (Ah.refl st) e (fun i hi=>by cases hi)) (fun x hx=>by rw[List.mem_singleton.1 hx];exact Nat.le_refl _) (by simp)
end
section
mutual
theorem VlO.lt {st:St}:∀{v:Vl} {cs:List TV} {fp:List Nat},VlO st v cs fp->∀x,x∈fp->x<st.nb
 | .mk s l f,cs,fp,h=>by
  unfold VlO at h
  obtain⟨ub,ul,uf,xl,xf,bb,bl,bf,fl,ff,h0,h1,h2,h3,h4,h5,rfl⟩:=h
  intro x hx
  simp only[List.mem_append]at hx
  rcases hx with hx | hx | hx | hx | hx
  ·exact h1.lt x hx
  ·exact h2.lt x hx
  ·exact VsO.lt h3 x hx
  ·exact h4.lt x hx
  ·exact FsO.lt h5 x hx
theorem VsO.lt {st:St}:∀{l:List Vl} {cs:List TV} {fp:List Nat},VsO st l cs fp->∀x,x∈fp->x<st.nb
 | [],cs,fp,h=>by unfold VsO at h;rw[h.2];intro x hx;cases hx
 | v::r,cs,fp,h=>by
  unfold VsO at h
  obtain⟨a,b,p,q,_,rfl,h1,h2⟩:=h
  intro x hx
  rcases List.mem_append.1 hx with hx | hx
  ·exact VlO.lt h1 x hx
  ·exact VsO.lt h2 x hx
theorem FdO.lt {st:St}:∀{d:Fd} {cs:List TV} {fp:List Nat},FdO st d cs fp->∀x,x∈fp->x<st.nb
 | .mk key v,cs,fp,h=>by
  unfold FdO at h
  obtain⟨c,_,h1⟩:=h
  exact VlO.lt h1
theorem FsO.lt {st:St}:∀{l:List Fd} {cs:List TV} {fp:List Nat},FsO st l cs fp->∀x,x∈fp->x<st.nb
 | [],cs,fp,h=>by unfold FsO at h;rw[h.2];intro x hx;cases hx
 | d::r,cs,fp,h=>by
  unfold FsO at h
  obtain⟨a,b,p,q,_,rfl,h1,h2⟩:=h
  intro x hx
  rcases List.mem_append.1 hx with hx | hx
  ·exact FdO.lt h1 x hx
  ·exact FsO.lt h2 x hx
end
theorem Vl.cnt_pos (v:Vl):1<=v.cnt:=by cases v;unfold Vl.cnt;omega
theorem Qd:∀{l:List Vl} {i:Nat} {v:Vl},l[i]? =some v->v.cnt<=Lx l
 | [],i,v,h=>by simp at h
 | w::r,0,v,h=>by simp at h;subst h;unfold Lx;omega
 | w::r,i+1,v,h=>by have:=Qd (by simpa using h:r[i]? =some v);unfold Lx;omega
theorem QI:∀{l:List Fd} {i:Nat} {d:Fd},l[i]? =some d->d.cnt<=Mw l
 | [],i,v,h=>by simp at h
 | w::r,0,v,h=>by simp at h;subst h;unfold Mw;omega
 | w::r,i+1,v,h=>by have:=QI (by simpa using h:r[i]? =some v);unfold Mw;omega
theorem CQ {A B:List Nat} (ha:A.Nodup) (hb:B.Nodup) (h:∀x,x∈A->x∉B):(A++B).Nodup:=
 List.nodup_append.2 ⟨ha,hb,fun x hx y hy e=>h x hx (e▸hy)⟩
structure Sb (b0:Nat) (st:St) (bl fl:List Nat):Prop where
 nd:(bl++fl).Nodup
 lo:∀x,x∈bl++fl->b0<=x
theorem Sb.nil (b0:Nat) (st:St):Sb b0 st [] []:=⟨List.nodup_nil,fun x hx=>by cases hx⟩
theorem Sb.snoc {b0 m k:Nat} {st st':St} {bl fl bs' fp:List Nat} (h:Sb b0 st bl fl) (hm:∀x,x∈bl++fl->x<m) (h0:b0<=m) (hk:∀x,x∈fp->m<=x/\x<k) (nd:fp.Nodup) (hmk:m<=k) (hb:(bs'=bl/\bl≠ [])∨bs'=[k]):Sb b0 st' bs' (fl++fp):=by
 have ndf:=(List.nodup_append.1 h.nd)
 have hfl:∀x,x∈fl->x<m:=fun x hx=>hm x (List.mem_append_right _ hx)
 have nfp:(fl++fp).Nodup:=CQ ndf.2.1 nd fun x hx hx'=>by have:=hfl x hx;have:=(hk x hx').1;omega
 rcases hb with⟨rfl,_⟩ | rfl
 ·refine⟨CQ ndf.1 nfp fun x hx hx'=>?_,fun x hx=>?_⟩
  ·rcases List.mem_append.1 hx' with hx' | hx'
   ·exact ndf.2.2 x hx x hx' rfl
   ·have:=hm x (List.mem_append_left _ hx);have:=(hk x hx').1;omega
  ·rcases List.mem_append.1 hx with hx | hx
   ·exact h.lo x (List.mem_append_left _ hx)
   ·rcases List.mem_append.1 hx with hx | hx
    ·exact h.lo x (List.mem_append_right _ hx)
    ·have:=(hk x hx).1;omega
 ·refine⟨CQ (by simp) nfp fun x hx hx'=>?_,fun x hx=>?_⟩
  ·rcases List.mem_singleton.1 hx with rfl
   rcases List.mem_append.1 hx' with hx' | hx'
   ·have:=hfl x hx';omega
   ·have:=(hk x hx').2;omega
  ·rcases List.mem_append.1 hx with hx | hx
   ·rcases List.mem_singleton.1 hx with rfl;omega
   ·rcases List.mem_append.1 hx with hx | hx
    ·exact h.lo x (List.mem_append_right _ hx)
    ·have:=(hk x hx).1;omega
theorem Me {k:B8} {n1:Int} {b1 b2:Bool} {s2:B8} {n2 n3 n4 n5 n6:Int} {s3:B8} {u1 u2 u3:TV} (h1:Ar u1=true) (h2:Ar u2=true) (h3:Ar u3=true):
  List.all [.str k,.int .i64 n1,.bool b1,.bool b2,.str s2,.int .i64 n2,.int .i64 n3,.int .i64 n4,.int .i64 n5,.int .i64 n6,.str s3,u1,u2,u3] Ar=true:=by
 simp only[List.all_cons,List.all_nil,h1,h2,h3,Bool.and_true];rfl
def AI (s:Sc) (ub ul uf:TV):List TV:=[.int .i64 s.kind,.bool s.b,.bool s.neg,.str s.dg,.int .i64 s.ex,.int .i64 s.tk,.int .i64 s.td,.int .i64 s.tn,.int .i64 s.tz,.str s.text,ub,ul,uf]
theorem WH:∀(N:Nat) (v:Vl),v.sz<=N->N<=2000000->∀{st:St} {cs:List TV} {L:Int} {K:Int->Bool->Bool->B8->Int->Int->Int->Int->Int->B8->TV->TV->TV->St->Prop},VlR st v cs->(v.cnt:Int)<=L->L<=100000000->
  (∀ub ul uf st' fp,VlO st' v (AI v.sc ub ul uf) fp->Ar ub=true->Ar ul=true->Ar uf=true->fp.Nodup->(∀x,x∈fp->st.nb<=x)->Ah st st'->K v.sc.kind v.sc.b v.sc.neg v.sc.dg v.sc.ex v.sc.tk v.sc.td v.sc.tn v.sc.tz v.sc.text ub ul uf st')->
  CallT PR Dn [.agg cs,.int .i64 L] [.agg [.int .i64,.bool,.bool,.str,.int .i64,.int .i64,.int .i64,.int .i64,.int .i64,.str,.tv,.tv,.tv]] st K:=by
 intro N
 induction N with
 | zero=>intro v h;have:=v.sz_pos;omega
 | succ N ih=>
 intro v hN hN2 st cs L K h hL hL2 hk
 cases v with
 | mk s l f=>
 have hsz:(Vl.mk s l f).sz=1+s.bytes.length+s.text.length+s.dg.length+Ct l+BS f:=by unfold Vl.sz;rfl
 have hct:(Vl.mk s l f).cnt=1+Lx l+Mw f:=by unfold Vl.cnt;rfl
 have hll:=DF l
 have hfl:=CC f
 unfold VlR at h
 obtain⟨ub,ul,uf,xl,xf,rfl,h1,h2,h3,h4,h5⟩:=h
 have hxl:=h3.len
 have hxf:=h5.len
 refine N0 _ _ _ _ _ _ _ _ _ _ _ _ _ L st K (WI h1 (by omega) fun v1 st1 bb ho e1 lo1 nd1=>Ab (by rw[List.all_cons,ho.rd.one];rfl) (Aa (fun g=>absurd g (by omega)) fun _=>Ab h2.isSl ?_))
 refine⟨fun l1 n1 left u n2 a1 a2 a3 a4 a5 a6 a7 a8 a9 a10 a11 a12 a13 _ _ _ _ _ _ _ _ _ _ _ _ _ st'=>L=left/\ul=u/\(l.length:Int)=n2/\s.kind=a1/\s.b=a2/\s.neg=a3/\s.dg=a4/\s.ex=a5/\s.tk=a6/\s.td=a7/\s.tn=a8/\s.tz=a9/\s.text=a10/\v1=a11/\uf=a13/\
   ∃(k:Nat) (ys:List TV) (bl fp:List Nat),n1=(k:Int)/\k<=l.length/\BC st' 13 l1 k ys bl/\VsO st' (l.take k) ys fp/\Sb st1.nb st' bl fp/\Ah st1 st',
  fun _ n1 _ _ _ _ _ _ _ _ _ _ _ _ _ _ _ _ _ _ _ _ _ _ _ _ _ _ _ _ _ _=>(l.length-n1).toNat,⟨rfl,rfl,by rw[h2.lenS],rfl,rfl,rfl,rfl,rfl,rfl,rfl,rfl,rfl,rfl,rfl,rfl,0,[],[],[],rfl,Nat.zero_le _,BC.nil _ _,by simp only[List.take_zero];unfold VsO;exact⟨rfl,rfl⟩,Sb.nil _ _,Ah.refl _⟩,?_⟩
 rintro l1 _ _ _ _ _ _ _ _ _ _ _ _ _ _ _ v3 _ _ _ _ _ _ _ _ _ _ _ _ _ _ st2 ⟨rfl,rfl,rfl,rfl,rfl,rfl,rfl,rfl,rfl,rfl,rfl,rfl,rfl,rfl,rfl,k,ys,bl,fp,rfl,hkl,hol,hvs,hgr,e2⟩
 have e12:=e1.trans e2
 refine Aa (fun g=>?_) fun g=>?_
 ·have hkl2:k<l.length:=by omega
  have h2':=h2.keep e12.keeps
  have h3':=h3.keep e12.keeps
  have gw:l[k]? =some l[k]:=List.getElem?_eq_getElem hkl2
  obtain⟨cw,hw,hcw,hcl⟩:=h3'.get gw
  have hwsz:=EO gw
  have hwct:=Qd gw
  have hwc1:=(l[k]).cnt_pos
  generalize l[k]=w at*
  have hld:(Al st2 [] (.t (ixT 13 ul (Int.toNat (k:Int)))) 0 13).map TV.agg=some (.agg cw):=by
   rw[Int.toNat_natCast,h2'.ldc hxl hkl2,hcw];rfl
  rw[h2'.lenZ]
  have hw0:=hw
  cases w with
  | mk s' l' f'=>
  unfold VlR at hw0
  obtain⟨ub',ul',uf',xl',xf',rfl,w1,w2,w3,w4,w5⟩:=hw0
  refine⟨⟨by omega,by omega⟩,Ac hld (Nv (Ab (Bv w1.one w2.one w4.one) ?_))⟩
  rw[Ad _ (by omega) (by omega)]
  refine ih _ (by omega) (by omega) hw (by omega) (by omega) fun ub2 ul2 uf2 st3 fp2 ho2 o1 o2 o3 nd2 lo2 e3=>Ab (Bv o1 o2 o3) ?_
  have hol3:=hol.frame (StX.of (S:=fun _=>False) e3) (fun _ _ h=>h)
  have hvs3:=hvs.frame (StX.of (S:=fun _=>False) e3) (fun _ _ h=>h)
  refine Ky hol3 (by omega) rfl (by omega) fun u' st4 bs' ho4 e4 hbs=>?_
  have hm:∀x,x∈bl++fp->x<st2.nb:=fun x hx=>(List.mem_append.1 hx).elim (hol.lt x) (hvs.lt x)
  have hlt2:=ho2.lt
  have hnd:=List.nodup_append.1 hgr.nd
  have e14:Ah st1 st4:=StX.ext (e2.trans e3) e4 fun i hi=>hgr.lo i (List.mem_append_left _ hi)
  have hvs4:VsO st4 (l.take (k+1)) (ys++AI s' ub2 ul2 uf2) (fp++fp2):=by
   have t1:l.take (k+1)=l.take k++[.mk s' l' f']:=by
    have:=(List.getElem?_eq_some_iff.1 gw)
    obtain⟨q1,q2⟩:=this
    rw[List.take_succ_eq_append_getElem q1,q2]
   rw[t1]
   exact VsO.snoc (hvs3.frame e4 fun x hx hx'=>hnd.2.2 x hx' x hx rfl) (ho2.frame e4 fun x hx hx'=>by have:=lo2 x hx;have:=hol.lt x hx';omega)
  exact⟨⟨rfl,rfl,rfl,rfl,rfl,rfl,rfl,rfl,rfl,rfl,rfl,rfl,rfl,rfl,rfl,k+1,_,bs',fp++fp2,by rw[Ad _ (by omega) (by omega)];omega,by omega,ho4,hvs4,hgr.snoc hm e2.nb (fun x hx=>⟨lo2 x hx,hlt2 x hx⟩) nd2 e3.nb hbs,e14⟩,by dsimp only;rw[Ad _ (by omega) (by omega)];omega⟩
 ·have hk:k=l.length:=by omega
  subst hk
  rw[List.take_length]at hvs
  have hm:∀x,x∈bl++fp->x<st2.nb:=fun x hx=>(List.mem_append.1 hx).elim (hol.lt x) (hvs.lt x)
  refine Ab h4.isSl ?_
  refine⟨fun f1 n1 left l2 u n2 a1 a2 a3 a4 a5 a6 a7 a8 a9 a10 a11 a12 a13 _ _ _ _ _ _ _ _ _ _ _ _ _ st'=>L=left/\l1=l2/\uf=u/\(f.length:Int)=n2/\s.kind=a1/\s.b=a2/\s.neg=a3/\s.dg=a4/\s.ex=a5/\s.tk=a6/\s.td=a7/\s.tn=a8/\s.tz=a9/\s.text=a10/\v1=a11/\
    ∃(k:Nat) (zs:List TV) (bf ff:List Nat),n1=(k:Int)/\k<=f.length/\BC st' 14 f1 k zs bf/\FsO st' (f.take k) zs ff/\Sb st2.nb st' bf ff/\Ah st2 st',
   fun _ n1 _ _ _ _ _ _ _ _ _ _ _ _ _ _ _ _ _ _ _ _ _ _ _ _ _ _ _ _ _ _ _=>(f.length-n1).toNat,⟨rfl,rfl,rfl,by rw[h4.lenS],rfl,rfl,rfl,rfl,rfl,rfl,rfl,rfl,rfl,rfl,rfl,0,[],[],[],rfl,Nat.zero_le _,BC.nil _ _,by simp only[List.take_zero];unfold FsO;exact⟨rfl,rfl⟩,Sb.nil _ _,Ah.refl _⟩,?_⟩
  rintro f1 _ _ _ _ _ _ _ _ _ _ _ _ _ _ _ _ _ _ _ _ _ _ _ _ _ _ _ _ _ _ _ st5 ⟨rfl,rfl,rfl,rfl,rfl,rfl,rfl,rfl,rfl,rfl,rfl,rfl,rfl,rfl,rfl,k,zs,bf,ff,rfl,hkf,hof,hfs,hgf,e5⟩
  have e15:=e12.trans e5
  refine Aa (fun g=>?_) fun g=>?_
  ·have hkf2:k<f.length:=by omega
   have h4':=h4.keep e15.keeps
   have h5':=h5.keep e15.keeps
   have gw:f[k]? =some f[k]:=List.getElem?_eq_getElem hkf2
   obtain⟨cw,hw,hcw,hcl⟩:=h5'.get gw
   have hwsz:=FH gw
   have hwct:=QI gw
   generalize f[k]=w at*
   have hld:(Al st5 [] (.t (ixT 14 uf (Int.toNat (k:Int)))) 0 14).map TV.agg=some (.agg cw):=by
    rw[Int.toNat_natCast,h4'.ldc hxf hkf2,hcw];rfl
   rw[h4'.lenZ]
   cases w with
   | mk key w=>
   unfold FdR at hw
   obtain⟨cw2,rfl,hw⟩:=hw
   have hwk:(Fd.mk key w).sz=key.length+w.sz:=by unfold Fd.sz;rfl
   have hwk2:(Fd.mk key w).cnt=w.cnt:=by unfold Fd.cnt;rfl
   have hwc1:=w.cnt_pos
   have hw0:=hw
   cases w with
   | mk s' l' f'=>
   unfold VlR at hw0
   obtain⟨ub',ul',uf',xl',xf',rfl,w1,w2,w3,w4,w5⟩:=hw0
   refine⟨⟨by omega,by omega⟩,Ac hld (IV (Ab (Me w1.one w2.one w4.one) ?_))⟩
   rw[Ad _ (by omega) (by omega)]
   refine ih _ (by omega) (by omega) hw (by omega) (by omega) fun ub2 ul2 uf2 st6 fp2 ho2 o1 o2 o3 nd2 lo2 e6=>Ab (Me o1 o2 o3) ?_
   have hof6:=hof.frame (StX.of (S:=fun _=>False) e6) (fun _ _ h=>h)
   have hfs6:=hfs.frame (StX.of (S:=fun _=>False) e6) (fun _ _ h=>h)
   refine Ky hof6 (by omega) rfl (by omega) fun u' st7 bs' ho7 e7 hbs=>?_
   have hm5:∀x,x∈bf++ff->x<st5.nb:=fun x hx=>(List.mem_append.1 hx).elim (hof.lt x) (hfs.lt x)
   have hlt2:=ho2.lt
   have hnd:=List.nodup_append.1 hgf.nd
   have e27:Ah st2 st7:=StX.ext (e5.trans e6) e7 fun i hi=>hgf.lo i (List.mem_append_left _ hi)
   have hd7:FdO st7 (.mk key (.mk s' l' f')) (.str key::AI s' ub2 ul2 uf2) fp2:=by
    unfold FdO
    exact⟨_,rfl,ho2.frame e7 fun x hx hx'=>by have:=lo2 x hx;have:=hof.lt x hx';omega⟩
   have hfs7:FsO st7 (f.take (k+1)) (zs++ .str key::AI s' ub2 ul2 uf2) (ff++fp2):=by
    have t1:f.take (k+1)=f.take k++[.mk key (.mk s' l' f')]:=by
     obtain⟨q1,q2⟩:=List.getElem?_eq_some_iff.1 gw
     rw[List.take_succ_eq_append_getElem q1,q2]
    rw[t1]
    exact FsO.snoc (hfs6.frame e7 fun x hx hx'=>hnd.2.2 x hx' x hx rfl) hd7
   exact⟨⟨rfl,rfl,rfl,rfl,rfl,rfl,rfl,rfl,rfl,rfl,rfl,rfl,rfl,rfl,rfl,k+1,_,bs',ff++fp2,by rw[Ad _ (by omega) (by omega)];omega,by omega,ho7,hfs7,hgf.snoc hm5 e5.nb (fun x hx=>⟨lo2 x hx,hlt2 x hx⟩) nd2 e6.nb hbs,e27⟩,by dsimp only;rw[Ad _ (by omega) (by omega)];omega⟩
  ·have hk2:k=f.length:=by omega
   subst hk2
   rw[List.take_length]at hfs
   have ho5:=ho.frame (StX.of (S:=fun _=>False) (e2.trans e5)) (fun _ _ h=>h)
   have hol5:=hol.frame (StX.of (S:=fun _=>False) e5) (fun _ _ h=>h)
   have hvs5:=hvs.frame (StX.of (S:=fun _=>False) e5) (fun _ _ h=>h)
   have hb1:=ho.lt
   have e1n:=e1.nb
   have e2n:=e2.nb
   refine Ab (by rw[List.all_cons,hol.rd.one];rfl) (Ab (by rw[List.all_cons,hof.rd.one];rfl) (Ab (Bv ho.rd.one hol.rd.one hof.rd.one) ?_))
   refine hk v1 l1 f1 st5 (bb++(bl++(fp++(bf++ff)))) (by unfold VlO;exact⟨v1,l1,f1,ys,zs,bb,bl,bf,fp,ff,rfl,ho5,hol5,hvs5,hof,hfs,rfl⟩) ho.rd.one hol.rd.one hof.rd.one ?_ ?_ e15
   ·have e:bl++(fp++(bf++ff))=(bl++fp)++(bf++ff):=by simp
    rw[e]
    refine CQ nd1 (CQ hgr.nd hgf.nd fun x hx hx'=>?_) fun x hx hx'=>?_
    ·have:=hm x hx;have:=hgf.lo x hx';omega
    ·have:=hb1 x hx
     rcases List.mem_append.1 hx' with hx' | hx'
     ·have:=hgr.lo x hx';omega
     ·have:=hgf.lo x hx';omega
   ·intro x hx
    have e:bb++(bl++(fp++(bf++ff)))=bb++((bl++fp)++(bf++ff)):=by simp
    rw[e]at hx
    rcases List.mem_append.1 hx with hx | hx
    ·exact lo1 x hx
    ·rcases List.mem_append.1 hx with hx | hx
     ·have:=hgr.lo x hx;omega
     ·have:=hgf.lo x hx;omega
end
section
theorem RC:∀x y:B8,Op.bytesLess x y=false->Op.bytesLess y x=false->x=y
 | [],[],_,_=>rfl
 | [],b::y,h,_=>by cases h
 | a::x,[],_,h=>by cases h
 | a::x,b::y,h1,h2=>by
  simp only[Op.bytesLess,Bool.or_eq_false_iff,Bool.and_eq_false_iff,decide_eq_false_iff_not,beq_eq_false_iff_ne,UInt8.not_lt]at h1 h2
  have hab:a=b:=UInt8.le_antisymm h2.1 h1.1
  subst hab
  rw[RC x y (h1.2.resolve_left fun h=>h rfl) (h2.2.resolve_left fun h=>h rfl)]
def IN (d:Fd):List Fd->List Fd
 | []=>[d]
 | x::r=>match Op.bytesLess d.key x.key with
  | true=>d::x::r
  | false=>x::IN d r
def Bl (f:List Fd):List Fd:=f.foldl (fun out d=>IN d out) []
theorem Np (d:Fd):∀l:List Fd,(IN d l).Perm (d::l)
 | []=>List.Perm.refl _
 | x::r=>by
  unfold IN
  split
  ·exact List.Perm.refl _
  ·exact((Np d r).cons x).trans (List.Perm.swap _ _ _)
theorem X4 {d x:Fd} {l:List Fd} (h:x∈IN d l):x=d∨x∈l:=by
 have:=(Np d l).mem_iff.1 h
 exact List.mem_cons.1 this
theorem Th (d:Fd):∀l:List Fd,Qc l->Qc (IN d l)
 | [],_=>List.pairwise_singleton _ _
 | x::r,h=>by
  obtain⟨h1,h2⟩:=List.pairwise_cons.1 h
  unfold IN
  split
  ·rename_i hl
   refine List.pairwise_cons.2 ⟨fun y hy=>?_,h⟩
   have hx:=IK _ _ hl
   rcases List.mem_cons.1 hy with rfl | hy
   ·exact hx
   ·exact GC _ _ _ hx (h1 y hy)
  ·rename_i hl
   refine List.pairwise_cons.2 ⟨fun y hy=>?_,Th d r h2⟩
   rcases X4 hy with rfl | hy
   ·exact hl
   ·exact h1 y hy
theorem VB (f:List Fd):∀out:List Fd,Qc out->Qc (f.foldl (fun out d=>IN d out) out)/\(f.foldl (fun out d=>IN d out) out).Perm (out++f):=by
 induction f with
 | nil=>intro out h;exact⟨h,by simp⟩
 | cons d f ih=>
  intro out h
  obtain⟨h1,h2⟩:=ih (IN d out) (Th d out h)
  refine⟨h1,h2.trans ?_⟩
  refine((Np d out).append_right f).trans ?_
  simp only[List.cons_append]
  exact(List.perm_middle).symm
theorem T8 (f:List Fd):Qc (Bl f):=(VB f [] List.Pairwise.nil).1
theorem Cz (f:List Fd):(Bl f).Perm f:=by
 have:=(VB f [] List.Pairwise.nil).2
 rw[List.nil_append]at this
 exact this
def Kg (f:List Fd):Prop:=(f.map Fd.key).Nodup
theorem key_inj {f:List Fd} (h:Kg f) {x y:Fd} (hx:x∈f) (hy:y∈f) (e:x.key=y.key):x=y:=by
 induction f with
 | nil=>cases hx
 | cons d f ih=>
  unfold Kg at h
  rw[List.map_cons,List.nodup_cons]at h
  rcases List.mem_cons.1 hx with h1 | h1<;>rcases List.mem_cons.1 hy with h2 | h2
  ·rw[h1,h2]
  ·exact absurd (by rw[<-h1,e];exact List.mem_map_of_mem h2) h.1
  ·exact absurd (by rw[<-h2,<-e];exact List.mem_map_of_mem h1) h.1
  ·exact ih h.2 h1 h2
theorem SI:∀{l m:List Fd},Kg l->Qc l->Qc m->l.Perm m->l=m
 | [],m,_,_,_,p=>(List.Perm.nil_eq p)
 | x::l,[],_,_,_,p=>by have:=p.length_eq;simp at this
 | x::l,y::m,hk,hl,hm,p=>by
  obtain⟨l1,l2⟩:=List.pairwise_cons.1 hl
  obtain⟨m1,m2⟩:=List.pairwise_cons.1 hm
  have hxy:x=y:=by
   have hy:y∈x::l:=p.mem_iff.2 (.head _)
   have hx:x∈y::m:=p.mem_iff.1 (.head _)
   refine key_inj hk (.head _) hy (RC _ _ ?_ ?_)
   ·rcases List.mem_cons.1 hx with rfl | hx
    ·exact FB _
    ·exact m1 x hx
   ·rcases List.mem_cons.1 hy with rfl | hy
    ·exact FB _
    ·exact l1 y hy
  subst hxy
  unfold Kg at hk
  rw[List.map_cons,List.nodup_cons]at hk
  rw[SI hk.2 l2 m2 (List.Perm.cons_inv p)]
theorem V1 {f f':List Fd} (hk:Kg f) (p:f'.Perm f) (s:Qc f'):f'=Bl f:=
 SI (((p.map Fd.key).nodup_iff).2 hk) s (T8 f) (p.trans (Cz f).symm)
mutual
def Bk:Vl->Vl
 | .mk s l f=> .mk s (Ds l) (Bl (CN f))
def Ds:List Vl->List Vl
 | []=>[]
 | v::r=>Bk v::Ds r
def CJ:Fd->Fd
 | .mk k v=> .mk k (Bk v)
def CN:List Fd->List Fd
 | []=>[]
 | d::r=>CJ d::CN r
end
theorem M9 (d:Fd):(CJ d).key=d.key:=by cases d;rfl
theorem Gy:∀f:List Fd,CN f=f.map CJ
 | []=>by unfold CN;rfl
 | d::r=>by unfold CN;rw[Gy r];rfl
theorem Gx:∀l:List Vl,Ds l=l.map Bk
 | []=>by unfold Ds;rfl
 | d::r=>by unfold Ds;rw[Gx r];rfl
theorem Ti {g:Fd->Fd} (hg:∀d,(g d).key=d.key) (d:Fd):∀l:List Fd,IN (g d) (l.map g)=(IN d l).map g
 | []=>rfl
 | x::r=>by
  rw[List.map_cons]
  unfold IN
  rw[hg,hg]
  cases Op.bytesLess d.key x.key with
  | true=>rfl
  | false=>simp only[List.map_cons];rw[Ti hg d r]
theorem Lc {g:Fd->Fd} (hg:∀d,(g d).key=d.key) (f:List Fd):Bl (f.map g)=(Bl f).map g:=by
 have key:∀(f out:List Fd),(f.map g).foldl (fun out d=>IN d out) (out.map g)=(f.foldl (fun out d=>IN d out) out).map g:=by
  intro f
  induction f with
  | nil=>intro out;rfl
  | cons d f ih=>intro out;simp only[List.map_cons,List.foldl_cons];rw[Ti hg,ih]
 exact key f []
end
section
theorem Bc.map_left {α β γ:Type} {R:α->γ->Prop} {S:β->γ->Prop} {g:α->β} (h:∀a c,R a c->S (g a) c) {l:List α} {m:List γ} (hl:Bc R l m):Bc S (l.map g) m:=by
 induction hl with
 | nil=>exact .nil
 | cons r _ ih=>exact .cons (h _ _ r) ih
section
variable {st:St}
theorem TY {α:Type} {g:α->Fd} {R:α->List TV->Prop} {la:List α} {cks0:List (List TV)} (hR:∀a c,R a c->FdR st (g a) c) (hall0:Bc R la cks0) {s:Sc} {ub ul uf:TV} {f:List Fd} {xf:List TV} (hfe:f=la.map g) (hxe:xf=cks0.flatten) (hu:SlR st 14 uf f.length xf) (hn:f.length<=2000000) {K:TV->St->Prop}
  (hk:∀v st' (la':List α) (cks:List (List TV)) bs,la'.Perm la->Qc (la'.map g)->Ah st st'->BC st' 14 v la'.length cks.flatten bs->Bc R la' cks->bs.Nodup->(∀x,x∈bs->st.nb<=x)->K v st'):
  CallT PR FU [.agg [.int .i64 s.kind,.bool s.b,.bool s.neg,.str s.dg,.int .i64 s.ex,.int .i64 s.tk,.int .i64 s.td,.int .i64 s.tn,.int .i64 s.tz,.str s.text,ub,ul,uf]] [.one .tv] st K:=by
 have hall1:Bc (FdR st) f cks0:=hfe▸Bc.map_left hR hall0
 have hf:FsR st f xf:=hxe▸FsR.of_chunks hall1
 have hl:=hf.len
 have hlal:la.length=f.length:=by rw[hfe,List.length_map]
 have hsl:isSl uf=true:=by rcases hu with(⟨rfl,_⟩ | ⟨tip,rfl⟩) | ⟨b,off,cap,l,rfl,_⟩<;>rfl
 refine NZ _ _ _ _ _ _ _ _ _ _ _ _ _ st K (DG _ st _ (Ab hsl ?_))
 have empty:∀v,f=[]->isSl v=true->lenS v=0->(v= .nilSlice∨v= .list 14 .full 0 [])->CallT PR AF [v,.func DB []] [] st fun st2=>K v st2:=by
  intro v h0 h1 h2 h3
  refine Bg _ _ st _ (Ab h1 ?_)
  rw[h2]
  refine Rf ?_
  have hla:la=[]:=List.eq_nil_of_length_eq_zero (by rw[hlal,h0];rfl)
  refine hk v st [] [] [] (by rw[hla]) List.Pairwise.nil (Ah.refl _) (.inl ⟨rfl,rfl,rfl,?_⟩) .nil List.nodup_nil (fun x hx=>by cases hx)
  exact h3
 have hb:∀(X Y:Prop),(FT uf=true->X)->(FT uf=false->Y)->BIf (FT uf) X Y:=by
  intro X Y h1 h2
  cases hq:FT uf with
  | true=>exact h1 hq
  | false=>exact h2 hq
 refine hb _ _ (fun h=>?_) fun h=>?_
 ·have h0:f=[]:=by
   rcases hu with(⟨rfl,h1,_⟩ | ⟨tip,rfl⟩) | ⟨b,off,cap,l,rfl,_⟩
   ·exact List.eq_nil_of_length_eq_zero h1
   ·cases h
   ·cases h
  exact empty _ h0 rfl rfl (.inl rfl)
 ·refine Ac (hu.src hl) (Ab hf.all_one ?_)
  simp only[Jx,Nat.beq_refl]
  refine⟨by omega,?_⟩
  cases hlen:f.length with
  | zero=>
   have h0:f=[]:=List.eq_nil_of_length_eq_zero hlen
   exact empty _ h0 rfl rfl (.inr rfl)
  | succ m=>
   intro cap hcap
   subst hxe
   obtain⟨cks,hcke⟩:∃cks,cks=cks0:=⟨_,rfl⟩
   subst hcke
   have hall:=hall1
   have hcl:=hall.len
   obtain⟨st1,hst1⟩:∃st1,st1=st.push (.cells ([]++cks.flatten++FD ((cap-(0+(m+1)))*14))) (some Og):=⟨_,rfl⟩
   rw[<-hst1]
   have e1:Ah st st1:=hst1▸(Ah.refl st).push _ _
   have hbx:BxF st1 st.nb (0+(m+1)) cap cks:=by
    refine⟨by rw[hst1];simp[St.push],by omega,by omega,hall.cks,FD ((cap-(0+(m+1)))*14),by rw[hst1];simp[St.push],?_⟩
    rw[List.length_append,hl]
    simp only[FD,List.length_replicate]
    rw[<-Nat.add_mul];congr 1;omega
   refine PX SJ hbx (by omega) fun st2 W pw sw hb2 e2=>?_
   have e12:Ah st st2:=StX.ext e1 e2 (fun i hi=>by rw[hi];exact Nat.le_refl _)
   obtain⟨la',pla,hall'⟩:=hall0.perm pw
   have hlal':la'.length=0+(m+1):=by rw[pla.length_eq,hlal,hlen];omega
   obtain⟨tail,hbox,hbl⟩:=hb2.box
   have hWl:W.flatten.length=la'.length*14:=by rw[To hb2.ck,hb2.len,hlal']
   have hallF:Bc (FdR st) (la'.map g) W:=Bc.map_left hR hall'
   rw[<-hlal']
   exact hk _ st2 la' W [st.nb] pla (srtF_of hallF sw) e12 (.inr ⟨st.nb,cap,tail,rfl,hb2.lt,hbox,hbl,hWl,by rw[hlal'];exact hb2.le,rfl⟩) hall' (by simp) (fun x hx=>by rw[List.mem_singleton.1 hx];exact Nat.le_refl _)
end
end
section
def RV (st:St) (a:Vl×List Nat) (c:List TV):Prop:=VlO st a.1 c a.2
def RD (st:St) (a:Fd×List Nat) (c:List TV):Prop:=FdO st a.1 c a.2
theorem VsO.all2 {st:St}:∀{l:List Vl} {xs:List TV} {fp:List Nat},VsO st l xs fp->∃(la:List (Vl×List Nat)) (cks:List (List TV)),la.map Prod.fst=l/\cks.flatten=xs/\(la.map Prod.snd).flatten=fp/\Bc (RV st) la cks
 | [],xs,fp,h=>by unfold VsO at h;obtain⟨rfl,rfl⟩:=h;exact⟨[],[],rfl,rfl,rfl,.nil⟩
 | v::r,xs,fp,h=>by
  unfold VsO at h
  obtain⟨a,b,p,q,rfl,rfl,h1,h2⟩:=h
  obtain⟨la,cks,rfl,rfl,rfl,h3⟩:=VsO.all2 h2
  exact⟨(v,p)::la,a::cks,rfl,rfl,rfl,.cons h1 h3⟩
theorem VsO.of_all2 {st:St} {la:List (Vl×List Nat)} {cks:List (List TV)} (h:Bc (RV st) la cks):VsO st (la.map Prod.fst) cks.flatten (la.map Prod.snd).flatten:=by
 induction h with
 | nil=>unfold VsO;exact⟨rfl,rfl⟩
 | cons r _ ih=>simp only[List.map_cons,List.flatten_cons];unfold VsO;exact⟨_,_,_,_,rfl,rfl,r,ih⟩
theorem FsO.all2 {st:St}:∀{l:List Fd} {xs:List TV} {fp:List Nat},FsO st l xs fp->∃(la:List (Fd×List Nat)) (cks:List (List TV)),la.map Prod.fst=l/\cks.flatten=xs/\(la.map Prod.snd).flatten=fp/\Bc (RD st) la cks
 | [],xs,fp,h=>by unfold FsO at h;obtain⟨rfl,rfl⟩:=h;exact⟨[],[],rfl,rfl,rfl,.nil⟩
 | v::r,xs,fp,h=>by
  unfold FsO at h
  obtain⟨a,b,p,q,rfl,rfl,h1,h2⟩:=h
  obtain⟨la,cks,rfl,rfl,rfl,h3⟩:=FsO.all2 h2
  exact⟨(v,p)::la,a::cks,rfl,rfl,rfl,.cons h1 h3⟩
theorem FsO.of_all2 {st:St} {la:List (Fd×List Nat)} {cks:List (List TV)} (h:Bc (RD st) la cks):FsO st (la.map Prod.fst) cks.flatten (la.map Prod.snd).flatten:=by
 induction h with
 | nil=>unfold FsO;exact⟨rfl,rfl⟩
 | cons r _ ih=>simp only[List.map_cons,List.flatten_cons];unfold FsO;exact⟨_,_,_,_,rfl,rfl,r,ih⟩
theorem Bc.snoc {α β:Type} {R:α->β->Prop} {a:α} {b:β} {l:List α} {m:List β} (h:Bc R l m) (r:R a b):Bc R (l++[a]) (m++[b]):=by
 induction h with
 | nil=>exact .cons r .nil
 | cons r' _ ih=>exact .cons r' ih
theorem Bc.frameV {S:Nat->Prop} {st st':St} (e:StX S st st') {la:List (Vl×List Nat)} {cks:List (List TV)} (h:Bc (RV st) la cks) (hs:∀x,x∈(la.map Prod.snd).flatten->¬S x):Bc (RV st') la cks:=by
 induction h with
 | nil=>exact .nil
 | cons r _ ih=>
  simp only[List.map_cons,List.flatten_cons,List.mem_append]at hs
  exact .cons (VlO.frame e (fun x hx=>hs x (.inl hx)) r) (ih fun x hx=>hs x (.inr hx))
theorem Bc.frameD {S:Nat->Prop} {st st':St} (e:StX S st st') {la:List (Fd×List Nat)} {cks:List (List TV)} (h:Bc (RD st) la cks) (hs:∀x,x∈(la.map Prod.snd).flatten->¬S x):Bc (RD st') la cks:=by
 induction h with
 | nil=>exact .nil
 | cons r _ ih=>
  simp only[List.map_cons,List.flatten_cons,List.mem_append]at hs
  exact .cons (FdO.frame e (fun x hx=>hs x (.inl hx)) r) (ih fun x hx=>hs x (.inr hx))
theorem Bc.lenV {st:St} {la:List (Vl×List Nat)} {cks:List (List TV)} (h:Bc (RV st) la cks):cks.flatten.length=la.length*13:=by
 have:=(VsO.of_all2 h).rd.len
 rw[List.length_map]at this;exact this
theorem Bc.lenD {st:St} {la:List (Fd×List Nat)} {cks:List (List TV)} (h:Bc (RD st) la cks):cks.flatten.length=la.length*14:=by
 have:=(FsO.of_all2 h).rd.len
 rw[List.length_map]at this;exact this
theorem BC.store {st:St} {sz n i o:Nat} {u:TV} {A c B ys:List TV} {bs:List Nat} (h:BC st sz u n (A++c++B) bs) (hA:A.length=i*sz+o) (hc:0<c.length) (hy:ys.length=c.length) {k:St->Prop} (hk:∀st',BC st' sz u n (A++ys++B) bs->StX (·∈bs) st st'->k st'):stB st (AC (ixT sz u i) o) ys k:=by
 rcases h with⟨_,h1,_⟩ | ⟨b,cap,tail,rfl,h1,h2,h3,h4,h5,rfl⟩
 ·simp only[List.append_eq_nil_iff]at h1
  rw[h1.1.2]at hc
  exact absurd hc (by simp)
 ·have e:A++c++B++tail=A++c++(B++tail):=by simp
  have e2:setAll (A++c++B++tail) (0+i*sz+o) ys=A++ys++B++tail:=by
   rw[e,show 0+i*sz+o=A.length by omega,IE ys A c (B++tail) hy];simp
  refine⟨_,h2,by simp only[List.length_append];omega,?_⟩
  rw[e2]
  refine hk _ (.inr ⟨b,cap,tail,rfl,h1,by simp[St.put],?_,?_,h5,rfl⟩) (StX.put (S:=(·∈ [b])) (.head _) _)
  ·simp only[List.length_append]at h3⊢;omega
  ·simp only[List.length_append]at h4⊢;omega
theorem BC.ld {st:St} {sz n i o:Nat} {u:TV} {A c B:List TV} {bs:List Nat} (h:BC st sz u n (A++c++B) bs) (hA:A.length=i*sz+o) (hc:0<c.length):Al st [] (.t (AC (ixT sz u i) o)) 0 c.length=some c:=by
 rcases h with⟨_,h1,_⟩ | ⟨b,cap,tail,rfl,h1,h2,h3,h4,h5,rfl⟩
 ·simp only[List.append_eq_nil_iff]at h1
  rw[h1.1.2]at hc
  exact absurd hc (by simp)
 ·exact IL (B:=B++tail) c _ 0 (0+i*sz+o) h2 (by
   rw[show 0+i*sz+o+0=A.length by omega,List.append_assoc,List.append_assoc,List.drop_left])
theorem fld0 {st:St} {sz n i:Nat} {u:TV} {xs:List TV} {bs:List Nat} (h:BC st sz u n xs bs) (hn:0<n):AC (ixT sz u i) 0=ixT sz u i/\isPtr (ixT sz u i)=true:=by
 rcases h with⟨h1,_⟩ | ⟨b,cap,tail,rfl,_⟩
 ·omega
 ·exact⟨rfl,rfl⟩
mutual
def KNd:Vl->Prop
 | .mk _ l f=>R9 l/\Kg f/\Sa f
def R9:List Vl->Prop
 | []=>True
 | v::r=>KNd v/\R9 r
def YU:Fd->Prop
 | .mk _ v=>KNd v
def Sa:List Fd->Prop
 | []=>True
 | d::r=>YU d/\Sa r
end
theorem R9.mem:∀{l:List Vl} {v:Vl},R9 l->v∈l->KNd v
 | [],v,_,h=>by cases h
 | w::r,v,hk,h=>by
  unfold R9 at hk
  rcases List.mem_cons.1 h with rfl | h
  ·exact hk.1
  ·exact R9.mem hk.2 h
theorem Sa.mem:∀{l:List Fd} {v:Fd},Sa l->v∈l->YU v
 | [],v,_,h=>by cases h
 | w::r,v,hk,h=>by
  unfold Sa at hk
  rcases List.mem_cons.1 h with rfl | h
  ·exact hk.1
  ·exact Sa.mem hk.2 h
theorem Oy {l:List Vl} {v:Vl} (h:v∈l):v.sz<=Ct l:=by
 obtain⟨i,hi⟩:=List.getElem?_of_mem h
 exact EO hi
theorem J8 {l:List Fd} {v:Fd} (h:v∈l):v.sz<=BS l:=by
 obtain⟨i,hi⟩:=List.getElem?_of_mem h
 exact FH hi
end
theorem StX.out2 {S T:Nat->Prop} {a b c:St} (h:StX S a b) (k:StX T b c) (hs:∀i,i<a.nb->T i->S i):StX S a c:=
 ⟨Nat.le_trans h.nb k.nb,fun i hi g=>(k.box i (Nat.lt_of_lt_of_le hi h.nb) fun t=>g (hs i hi t)).trans (h.box i hi g),Nat.le_trans h.nt k.nt,fun i hi=>(k.live i (Nat.lt_of_lt_of_le hi h.nt)).trans (h.live i hi),fun i hi=>(k.ty i (Nat.lt_of_lt_of_le hi h.nt)).trans (h.ty i hi),fun i hi=>(k.bt i (Nat.lt_of_lt_of_le hi h.nb)).trans (h.bt i hi)⟩
theorem Xh {A p q B:List Nat} {m:Nat} (h:(A++(p++B)).Nodup) (hA:∀x,x∈A->x<m) (hB:∀x,x∈B->x<m) (hq:q.Nodup) (hin:∀x,x∈q->x∈p∨m<=x):(A++q++B).Nodup:=by
 obtain⟨h1,h2,h3⟩:=List.nodup_append.1 h
 obtain⟨h4,h5,h6⟩:=List.nodup_append.1 h2
 refine CQ (CQ h1 hq fun x hx hx'=>?_) h5 fun x hx hx'=>?_
 ·rcases hin x hx' with h | h
  ·exact h3 x hx x (List.mem_append_left _ h) rfl
  ·have:=hA x hx;omega
 ·rcases List.mem_append.1 hx with hx | hx
  ·exact h3 x hx x (List.mem_append_right _ hx') rfl
  ·rcases hin x hx with h | h
   ·exact h6 x h x hx' rfl
   ·have:=hB x hx';omega
theorem fldT0 {st:St} {sz n i:Nat} {u:TV} {xs:List TV} {bs:List Nat} (h:BC st sz u n xs bs) (hn:0<n):ixT sz u i=AC (ixT sz u i) 0:=((fld0 h hn).1).symm
theorem TH:∀(N:Nat) (v:Vl),v.sz<=N->N<=2000000->KNd v->∀{st:St} {cs:List TV} {fp:List Nat} {K:Int->Bool->Bool->B8->Int->Int->Int->Int->Int->B8->TV->TV->TV->St->Prop},VlO st v cs fp->fp.Nodup->
  (∀ub ul uf st' fp',VlO st' (Bk v) (AI v.sc ub ul uf) fp'->Ar ub=true->Ar ul=true->Ar uf=true->fp'.Nodup->(∀x,x∈fp'->x∈fp∨st.nb<=x)->StX (·∈fp) st st'->K v.sc.kind v.sc.b v.sc.neg v.sc.dg v.sc.ex v.sc.tk v.sc.td v.sc.tn v.sc.tz v.sc.text ub ul uf st')->
  CallT PR CD [.agg cs] [.agg [.int .i64,.bool,.bool,.str,.int .i64,.int .i64,.int .i64,.int .i64,.int .i64,.str,.tv,.tv,.tv]] st K:=by
 intro N
 induction N with
 | zero=>intro v h;have:=v.sz_pos;omega
 | succ N ih=>
 intro v hN hN2 hkn st cs fp K h hnd hk
 cases v with
 | mk s l f=>
 have hsz:(Vl.mk s l f).sz=1+s.bytes.length+s.text.length+s.dg.length+Ct l+BS f:=by unfold Vl.sz;rfl
 have hll:=DF l
 have hfl:=CC f
 unfold KNd at hkn
 obtain⟨kn1,kn2,kn3⟩:=hkn
 unfold VlO at h
 obtain⟨ub,ul,uf,xl,xf,bb,bl,bf,fl,ff,rfl,h1,h2,h3,h4,h5,rfl⟩:=h
 obtain⟨la,cl,rfl,rfl,rfl,hal⟩:=h3.all2
 obtain⟨lf,cf,rfl,rfl,rfl,haf⟩:=h5.all2
 simp only[List.length_map]at h2 h4 hll hfl
 obtain⟨FL,hFL⟩:∃FL,FL=(la.map Prod.snd).flatten:=⟨_,rfl⟩
 obtain⟨FF,hFF⟩:∃FF,FF=(lf.map Prod.snd).flatten:=⟨_,rfl⟩
 rw[<-hFL,<-hFF]at hnd
 obtain⟨nb1,nd2,dj1⟩:=List.nodup_append.1 hnd
 obtain⟨nb2,nd3,dj2⟩:=List.nodup_append.1 nd2
 obtain⟨nb3,nd4,dj3⟩:=List.nodup_append.1 nd3
 obtain⟨nb4,nb5,dj4⟩:=List.nodup_append.1 nd4
 have hltL:∀x,x∈FL->x<st.nb:=hFL▸(VsO.of_all2 hal).lt
 have hltF:∀x,x∈FF->x<st.nb:=hFF▸(FsO.of_all2 haf).lt
 have hltl:=h2.lt
 refine Lz _ _ _ _ _ _ _ _ _ _ _ _ _ st K (Ab h2.rd.isSl ?_)
 refine⟨fun n1 n2 a1 a2 a3 a4 a5 a6 a7 a8 a9 a10 a11 a12 a13 _ _ _ _ _ _ _ _ _ _ _ _ _ st'=>(la.length:Int)=n2/\s.kind=a1/\s.b=a2/\s.neg=a3/\s.dg=a4/\s.ex=a5/\s.tk=a6/\s.td=a7/\s.tn=a8/\s.tz=a9/\s.text=a10/\ub=a11/\ul=a12/\uf=a13/\
   ∃(D T:List (Vl×List Nat)) (cD cT:List (List TV)),n1=(D.length:Int)/\D.length+T.length=la.length/\D.map Prod.fst++(T.map Prod.fst).map Bk=(la.map Prod.fst).map Bk/\(∀a,a∈T->a∈la)/\
    Bc (RV st') D cD/\Bc (RV st') T cT/\BC st' 13 ul la.length (cD.flatten++cT.flatten) bl/\((D.map Prod.snd).flatten++(T.map Prod.snd).flatten).Nodup/\(∀x,x∈(D.map Prod.snd).flatten++(T.map Prod.snd).flatten->x∈FL∨st.nb<=x)/\(∀x,x∈(T.map Prod.snd).flatten->x∈FL)/\StX (·∈bl++FL) st st',
  fun n1 _ _ _ _ _ _ _ _ _ _ _ _ _ _ _ _ _ _ _ _ _ _ _ _ _ _ _ _=>(la.length-n1).toNat,⟨by rw[h2.rd.lenS],rfl,rfl,rfl,rfl,rfl,rfl,rfl,rfl,rfl,rfl,rfl,rfl,rfl,[],la,[],cl,rfl,by simp,rfl,fun a h=>h,.nil,hal,by simpa using h2,by simpa [hFL]using nb3,fun x hx=> .inl (by simpa [hFL]using hx),fun x hx=>hFL▸hx,StX.refl _ _⟩,?_⟩
 rintro _ _ _ _ _ _ _ _ _ _ _ _ _ _ _ _ _ _ _ _ _ _ _ _ _ _ _ _ st1 ⟨rfl,rfl,rfl,rfl,rfl,rfl,rfl,rfl,rfl,rfl,rfl,rfl,rfl,rfl,D,T,cD,cT,rfl,hDT,hmap,hTm,aD,aT,ho,hn1,hin,hTF,e1⟩
 have e1n:=e1.nb
 refine Aa (fun g=>?_) fun g=>?_
 ·cases aT with
  | nil=>simp at hDT;omega
  | cons r aT=>
  rename_i a c T cT
  obtain⟨w,p⟩:=a
  have hw:VlO st1 w c p:=r
  have hwm:w∈la.map Prod.fst:=List.mem_map_of_mem (f:=Prod.fst) (hTm (w,p) (.head _))
  have hwsz:=Oy hwm
  simp only[List.length_cons]at hDT
  simp only[List.map_cons,List.flatten_cons]at hn1 hin hTF hmap ho
  have hclen:=hw.rd.len
  have lD:=aD.lenV
  have ho':BC st1 13 ul la.length (cD.flatten++c++cT.flatten) bl:=by simpa using ho
  have hld:=ho'.ld (i:=D.length) (o:=0) (by omega) (by omega)
  rw[<-fldT0 ho' (by omega),hclen]at hld
  obtain⟨m1,m2,m3⟩:=List.nodup_append.1 hn1
  obtain⟨m4,m5,m6⟩:=List.nodup_append.1 m2
  have hw0:=hw
  cases w with
  | mk s' l' f'=>
  unfold VlO at hw0
  obtain⟨ub',ul',uf',xl',xf',bb',bl',bf',fl',ff',rfl,w1,w2,w3,w4,w5,rfl⟩:=hw0
  have hlz:TVF.lenZ 13 ul=la.length:=ho.rd.lenZ
  rw[hlz,Int.toNat_natCast]
  refine⟨⟨by omega,by omega⟩,Ac (x:= .agg _) (by rw[hld];rfl) (Nv ?_)⟩
  refine ih _ (by omega) (by omega) (kn1.mem hwm) hw m4 fun ub2 ul2 uf2 st2 fp2 hO o1 o2 o3 ndp inp e2=>⟨⟨by omega,by omega⟩,Ab (Bv o1 o2 o3) ?_⟩
  generalize hp:(bb'++(bl'++(fl'++(bf'++ff'))))=p at*
  have hpF:∀x,x∈p->x∈FL:=fun x hx=>hTF x (List.mem_append_left _ hx)
  have e2n:=e2.nb
  have ho2:BC st2 13 ul la.length (cD.flatten++[.int .i64 s'.kind,.bool s'.b,.bool s'.neg,.str s'.dg,.int .i64 s'.ex,.int .i64 s'.tk,.int .i64 s'.td,.int .i64 s'.tn,.int .i64 s'.tz,.str s'.text,ub',ul',uf']++cT.flatten) bl:=
   ho'.frame e2 fun x hx hx'=>dj2 x hx x (List.mem_append_left _ (hpF x hx')) rfl
  rw[fldT0 ho2 (by omega)]
  refine ho2.store (ys:=AI s' ub2 ul2 uf2) (by omega) (by simp) rfl fun st3 ho3 e3=>?_
  have blx:∀x,x∈bl->x<st.nb:=hltl
  have aD3:Bc (RV st3) D cD:=(aD.frameV e2 fun x hx hx'=>m3 x hx x (List.mem_append_left _ hx') rfl).frameV e3 fun x hx hx'=>by
   rcases hin x (List.mem_append_left _ hx)with h | h
   ·exact dj2 x hx' x (List.mem_append_left _ h) rfl
   ·have:=blx x hx';omega
  have aT3:Bc (RV st3) T cT:=(aT.frameV e2 fun x hx hx'=>m6 x hx' x hx rfl).frameV e3 fun x hx hx'=>dj2 x hx' x (List.mem_append_left _ (hTF x (List.mem_append_right _ hx))) rfl
  have hO3:VlO st3 (Bk (.mk s' l' f')) (AI s' ub2 ul2 uf2) fp2:=hO.frame e3 fun x hx hx'=>by
   rcases inp x hx with h | h
   ·exact dj2 x hx' x (List.mem_append_left _ (hpF x h)) rfl
   ·have:=blx x hx';omega
  refine⟨⟨rfl,rfl,rfl,rfl,rfl,rfl,rfl,rfl,rfl,rfl,rfl,rfl,rfl,rfl,D++[(Bk (.mk s' l' f'),fp2)],T,cD++[AI s' ub2 ul2 uf2],cT,?_,?_,?_,fun a ha=>hTm a (.tail _ ha),aD3.snoc hO3,aT3,?_,?_,?_,fun x hx=>hTF x (List.mem_append_right _ hx),?_⟩,?_⟩
  ·rw[Ad _ (by omega) (by omega)];simp
  ·simp only[List.length_append,List.length_cons,List.length_nil];omega
  ·rw[<-hmap];simp
  ·simpa using ho3
  ·have:=Xh hn1 (VsO.of_all2 aD).lt (VsO.of_all2 aT).lt ndp inp
   simpa using this
  ·intro x hx
   simp only[List.map_append,List.map_cons,List.map_nil,List.flatten_append,List.flatten_cons,List.flatten_nil,List.append_nil,List.mem_append]at hx
   rcases hx with(hx | hx) | hx
   ·exact hin x (List.mem_append_left _ hx)
   ·rcases inp x hx with h | h
    ·exact .inl (hpF x h)
    ·exact .inr (by omega)
   ·exact .inl (hTF x (List.mem_append_right _ hx))
  ·exact(e1.trans (e2.mono fun x hx=>List.mem_append_right _ (hpF x hx))).trans (e3.mono fun x hx=>List.mem_append_left _ hx)
  ·dsimp only
   rw[Ad _ (by omega) (by omega)];omega
 ·have hT0:T=[]:=List.eq_nil_of_length_eq_zero (by omega)
  subst hT0
  cases aT
  simp only[List.map_nil,List.append_nil,List.flatten_nil]at hmap ho hn1 hin
  have hbb:=h1.lt
  have hbf:=h4.lt
  have disjS:∀x,x∈bl++FL->x∉bf/\x∉FF/\x∉bb:=fun x hx=>by
   rcases List.mem_append.1 hx with hx | hx
   ·exact⟨fun h=>dj2 x hx x (List.mem_append_right _ (List.mem_append_left _ h)) rfl,fun h=>dj2 x hx x (List.mem_append_right _ (List.mem_append_right _ h)) rfl,fun h=>dj1 x h x (List.mem_append_left _ hx) rfl⟩
   ·exact⟨fun h=>dj3 x hx x (List.mem_append_left _ h) rfl,fun h=>dj3 x hx x (List.mem_append_right _ h) rfl,fun h=>dj1 x h x (List.mem_append_right _ (List.mem_append_left _ hx)) rfl⟩
  have haf1:Bc (RD st1) lf cf:=haf.frameD e1 fun x hx hx'=>(disjS x hx').2.1 (hFF▸hx)
  have h41:=h4.frame e1 fun x hx hx'=>(disjS x hx').1 hx
  have hu1:SlR st1 14 uf (lf.map Prod.fst).length cf.flatten:=by rw[List.length_map];exact h41.rd
  refine TY (g:=Prod.fst) (R:=RD st1) (fun a c r=>FdO.rd r) haf1 rfl rfl hu1 (by rw[List.length_map];omega) fun v13 st4 la' ck' bs hpm hsr e4 ho4 ha4 ndb lob=>?_
  have hlen':la'.length=lf.length:=hpm.length_eq
  have hkey:la'.map Prod.fst=Bl (lf.map Prod.fst):=V1 kn2 (hpm.map _) hsr
  have hpF:∀x,x∈(la'.map Prod.snd).flatten->x∈FF:=fun x hx=>by
   rw[hFF]
   simp only[List.mem_flatten,List.mem_map]at hx⊢
   obtain⟨q,⟨a,ha,rfl⟩,hx⟩:=hx
   exact⟨_,⟨a,hpm.mem_iff.1 ha,rfl⟩,hx⟩
  have hndF:((la'.map Prod.snd).flatten).Nodup:=by
   have:((la'.map Prod.snd).flatten).Perm FF:=by rw[hFF];exact(hpm.map _).flatten
   exact this.nodup_iff.2 nb5
  have ha4':Bc (RD st4) la' ck':=ha4.frameD (StX.of (S:=fun _=>False) e4) (fun _ _ h=>h)
  have e4n:=e4.nb
  refine Ab (by rw[List.all_cons,ho4.rd.one];rfl) (Ab ho4.rd.isSl ?_)
  refine⟨fun n1 n2 a1 a2 a3 a4 a5 a6 a7 a8 a9 a10 a11 a12 a13 _ _ _ _ _ _ _ _ _ _ _ _ _ st'=>(la'.length:Int)=n2/\s.kind=a1/\s.b=a2/\s.neg=a3/\s.dg=a4/\s.ex=a5/\s.tk=a6/\s.td=a7/\s.tn=a8/\s.tz=a9/\s.text=a10/\ub=a11/\ul=a12/\v13=a13/\
    ∃(E T:List (Fd×List Nat)) (cE cT:List (List TV)),n1=(E.length:Int)/\E.length+T.length=la'.length/\E.map Prod.fst++(T.map Prod.fst).map CJ=(la'.map Prod.fst).map CJ/\(∀a,a∈T->a∈la')/\
     Bc (RD st') E cE/\Bc (RD st') T cT/\BC st' 14 v13 la'.length (cE.flatten++cT.flatten) bs/\((E.map Prod.snd).flatten++(T.map Prod.snd).flatten).Nodup/\(∀x,x∈(E.map Prod.snd).flatten++(T.map Prod.snd).flatten->x∈FF∨st4.nb<=x)/\(∀x,x∈(T.map Prod.snd).flatten->x∈FF)/\StX (·∈bs++FF) st4 st',
   fun n1 _ _ _ _ _ _ _ _ _ _ _ _ _ _ _ _ _ _ _ _ _ _ _ _ _ _ _ _=>(la'.length-n1).toNat,⟨by rw[ho4.rd.lenS],rfl,rfl,rfl,rfl,rfl,rfl,rfl,rfl,rfl,rfl,rfl,rfl,rfl,[],la',[],ck',rfl,by simp,rfl,fun a h=>h,.nil,ha4',by simpa using ho4,by simpa using hndF,fun x hx=> .inl (hpF x (by simpa using hx)),hpF,StX.refl _ _⟩,?_⟩
  rintro _ _ _ _ _ _ _ _ _ _ _ _ _ _ _ _ _ _ _ _ _ _ _ _ _ _ _ _ st5 ⟨rfl,rfl,rfl,rfl,rfl,rfl,rfl,rfl,rfl,rfl,rfl,rfl,rfl,rfl,E,T,cE,cT,rfl,hET,hmap2,hTm2,aE,aT2,ho5,hn5,hin5,hTF5,e5⟩
  have e5n:=e5.nb
  refine Aa (fun g=>?_) fun g=>?_
  ·cases aT2 with
   | nil=>simp at hET;omega
   | cons r aT2=>
   rename_i a c T cT
   obtain⟨d,p⟩:=a
   cases d with
   | mk key w=>
   have hd:FdO st5 (.mk key w) c p:=r
   unfold FdO at hd
   obtain⟨cw,rfl,hw⟩:=hd
   have hdm:(Fd.mk key w,p)∈lf:=hpm.mem_iff.1 (hTm2 _ (.head _))
   have hwm:Fd.mk key w∈lf.map Prod.fst:=List.mem_map_of_mem (f:=Prod.fst) hdm
   have hwsz:=J8 hwm
   have hwk:(Fd.mk key w).sz=key.length+w.sz:=by unfold Fd.sz;rfl
   have hkw:KNd w:=by have:=kn3.mem hwm;unfold YU at this;exact this
   simp only[List.length_cons]at hET
   simp only[List.map_cons,List.flatten_cons]at hn5 hin5 hTF5 hmap2 ho5
   have hclen:=hw.rd.len
   have lE:=aE.lenD
   have ho':BC st5 14 v13 la'.length ((cE.flatten++[.str key])++cw++cT.flatten) bs:=by simpa using ho5
   have lE1:(cE.flatten++[TV.str key]).length=E.length*14+1:=by simp only[List.length_append,List.length_cons,List.length_nil];omega
   have hld:=ho'.ld (i:=E.length) (o:=1) lE1 (by omega)
   rw[hclen]at hld
   obtain⟨m1,m2,m3⟩:=List.nodup_append.1 hn5
   obtain⟨m4,m5,m6⟩:=List.nodup_append.1 m2
   have hw0:=hw
   cases w with
   | mk s' l' f'=>
   unfold VlO at hw0
   obtain⟨ub',ul',uf',xl',xf',bb',bl',bf',fl',ff',rfl,w1,w2,w3,w4,w5,rfl⟩:=hw0
   have hlz:TVF.lenZ 14 v13=la'.length:=ho5.rd.lenZ
   rw[hlz,Int.toNat_natCast]
   refine⟨⟨by omega,by omega⟩,Ab (fld0 ho5 (by omega)).2 (Ac (x:= .agg _) (by rw[hld];rfl) (Nv ?_))⟩
   refine ih _ (by omega) (by omega) hkw hw m4 fun ub2 ul2 uf2 st6 fp2 hO o1 o2 o3 ndp inp e6=>⟨⟨by omega,by omega⟩,Ab (fld0 ho5 (by omega)).2 (Ab (Bv o1 o2 o3) ?_)⟩
   generalize hp:(bb'++(bl'++(fl'++(bf'++ff'))))=p at*
   have hpF2:∀x,x∈p->x∈FF:=fun x hx=>hTF5 x (List.mem_append_left _ hx)
   have e6n:=e6.nb
   have bsx:∀x,x∈bs->x<st4.nb:=ho4.lt
   have bsF:∀x,x∈bs->x∉FF:=fun x hx hx'=>by have:=lob x hx;have:=hltF x hx';omega
   refine(ho'.frame e6 fun x hx hx'=>bsF x hx (hpF2 x hx')).store (ys:=AI s' ub2 ul2 uf2) lE1 (by simp) rfl fun st7 ho7 e7=>?_
   have bsOut:∀x,x∈FF∨st4.nb<=x->x∉bs:=fun x h hx=>by
    rcases h with h | h
    ·exact bsF x hx h
    ·have:=bsx x hx;omega
   have aE7:Bc (RD st7) E cE:=(aE.frameD e6 fun x hx hx'=>m3 x hx x (List.mem_append_left _ hx') rfl).frameD e7 fun x hx=>bsOut x (hin5 x (List.mem_append_left _ hx))
   have aT7:Bc (RD st7) T cT:=(aT2.frameD e6 fun x hx hx'=>m6 x hx' x hx rfl).frameD e7 fun x hx=>bsOut x (.inl (hTF5 x (List.mem_append_right _ hx)))
   have hO7:FdO st7 (CJ (.mk key (.mk s' l' f'))) (.str key::AI s' ub2 ul2 uf2) fp2:=by
    unfold CJ FdO
    exact⟨_,rfl,hO.frame e7 fun x hx=>bsOut x ((inp x hx).elim (fun h=> .inl (hpF2 x h)) fun h=> .inr (by omega))⟩
   refine⟨⟨rfl,rfl,rfl,rfl,rfl,rfl,rfl,rfl,rfl,rfl,rfl,rfl,rfl,rfl,E++[(CJ (.mk key (.mk s' l' f')),fp2)],T,cE++[.str key::AI s' ub2 ul2 uf2],cT,?_,?_,?_,fun a ha=>hTm2 a (.tail _ ha),aE7.snoc hO7,aT7,?_,?_,?_,fun x hx=>hTF5 x (List.mem_append_right _ hx),?_⟩,?_⟩
   ·rw[Ad _ (by omega) (by omega)];simp
   ·simp only[List.length_append,List.length_cons,List.length_nil];omega
   ·rw[<-hmap2];simp
   ·simpa using ho7
   ·have:=Xh hn5 (FsO.of_all2 aE).lt (FsO.of_all2 aT2).lt ndp inp
    simpa using this
   ·intro x hx
    simp only[List.map_append,List.map_cons,List.map_nil,List.flatten_append,List.flatten_cons,List.flatten_nil,List.append_nil,List.mem_append]at hx
    rcases hx with(hx | hx) | hx
    ·exact hin5 x (List.mem_append_left _ hx)
    ·rcases inp x hx with h | h
     ·exact .inl (hpF2 x h)
     ·exact .inr (by omega)
    ·exact .inl (hTF5 x (List.mem_append_right _ hx))
   ·exact(e5.trans (e6.mono fun x hx=>List.mem_append_right _ (hpF2 x hx))).trans (e7.mono fun x hx=>List.mem_append_left _ hx)
   ·dsimp only
    rw[Ad _ (by omega) (by omega)];omega
  ·have hT0:T=[]:=List.eq_nil_of_length_eq_zero (by omega)
   subst hT0
   cases aT2
   simp only[List.map_nil,List.append_nil,List.flatten_nil]at hmap2 ho5 hn5 hin5
   have hD1:∀x,x∈(D.map Prod.snd).flatten->x<st1.nb:=(VsO.of_all2 aD).lt
   --what the last steps left alone
   have disjT:∀x,(x∈bb∨x∈bl∨x∈(D.map Prod.snd).flatten)->x∉bs++FF:=fun x hx hx'=>by
    rcases List.mem_append.1 hx' with h | h
    ·have h9:=lob x h
     rcases hx with hx | hx | hx
     ·have:=hbb x hx;omega
     ·have:=hltl x hx;omega
     ·have:=hD1 x hx;omega
    ·rcases hx with hx | hx | hx
     ·exact dj1 x hx x (List.mem_append_right _ (List.mem_append_right _ (List.mem_append_right _ h))) rfl
     ·exact dj2 x hx x (List.mem_append_right _ (List.mem_append_right _ h)) rfl
     ·rcases hin x hx with h8 | h8
      ·exact dj3 x h8 x (List.mem_append_right _ h) rfl
      ·have:=hltF x h;omega
   have f0:=StX.of (S:=fun _=>False) e4
   have hb5:=((h1.frame e1 fun x hx hx'=>(disjS x hx').2.2 hx).frame f0 (fun _ _ h=>h)).frame e5 fun x hx=>disjT x (.inl hx)
   have hl5:=(ho.frame f0 (fun _ _ h=>h)).frame e5 fun x hx=>disjT x (.inr (.inl hx))
   have hD5:=(aD.frameV f0 (fun _ _ h=>h)).frameV e5 fun x hx=>disjT x (.inr (.inr hx))
   have lenD:D.length=la.length:=by omega
   refine Ab (Bv h1.rd.one h2.rd.one ho4.rd.one) (hk ub ul v13 st5 (bb++(bl++((D.map Prod.snd).flatten++(bs++(E.map Prod.snd).flatten)))) ?_ h1.rd.one h2.rd.one ho4.rd.one ?_ ?_ ?_)
   ·unfold Bk VlO
    refine⟨ub,ul,v13,cD.flatten,cE.flatten,bb,bl,bs,_,_,rfl,hb5,?_,?_,?_,?_,rfl⟩
    ·rw[Gx,List.length_map,List.length_map];exact hl5
    ·rw[Gx,<-hmap];exact VsO.of_all2 hD5
    ·rw[(Cz _).length_eq,Gy,List.length_map,List.length_map,<-hlen'];exact ho5
    ·rw[Gy,Lc M9,<-hkey,<-hmap2];exact FsO.of_all2 aE
   ·have ltst4:∀x,x∈bs->st1.nb<=x/\x<st4.nb:=fun x hx=>⟨lob x hx,ho4.lt x hx⟩
    refine CQ nb1 (CQ nb2 (CQ hn1 (CQ ndb hn5 fun x hx hx'=>?_) fun x hx hx'=>?_) fun x hx hx'=>?_) fun x hx hx'=>?_
    ·have:=ltst4 x hx
     rcases hin5 x hx' with h | h
     ·have:=hltF x h;omega
     ·omega
    ·have q1:=hD1 x hx
     rcases List.mem_append.1 hx' with hx' | hx'
     ·have:=ltst4 x hx';omega
     ·rcases hin5 x hx' with h | h
      ·rcases hin x hx with h8 | h8
       ·exact dj3 x h8 x (List.mem_append_right _ h) rfl
       ·have:=hltF x h;omega
      ·omega
    ·have q1:=hltl x hx
     rcases List.mem_append.1 hx' with hx' | hx'
     ·rcases hin x hx' with h8 | h8
      ·exact dj2 x hx x (List.mem_append_left _ h8) rfl
      ·omega
     ·rcases List.mem_append.1 hx' with hx' | hx'
      ·have:=ltst4 x hx';omega
      ·rcases hin5 x hx' with h | h
       ·exact dj2 x hx x (List.mem_append_right _ (List.mem_append_right _ h)) rfl
       ·omega
    ·have q1:=hbb x hx
     rcases List.mem_append.1 hx' with hx' | hx'
     ·exact dj1 x hx x (List.mem_append_left _ hx') rfl
     ·rcases List.mem_append.1 hx' with hx' | hx'
      ·rcases hin x hx' with h8 | h8
       ·exact dj1 x hx x (List.mem_append_right _ (List.mem_append_left _ h8)) rfl
       ·omega
      ·rcases List.mem_append.1 hx' with hx' | hx'
       ·have:=ltst4 x hx';omega
       ·rcases hin5 x hx' with h | h
        ·exact dj1 x hx x (List.mem_append_right _ (List.mem_append_right _ (List.mem_append_right _ h))) rfl
        ·omega
   ·intro x hx
    rw[<-hFL,<-hFF]
    simp only[List.mem_append]at hx⊢
    rcases hx with hx | hx | hx | hx | hx
    ·exact .inl (.inl hx)
    ·exact .inl (.inr (.inl hx))
    ·rcases hin x hx with h8 | h8
     ·exact .inl (.inr (.inr (.inl h8)))
     ·exact .inr h8
    ·have:=lob x hx;exact .inr (by omega)
    ·rcases hin5 x hx with h | h
     ·exact .inl (.inr (.inr (.inr (.inr h))))
     ·exact .inr (by omega)
   ·rw[<-hFL,<-hFF]
    refine(((e1.mono fun x hx=>?_).trans (StX.of e4))).out2 e5 fun i hi hx=>?_
    ·simp only[List.mem_append]at hx⊢
     rcases hx with hx | hx
     ·exact .inr (.inl hx)
     ·exact .inr (.inr (.inl hx))
    ·simp only[List.mem_append]at hx⊢
     rcases hx with hx | hx
     ·have:=lob i hx;omega
     ·exact .inr (.inr (.inr (.inr hx)))
theorem copy_ok {v:Vl} (hN:v.sz<=2000000) (hC:v.cnt<=65536) {st:St} {cs:List TV} {K:Int->Bool->Bool->B8->Int->Int->Int->Int->Int->B8->TV->TV->TV->St->Prop} (h:VlR st v cs)
  (hk:∀ub ul uf st' fp,VlO st' v (AI v.sc ub ul uf) fp->Ar ub=true->Ar ul=true->Ar uf=true->fp.Nodup->(∀x,x∈fp->st.nb<=x)->Ah st st'->K v.sc.kind v.sc.b v.sc.neg v.sc.dg v.sc.ex v.sc.tk v.sc.td v.sc.tn v.sc.tz v.sc.text ub ul uf st'):
  CallT PR Ho [.agg cs] [.agg [.int .i64,.bool,.bool,.str,.int .i64,.int .i64,.int .i64,.int .i64,.int .i64,.str,.tv,.tv,.tv]] st K:=by
 have h0:=h
 cases v with
 | mk s l f=>
 unfold VlR at h0
 obtain⟨ub,ul,uf,xl,xf,rfl,_⟩:=h0
 exact PO _ _ _ _ _ _ _ _ _ _ _ _ _ st K (WH 2000000 _ hN (by omega) h (by omega) (by omega) fun ub ul uf st' fp g o1 o2 o3 nd lo e=>Ab (Bv o1 o2 o3) (hk ub ul uf st' fp g o1 o2 o3 nd lo e))
theorem Ey {T:Nat} {st0 st:St} {v:TV} {l ys:B8} {k:Nat} {xs:List TV} {K:TV->St->Prop} (e:Ah st0 st) (h:En st0.nt st v l) (hkl:k=ys.length) (hx:xs=At ys) (hby:l.length+ys.length<=140737488355328)
  (hK:∀v' st',Ah st0 st'->st'.box=st.box->En st0.nt st' v' (l++ys)->K v' st'):A5 T 1 1 v k xs st K:=by
 subst hkl hx
 exact Fq e h hby hK
section
structure ScOk (s:Sc):Prop where
 k0:0<=s.kind
 k7:s.kind<=7
 dg:s.dg.length<=10000000
 e1: -1000000<=s.ex
 e2:s.ex<=1000000
 t0:0<=s.tk
 t4:s.tk<=255
 d0:0<=s.td
 d1:s.td<=100000000000
 n0:0<=s.tn
 n1:s.tn<=100000000000000
 z0: -1000000<=s.tz
 z1:s.tz<=1000000
mutual
def VOk:Vl->Prop
 | .mk s l f=>ScOk s/\YT l/\YV f
def YT:List Vl->Prop
 | []=>True
 | v::r=>VOk v/\YT r
def FdOk:Fd->Prop
 | .mk _ v=>VOk v
def YV:List Fd->Prop
 | []=>True
 | d::r=>FdOk d/\YV r
end
end
section
structure FM (s:Sc) (l:List Vl) (f:List Fd):Prop where
 k0:0<=s.kind
 k7:s.kind<=7
 bo:s.kind≠1->s.b=false
 nu:s.kind≠2->s.neg=false/\s.dg=[]/\s.ex=0
 ti:s.kind≠3->s.tk=0/\s.td=0/\s.tn=0/\s.tz=0
 tx:s.kind≠4->s.text=[]
 by_:s.kind≠5->s.bytes=[]
 ls:s.kind≠6->l=[]
 fs:s.kind≠7->f=[]
noncomputable instance (s:Sc) (l:List Vl) (f:List Fd):Decidable (FM s l f):=Classical.propDecidable _
def U8 (s:B8):Prop:=GV s=s.length
instance (s:B8):Decidable (U8 s):=inferInstanceAs (Decidable (_=_))
def Es (seen:List B8):List Fd->Nat
 | []=>0
 | d::r=>if U8 d.key then(if 1024<d.key.length then 10 else if d.key∈seen then 8 else Es (d.key::seen) r)else 5
noncomputable def DK (s:Sc) (l:List Vl) (f:List Fd):Nat:=
 if FM s l f then(if Cu s.neg s.dg s.ex then(if s.kind=3->BW s.tk s.td s.tn s.tz then(if U8 s.text then(if 65536<s.text.length then 10 else if 65536<s.bytes.length then 10 else Es [] f)else 5)else 2)else 2)else 6
noncomputable def F6 (x:Nat×Nat) (f:Nat->Nat×Nat):Nat×Nat:=if x.2=0 then f x.1 else x
mutual
noncomputable def CG (d n:Nat):Vl->Nat×Nat
 | .mk s l f=>if 48<d then(n,9)else if 65536<=n then(n,10)else if DK s l f≠0 then(n,DK s l f)else F6 (B6 (d+1) (n+1) l) fun m=>CK (d+1) m f
noncomputable def B6 (d n:Nat):List Vl->Nat×Nat
 | []=>(n,0)
 | v::r=>F6 (CG d n v) fun m=>B6 d m r
noncomputable def Oc (d n:Nat):Fd->Nat×Nat
 | .mk _ v=>CG d n v
noncomputable def CK (d n:Nat):List Fd->Nat×Nat
 | []=>(n,0)
 | x::r=>F6 (Oc d n x) fun m=>CK d m r
end
noncomputable def F3 (v:Vl):Nat:=(CG 1 0 v).2
theorem B2 {x:Nat×Nat} {f:Nat->Nat×Nat} (h:(F6 x f).2=0):x.2=0/\(f x.1).2=0:=by
 unfold F6 at h
 split at h
 ·rename_i h0;exact⟨h0,h⟩
 ·rename_i h0;exact absurd h h0
theorem DH {x:Nat×Nat} {f:Nat->Nat×Nat} (h:x.2=0):F6 x f=f x.1:=by unfold F6;rw[if_pos h]
theorem Kk {x:Nat×Nat} {f:Nat->Nat×Nat} (h:x.2≠0):F6 x f=x:=by unfold F6;rw[if_neg h]
theorem Pd:∀(f:List Fd) (seen:List B8),Es seen f=0->Kg f/\(∀d,d∈f->d.key∉seen/\U8 d.key/\d.key.length<=1024)
 | [],seen,_=>⟨List.nodup_nil,fun d h=>by cases h⟩
 | d::r,seen,h=>by
  unfold Es at h
  split at h
  ·rename_i h1
   split at h
   ·cases h
   ·rename_i h2
    split at h
    ·cases h
    ·rename_i h3
     obtain⟨k1,k2⟩:=Pd r (d.key::seen) h
     refine⟨?_,fun x hx=>?_⟩
     ·unfold Kg
      rw[List.map_cons,List.nodup_cons]
      refine⟨fun hm=>?_,k1⟩
      obtain⟨x,hx,he⟩:=List.mem_map.1 hm
      exact(k2 x hx).1 (he▸.head _)
     ·rcases List.mem_cons.1 hx with rfl | hx
      ·exact⟨h3,h1,by omega⟩
      ·obtain⟨q1,q2,q3⟩:=k2 x hx
       exact⟨fun hm=>q1 (.tail _ hm),q2,q3⟩
  ·cases h
structure VT (s:Sc) (l:List Vl) (f:List Fd):Prop where
 own:FM s l f
 dec:Cu s.neg s.dg s.ex
 time:s.kind=3->BW s.tk s.td s.tn s.tz
 text:U8 s.text
 tlen:s.text.length<=65536
 blen:s.bytes.length<=65536
 keys:Es [] f=0
theorem Qy {s:Sc} {l:List Vl} {f:List Fd}:DK s l f=0↔VT s l f:=by
 unfold DK
 constructor
 ·intro h
  split at h
  ·rename_i h1
   split at h
   ·rename_i h2
    split at h
    ·rename_i h3
     split at h
     ·rename_i h4
      split at h
      ·cases h
      ·rename_i h5
       split at h
       ·cases h
       ·rename_i h6
        exact⟨h1,h2,h3,h4,by omega,by omega,h⟩
     ·cases h
    ·cases h
   ·cases h
  ·cases h
 ·intro h
  rw[if_pos h.own,if_pos h.dec,if_pos h.time,if_pos h.text,if_neg (by have:=h.tlen;omega),if_neg (by have:=h.blen;omega)]
  exact h.keys
mutual
def DD:Vl->Prop
 | .mk s l f=>VT s l f/\CW l/\CX f
def CW:List Vl->Prop
 | []=>True
 | v::r=>DD v/\CW r
def EE:Fd->Prop
 | .mk _ v=>DD v
def CX:List Fd->Prop
 | []=>True
 | d::r=>EE d/\CX r
end
mutual
theorem RY:∀(v:Vl) (d n:Nat),(CG d n v).2=0->DD v
 | .mk s l f,d,n,h=>by
  unfold CG at h
  unfold DD
  split at h
  ·cases h
  ·split at h
   ·cases h
   ·split at h
    ·rename_i h1;exact absurd h h1
    ·rename_i h1
     obtain⟨h2,h3⟩:=B2 h
     exact⟨Qy.1 (Decidable.of_not_not h1),Ty l _ _ h2,TB f _ _ h3⟩
theorem Ty:∀(l:List Vl) (d n:Nat),(B6 d n l).2=0->CW l
 | [],d,n,_=>by unfold CW;trivial
 | v::r,d,n,h=>by
  unfold B6 at h
  unfold CW
  obtain⟨h2,h3⟩:=B2 h
  exact⟨RY v _ _ h2,Ty r _ _ h3⟩
theorem chkD_ok:∀(x:Fd) (d n:Nat),(Oc d n x).2=0->EE x
 | .mk k v,d,n,h=>by unfold Oc at h;unfold EE;exact RY v _ _ h
theorem TB:∀(l:List Fd) (d n:Nat),(CK d n l).2=0->CX l
 | [],d,n,_=>by unfold CX;trivial
 | x::r,d,n,h=>by
  unfold CK at h
  unfold CX
  obtain⟨h2,h3⟩:=B2 h
  exact⟨chkD_ok x _ _ h2,TB r _ _ h3⟩
end
theorem VT.sc {s:Sc} {l:List Vl} {f:List Fd} (h:VT s l f):ScOk s:=by
 obtain⟨own,dec,time,text,tlen,blen,keys⟩:=h
 have hd:s.dg.length<=120/\ -400<=s.ex/\s.ex<=400:=by
  by_cases h0:s.dg=[]
  ·have:=dec.1 h0;rw[h0];simp only[List.length_nil];omega
  ·have:=dec.2 h0;exact⟨this.1,this.2.2.2.2⟩
 have ht:0<=s.tk/\s.tk<=255/\0<=s.td/\s.td<=100000000000/\0<=s.tn/\s.tn<=100000000000000/\ -1000000<=s.tz/\s.tz<=1000000:=by
  by_cases h3:s.kind=3
  ·have:=time h3;unfold BW at this;omega
  ·have:=own.ti h3;omega
 exact⟨own.k0,own.k7,by omega,by omega,by omega,ht.1,ht.2.1,ht.2.2.1,ht.2.2.2.1,ht.2.2.2.2.1,ht.2.2.2.2.2.1,ht.2.2.2.2.2.2.1,ht.2.2.2.2.2.2.2⟩
mutual
theorem DD.ok:∀{v:Vl},DD v->VOk v/\KNd v
 | .mk s l f,h=>by
  unfold DD at h
  unfold VOk KNd
  obtain⟨h1,h2,h3⟩:=h
  have a:=CW.ok h2
  have b:=CX.ok h3
  exact⟨⟨h1.sc,a.1,b.1⟩,a.2,(Pd _ _ h1.keys).1,b.2⟩
theorem CW.ok:∀{l:List Vl},CW l->YT l/\R9 l
 | [],h=>by unfold YT R9;exact⟨trivial,trivial⟩
 | v::r,h=>by
  unfold CW at h
  unfold YT R9
  have a:=DD.ok h.1
  have b:=CW.ok h.2
  exact⟨⟨a.1,b.1⟩,a.2,b.2⟩
theorem EE.ok:∀{x:Fd},EE x->FdOk x/\YU x
 | .mk k v,h=>by unfold EE at h;unfold FdOk YU;exact DD.ok h
theorem CX.ok:∀{l:List Fd},CX l->YV l/\Sa l
 | [],h=>by unfold YV Sa;exact⟨trivial,trivial⟩
 | v::r,h=>by
  unfold CX at h
  unfold YV Sa
  have a:=EE.ok h.1
  have b:=CX.ok h.2
  exact⟨⟨a.1,b.1⟩,a.2,b.2⟩
end
end
theorem H1 (l:B8):List.all (At l) Ar=true:=by
 rw[List.all_eq_true];intro x hx
 simp only[At,List.mem_map]at hx
 obtain⟨y,_,rfl⟩:=hx;rfl
theorem Yp {st0 st:St} {ul:TV} {xl:List TV} {l:List Vl} (hke:BI st0 st) (h2:SlR st0 13 ul l.length xl) (h3:VsR st0 l xl) {i:Int} {k:Nat} (hi:i=k) (hk:k<l.length) {f:Fun [.int .i64,.bool,.bool,.str,.int .i64,.int .i64,.int .i64,.int .i64,.int .i64,.str,.tv,.tv,.tv] Prop}
  (hf:∀s' l' f' ub1 ul1 uf1,l[k]? =some (.mk s' l' f')->VlR st0 (.mk s' l' f') (AI s' ub1 ul1 uf1)->List.all (AI s' ub1 ul1 uf1) Ar=true->f s'.kind s'.b s'.neg s'.dg s'.ex s'.tk s'.td s'.tn s'.tz s'.text ub1 ul1 uf1):
  (0<=i/\i<(lenZ 13 ul:Int))/\Ak ((Al st [] (.t (ixT 13 ul (Int.toNat i))) 0 13).map TV.agg) fun x=>B4 [.int .i64,.bool,.bool,.str,.int .i64,.int .i64,.int .i64,.int .i64,.int .i64,.str,.tv,.tv,.tv] x f:=by
 subst hi
 have gw:l[k]? =some l[k]:=List.getElem?_eq_getElem hk
 obtain⟨cw,hw,hcw,hcl⟩:=h3.get gw
 rw[h2.lenZ,Int.toNat_natCast,(h2.keep hke).ldc h3.len hk,hcw]
 generalize l[k]=w at*
 cases w with
 | mk s' l' f'=>
 have hw0:=hw
 unfold VlR at hw0
 obtain⟨ub',ul',uf',xl',xf',rfl,w1,w2,w3,w4,w5⟩:=hw0
 exact⟨⟨by omega,by omega⟩,Ac rfl (Nv (hf s' l' f' ub' ul' uf' gw hw (Bv w1.one w2.one w4.one)))⟩
theorem el14 {st0 st:St} {uf:TV} {xf:List TV} {l:List Fd} (hke:BI st0 st) (h2:SlR st0 14 uf l.length xf) (h3:FsR st0 l xf) {i:Int} {k:Nat} (hi:i=k) (hk:k<l.length) {f:Fun [.str,.int .i64,.bool,.bool,.str,.int .i64,.int .i64,.int .i64,.int .i64,.int .i64,.str,.tv,.tv,.tv] Prop}
  (hf:∀key s' l' f' ub1 ul1 uf1,l[k]? =some (.mk key (.mk s' l' f'))->VlR st0 (.mk s' l' f') (AI s' ub1 ul1 uf1)->List.all (.str key::AI s' ub1 ul1 uf1) Ar=true->f key s'.kind s'.b s'.neg s'.dg s'.ex s'.tk s'.td s'.tn s'.tz s'.text ub1 ul1 uf1):
  (0<=i/\i<(lenZ 14 uf:Int))/\Ak ((Al st [] (.t (ixT 14 uf (Int.toNat i))) 0 14).map TV.agg) fun x=>B4 [.str,.int .i64,.bool,.bool,.str,.int .i64,.int .i64,.int .i64,.int .i64,.int .i64,.str,.tv,.tv,.tv] x f:=by
 subst hi
 have gw:l[k]? =some l[k]:=List.getElem?_eq_getElem hk
 obtain⟨cw,hw,hcw,hcl⟩:=h3.get gw
 rw[h2.lenZ,Int.toNat_natCast,(h2.keep hke).ldc h3.len hk,hcw]
 generalize l[k]=w at*
 cases w with
 | mk key w=>
 cases w with
 | mk s' l' f'=>
 have hw0:=hw
 unfold FdR at hw0
 obtain⟨cw2,rfl,hw1⟩:=hw0
 have hw2:=hw1
 unfold VlR at hw2
 obtain⟨ub',ul',uf',xl',xf',rfl,w1,w2,w3,w4,w5⟩:=hw2
 exact⟨⟨by omega,by omega⟩,Ac rfl (IV (hf key s' l' f' ub' ul' uf' gw hw1 (Me w1.one w2.one w4.one)))⟩
theorem Fi {α:Type} {l:List α} {k:Nat} {v:α} (h:l[k]? =some v):l.take (k+1)=l.take k++[v]:=by
 obtain⟨q1,q2⟩:=List.getElem?_eq_some_iff.1 h
 rw[List.take_succ_eq_append_getElem q1,q2]
theorem EB {α:Type} {l:List α} {k:Nat} {v:α} (h:l[k]? =some v):v∈l:=by
 obtain⟨q1,q2⟩:=List.getElem?_eq_some_iff.1 h
 rw[<-q2];exact List.getElem_mem q1
theorem SlR.isPtr {st:St} {sz n i:Nat} {u:TV} {xs:List TV} (h:SlR st sz u n xs) (hi:i<n):TVF.isPtr (ixT sz u i)=true:=by
 rcases h with(⟨rfl,rfl,rfl⟩ | ⟨tip,rfl⟩) | ⟨b,off,cap,l,rfl,_⟩
 ·omega
 ·rfl
 ·rfl
theorem SlR.ldcf {st:St} {sz n i f m:Nat} {u:TV} {xs:List TV} (h:SlR st sz u n xs) (hl:xs.length=n*sz) (hi:i<n) (hf:f+m<=sz):Al st [] (.t (AC (ixT sz u i) f)) 0 m=some ((xs.drop (i*sz+f)).take m):=by
 have hm:(i+1)*sz<=n*sz:=Nat.mul_le_mul_right _ hi
 rw[Nat.add_mul,Nat.one_mul]at hm
 rcases h with(⟨rfl,rfl,rfl⟩ | ⟨tip,rfl⟩) | ⟨b,off,cap,l,rfl,h2,h3,h4,h5,rfl⟩
 ·omega
 ·show Al st [] (.t (.rptr ((xs.drop (i*sz)).drop f))) 0 m=_
  rw[List.drop_drop,O9 m 0 (by rw[List.length_drop];omega),List.drop_zero]
 ·have hc:n*sz<=cap*sz:=Nat.mul_le_mul_right _ h5
  have e1:(((l.drop off).take (n*sz)).drop (i*sz+f)).take m=(l.drop (off+i*sz+f)).take m:=by
   rw[List.drop_take,List.drop_drop,List.take_take,Nat.min_eq_left (by omega),Nat.add_assoc]
  rw[e1]
  have e:=IL (B:=l.drop (off+i*sz+f+m)) (st:=st) (b:=b) ((l.drop (off+i*sz+f)).take m) l 0 (off+i*sz+f) h3 (by
   have:=List.take_append_drop m (l.drop (off+i*sz+f))
   rw[List.drop_drop]at this
   rw[Nat.add_zero];exact this.symm)
  rw[show((l.drop (off+i*sz+f)).take m).length=m by simp;omega]at e
  exact e
theorem SlR.ldf {st:St} {sz n i f:Nat} {u x:TV} {xs:List TV} (h:SlR st sz u n xs) (hl:xs.length=n*sz) (hi:i<n) (hf:f<sz) (hx:xs[i*sz+f]? =some x):Af st [] (.t (AC (ixT sz u i) f)) 0=some x:=by
 have:=h.ldcf (f:=f) (m:=1) hl hi (by omega)
 have hlt:i*sz+f<xs.length:=by
  obtain⟨q,_⟩:=List.getElem?_eq_some_iff.1 hx
  exact q
 rw[List.drop_eq_getElem_cons hlt]at this
 rw[List.getElem?_eq_getElem hlt]at hx
 simp only[Al,List.take_succ_cons,List.take_zero]at this
 cases hq:Af st [] (.t (AC (ixT sz u i) f)) 0 with
 | none=>rw[hq]at this;cases this
 | some y=>
  rw[hq]at this
  simp only[Option.map_some,Option.some.injEq,List.cons.injEq,and_true]at this
  rw[this];exact hx
theorem SlR.toBytes {st:St} {u:TV} {l:B8} (h:SlR st 1 u l.length (At l)):TVF.toBytes st u=some l:=by
 have hl:(At l).length=l.length:=BO l
 rcases h with(⟨rfl,h1,_⟩ | ⟨tip,rfl⟩) | ⟨b,off,cap,m,rfl,h2,h3,h4,h5,h6⟩
 ·rw[List.eq_nil_of_length_eq_zero h1];rfl
 ·simp[TVF.toBytes,BB]
 ·have e:=IL (B:=m.drop (off+l.length)) (st:=st) (b:=b) (At l) m 0 off h3 (by
   rw[h6,Nat.add_zero,Nat.mul_one,<-List.drop_drop,List.take_append_drop])
  rw[hl]at e
  simp only[TVF.toBytes,Nat.beq_refl,e,BB]
theorem Mm {st0 st:St} {uf:TV} {xf:List TV} {l:List Fd} (hke:BI st0 st) (h2:SlR st0 14 uf l.length xf) (h3:FsR st0 l xf) {i:Int} {k:Nat} (hi:i=k) {d:Fd} (hd:l[k]? =some d) {f:B8->Prop} (hf:f d.key):
  (0<=i/\i<(lenZ 14 uf:Int))/\need (TVF.isPtr (ixT 14 uf (Int.toNat i))) (Ak (Af st [] (.t (AC (ixT 14 uf (Int.toNat i)) 0)) 0) fun x=>As .str x f):=by
 subst hi
 obtain⟨hk,_⟩:=List.getElem?_eq_some_iff.1 hd
 obtain⟨cw,hw,hcw,hcl⟩:=h3.get hd
 rw[h2.lenZ,Int.toNat_natCast]
 have hx:xf[k*14+0]? =some (.str d.key):=by
  cases d with
  | mk key w=>
   unfold FdR at hw
   obtain⟨cs,rfl,_⟩:=hw
   have:=congrArg (fun z=>z[0]?) hcw
   simpa [Fd.key]using this
 exact⟨⟨by omega,by omega⟩,Ab (h2.isPtr hk) (Ac ((h2.keep hke).ldf h3.len hk (by omega) hx) hf)⟩
theorem Vg {st0 st:St} {uf:TV} {xf:List TV} {l:List Fd} (hke:BI st0 st) (h2:SlR st0 14 uf l.length xf) (h3:FsR st0 l xf) {i:Int} {k:Nat} (hi:i=k) (hk:k<l.length) {f:Fun [.int .i64,.bool,.bool,.str,.int .i64,.int .i64,.int .i64,.int .i64,.int .i64,.str,.tv,.tv,.tv] Prop}
  (hf:∀key s' l' f' ub1 ul1 uf1,l[k]? =some (.mk key (.mk s' l' f'))->VlR st0 (.mk s' l' f') (AI s' ub1 ul1 uf1)->List.all (AI s' ub1 ul1 uf1) Ar=true->f s'.kind s'.b s'.neg s'.dg s'.ex s'.tk s'.td s'.tn s'.tz s'.text ub1 ul1 uf1):
  (0<=i/\i<(lenZ 14 uf:Int))/\need (TVF.isPtr (ixT 14 uf (Int.toNat i))) (Ak ((Al st [] (.t (AC (ixT 14 uf (Int.toNat i)) 1)) 0 13).map TV.agg) fun x=>B4 [.int .i64,.bool,.bool,.str,.int .i64,.int .i64,.int .i64,.int .i64,.int .i64,.str,.tv,.tv,.tv] x f):=by
 subst hi
 have gw:l[k]? =some l[k]:=List.getElem?_eq_getElem hk
 obtain⟨cw,hw,hcw,hcl⟩:=h3.get gw
 rw[h2.lenZ,Int.toNat_natCast]
 refine⟨⟨by omega,by omega⟩,Ab (h2.isPtr hk) ?_⟩
 rw[(h2.keep hke).ldcf (f:=1) (m:=13) h3.len hk (by omega)]
 generalize l[k]=w at*
 cases w with
 | mk key w=>
 cases w with
 | mk s' l' f'=>
 unfold FdR at hw
 obtain⟨cw2,rfl,hw1⟩:=hw
 have hw2:=hw1
 unfold VlR at hw2
 obtain⟨ub',ul',uf',xl',xf',rfl,w1,w2,w3,w4,w5⟩:=hw2
 have e:(xf.drop (k*14+1)).take 13=AI s' ub' ul' uf':=by
  rw[<-List.drop_drop]
  have:=congrArg (fun z=>z.drop 1) hcw
  simp only[List.drop_take]at this
  simpa [AI]using this
 rw[e]
 exact Ac rfl (Nv (hf key s' l' f' ub' ul' uf' gw hw1 (Bv w1.one w2.one w4.one)))
theorem less_le (a b:B8):(Op.bytesLess a b || decide (a=b))= !Op.bytesLess b a:=by
 cases h:Op.bytesLess b a with
 | true=>
  rw[IK _ _ h]
  simp only[Bool.false_or,Bool.not_true,decide_eq_false_iff_not]
  rintro rfl
  rw[FB]at h;cases h
 | false=>
  cases h2:Op.bytesLess a b with
  | true=>rfl
  | false=>simp[RC a b h2 h]
theorem Vy (d:Fd):∀(od:List Fd) (k:Nat),k<=od.length->(∀(j:Nat) (x:Fd),j<k->od[j]? =some x->Op.bytesLess d.key x.key=false)->(∀x,od[k]? =some x->Op.bytesLess d.key x.key=true)->IN d od=od.take k++d::od.drop k
 | [],0,_,_,_=>rfl
 | [],k+1,h,_,_=>by simp at h
 | x::r,0,_,_,h=>by unfold IN;rw[h x rfl];rfl
 | x::r,k+1,hk,h1,h2=>by
  unfold IN
  rw[h1 0 x (by omega) rfl]
  simp only[List.take_succ_cons,List.drop_succ_cons,List.cons_append]
  rw[Vy d r k (by simpa using hk) (fun j y hj hy=>h1 (j+1) y (by omega) (by simpa using hy)) (fun y hy=>h2 y (by simpa using hy))]
theorem Bc.append {α β:Type} {R:α->β->Prop} {l l':List α} {m m':List β} (h:Bc R l m) (h':Bc R l' m'):Bc R (l++l') (m++m'):=by
 induction h with
 | nil=>exact h'
 | cons r _ ih=>exact .cons r ih
theorem Bc.take {α β:Type} {R:α->β->Prop} {l:List α} {m:List β} (h:Bc R l m):∀k,Bc R (l.take k) (m.take k):=by
 induction h with
 | nil=>intro k;simp;exact .nil
 | cons r _ ih=>
  intro k
  cases k with
  | zero=>exact .nil
  | succ k=>exact .cons r (ih k)
theorem Bc.drop {α β:Type} {R:α->β->Prop} {l:List α} {m:List β} (h:Bc R l m):∀k,Bc R (l.drop k) (m.drop k):=by
 induction h with
 | nil=>intro k;simp;exact .nil
 | cons r h ih=>
  intro k
  cases k with
  | zero=>exact .cons r h
  | succ k=>exact ih k
theorem Kt {st:St} {f:List Fd} {cks:List (List TV)} (h:Bc (FdR st) f cks):cks.flatten.length=f.length*14:=(FsR.of_chunks h).len
theorem UJ {st:St} {f:List Fd} {cks:List (List TV)} (h:Bc (FdR st) f cks) (k:Nat) (hk:k<=f.length):cks.flatten.take (k*14)=(cks.take k).flatten:=by
 have e:cks.flatten=(cks.take k).flatten++(cks.drop k).flatten:=by rw[<-List.flatten_append,List.take_append_drop]
 have hl:=Kt (h.take k)
 rw[List.length_take,Nat.min_eq_left hk]at hl
 rw[e,<-hl,List.take_left]
theorem UK {st:St} {f:List Fd} {cks:List (List TV)} (h:Bc (FdR st) f cks) (k:Nat) (hk:k<=f.length):cks.flatten.drop (k*14)=(cks.drop k).flatten:=by
 have e:cks.flatten=(cks.take k).flatten++(cks.drop k).flatten:=by rw[<-List.flatten_append,List.take_append_drop]
 have hl:=Kt (h.take k)
 rw[List.length_take,Nat.min_eq_left hk]at hl
 rw[e,<-hl,List.drop_left]
theorem QK {st:St} {f:List Fd} {cks:List (List TV)} (h:Bc (FdR st) f cks):List.all cks.flatten Ar=true:=(FsR.of_chunks h).all_one
theorem slT_lo {st:St} {u:TV} {n k:Nat} {cks:List (List TV)} {f:List Fd} (h:Rd 14 u f.length cks.flatten) (hR:Bc (FdR st) f cks) (hk:k<=f.length) (st':St):Bb st' 14 (slT 14 .non u 0 k)=some (k,(cks.take k).flatten):=by
 rw[<-UJ hR k hk]
 rcases h with⟨rfl,h1,h2⟩ | ⟨tip,rfl⟩
 ·obtain rfl:k=0:=by omega
  rw[h2];rfl
 ·simp[slT,Bb]
theorem slT_hi {st:St} {u:TV} {n k:Nat} {cks:List (List TV)} {f:List Fd} (h:Rd 14 u f.length cks.flatten) (hR:Bc (FdR st) f cks) (hk:k<=f.length) (st':St):Bb st' 14 (slT 14 .non u k (lenS u))=some (f.length-k,(cks.drop k).flatten):=by
 rw[<-UK hR k hk]
 rcases h with⟨rfl,h1,h2⟩ | ⟨tip,rfl⟩
 ·rw[h2,h1];simp;rfl
 ·have:=Kt hR
  simp only[slT,Bb,lenS,Nat.beq_refl]
  rw[<-this,List.take_length]
theorem Wv {st0 st:St} {uf:TV} {xf:List TV} {f:List Fd} (e0:Ah st0 st) (h4:SlR st0 14 uf f.length xf) (h5:FsR st0 f xf) (hn:f.length<=2000000) {K:TV->St->Prop}
  (hk:∀v st' cks,Ah st0 st'->Own st0.nt 14 st' v (Bl f).length cks.flatten->Bc (FdR st0) (Bl f) cks->K v st'):CallT PR Db [uf] [.one .tv] st K:=by
 refine Id _ st K ⟨fun o i u st'=>uf=u/\∃(k:Nat) (cks:List (List TV)),i=k/\k<=f.length/\Ah st0 st'/\Own st0.nt 14 st' o (Bl (f.take k)).length cks.flatten/\Bc (FdR st0) (Bl (f.take k)) cks,fun _ i _ _=>(f.length-i).toNat,
  ⟨rfl,0,[],rfl,Nat.zero_le _,e0,Own.nil _ _ _,.nil⟩,?_⟩
 rintro o _ _ st1 ⟨rfl,k,cks,rfl,hkf,e1,ho,hR⟩
 refine Ab h4.isSl (Aa (fun g=>?_) fun g=>?_)
 ·rw[h4.lenS]at g
  have hkf2:k<f.length:=by omega
  have gd:f[k]? =some f[k]:=List.getElem?_eq_getElem hkf2
  generalize hdd:f[k]=d at gd
  have hol:(Bl (f.take k)).length=k:=by rw[(Cz _).length_eq,List.length_take,Nat.min_eq_left hkf]
  have hsrt:Bl (f.take (k+1))=IN d (Bl (f.take k)):=by
   rw[Fi gd]
   unfold Bl
   rw[List.foldl_append];rfl
  generalize hod:Bl (f.take k)=od at*
  refine⟨fun i u o2 i2 st'=>uf=u/\o=o2/\i2=(k:Int)/\st1=st'/\∃q:Nat,i=q/\q<=od.length/\∀(j:Nat) (x:Fd),j<q->od[j]? =some x->Op.bytesLess d.key x.key=false,fun i _ _ _ _=>(od.length-i).toNat,
   ⟨rfl,rfl,rfl,rfl,0,rfl,Nat.zero_le _,fun j x hj=>absurd hj (Nat.not_lt_zero _)⟩,?_⟩
  rintro _ _ _ _ _ ⟨rfl,rfl,rfl,rfl,q,rfl,hq,hlow⟩
  --the element goes in here
  have put:(∀x,od[q]? =some x->Op.bytesLess d.key x.key=true)->∀(K':TV->St->Prop),(∀v st' cks',Ah st0 st'->Own st0.nt 14 st' v (Bl (f.take (k+1))).length cks'.flatten->Bc (FdR st0) (Bl (f.take (k+1))) cks'->K' v st')->
    ((isLst 14 o=true/\0<=(q:Int)/\(q:Int)<=(lenS o:Int))/\Ak (Bb st1 14 (slT 14 .non o 0 (Int.toNat (q:Int)))) fun (q2:Nat×List TV)=>need (List.all q2.2 Ar) (A5 Og 14 184 (.list 14 .full 0 []) q2.1 q2.2 st1 fun (v1:TV) (st3:St)=>
     ((0<=(k:Int)/\(k:Int)<(lenZ 14 uf:Int))/\Ak ((Al st3 [] (.t (ixT 14 uf (Int.toNat (k:Int)))) 0 14).map TV.agg) fun (x3:TV)=>
      B4 [.str,.int .i64,.bool,.bool,.str,.int .i64,.int .i64,.int .i64,.int .i64,.int .i64,.str,.tv,.tv,.tv] x3 (fun (s3:B8) (n1:Int) (b1:Bool) (b2:Bool) (s4:B8) (n2:Int) (n3:Int) (n4:Int) (n5:Int) (n6:Int) (s5:B8) (v2:TV) (v3:TV) (v4:TV)=>
       need (List.all [(.str s3),(.int .i64 n1),(.bool b1),(.bool b2),(.str s4),(.int .i64 n2),(.int .i64 n3),(.int .i64 n4),(.int .i64 n5),(.int .i64 n6),(.str s5),v2,v3,v4] Ar) (A5 Og 14 184 v1 1 [(.str s3),(.int .i64 n1),(.bool b1),(.bool b2),(.str s4),(.int .i64 n2),(.int .i64 n3),(.int .i64 n4),(.int .i64 n5),(.int .i64 n6),(.str s5),v2,v3,v4] st3 fun (v5:TV) (st4:St)=>
        ((isLst 14 o=true/\0<=(q:Int)/\(q:Int)<=(lenS o:Int))/\Ak (Bb st4 14 (slT 14 .non o (Int.toNat (q:Int)) (lenS o))) fun (q1:Nat×List TV)=>need (List.all q1.2 Ar) (A5 Og 14 184 v5 q1.1 q1.2 st4 K'))))))):=by
   intro hhi K' hK'
   have hins:=Vy d od q hq hlow hhi
   rw[hsrt,hins]at hK'
   have hls:=ho.rd.lenS
   refine⟨⟨ho.rd.isLst,by omega,by rw[hls];omega⟩,?_⟩
   rw[Int.toNat_natCast]
   refine Ac (slT_lo (n:=0) ho.rd hR hq st1) (Ab (QK (hR.take q)) ?_)
   have hl1:=Kt (hR.take q)
   rw[List.length_take,Nat.min_eq_left hq]at hl1
   refine H5 e1 rfl (Own.full st0.nt 14 st1 0 []) (by omega) (fun h0=>by subst h0;simp) fun v1 st2 e2 _ ho1=>?_
   rw[List.nil_append,Nat.zero_add]at ho1
   refine el14 e2.keeps h4 h5 rfl hkf2 fun key s' l' f' ub1 ul1 uf1 gw hw on=>Ab on ?_
   have hde:d= .mk key (.mk s' l' f'):=by rw[gd]at gw;exact Option.some.inj gw
   refine H5 e2 rfl ho1 (by omega) (fun h=>by cases h) fun v2 st3 e3 _ ho2=>?_
   refine⟨⟨ho.rd.isLst,by omega,by rw[hls];omega⟩,?_⟩
   refine Ac (slT_hi (n:=0) ho.rd hR hq st3) (Ab (QK (hR.drop q)) ?_)
   refine H5 e3 rfl ho2 (by simp only;omega) (fun h0=>by
    simp only at h0
    have:q=od.length:=by omega
    rw[this]
    have:=hR.len
    rw[List.drop_of_length_le (by omega)];rfl) fun v3 st4 e4 _ ho3=>?_
   refine hK' v3 st4 (cks.take q++(.str key::AI s' ub1 ul1 uf1)::cks.drop q) e4 ?_ ((hR.take q).append (.cons (by subst hde;unfold FdR;exact⟨_,rfl,hw⟩) (hR.drop q)))
   have hlen:(od.take q++d::od.drop q).length=q+1+(od.length-q):=by simp;omega
   rw[hlen]
   simpa [AI]using ho3
  refine Ab ho.rd.isSl (Aa (fun g2=>?_) fun g2=>?_)
  ·rw[ho.rd.lenS]at g2
   have hq2:q<od.length:=by omega
   have gx:od[q]? =some od[q]:=List.getElem?_eq_getElem hq2
   generalize od[q]=x at gx
   refine Mm (l:=od) (st0:=st0) (st:=st1) e1.keeps (.of_rd ho.rd) (FsR.of_chunks hR) rfl gx ?_
   refine Mm e1.keeps h4 h5 rfl gd ?_
   rw[less_le]
   refine Aq (fun hb=>?_) fun hb=>?_
   ·rw[Ad _ (by omega) (by omega)]
    refine⟨⟨rfl,rfl,rfl,rfl,q+1,by omega,by omega,fun j y hj hy=>?_⟩,by dsimp only;omega⟩
    by_cases hjq:j=q
    ·subst hjq
     rw[gx]at hy
     rw[<-Option.some.inj hy];simpa using hb
    ·exact hlow j y (by omega) hy
   ·refine put (fun y hy=>?_) _ fun v st' cks' e' ho' hR'=>?_
    ·rw[gx]at hy
     rw[<-Option.some.inj hy];simpa using hb
    ·rw[Ad _ (by omega) (by omega)]
     exact⟨⟨rfl,k+1,cks',by omega,by omega,e',ho',hR'⟩,by dsimp only;omega⟩
  ·rw[ho.rd.lenS]at g2
   have hqe:q=od.length:=by omega
   refine put (fun y hy=>?_) _ fun v st' cks' e' ho' hR'=>?_
   ·rw[List.getElem?_eq_none (by omega)]at hy;cases hy
   ·rw[Ad _ (by omega) (by omega)]
    exact⟨⟨rfl,k+1,cks',by omega,by omega,e',ho',hR'⟩,by dsimp only;omega⟩
 ·rw[h4.lenS]at g
  have hkk:k=f.length:=by omega
  subst hkk
  rw[List.take_length]at ho hR
  exact hk o st1 cks e1 ho hR
theorem BI.trans {a b c:St} (h:BI a b) (k:BI b c):BI a c:=⟨Nat.le_trans h.1 k.1,fun i hi=>(k.2 i (Nat.lt_of_lt_of_le hi h.1)).trans (h.2 i hi)⟩
theorem BI.refl (a:St):BI a a:=⟨Nat.le_refl _,fun _ _=>rfl⟩
theorem Aw {s:B8} {f:B8->Prop} (h:f s):As .str (.str s) f:=h
theorem Ap {k:IntKind} {n:Int} {f:Int->Prop} (h:f n):As (.int k) (.int k n) f:=by
 simp only[As];exact h
theorem Cy {b:Bool} {f:Bool->Prop} (h:f b):As .bool (.bool b) f:=h
theorem Fs {α:Type} {K:α->St->Prop} {a b:α} {st:St} (h:a=b) (hk:K b st):K a st:=h▸hk
theorem Qa {r:Int} {st:St} {K:Bool->St->Prop} (h0:0<=r) (hk:K (decide (A8 r.toNat)) st):CallT PR Cx [.int .i64 r] [.one (.bool)] st K:=by
 refine GZ _ st K (Aa (fun _=>Aa (fun h2=>Aa (fun h3=>?_) fun h3=>?_) fun h2=>?_) fun h1=>absurd h0 h1)
 ·have:A8 r.toNat:=by unfold A8;omega
  simpa [this]using hk
 ·have:decide ((57343:Int)<r)=decide (A8 r.toNat):=by
   rw[Bool.eq_iff_iff];simp only[decide_eq_true_eq];unfold A8;omega
  rw[this];exact hk
 ·have:¬A8 r.toNat:=by unfold A8;omega
  simpa [this]using hk
theorem Ga (st:St) (n:Nat) (l:B8) (xs:List TV) (h:xs=At l):(toBytes st (.list 1 .full n xs)).map TV.str=some (.str l):=by
 subst h;simp[toBytes,BB]
theorem Hk (n:Nat):IntKind.wrap .u8 (n:Int)=((UInt8.ofNat n).toNat:Int):=by
 unfold IntKind.wrap
 simp only[IntKind.signed,IntKind.bits]
 simp
 try omega
theorem orN (a b m:Nat) (hb:b<2^m) (h:a*2^m+b<2^63) (x y:Int) (hx:x=((a*2^m:Nat):Int)) (hy:y=(b:Int)):Au .or .i64 x y=((a*2^m+b:Nat):Int):=by
 rw[hx,hy];exact Nh a b m hb h
theorem UO {R:Int} {r:Nat} {st:St} {K:B8->Int->St->Prop} (hR:R=(r:Int)) (hr:r<2^40) (hk:K (if A8 r then GM r else []) (if A8 r then 0 else 2) st):CallT PR B9 [.int .i64 R] [.one (.str),.one (.int .i64)] st K:=by
 have shr:∀m,m<=64->Int.fdiv R (2^(min m (IntKind.bits .i64)))=((r/2^m:Nat):Int):=fun m hm=>by rw[hR];exact Oi r m hm
 have s6:=shr 6 (by decide)
 have s12:=shr 12 (by decide)
 have s18:=shr 18 (by decide)
 have m63:∀x:Nat,x<2^63->Au .and .i64 (x:Int) (63:Int)=((x%64:Nat):Int):=fun x hx=>E7 x 6 hx (by decide)
 have mR:Au .and .i64 R (63:Int)=((r%64:Nat):Int):=by rw[hR];exact m63 r (by omega)
 have o128:∀x:Nat,x<64->Au .or .i64 (128:Int) (x:Int)=((128+x:Nat):Int):=fun x hx=>orN 2 x 6 (by omega) (by omega) _ _ rfl rfl
 have hR0:0<=R:=by omega
 have hRn:R.toNat=r:=by omega
 refine Ik _ st K (Qa hR0 (Aq (fun h0=>?_) fun h0=>?_))
 ·have hc:¬A8 r:=by rw[hRn]at h0;simpa using h0
  rw[if_neg hc,if_neg hc]at hk
  exact hk
 ·have hc:A8 r:=by rw[hRn]at h0;simpa using h0
  rw[if_pos hc,if_pos hc]at hk
  unfold GM at hk
  refine Aa (fun h1=>?_) fun h1=>Aa (fun h2=>?_) fun h2=>Aa (fun h3=>?_) fun h3=>?_
  ·rw[if_pos (by omega)]at hk
   exact Ac (Ga _ _ _ _ (by simp only[At,List.map,D5];rw[hR,Hk])) hk
  ·rw[if_neg (by omega),if_pos (by omega)]at hk
   have o192:Au .or .i64 (192:Int) ((r/2^6:Nat):Int)=((192+r/64:Nat):Int):=orN 6 _ 5 (by omega) (by omega) _ _ rfl rfl
   refine Ac (Ga _ _ _ _ ?_) hk
   simp only[At,List.map,D5]
   rw[show Int.toNat (6:Int)=6 from rfl,s6,o192,mR,o128 _ (by omega),Hk,Hk]
  ·rw[if_neg (by omega),if_neg (by omega),if_pos (by omega)]at hk
   have o224:Au .or .i64 (224:Int) ((r/2^12:Nat):Int)=((224+r/4096:Nat):Int):=orN 14 _ 4 (by omega) (by omega) _ _ rfl rfl
   refine Ac (Ga _ _ _ _ ?_) hk
   simp only[At,List.map,D5]
   rw[show Int.toNat (6:Int)=6 from rfl,show Int.toNat (12:Int)=12 from rfl,s6,s12,o224,mR,m63 (r/2^6) (by omega),o128 _ (by omega),o128 _ (by omega),Hk,Hk,Hk]
  ·rw[if_neg (by omega),if_neg (by omega),if_neg (by omega)]at hk
   have hr2:r<=1114111:=hc.1
   have o240:Au .or .i64 (240:Int) ((r/2^18:Nat):Int)=((240+r/262144:Nat):Int):=orN 30 _ 3 (by omega) (by omega) _ _ rfl rfl
   refine Ac (Ga _ _ _ _ ?_) hk
   simp only[At,List.map,D5]
   rw[show Int.toNat (6:Int)=6 from rfl,show Int.toNat (12:Int)=12 from rfl,show Int.toNat (18:Int)=18 from rfl,s6,s12,s18,o240,mR,m63 (r/2^6) (by omega),m63 (r/2^12) (by omega),o128 _ (by omega),o128 _ (by omega),o128 _ (by omega),Hk,Hk,Hk,Hk]
theorem Wx {r:Nat} {st:St} {K:B8->Int->St->Prop} (hr:r<2^40) (hk:K (if A8 r then GM r else []) (if A8 r then 0 else 2) st):CallT PR B9 [.int .i64 (r:Int)] [.one (.str),.one (.int .i64)] st K:=
 UO rfl hr hk
def rD (l:B8):Nat×Nat:=if ul l=0 then(0,0)else(ur l,ul l)
theorem SX {s:B8} {I:Int} {i:Nat} {st:St} {K:Int->Int->St->Prop} (hI:I=(i:Int)) (hl:s.length<=2000000) (hi:i<=s.length) (hk:K ((rD (s.drop i)).1:Nat) ((rD (s.drop i)).2:Nat) st):CallT PR Ca [.str s,.int .i64 I] [.one (.int .i64),.one (.int .i64)] st K:=by
 refine Il s I st K (Aa (fun h=>by omega) fun _=>Aa (fun h=>?_) fun h=>⟨⟨by omega,by omega⟩,?_⟩)
 ·have:s.drop i=[]:=List.drop_of_length_le (by omega)
  have h0:rD (s.drop i)=(0,0):=by rw[this];simp[rD,ul]
  rw[h0]at hk;exact hk
 ·have hne:s.drop i≠ []:=by
   intro h0
   have:=congrArg List.length h0
   simp at this;omega
  have href:=Oj (s.drop i) hne
  have hb0:(List.getD s (Int.toNat I) 0).toNat=bt (s.drop i) 0:=by rw[R3,hI];rfl
  have hlt:=F8 (s.drop i) 0
  have hlen:(s.drop i).length=s.length-i:=by simp
  rw[hb0,Q4 _ (by omega)]
  have m15:Au .and .i64 ((bt (s.drop i) 0:Nat):Int) (15:Int)=((bt (s.drop i) 0%16:Nat):Int):=E7 _ 4 (by omega) (by decide)
  have m7:Au .and .i64 ((bt (s.drop i) 0:Nat):Int) (7:Int)=((bt (s.drop i) 0%8:Nat):Int):=E7 _ 3 (by omega) (by decide)
  have m31:Au .and .i64 ((bt (s.drop i) 0:Nat):Int) (31:Int)=((bt (s.drop i) 0%32:Nat):Int):=E7 _ 5 (by omega) (by decide)
  rw[m15,m7,m31]
  refine⟨fun size r s' at' st1=>s=s'/\I=at'/\st=st1/\((rsz (bt (s.drop i) 0):Nat):Int)=size/\((rb0 (bt (s.drop i) 0):Nat):Int)=r,?_,?_⟩
  ·refine Aa (fun h1=>⟨rfl,rfl,rfl,?_,?_⟩) fun h1=>Aa (fun h2=>⟨rfl,rfl,rfl,?_,?_⟩) fun h2=>Aa (fun h3=>⟨rfl,rfl,rfl,?_,?_⟩) fun h3=>⟨rfl,rfl,rfl,?_,?_⟩
   ·unfold rsz;rw[if_pos (by omega)];rfl
   ·unfold rb0;rw[if_pos (by omega)]
   ·unfold rsz;rw[if_neg (by omega),if_pos (by omega)];rfl
   ·unfold rb0;rw[if_neg (by omega),if_pos (by omega)]
   ·unfold rsz;rw[if_neg (by omega),if_neg (by omega),if_pos (by omega)];rfl
   ·unfold rb0;rw[if_neg (by omega),if_neg (by omega),if_pos (by omega)]
   ·unfold rsz;rw[if_neg (by omega),if_neg (by omega),if_neg (by omega)];rfl
   ·unfold rb0;rw[if_neg (by omega),if_neg (by omega),if_neg (by omega)]
  ·rintro _ _ _ _ _ ⟨rfl,rfl,rfl,rfl,rfl⟩
   have hs:=Xr (bt (s.drop i) 0)
   have hr0:=rb0_lt _ hlt
   generalize hsz:rsz (bt (s.drop i) 0)=size at*
   generalize hrr:rb0 (bt (s.drop i) 0)=r0 at*
   have hra:=Rr (s.drop i) r0 hr0
   unfold Wb at href
   simp only[hsz,hrr]at href
   rw[Ad _ (by omega) (by omega)]
   refine Aa (fun h1=>?_) fun h1=>?_
   ·rw[if_pos (by omega)]at href
    have:rD (s.drop i)=(0,0):=by unfold rD;rw[<-href]
    rw[this]at hk;exact hk
   ·rw[if_neg (by omega)]at href
    refine⟨fun r j s' at' sz st2=>s=s'/\I=at'/\st=st2/\((size:Nat):Int)=sz/\∃k:Nat,j=((k+1:Nat):Int)/\k+1<=size/\r=((Dm (s.drop i) r0 k:Nat):Int),fun _ j _ _ sz _=>(sz-j).toNat,⟨rfl,rfl,rfl,rfl,0,rfl,hs.1,rfl⟩,?_⟩
    rintro _ _ _ _ _ _ ⟨rfl,rfl,rfl,rfl,k,rfl,hk1,rfl⟩
    have hrk:=hra k
    have h64:64^k<=64^3:=Nat.pow_le_pow_right (by decide) (by omega)
    refine Aa (fun h2=>?_) fun h2=>?_
    ·rw[Ad _ (by omega) (by omega)]
     have hbk:(List.getD s (Int.toNat (I+((k+1:Nat):Int))) 0).toNat=bt (s.drop i) (k+1):=by
      rw[R3,show Int.toNat (I+((k+1:Nat):Int))=i+(k+1) by omega];rfl
     have hbl:=F8 (s.drop i) (k+1)
     have hand:Au .and .i64 (i64.wrap ((bt (s.drop i) (k+1):Nat):Int)) (63:Int)=((bt (s.drop i) (k+1)%64:Nat):Int):=by
      rw[Q4 _ (by omega)];exact E7 _ 6 (by omega) (by decide)
     have hmul:i64.wrap (((Dm (s.drop i) r0 k:Nat):Int)*2^(min (Int.toNat (6:Int)) (IntKind.bits .i64)))=((Dm (s.drop i) r0 k*2^6:Nat):Int):=by
      rw[show(2:Int)^(min (Int.toNat (6:Int)) (IntKind.bits .i64))=64 by decide,Ad _ (by omega) (by omega)];omega
     refine⟨⟨by omega,by omega⟩,?_⟩
     rw[hbk,hand,hmul,Nh _ _ 6 (by omega) (by omega),Ad _ (by omega) (by omega)]
     exact⟨⟨rfl,rfl,rfl,rfl,k+1,by omega,by omega,by simp only[Dm]⟩,by dsimp only;omega⟩
    ·have hks:k=size-1:=by omega
     subst hks
     refine Wx (by omega) ?_
     generalize hR:Dm (s.drop i) r0 (size-1)=R at*
     refine Aa (fun h3=>?_) fun h3=>?_
     ·have hc:¬A8 R:=by intro hc;rw[if_pos hc]at h3;exact h3 rfl
      rw[if_neg (fun h=>hc h.1)]at href
      have:rD (s.drop i)=(0,0):=by unfold rD;rw[<-href]
      rw[this]at hk;exact hk
     ·have hc:A8 R:=by
       apply Decidable.byContradiction
       intro hc;rw[if_neg hc]at h3;exact h3 (by decide)
      rw[if_pos hc,Ad _ (by omega) (by omega)]
      refine⟨⟨by omega,by omega,by omega⟩,?_⟩
      rw[PW,show Int.toNat (I+(size:Int))-Int.toNat I=size by omega,show Int.toNat I=i by omega]
      refine Aa (fun h4=>?_) fun h4=>?_
      ·rw[if_neg (fun h=>h4 h.2)]at href
       have:rD (s.drop i)=(0,0):=by unfold rD;rw[<-href]
       rw[this]at hk;exact hk
      ·rw[if_pos ⟨hc,Decidable.not_not.1 h4⟩]at href
       have:rD (s.drop i)=(R,size):=by unfold rD;rw[<-href]
       rw[this]at hk;exact hk
theorem Ui {s:B8} {i:Nat} {st:St} {K:Int->Int->St->Prop} (hl:s.length<=2000000) (hi:i<=s.length) (hk:K ((rD (s.drop i)).1:Nat) ((rD (s.drop i)).2:Nat) st):CallT PR Ca [.str s,.int .i64 (i:Int)] [.one (.int .i64),.one (.int .i64)] st K:=
 SX rfl hl hi hk
theorem Sm (l:B8):GV l<=l.length:=Ve _ l (Nat.le_refl _)
theorem Oz:GV []=0:=HD _ (by simp[ul])
theorem Qb {s:B8} {st:St} {K:TV->Bool->St->Prop} (hl:s.length<=2000000)
  (hk:∀v xs st',Ah st st'->Rd 1 v (xs.length+1) (xs++[.int .i64 ((GV s:Nat):Int)])->xs.length<=s.length->K v (decide (GV s=s.length)) st'):CallT PR Cj [.str s] [.one (.tv),.one (.bool)] st K:=by
 have hv:=Sm s
 refine Gs s st K ⟨fun v i s' st'=>s=s'/\Ah st st'/\∃(k:Nat) (xs:List TV),i=(k:Int)/\k<=s.length/\k+GV (s.drop k)=GV s/\xs.length<=k/\Own st.nt 1 st' v (xs.length+1) (xs++[.int .i64 (k:Int)]),fun _ i _ _=>(s.length-i).toNat,⟨rfl,Ah.refl _,0,[],rfl,by omega,by simp,by simp,Own.full _ _ _ _ _⟩,?_⟩
 rintro v _ _ st1 ⟨rfl,e,k,xs,rfl,h1,h2,h3,h4⟩
 refine Aa (fun g1=>?_) fun g1=>?_
 ·have hle:=Vh (s.drop k)
  rw[List.length_drop]at hle
  refine Ui hl h1 ?_
  unfold rD
  by_cases h0:ul (s.drop k)=0
  ·rw[if_pos h0]
   rw[HD _ h0]at h2
   refine Aa (fun _=>?_) fun h=>absurd rfl h
   have:=hk v xs st1 e (by rw[<-h2];exact h4.rd) (by omega)
   rw[decide_eq_false (by omega)]at this
   exact this
  ·rw[if_neg h0]
   rw[MP _ h0,List.drop_drop]at h2
   have w:i64.wrap ((k:Int)+(ul (s.drop k):Nat))=((k+ul (s.drop k):Nat):Int):=by rw[Ad _ (by omega) (by omega)];omega
   refine Aa (fun h=>by simp only at h;omega) fun _=>?_
   dsimp only
   rw[w]
   refine H5 e rfl h4 (by omega) (fun h=>by cases h) fun v' st' e' _ ho=>⟨⟨rfl,e',k+ul (s.drop k),xs++[.int .i64 (k:Int)],rfl,by omega,by omega,by rw[List.length_append];simp;omega,?_⟩,by omega⟩
   rw[List.length_append];exact ho
 ·rw[show s.drop k=[]from List.drop_of_length_le (by omega),Oz]at h2
  have hks:k=GV s:=by omega
  have:=hk v xs st1 e (by rw[<-hks];exact h4.rd) (by omega)
  rw[decide_eq_true (by omega)]at this
  exact this
theorem Qr {s:B8} {st:St} {K:Bool->St->Prop} (hl:s.length<=2000000) (hk:∀st',Ah st st'->K (decide (GV s=s.length)) st'):CallT PR Bj [.str s] [.one (.bool)] st K:=
 Jl s st K (Qb hl fun v xs st1 e hr hx=>hk st1 e)
def hdS (b:Nat):Nat:=if b<128 then 1 else if 192<=b/\b<224 then 2 else if 224<=b/\b<240 then 3 else if 240<=b/\b<248 then 4 else 0
def hdB (b:Nat):Nat:=if b<128 then b else if 192<=b/\b<224 then b%32 else if 224<=b/\b<240 then b%16 else if 240<=b/\b<248 then b%8 else 0
def wid (r:Nat):Nat:=if r<128 then 1 else if r<2048 then 2 else if r<65536 then 3 else 4
theorem KA (a m:Nat) (ha:a<256) (hm:m<=8):Au .and .u8 (a:Int) ((2^m-1:Nat):Int)=((a%2^m:Nat):Int):=by
 have:2^m<=2^8:=Nat.pow_le_pow_right (by decide) hm
 rw[YR _ _ ha (by omega),Nat.and_two_pow_sub_one_eq_mod]
theorem head_ok {B:Int} {b:Nat} {st:St} {K:Int->Int->St->Prop} (hB:B=(b:Int)) (hb:b<256) (hk:K (hdS b:Nat) (hdB b:Nat) st):CallT PR J9 [.int .u8 B] [.one (.int .i64),.one (.int .i64)] st K:=by
 have m31:Au .and .u8 B (31:Int)=((b%32:Nat):Int):=by rw[hB];exact KA b 5 hb (by decide)
 have m15:Au .and .u8 B (15:Int)=((b%16:Nat):Int):=by rw[hB];exact KA b 4 hb (by decide)
 have m7:Au .and .u8 B (7:Int)=((b%8:Nat):Int):=by rw[hB];exact KA b 3 hb (by decide)
 unfold hdS hdB at hk
 have kk:∀(x y x' y':Int),x=x'->y=y'->K x' y' st->K x y st:=fun x y x' y' h1 h2 hk=>by rw[h1,h2];exact hk
 refine Sn B st K ?_
 rw[m31,m15,m7,Ad B (by omega) (by omega),Ad ((b%32:Nat):Int) (by omega) (by omega),Ad ((b%16:Nat):Int) (by omega) (by omega),Ad ((b%8:Nat):Int) (by omega) (by omega)]
 by_cases g1:b<128
 ·rw[if_pos g1,if_pos g1]at hk
  exact Aa (fun _=>kk _ _ _ _ rfl hB hk) fun h=>by omega
 rw[if_neg g1,if_neg g1]at hk
 refine Aa (fun h=>by omega) fun _=>?_
 by_cases g2:192<=b/\b<224
 ·rw[if_pos g2,if_pos g2]at hk
  exact Aa (fun _=>Aa (fun _=>hk) fun h=>by omega) fun h=>by omega
 rw[if_neg g2,if_neg g2]at hk
 by_cases g3:224<=b/\b<240
 ·rw[if_pos g3,if_pos g3]at hk
  refine Aa (fun _=>Aa (fun h=>by omega) fun _=>?_) fun h=>by omega
  exact Aa (fun _=>Aa (fun _=>hk) fun h=>by omega) fun h=>by omega
 rw[if_neg g3,if_neg g3]at hk
 by_cases g4:240<=b/\b<248
 ·rw[if_pos g4,if_pos g4]at hk
  refine Aa (fun _=>Aa (fun h=>by omega) fun _=>?_) fun h=>by omega
  refine Aa (fun _=>Aa (fun h=>by omega) fun _=>?_) fun h=>by omega
  exact Aa (fun _=>Aa (fun _=>hk) fun h=>by omega) fun h=>by omega
 rw[if_neg g4,if_neg g4]at hk
 repeat' first
  | exact hk
  | omega
  | refine Aa (fun _=>?_) fun _=>?_
theorem V5 {R:Int} {r:Nat} {st:St} {K:Bool->St->Prop} (hR:R=(r:Int)) (hk:K (decide (A8 r)) st):CallT PR Hp [.int .i64 R] [.one (.bool)] st K:=by
 unfold A8 at hk
 refine PP R st K (Aa (fun _=>Aa (fun h2=>Aa (fun h3=>?_) fun h3=>?_) fun h2=>?_) fun h1=>by omega)
 ·exact Fs (decide_eq_true (by omega)).symm hk
 ·exact Fs (decide_eq_decide.2 (by omega)) hk
 ·exact Fs (decide_eq_false (by omega)).symm hk
theorem WY {R:Int} {r:Nat} {st:St} {K:Int->St->Prop} (hR:R=(r:Int)) (hk:K (wid r:Nat) st):CallT PR IS [.int .i64 R] [.one (.int .i64)] st K:=by
 unfold wid at hk
 refine Q7 R st K (Aa (fun h1=>?_) fun h1=>Aa (fun h2=>?_) fun h2=>Aa (fun h3=>?_) fun h3=>?_)
 ·rw[if_pos (by omega)]at hk;exact hk
 ·rw[if_neg (by omega),if_pos (by omega)]at hk;exact hk
 ·rw[if_neg (by omega),if_neg (by omega),if_pos (by omega)]at hk;exact hk
 ·rw[if_neg (by omega),if_neg (by omega),if_neg (by omega)]at hk;exact hk
def Rs (l:B8):Prop:=hdS (bt l 0)≠0/\hdS (bt l 0)<=l.length/\(∀j,1<=j->j<hdS (bt l 0)->bt l j/64=2)/\A8 (Dm l (hdB (bt l 0)) (hdS (bt l 0)-1))/\wid (Dm l (hdB (bt l 0)) (hdS (bt l 0)-1))=hdS (bt l 0)
theorem pd_val (l:B8) (h:l≠ []) (hp:Rs l):ul l=hdS (bt l 0)/\ur l=Dm l (hdB (bt l 0)) (hdS (bt l 0)-1):=by
 obtain⟨p1,p2,p3,p4,p5⟩:=hp
 have e:=Oj l h
 have h0:=F8 l 0
 have e0:(l.getD 0 0).toNat=bt l 0:=rfl
 have e1:(l.getD 1 0).toNat=bt l 1:=rfl
 have e2:(l.getD 2 0).toNat=bt l 2:=rfl
 have e3:(l.getD 3 0).toNat=bt l 3:=rfl
 have fin:∀n r,rsz (bt l 0)=n->rb0 (bt l 0)=r->n=hdS (bt l 0)->r=hdB (bt l 0)->GM (Dm l r (n-1))=l.take n->ul l=hdS (bt l 0)/\ur l=Dm l (hdB (bt l 0)) (hdS (bt l 0)-1):=by
  intro n r hn hr hn2 hr2 henc
  unfold Wb at e
  simp only[hn,hr]at e
  rw[if_neg (by omega),if_pos ⟨by rw[hr2,hn2];exact p4,henc⟩]at e
  by_cases hz:ul l=0
  ·rw[if_pos hz]at e;simp only[Prod.mk.injEq]at e;omega
  ·rw[if_neg hz]at e;simp only[Prod.mk.injEq]at e
   exact⟨by omega,by rw[<-hr2,<-hn2];exact e.1.symm⟩
 have h1:=F8 l 1
 have h2:=F8 l 2
 have h3:=F8 l 3
 by_cases g1:bt l 0<128
 ·have hs:hdS (bt l 0)=1:=by unfold hdS;rw[if_pos g1]
  have hb:hdB (bt l 0)=bt l 0:=by unfold hdB;rw[if_pos g1]
  refine fin 1 (bt l 0) (by unfold rsz;rw[if_neg (by omega),if_neg (by omega),if_neg (by omega)]) (by unfold rb0;rw[if_neg (by omega),if_neg (by omega),if_neg (by omega)]) hs.symm hb.symm ?_
  rw[LQ l (by omega)]
  simp only[Nat.sub_self,Dm]
  unfold GM
  rw[if_pos g1]
  simp only[D3,DL,e0,and_true]
  omega
 by_cases g2:192<=bt l 0/\bt l 0<224
 ·have hs:hdS (bt l 0)=2:=by unfold hdS;rw[if_neg g1,if_pos g2]
  have hb:hdB (bt l 0)=bt l 0%32:=by unfold hdB;rw[if_neg g1,if_pos g2]
  rw[hs]at p3 p5
  rw[hb]at p5
  have q1:=p3 1 (by omega) (by omega)
  refine fin 2 (bt l 0%32) (by unfold rsz;rw[if_neg (by omega),if_neg (by omega),if_pos (by omega)]) (by unfold rb0;rw[if_neg (by omega),if_neg (by omega),if_pos (by omega)]) hs.symm hb.symm ?_
  rw[LP l (by omega)]
  simp only[Nat.reduceSub,Dm,Nat.zero_add]at p5⊢
  generalize bt l 0=b0 at*
  generalize bt l 1=b1 at*
  unfold wid at p5
  unfold GM
  by_cases k1:b0%32*64+b1%64<128
  ·rw[if_pos k1]at p5;omega
  rw[if_neg k1]at p5⊢
  by_cases k2:b0%32*64+b1%64<2048
  ·rw[if_pos k2]
   simp only[D3,DL,e0,e1,and_true]
   omega
  ·rw[if_neg k2]at p5;split at p5<;>omega
 by_cases g3:224<=bt l 0/\bt l 0<240
 ·have hs:hdS (bt l 0)=3:=by unfold hdS;rw[if_neg g1,if_neg g2,if_pos g3]
  have hb:hdB (bt l 0)=bt l 0%16:=by unfold hdB;rw[if_neg g1,if_neg g2,if_pos g3]
  rw[hs]at p3 p5
  rw[hb]at p5
  have q1:=p3 1 (by omega) (by omega)
  have q2:=p3 2 (by omega) (by omega)
  refine fin 3 (bt l 0%16) (by unfold rsz;rw[if_neg (by omega),if_pos (by omega)]) (by unfold rb0;rw[if_neg (by omega),if_pos (by omega)]) hs.symm hb.symm ?_
  rw[Iy l (by omega)]
  simp only[Nat.reduceSub,Dm,Nat.zero_add,Nat.reduceAdd]at p5⊢
  generalize bt l 0=b0 at*
  generalize bt l 1=b1 at*
  generalize bt l 2=b2 at*
  generalize hr:(b0%16*64+b1%64)*64+b2%64=r at*
  unfold wid at p5
  unfold GM
  by_cases k1:r<128
  ·rw[if_pos k1]at p5;omega
  rw[if_neg k1]at p5⊢
  by_cases k2:r<2048
  ·rw[if_pos k2]at p5;omega
  rw[if_neg k2]at p5⊢
  by_cases k3:r<65536
  ·rw[if_pos k3]
   simp only[D3,DL,e0,e1,e2,and_true]
   omega
  ·rw[if_neg k3]at p5;omega
 by_cases g4:240<=bt l 0/\bt l 0<248
 ·have hs:hdS (bt l 0)=4:=by unfold hdS;rw[if_neg g1,if_neg g2,if_neg g3,if_pos g4]
  have hb:hdB (bt l 0)=bt l 0%8:=by unfold hdB;rw[if_neg g1,if_neg g2,if_neg g3,if_pos g4]
  rw[hs]at p3 p4 p5
  rw[hb]at p4 p5
  have q1:=p3 1 (by omega) (by omega)
  have q2:=p3 2 (by omega) (by omega)
  have q3:=p3 3 (by omega) (by omega)
  refine fin 4 (bt l 0%8) (by unfold rsz;rw[if_pos (by omega)]) (by unfold rb0;rw[if_pos (by omega)]) hs.symm hb.symm ?_
  rw[M8 l (by omega)]
  simp only[Nat.reduceSub,Dm,Nat.zero_add,Nat.reduceAdd]at p4 p5⊢
  generalize bt l 0=b0 at*
  generalize bt l 1=b1 at*
  generalize bt l 2=b2 at*
  generalize bt l 3=b3 at*
  generalize hr:((b0%8*64+b1%64)*64+b2%64)*64+b3%64=r at*
  unfold wid at p5
  unfold GM
  by_cases k1:r<128
  ·rw[if_pos k1]at p5;omega
  rw[if_neg k1]at p5⊢
  by_cases k2:r<2048
  ·rw[if_pos k2]at p5;omega
  rw[if_neg k2]at p5⊢
  by_cases k3:r<65536
  ·rw[if_pos k3]at p5;omega
  rw[if_neg k3]
  have:=p4.1
  simp only[D3,DL,e0,e1,e2,e3,and_true]
  omega
 ·exfalso
  unfold hdS at p1
  rw[if_neg g1,if_neg g2,if_neg g3,if_neg g4]at p1
  exact p1 rfl
theorem pd_iff (l:B8) (h:l≠ []):ul l≠0->Rs l:=by
 intro hu
 have e:=Oj l h
 rw[if_neg hu]at e
 have h0:=F8 l 0
 have e0:(l.getD 0 0).toNat=bt l 0:=rfl
 have e1:(l.getD 1 0).toNat=bt l 1:=rfl
 have e2:(l.getD 2 0).toNat=bt l 2:=rfl
 have e3:(l.getD 3 0).toNat=bt l 3:=rfl
 have h1:=F8 l 1
 have h2:=F8 l 2
 have h3:=F8 l 3
 have hc:¬l.length<rsz (bt l 0)/\A8 (Dm l (rb0 (bt l 0)) (rsz (bt l 0)-1))/\GM (Dm l (rb0 (bt l 0)) (rsz (bt l 0)-1))=l.take (rsz (bt l 0)):=by
  unfold Wb at e
  simp only at e
  split at e
  ·simp only[Prod.mk.injEq]at e;omega
  ·split at e
   ·rename_i a b;exact⟨a,b⟩
   ·simp only[Prod.mk.injEq]at e;omega
 obtain⟨hl,hch,henc⟩:=hc
 by_cases g4:240<=bt l 0
 ·have r4:rsz (bt l 0)=4:=by unfold rsz;rw[if_pos g4]
  have rb:rb0 (bt l 0)=bt l 0%8:=by unfold rb0;rw[if_pos g4]
  rw[r4,rb]at henc hch
  rw[r4]at hl
  rw[M8 l (by omega)]at henc
  unfold Rs hdS hdB
  simp only[Nat.reduceSub,Dm,Nat.zero_add,Nat.reduceAdd]at henc hch
  generalize hb0:bt l 0=b0 at*
  generalize hb1:bt l 1=b1 at*
  generalize hb2:bt l 2=b2 at*
  generalize hb3:bt l 3=b3 at*
  have hr0:∃r,r=((b0%8*64+b1%64)*64+b2%64)*64+b3%64:=⟨_,rfl⟩
  obtain⟨r,hr⟩:=hr0
  rw[<-hr]at henc hch
  have hmax:=hch.1
  unfold GM at henc
  have hw:wid r=4/\b0=240+r/262144/\b1/64=2/\b2/64=2/\b3/64=2:=by
   unfold wid
   split at henc
   ·simp at henc
   ·split at henc
    ·simp at henc
    ·split at henc
     ·simp at henc
     ·simp only[D3,DL,e0,e1,e2,e3,and_true]at henc
      refine⟨by rw[if_neg ‹_›,if_neg ‹_›,if_neg ‹_›],by omega,by omega,by omega,by omega⟩
  rw[if_neg (show ¬b0<128 by omega),if_neg (show ¬(192<=b0/\b0<224) by omega),if_neg (show ¬(224<=b0/\b0<240) by omega),if_pos (show 240<=b0/\b0<248 by omega),if_neg (show ¬b0<128 by omega),if_neg (show ¬(192<=b0/\b0<224) by omega),if_neg (show ¬(224<=b0/\b0<240) by omega),if_pos (show 240<=b0/\b0<248 by omega)]
  simp only[Nat.reduceSub,Dm,Nat.zero_add,Nat.reduceAdd,hb1,hb2,hb3]
  rw[<-hr]
  refine⟨by omega,by omega,fun j j1 j2=>?_,hch,hw.1⟩
  have:j=1∨j=2∨j=3:=by omega
  rcases this with rfl | rfl | rfl<;>omega
 by_cases g3:224<=bt l 0
 ·have r4:rsz (bt l 0)=3:=by unfold rsz;rw[if_neg g4,if_pos g3]
  have rb:rb0 (bt l 0)=bt l 0%16:=by unfold rb0;rw[if_neg g4,if_pos g3]
  rw[r4,rb]at henc hch
  rw[r4]at hl
  rw[Iy l (by omega)]at henc
  unfold Rs hdS hdB
  simp only[Nat.reduceSub,Dm,Nat.zero_add,Nat.reduceAdd]at henc hch
  generalize hb0:bt l 0=b0 at*
  generalize hb1:bt l 1=b1 at*
  generalize hb2:bt l 2=b2 at*
  have hr0:∃r,r=(b0%16*64+b1%64)*64+b2%64:=⟨_,rfl⟩
  obtain⟨r,hr⟩:=hr0
  rw[<-hr]at henc hch
  unfold GM at henc
  have hw:wid r=3/\b1/64=2/\b2/64=2:=by
   unfold wid
   split at henc
   ·simp at henc
   ·split at henc
    ·simp at henc
    ·split at henc
     ·simp only[D3,DL,e0,e1,e2,and_true]at henc
      refine⟨by rw[if_neg ‹_›,if_neg ‹_›,if_pos ‹_›],by omega,by omega⟩
     ·simp at henc
  rw[if_neg (show ¬b0<128 by omega),if_neg (show ¬(192<=b0/\b0<224) by omega),if_pos (show 224<=b0/\b0<240 by omega),if_neg (show ¬b0<128 by omega),if_neg (show ¬(192<=b0/\b0<224) by omega),if_pos (show 224<=b0/\b0<240 by omega)]
  simp only[Nat.reduceSub,Dm,Nat.zero_add,Nat.reduceAdd,hb1,hb2]
  rw[<-hr]
  refine⟨by omega,by omega,fun j j1 j2=>?_,hch,hw.1⟩
  have:j=1∨j=2:=by omega
  rcases this with rfl | rfl<;>omega
 by_cases g2:192<=bt l 0
 ·have r4:rsz (bt l 0)=2:=by unfold rsz;rw[if_neg g4,if_neg g3,if_pos g2]
  have rb:rb0 (bt l 0)=bt l 0%32:=by unfold rb0;rw[if_neg g4,if_neg g3,if_pos g2]
  rw[r4,rb]at henc hch
  rw[r4]at hl
  rw[LP l (by omega)]at henc
  unfold Rs hdS hdB
  simp only[Nat.reduceSub,Dm,Nat.zero_add,Nat.reduceAdd]at henc hch
  generalize hb0:bt l 0=b0 at*
  generalize hb1:bt l 1=b1 at*
  have hr0:∃r,r=b0%32*64+b1%64:=⟨_,rfl⟩
  obtain⟨r,hr⟩:=hr0
  rw[<-hr]at henc hch
  unfold GM at henc
  have hw:wid r=2/\b1/64=2:=by
   unfold wid
   split at henc
   ·simp at henc
   ·split at henc
    ·simp only[D3,DL,e0,e1,and_true]at henc
     refine⟨by rw[if_neg ‹_›,if_pos ‹_›],by omega⟩
    ·split at henc<;>simp at henc
  rw[if_neg (show ¬b0<128 by omega),if_pos (show 192<=b0/\b0<224 by omega),if_neg (show ¬b0<128 by omega),if_pos (show 192<=b0/\b0<224 by omega)]
  simp only[Nat.reduceSub,Dm,Nat.zero_add,hb1]
  rw[<-hr]
  refine⟨by omega,by omega,fun j j1 j2=>?_,hch,hw.1⟩
  have:j=1:=by omega
  subst this;omega
 ·have r4:rsz (bt l 0)=1:=by unfold rsz;rw[if_neg g4,if_neg g3,if_neg g2]
  have rb:rb0 (bt l 0)=bt l 0:=by unfold rb0;rw[if_neg g4,if_neg g3,if_neg g2]
  rw[r4,rb]at henc hch
  rw[r4]at hl
  rw[LQ l (by omega)]at henc
  unfold Rs hdS hdB
  simp only[Nat.sub_self,Dm]at henc hch
  generalize hb0:bt l 0=b0 at*
  have hlt:b0<128:=by
   unfold GM at henc
   split at henc
   ·assumption
   ·split at henc
    ·simp at henc
    ·split at henc<;>simp at henc
  rw[if_pos hlt,if_pos hlt]
  simp only[Nat.sub_self,Dm]
  refine⟨by omega,by omega,fun j j1 j2=>by omega,hch,by unfold wid;rw[if_pos hlt]⟩
theorem TS {s:B8} {I:Int} {i:Nat} {st:St} {K:Int->Int->St->Prop} (hI:I=(i:Int)) (hl:s.length<=2000000) (hi:i<=s.length) (hk:K ((rD (s.drop i)).1:Nat) ((rD (s.drop i)).2:Nat) st):
  CallT PR Hq [.str s,.int .i64 I] [.one (.int .i64),.one (.int .i64)] st K:=by
 have no:¬Rs (s.drop i)->s.drop i≠ []->K 0 0 st:=fun h hne=>by
  have:ul (s.drop i)=0:=Decidable.byContradiction fun h0=>h (pd_iff _ hne h0)
  unfold rD at hk
  rw[if_pos this]at hk;exact hk
 have yes:Rs (s.drop i)->s.drop i≠ []->K (Dm (s.drop i) (hdB (bt (s.drop i) 0)) (hdS (bt (s.drop i) 0)-1):Nat) (hdS (bt (s.drop i) 0):Nat) st:=fun h hne=>by
  have hv:=pd_val _ hne h
  unfold rD at hk
  rw[if_neg (by rw[hv.1];exact h.1),hv.1,hv.2]at hk
  exact hk
 have hlen:(s.drop i).length=s.length-i:=by simp
 have hb:∀j,bt (s.drop i) j=(s.getD (i+j) 0).toNat:=R3 s i
 refine PQ s I st K (Aa (fun h=>by omega) fun _=>Aa (fun h=>?_) fun h=>⟨⟨by omega,by omega⟩,?_⟩)
 ·have:s.drop i=[]:=List.drop_of_length_le (by omega)
  have h0:rD (s.drop i)=(0,0):=by rw[this];simp[rD,ul]
  rw[h0]at hk;exact hk
 have hne:s.drop i≠ []:=by
  intro h0
  have:=congrArg List.length h0
  rw[hlen]at this;simp only[List.length_nil]at this;omega
 have hb0:(List.getD s (Int.toNat I) 0).toNat=bt (s.drop i) 0:=by rw[hb,hI];rfl
 have hlt:=F8 (s.drop i) 0
 rw[hb0]
 refine head_ok rfl hlt ?_
 have hsz:hdS (bt (s.drop i) 0)<=4:=by unfold hdS;(repeat' split)<;>omega
 have hbz:hdB (bt (s.drop i) 0)<256:=by unfold hdB;(repeat' split)<;>omega
 unfold Rs at no yes
 generalize hdS (bt (s.drop i) 0)=n at*
 generalize hdB (bt (s.drop i) 0)=r0 at*
 rw[Ad _ (by omega) (by omega)]
 refine Aa (fun g=>no (fun hh=>hh.1 (by omega)) hne) fun g1=>Aa (fun g=>no (fun hh=>by omega) hne) fun g2=>?_
 have hra:=Rr (s.drop i) r0 hbz
 refine⟨fun r j s' at' sz st2=>s=s'/\I=at'/\st=st2/\((n:Nat):Int)=sz/\∃k:Nat,j=((k+1:Nat):Int)/\k+1<=n/\r=((Dm (s.drop i) r0 k:Nat):Int)/\∀m,1<=m->m<=k->bt (s.drop i) m/64=2,fun _ j _ _ sz _=>(sz-j).toNat,⟨rfl,rfl,rfl,rfl,0,rfl,by omega,rfl,fun m h1 h2=>by omega⟩,?_⟩
 rintro _ _ _ _ _ _ ⟨rfl,rfl,rfl,rfl,k,rfl,hk1,rfl,hall⟩
 have hrk:=hra k
 have h64:64^k<=64^3:=Nat.pow_le_pow_right (by decide) (by omega)
 refine Aa (fun h2=>?_) fun h2=>?_
 ·rw[Ad (I+((k+1:Nat):Int)) (by omega) (by omega)]
  have hbk:(List.getD s (Int.toNat (I+((k+1:Nat):Int))) 0).toNat=bt (s.drop i) (k+1):=by
   rw[hb,show Int.toNat (I+((k+1:Nat):Int))=i+(k+1) by omega]
  have hbl:=F8 (s.drop i) (k+1)
  have h192:Au .and .u8 ((bt (s.drop i) (k+1):Nat):Int) (192:Int)=((bt (s.drop i) (k+1)&&&192:Nat):Int):=YR _ 192 hbl (by decide)
  have hand:i64.wrap (Au .and .u8 ((bt (s.drop i) (k+1):Nat):Int) (63:Int))=((bt (s.drop i) (k+1)%64:Nat):Int):=by
   rw[show(63:Int)=((2^6-1:Nat):Int) by decide,KA _ 6 hbl (by decide),Ad _ (by omega) (by omega)]
  have hmul:i64.wrap (((Dm (s.drop i) r0 k:Nat):Int)*2^(min (Int.toNat (6:Int)) (IntKind.bits .i64)))=((Dm (s.drop i) r0 k*2^6:Nat):Int):=by
   rw[show(2:Int)^(min (Int.toNat (6:Int)) (IntKind.bits .i64))=64 by decide,Ad _ (by omega) (by omega)];omega
  have hc:(bt (s.drop i) (k+1)&&&192)=128↔bt (s.drop i) (k+1)/64=2:=by
   have:∀x,x<256->((x&&&192)=128↔x/64=2):=by decide+kernel
   exact this _ hbl
  refine⟨⟨by omega,by omega⟩,?_⟩
  rw[hbk,h192,hand,hmul,Nh _ _ 6 (by omega) (by omega),Ad _ (by omega) (by omega)]
  refine Aa (fun h3=>no (fun hh=>h3 ?_) hne) fun h3=>?_
  ·have:=hh.2.2.1 (k+1) (by omega) (by omega)
   rw[hc.2 this];rfl
  ·have h4:bt (s.drop i) (k+1)/64=2:=hc.1 (by omega)
   refine⟨⟨rfl,rfl,rfl,rfl,k+1,by omega,by omega,by simp only[Dm],fun m m1 m2=>?_⟩,by dsimp only;omega⟩
   by_cases hm:m=k+1
   ·rw[hm];exact h4
   ·exact hall m m1 (by omega)
 ·have hks:k=n-1:=by omega
  subst hks
  refine V5 rfl (Aq (fun h3=>no (fun hh=>?_) hne) fun h3=>WY rfl (Aa (fun h4=>no (fun hh=>?_) hne) fun h4=>?_))
  ·simp only[Bool.not_eq_true',decide_eq_false_iff_not]at h3
   exact h3 hh.2.2.2.1
  ·rw[hh.2.2.2.2]at h4;exact h4 rfl
  ·simp only[Bool.not_eq_false',decide_eq_true_eq]at h3
   exact yes ⟨by omega,by omega,fun m m1 m2=>hall m m1 (by omega),h3,by omega⟩ hne
theorem uLen_ok {s:B8} {st:St} {K:Int->Int->St->Prop} (hl:s.length<=2000000) (hk:∀n:Int,K n (if GV s=s.length then 0 else 5) st):CallT PR Lm [.str s] [.one (.int .i64),.one (.int .i64)] st K:=by
 have hv:=Sm s
 refine TQ s st K ⟨fun n i s' st'=>s=s'/\st=st'/\∃k:Nat,i=(k:Int)/\k<=s.length/\k+GV (s.drop k)=GV s,fun _ i _ _=>(s.length-i).toNat,⟨rfl,rfl,0,rfl,by omega,by simp⟩,?_⟩
 rintro n _ _ _ ⟨rfl,rfl,k,rfl,h1,h2⟩
 refine Aa (fun g1=>TS rfl hl h1 ?_) fun g1=>?_
 ·have hle:=Vh (s.drop k)
  rw[List.length_drop]at hle
  unfold rD
  by_cases h0:ul (s.drop k)=0
  ·rw[if_pos h0]
   rw[HD _ h0]at h2
   have:=hk 0
   rw[if_neg (by omega)]at this
   exact Aa (fun _=>this) fun h=>absurd rfl h
  ·rw[if_neg h0]
   rw[MP _ h0,List.drop_drop]at h2
   refine Aa (fun h=>absurd h (by show ¬((ul (s.drop k):Nat):Int)=0;omega)) fun _=>?_
   have w:i64.wrap ((k:Int)+(ul (s.drop k):Nat))=((k+ul (s.drop k):Nat):Int):=by rw[Ad _ (by omega) (by omega)];omega
   dsimp only
   rw[w]
   exact⟨⟨rfl,rfl,_,rfl,by omega,by omega⟩,by omega⟩
 ·rw[show s.drop k=[]from List.drop_of_length_le (by omega),Oz]at h2
  have:=hk n
  rw[if_pos (by omega)]at this
  exact this
theorem MY {s:B8} {st:St} {K:Bool->St->Prop} (hl:s.length<=2000000) (hk:K (decide (GV s=s.length)) st):CallT PR EU [.str s] [.one (.bool)] st K:=by
 refine Q8 s st K (uLen_ok hl fun n=>?_)
 by_cases h:GV s=s.length
 ·rw[if_pos h];rw[decide_eq_true h]at hk;exact hk
 ·rw[if_neg h];rw[decide_eq_false h]at hk;exact hk
theorem LM {l:B8} {c:UInt8} (hc:c.toNat<128) (hl:l.length<=9223372036854775807) {st:St} {K:B8->St->Prop} (hk:K (Lib.trimRightB l c) st):CallT PR DP [.str l,.str [c]] [.one .str] st K:=by
 refine EP (fun _ _=>by kernel_rfl) fun g w vargs s hr=>?_
 obtain⟨v,u,rfl,hv,hu⟩:=Ma hr
 rw[DI hv,DI hu]
 refine Calls.mono (Tryz.strings_TrimRight_one ⟨l.toArray⟩ c hc w (by simpa [ByteArray.size]using hl)) ?_
 rintro e w' ⟨rfl,rfl⟩
 exact⟨_,rfl,.str _,st,g,hk,s,Rel.str _,Ext.refl _ _⟩
theorem JT (l:B8):(Lib.trimRightB l 48).length+Bo l=l.length:=by
 unfold Lib.trimRightB Bo
 have:=congrArg List.length (List.takeWhile_append_dropWhile (p:=fun x:UInt8=>x==48) (l:=l.reverse))
 rw[List.length_append,List.length_reverse]at this
 rw[List.length_reverse];omega
theorem WU {l:B8} (hl:l.length<=2000000) {st:St} {K:Int->St->Prop} (hk:K (Bo l:Nat) st):CallT PR FX [.str l] [.one (.int .i64)] st K:=by
 refine N4 _ st K (LM (by decide) (by omega) ?_)
 have:=JT l
 rw[Ad _ (by omega) (by omega),show((l.length:Nat):Int)-((Lib.trimRightB l 48).length:Int)=(Bo l:Nat) by omega]
 exact hk
theorem TT {p:UInt8->Bool}:∀(r:B8) (n:Nat),n<=r.length->(∀j x,j<n->r[j]? =some x->p x=true)->(∀x,r[n]? =some x->p x=false)->(r.takeWhile p).length=n
 | [],n,h,_,_=>by simp at h;simp[h]
 | a::r,0,_,_,h=>by simp[List.takeWhile_cons,h a rfl]
 | a::r,n+1,h,h1,h2=>by
  rw[List.takeWhile_cons,if_pos (h1 0 a (by omega) rfl),List.length_cons,TT r n (by simpa using h) (fun j x hj hx=>h1 (j+1) x (by omega) (by simpa using hx)) (fun x hx=>h2 x (by simpa using hx))]
theorem Xt (l:B8) (n:Nat) (h:n<l.length):l.reverse[n]? =some (List.getD l (l.length-1-n) 0):=by
 rw[List.getElem?_reverse h,List.getD_eq_getElem?_getD,List.getElem?_eq_getElem (by omega),Option.getD_some]
theorem Qq {l:B8} (hl:l.length<=2000000) {st:St} {K:Int->St->Prop} (hk:K (Bo l:Nat) st):CallT PR Cq [.str l] [.one (.int .i64)] st K:=by
 refine Jp l st K ⟨fun i s st'=>l=s/\st=st'/\∃n:Nat,i=n/\n<=l.length/\∀j x,j<n->l.reverse[j]? =some x->(x==48)=true,fun i _ _=>(l.length-i).toNat,⟨rfl,rfl,0,rfl,Nat.zero_le _,fun j x hj=>absurd hj (Nat.not_lt_zero _)⟩,?_⟩
 rintro _ _ _ ⟨rfl,rfl,n,rfl,hn,hall⟩
 refine Aa (fun g=>?_) fun g=>?_
 ·have hr:=Xt l n (by omega)
  rw[Ad ((l.length:Int)-1) (by omega) (by omega),Ad _ (by omega) (by omega),show Int.toNat ((l.length:Int)-1-(n:Int))=l.length-1-n by omega]
  refine⟨⟨by omega,by omega⟩,?_⟩
  generalize List.getD l (l.length-1-n) 0=c at hr⊢
  refine Aa (fun g2=>?_) fun g2=>?_
  ·rw[Ad _ (by omega) (by omega)]
   refine⟨⟨rfl,rfl,n+1,by omega,by omega,fun j x hj hx=>?_⟩,by dsimp only;omega⟩
   by_cases hjn:j=n
   ·subst hjn
    rw[hr]at hx
    rw[<-Option.some.inj hx]
    simpa [<-UInt8.toNat_inj]using (by omega:c.toNat=48)
   ·exact hall j x (by omega) hx
  ·have:Bo l=n:=TT _ n (by simpa using hn) hall fun x hx=>by
    rw[hr]at hx
    rw[<-Option.some.inj hx]
    have:c≠48:=fun e=>g2 (by rw[e];rfl)
    simpa using this
   rw[<-this];exact hk
 ·have:Bo l=n:=TT _ n (by simpa using hn) hall fun x hx=>by
   rw[List.getElem?_eq_none (by simp;omega)]at hx;cases hx
  rw[<-this];exact hk
theorem FG {l:B8} {n:Nat} (h:n<l.length):List.getD l n 0∈l:=by
 rw[List.getD_eq_getElem?_getD,List.getElem?_eq_getElem h,Option.getD_some]
 exact List.getElem_mem h
theorem TJ {P:UInt8->Prop} {l:B8} {n:Nat} (h:n<l.length) (h1:∀c,c∈l.take n->P c) (h2:P (List.getD l n 0)):∀c,c∈l.take (n+1)->P c:=by
 intro c hc
 rw[D9 _ _ 0 h]at hc
 rcases List.mem_append.1 hc with hc | hc
 ·exact h1 c hc
 ·rw[List.mem_singleton.1 hc];exact h2
theorem all_ok {l:B8} (hl:l.length<=2000000) {st:St} {K:Bool->St->Prop} (hk:K (decide (∀c,c∈l->AL c)) st):CallT PR Hr [.str l] [.one .bool] st K:=by
 refine PT l st K ⟨fun i s m st'=>l=s/\(l.length:Int)=m/\st=st'/\∃n:Nat,i=n/\n<=l.length/\∀c,c∈l.take n->AL c,fun i _ _ _=>(l.length-i).toNat,⟨rfl,rfl,rfl,0,rfl,Nat.zero_le _,fun c hc=>by simp at hc⟩,?_⟩
 rintro _ _ _ _ ⟨rfl,rfl,rfl,n,rfl,hn,hall⟩
 refine Aa (fun g=>?_) fun g=>?_
 ·have hm:=FG (l:=l) (n:=n) (by omega)
  have bad:¬AL (List.getD l n 0)->K false st:=fun hb=>by
   rw[decide_eq_false fun h=>hb (h _ hm)]at hk;exact hk
  rw[Int.toNat_natCast]
  refine⟨⟨by omega,by omega⟩,Aa (fun g2=>bad (by unfold AL;omega)) fun g2=>⟨⟨by omega,by omega⟩,Aa (fun g3=>bad (by unfold AL;omega)) fun g3=>?_⟩⟩
  rw[Ad _ (by omega) (by omega)]
  exact⟨⟨rfl,rfl,rfl,n+1,by omega,by omega,TJ (by omega) hall (by unfold AL;omega)⟩,by dsimp only;omega⟩
 ·have:n=l.length:=by omega
  subst this
  rw[List.take_length]at hall
  rw[decide_eq_true hall]at hk;exact hk
theorem Uk {l:B8} (hl:l.length<=2000000) {st:St} {K:Bool->St->Prop} (hk:K (decide (∀c,c∈l->AL c)) st):CallT PR Dg [.str l] [.one .bool] st K:=by
 refine Io l st K ⟨fun i s st'=>l=s/\st=st'/\∃n:Nat,i=n/\n<=l.length/\∀c,c∈l.take n->AL c,fun i _ _=>(l.length-i).toNat,⟨rfl,rfl,0,rfl,Nat.zero_le _,fun c hc=>by simp at hc⟩,?_⟩
 rintro _ _ _ ⟨rfl,rfl,n,rfl,hn,hall⟩
 refine Aa (fun g=>?_) fun g=>?_
 ·have hm:=FG (l:=l) (n:=n) (by omega)
  have bad:¬AL (List.getD l n 0)->K false st:=fun hb=>by
   rw[decide_eq_false fun h=>hb (h _ hm)]at hk;exact hk
  rw[Int.toNat_natCast]
  refine⟨⟨by omega,by omega⟩,Aa (fun g2=>bad (by unfold AL;omega)) fun g2=>⟨⟨by omega,by omega⟩,Aa (fun g3=>bad (by unfold AL;omega)) fun g3=>?_⟩⟩
  rw[Ad _ (by omega) (by omega)]
  exact⟨⟨rfl,rfl,n+1,by omega,by omega,TJ (by omega) hall (by unfold AL;omega)⟩,by dsimp only;omega⟩
 ·have:n=l.length:=by omega
  subst this
  rw[List.take_length]at hall
  rw[decide_eq_true hall]at hk;exact hk
def Kf (l:B8):Prop:=l.length<=600/\(∀c,c∈l->AL c)/\(l≠ []->l.getD 0 0≠48)
instance (l:B8):Decidable (Kf l):=inferInstanceAs (Decidable (_/\_/\(_->_)))
theorem ne48 (c:UInt8):decide ((c.toNat:Int)≠48)=decide (c≠48):=by
 have:((c.toNat:Int)≠48)↔c≠48:=by rw[ne_eq,ne_eq,<-UInt8.toNat_inj];exact not_congr ⟨fun h=>Int.ofNat.inj h,fun h=>by rw[h];rfl⟩
 exact decide_eq_decide.2 this
theorem QQ {l:B8} (hl:l.length<=2000000) {st:St} {K:Bool->St->Prop} (hk:K (decide (Kf l)) st):CallT PR Ev [.str l] [.one .bool] st K:=by
 have no:¬Kf l->K false st:=fun h=>by rw[decide_eq_false h]at hk;exact hk
 refine N5 l st K (Aa (fun g=>all_ok hl (Aa (fun g2=>Aa (fun g3=>?_) fun g3=>⟨⟨by omega,by have:=List.length_pos_iff.2 g3;omega⟩,?_⟩) fun g2=>no fun h=>g2 h.2.1)) fun g=>no fun h=>g (by have:=h.1;omega))
 ·rw[decide_eq_true (show Kf l from⟨by omega,g2,fun h=>absurd g3 h⟩)]at hk;exact hk
 ·rw[ne48]
  refine Fs (decide_eq_decide.2 ?_) hk
  exact⟨fun h=>⟨by omega,g2,fun _=>h⟩,fun h=>h.2.2 g3⟩
theorem Vp {l:B8} (hl:l.length<=2000000) {st:St} {K:Bool->St->Prop} (hk:K (decide (Kf l)) st):CallT PR Cr [.str l] [.one .bool] st K:=by
 have no:¬Kf l->K false st:=fun h=>by rw[decide_eq_false h]at hk;exact hk
 refine Jq l st K (Aa (fun g=>Uk hl (Aa (fun g2=>Aa (fun g3=>?_) fun g3=>⟨⟨by omega,by omega⟩,?_⟩) fun g2=>no fun h=>g2 h.2.1)) fun g=>no fun h=>g (by have:=h.1;omega))
 ·rw[decide_eq_true (show Kf l from⟨by omega,g2,fun h=>absurd (List.eq_nil_of_length_eq_zero (by omega)) h⟩)]at hk;exact hk
 ·rw[ne48]
  refine Fs (decide_eq_decide.2 ?_) hk
  exact⟨fun h=>⟨by omega,g2,fun _=>h⟩,fun h=>h.2.2 fun e=>g3 (by rw[e];rfl)⟩
theorem Dr {neg:Bool} {l:B8} {ex:Int} (h:l≠ []):Cu neg l ex↔Kf l/\l.length<=120/\Bo l=0/\ -400<=ex/\ex<=400:=by
 unfold Cu Kf
 constructor
 ·intro g
  obtain⟨g1,g2,g3,g4,g5,g6⟩:=g.2 h
  exact⟨⟨by omega,g2,fun _=>g3⟩,g1,g4,g5,g6⟩
 ·rintro⟨⟨g1,g2,g3⟩,g4,g5,g6,g7⟩
  exact⟨fun e=>absurd e h,fun _=>⟨g4,g2,g3 h,g5,g6,g7⟩⟩
theorem HY {neg:Bool} {ex:Int}:Cu neg [] ex↔neg=false/\ex=0:=by
 unfold Cu
 exact⟨fun g=>g.1 rfl,fun g=>⟨fun _=>g,fun h=>absurd rfl h⟩⟩
theorem NR {neg:Bool} {l:B8} {ex:Int} (hl:l.length<=2000000) {st:St} {K:Bool->St->Prop} (hk:K (decide (Cu neg l ex)) st):CallT PR Eb [.agg [.bool neg,.str l,.int .i64 ex]] [.one .bool] st K:=by
 have no:¬Cu neg l ex->K false st:=fun h=>by rw[decide_eq_false h]at hk;exact hk
 refine MT _ _ _ st K (Aa (fun g=>?_) fun g=>?_)
 ·subst g
  refine Fs ?_ hk
  rw[Bool.eq_iff_iff]
  simp[HY]
 ·refine QQ hl (Aa (fun g2=>Aa (fun g3=>WU hl (Aa (fun g4=>Aa (fun g5=>?_) fun g5=>?_) fun g4=>?_)) fun g3=>?_) fun g2=>?_)
  ·exact Fs (decide_eq_decide.2 (by rw[Dr g];exact⟨fun h=>⟨g2,by omega,by omega,g5,h⟩,fun h=>h.2.2.2.2⟩)) hk
  ·exact no fun h=>g5 ((Dr g).1 h).2.2.2.1
  ·exact no fun h=>g4 (by have:=((Dr g).1 h).2.2.1;omega)
  ·exact no fun h=>g3 (by have:=((Dr g).1 h).2.1;omega)
  ·exact no fun h=>g2 ((Dr g).1 h).1
theorem rDec_ok {neg:Bool} {l:B8} {ex:Int} (hl:l.length<=2000000) {st:St} {K:Bool->St->Prop} (hk:K (decide (Cu neg l ex)) st):CallT PR Dy [.agg [.bool neg,.str l,.int .i64 ex]] [.one .bool] st K:=by
 have no:¬Cu neg l ex->K false st:=fun h=>by rw[decide_eq_false h]at hk;exact hk
 refine Jn _ _ _ st K (Aa (fun g=>?_) fun g=>?_)
 ·subst g
  cases neg
  ·exact Fs (by rw[Bool.eq_iff_iff];simp[HY]) hk
  ·exact Fs (by rw[Bool.eq_iff_iff];simp[HY]) hk
 ·refine Aa (fun g3=>Vp hl (Aa (fun g2=>Qq hl (Aa (fun g4=>Aa (fun g5=>?_) fun g5=>?_) fun g4=>?_)) fun g2=>?_)) fun g3=>?_
  ·exact Fs (decide_eq_decide.2 (by rw[Dr g];exact⟨fun h=>⟨g2,by omega,by omega,g5,h⟩,fun h=>h.2.2.2.2⟩)) hk
  ·exact no fun h=>g5 ((Dr g).1 h).2.2.2.1
  ·exact no fun h=>g4 (by have:=((Dr g).1 h).2.2.1;omega)
  ·exact no fun h=>g2 ((Dr g).1 h).1
  ·exact no fun h=>g3 (by have:=((Dr g).1 h).2.1;omega)
theorem LO {k d n z:Int} {st:St} {K:Bool->St->Prop} (hk:K (decide (BW k d n z)) st):CallT PR Do [.agg [.int .i64 k,.int .i64 d,.int .i64 n,.int .i64 z]] [.one .bool] st K:=by
 refine N2 _ _ _ _ st K ?_
 repeat' first
  | exact Fs (Eq.symm (decide_eq_false (by unfold BW;omega))) hk
  | exact Fs (Eq.symm (decide_eq_true (by unfold BW;omega))) hk
  | exact Fs (decide_eq_decide.2 (by unfold BW;omega)) hk
  | refine Aa (fun _=>?_) fun _=>?_
theorem Yx {k:Int} {st:St} {K:Bool->St->Prop} (hk:K (decide (k=1∨k=3∨k=4)) st):CallT PR Dv [.int .i64 k] [.one .bool] st K:=by
 refine Jg _ st K ?_
 repeat' first
  | exact Fs (Eq.symm (decide_eq_true (by omega))) hk
  | exact Fs (decide_eq_decide.2 (by omega)) hk
  | refine Aa (fun _=>?_) fun _=>?_
theorem UU {k:Int} {st:St} {K:Bool->St->Prop} (hk:K (decide (k=2∨k=3∨k=4)) st):CallT PR BY [.int .i64 k] [.one .bool] st K:=by
 refine HH _ st K ?_
 repeat' first
  | exact Fs (Eq.symm (decide_eq_true (by omega))) hk
  | exact Fs (decide_eq_decide.2 (by omega)) hk
  | refine Aa (fun _=>?_) fun _=>?_
theorem SZ {k d n z:Int} {st:St} {K:Bool->St->Prop} (hk:K (decide (BW k d n z)) st):CallT PR Cp [.agg [.int .i64 k,.int .i64 d,.int .i64 n,.int .i64 z]] [.one .bool] st K:=by
 refine Ji _ _ _ _ st K ?_
 repeat' first
  | exact Fs (Eq.symm (decide_eq_false (by unfold BW;omega))) hk
  | exact Fs (Eq.symm (decide_eq_true (by unfold BW;omega))) hk
  | exact Fs (decide_eq_decide.2 (by unfold BW;omega)) hk
  | refine Aa (fun _=>?_) fun _=>?_
  | refine Yx ?_
  | refine UU ?_
theorem orc {c p r:Bool} {K:Bool->Prop} {R1 R2:Prop} (h1:K r->R1) (h2:K r->R2) (hk:K ((c&&p) || r)):BIf c (BIf p (K true) R1) R2:=by
 cases c<;>cases p<;>simp only[Bool.true_and,Bool.false_and,Bool.true_or,Bool.false_or]at hk<;>first | exact h1 hk | exact h2 hk | exact hk
theorem orn {c p r s:Bool} {K:Bool->Prop} {R1 R2:Prop} (hs:s=true) (h1:K r->R1) (h2:K r->R2) (hk:K ((c&&p) || r)):BIf c (need s (BIf p (K true) R1)) R2:=by
 subst hs;exact orc h1 h2 hk
theorem ore {c p s:Bool} {K:Bool->Prop} (hs:s=true) (hk:K (c&&p)):BIf c (need s (K p)) (K false):=by
 subst hs;cases c<;>exact hk
def exB (s:Sc) (l:List Vl) (f:List Fd):Bool:=
 (decide (s.kind≠1)&&s.b) || ((decide (s.kind≠2)&& !((s.neg==false)&&(decide (s.dg=[])&&(decide (s.ex=0)&&true)))) || ((decide (s.kind≠3)&& !(decide (s.tk=0)&&(decide (s.td=0)&&(decide (s.tn=0)&&(decide (s.tz=0)&&true))))) ||
  ((decide (s.kind≠4)&&decide (s.text≠ [])) || ((decide (s.kind≠5)&&decide (0<(s.bytes.length:Int))) || ((decide (s.kind≠6)&&decide (0<(l.length:Int))) || (decide (s.kind≠7)&&decide (0<(f.length:Int))))))))
theorem XW {α:Type} {l:List α}:¬0<(l.length:Int)↔l=[]:=by
 rw[<-List.length_eq_zero_iff];omega
theorem QM {s:Sc} {l:List Vl} {f:List Fd} (h0:0<=s.kind) (h7:s.kind<=7):exB s l f=false↔FM s l f:=by
 unfold exB
 simp only[Bool.or_eq_false_iff,Bool.and_eq_false_imp,decide_eq_true_eq,Bool.not_eq_false',Bool.and_eq_true,beq_iff_eq,decide_eq_false_iff_not,XW,ne_eq,Decidable.not_not,and_true]
 constructor
 ·rintro⟨a,b,c,d,e,f,g⟩;exact⟨h0,h7,a,b,c,d,e,f,g⟩
 ·rintro⟨_,_,a,b,c,d,e,f,g⟩;exact⟨a,b,c,d,e,f,g⟩
theorem exB_eq {s:Sc} {l:List Vl} {f:List Fd} (h0:0<=s.kind) (h7:s.kind<=7):exB s l f= !decide (FM s l f):=by
 cases h:exB s l f with
 | false=>rw[decide_eq_true ((QM h0 h7).1 h)];rfl
 | true=>rw[decide_eq_false fun o=>by rw[(QM h0 h7).2 o]at h;cases h];rfl
theorem Yi {s:Sc} {l:List Vl} {f:List Fd} {ub ul uf:TV} {st:St} {K:Bool->St->Prop} (h1:isSl ub=true) (h2:isSl ul=true) (h3:isSl uf=true) (l1:lenS ub=s.bytes.length) (l2:lenS ul=l.length) (l3:lenS uf=f.length) (hk:K (exB s l f) st):
  CallT PR GD [.agg (AI s ub ul uf)] [.one .bool] st K:=by
 unfold exB at hk
 refine OA _ _ _ _ _ _ _ _ _ _ _ _ _ st K ?_
 rw[l1,l2,l3]
 revert hk
 repeat' first
  | (refine fun hk=>ore (K:=fun b=>K b st) h3 hk)
  | (refine fun hk=>orn (K:=fun b=>K b st) h1 ?_ ?_ hk)
  | (refine fun hk=>orn (K:=fun b=>K b st) h2 ?_ ?_ hk)
  | (refine fun hk=>orc (K:=fun b=>K b st) ?_ ?_ hk)
theorem oac {c p r:Bool} {K:Bool->Prop} {R1 R2:Prop} (h1:K r->R1) (h2:K r->R2) (hk:K (!(c&&p)&&r)):BIf c (BIf p (K false) R1) R2:=by
 cases c<;>cases p<;>simp only[Bool.true_and,Bool.false_and,Bool.not_true,Bool.not_false]at hk<;>first | exact h1 hk | exact h2 hk | exact hk
theorem oaf {c r:Bool} {K:Bool->Prop} {R:Prop} (h:K r->R) (hk:K (!c&&r)):BIf c (K false) R:=by
 cases c<;>simp only[Bool.true_and,Bool.false_and,Bool.not_true,Bool.not_false]at hk<;>first | exact h hk | exact hk
theorem oab {c p r:Bool} {K:Bool->Prop} {R1 R2:Prop} (h1:K r->R1) (h2:K r->R2) (hk:K ((c || p)&&r)):BIf c R1 (BIf p R2 (K false)):=by
 cases c<;>cases p<;>simp only[Bool.true_and,Bool.false_and,Bool.or_true,Bool.or_false,Bool.true_or,Bool.false_or]at hk<;>first | exact h1 hk | exact h2 hk | exact hk
theorem oan {c p r s:Bool} {K:Bool->Prop} {R1 R2:Prop} (hs:s=true) (h1:K r->R1) (h2:K r->R2) (hk:K ((c || p)&&r)):BIf c R1 (need s (BIf p R2 (K false))):=by
 subst hs;exact oab h1 h2 hk
theorem oae {c p s:Bool} {K:Bool->Prop} (hs:s=true) (hk:K (c || p)):BIf c (K true) (need s (K p)):=by
 subst hs;cases c<;>exact hk
def owB (s:Sc) (l:List Vl) (f:List Fd):Bool:=
 !decide (s.kind<0)&&(!decide (7<s.kind)&&(!(decide (s.kind≠1)&&s.b)&&(!(decide (s.kind≠2)&& !((s.neg==false)&&(decide (s.dg=[])&&(decide (s.ex=0)&&true))))&&(!(decide (s.kind≠3)&& !(decide (s.tk=0)&&(decide (s.td=0)&&(decide (s.tn=0)&&(decide (s.tz=0)&&true)))))&&
  ((decide (s.kind=4) || decide (s.text=[]))&&((decide (s.kind=5) || decide ((s.bytes.length:Int)=0))&&((decide (s.kind=6) || decide ((l.length:Int)=0))&&(decide (s.kind=7) || decide ((f.length:Int)=0)))))))))
theorem Wm {α:Type} {l:List α}:(l.length:Int)=0↔l=[]:=by
 rw[<-List.length_eq_zero_iff];omega
theorem XG {s:Sc} {l:List Vl} {f:List Fd}:owB s l f=true↔FM s l f:=by
 unfold owB
 simp only[Bool.and_eq_true,Bool.not_eq_true',Bool.or_eq_true,Bool.and_eq_false_imp,decide_eq_true_eq,Bool.not_eq_false',beq_iff_eq,decide_eq_false_iff_not,Wm,ne_eq,and_true,Int.not_lt]
 constructor
 ·rintro⟨h0,h7,a,b,c,d,e,f,g⟩
  exact⟨h0,h7,a,b,c,fun h=>d.resolve_left h,fun h=>e.resolve_left h,fun h=>f.resolve_left h,fun h=>g.resolve_left h⟩
 ·rintro⟨h0,h7,a,b,c,d,e,f,g⟩
  exact⟨h0,h7,a,b,c,Decidable.or_iff_not_imp_left.2 d,Decidable.or_iff_not_imp_left.2 e,Decidable.or_iff_not_imp_left.2 f,Decidable.or_iff_not_imp_left.2 g⟩
theorem owB_eq {s:Sc} {l:List Vl} {f:List Fd}:owB s l f=decide (FM s l f):=by
 rw[Bool.eq_iff_iff,decide_eq_true_eq];exact XG
theorem own_ok {s:Sc} {l:List Vl} {f:List Fd} {ub ul uf:TV} {st:St} {K:Bool->St->Prop} (h1:isSl ub=true) (h2:isSl ul=true) (h3:isSl uf=true) (l1:lenS ub=s.bytes.length) (l2:lenS ul=l.length) (l3:lenS uf=f.length) (hk:K (decide (FM s l f)) st):
  CallT PR Eg [.agg (AI s ub ul uf)] [.one .bool] st K:=by
 rw[<-owB_eq]at hk
 unfold owB at hk
 refine KE _ _ _ _ _ _ _ _ _ _ _ _ _ st K ?_
 rw[l1,l2,l3]
 revert hk
 repeat' first
  | (refine fun hk=>oae (K:=fun b=>K b st) h3 hk)
  | (refine fun hk=>oan (K:=fun b=>K b st) h1 ?_ ?_ hk)
  | (refine fun hk=>oan (K:=fun b=>K b st) h2 ?_ ?_ hk)
  | (refine fun hk=>oab (K:=fun b=>K b st) ?_ ?_ hk)
  | (refine fun hk=>oac (K:=fun b=>K b st) ?_ ?_ hk)
  | (refine fun hk=>oaf (K:=fun b=>K b st) ?_ hk)
theorem key_ok {s:B8} (hl:s.length<=2000000) {st:St} {K:Int->St->Prop} (hk:K ((if U8 s then(if 1024<s.length then 10 else 0)else 5:Nat):Int) st):CallT PR IR [.str s] [.one (.int .i64)] st K:=by
 refine Q6 _ st K (MY hl (Aq (fun g=>?_) fun g=>?_))
 ·have hu:¬U8 s:=by unfold U8;simpa using g
  rw[if_neg hu]at hk;exact hk
 ·have hu:U8 s:=by unfold U8;simpa using g
  rw[if_pos hu]at hk
  refine Aa (fun g2=>?_) fun g2=>?_
  ·have h3:1024<s.length:=by omega
   rw[if_pos h3]at hk;exact hk
  ·have h3:¬1024<s.length:=by omega
   rw[if_neg h3]at hk;exact hk
theorem Pj (k k':B8) (v:TV):∀es:List (B8×TV),EK k (Ld k' v es)=if k=k' then some v else EK k es
 | []=>by
  simp only[Ld,EK]
  by_cases h:k=k'<;>simp[h]
 | (k1,v1)::es=>by
  simp only[Ld]
  by_cases h1:k'=k1
  ·simp only[h1,decide_true,EK]
   by_cases h:k=k1<;>simp[h]
  ·simp only[h1,decide_false,EK,Pj k k' v es]
   by_cases h:k=k1
   ·simp[h,Ne.symm h1]
   ·simp[h]
def MapN (es:List (B8×TV)) (ns:List B8):Prop:=∀t,EK t es=if t∈ns then some (.bool true)else none
theorem MapN.add {es:List (B8×TV)} {ns:List B8} (h:MapN es ns) (t:B8):MapN (Ld t (.bool true) es) (t::ns):=by
 intro k
 rw[Pj]
 by_cases hk:k=t
 ·simp[hk]
 ·rw[if_neg hk,h k];simp[hk]
theorem IM (seen:List B8) (d:Fd) (r:List Fd):Es seen (d::r)=if U8 d.key then(if 1024<d.key.length then 10 else if d.key∈seen then 8 else Es (d.key::seen) r)else 5:=rfl
theorem NO:∀(f:List Fd) (s s':List B8),(∀x,x∈s↔x∈s')->Es s f=Es s' f
 | [],s,s',_=>rfl
 | d::r,s,s',h=>by
  rw[IM,IM,NO r (d.key::s) (d.key::s') (fun x=>by simp[h x])]
  by_cases hd:d.key∈s
  ·rw[if_pos hd,if_pos ((h _).1 hd)]
  ·rw[if_neg hd,if_neg fun g=>hd ((h _).2 g)]
theorem Ka {α:Type} {l:List α} {k:Nat} {x:α} (h:l[k]? =some x):l.drop k=x::l.drop (k+1):=by
 obtain⟨q1,q2⟩:=List.getElem?_eq_some_iff.1 h
 rw[List.drop_eq_getElem_cons q1,q2]
theorem Vu {f:List Fd} {d:Fd} (h:d∈f):d.key.length<=BS f:=by
 have:=J8 h
 cases d;unfold Fd.sz at this;simp only[Fd.key];omega
theorem keys_ok {st0 st:St} {uf:TV} {xf:List TV} {f:List Fd} (hke:BI st0 st) (h4:SlR st0 14 uf f.length xf) (h5:FsR st0 f xf) (hN:BS f<=2000000) {K:Int->St->Prop} (hk:∀st',Ah st st'->K (Es [] f:Nat) st'):
  CallT PR Hn [uf] [.one (.int .i64)] st K:=by
 have hfl:=CC f
 refine PN _ st K (Ab h4.isSl ⟨fun i m u n st'=> .map st.nb=m/\uf=u/\(f.length:Int)=n/\∃(k:Nat) (ns:List B8) (es:List (B8×TV)),i=k/\k<=f.length/\Ah st st'/\st.nb<st'.nb/\st'.box st.nb= .map es/\MapN es ns/\Es [] f=Es ns (f.drop k),fun i _ _ _ _=>(f.length-i).toNat,
  ⟨rfl,rfl,by rw[h4.lenS],0,[],[],rfl,Nat.zero_le _,(Ah.refl st).push _ _,by simp[St.push],by simp[St.push],fun t=>by simp[EK],rfl⟩,?_⟩)
 rintro _ _ _ _ st1 ⟨rfl,rfl,rfl,k,ns,es,rfl,hkf,e1,hb,hm,hns,hE⟩
 refine Aa (fun g=>?_) fun g=>?_
 ·refine el14 (hke.trans e1.keeps) h4 h5 rfl (by omega) fun key s' l' f' ub1 ul1 uf1 gw hw on=>Ab on ?_
  have hmem:=EB gw
  have hkl:=Vu hmem
  rw[Ka gw,IM]at hE
  change Es [] f=if U8 key then(if 1024<key.length then 10 else if key∈ns then 8 else Es (key::ns) (f.drop (k+1)))else 5 at hE
  change key.length<=_ at hkl
  refine key_ok (by omega) ?_
  by_cases g1:U8 key
  case neg=>
   rw[if_neg g1]at hE⊢
   refine Aa (fun _=>?_) fun h=>absurd (by decide) h
   rw[<-hE];exact hk st1 e1
  rw[if_pos g1]at hE⊢
  by_cases g2:1024<key.length
  ·rw[if_pos g2]at hE⊢
   refine Aa (fun _=>?_) fun h=>absurd (by decide) h
   rw[<-hE];exact hk st1 e1
  rw[if_neg g2]at hE⊢
  refine Aa (fun h=>absurd rfl h) fun _=>Ac (x:=es) (by simp only[NK,hm]) ?_
  rw[hns key]
  by_cases g3:key∈ns
  ·rw[if_pos g3]at hE⊢
   refine Cy (Aq (fun _=>?_) fun h=>by cases h)
   have:=hk st1 e1
   rw[hE]at this;exact this
  ·rw[if_neg g3]at hE⊢
   refine Cy (Aq (fun h=>by cases h) fun _=>⟨es,hm,?_⟩)
   rw[Ad _ (by omega) (by omega)]
   exact⟨⟨rfl,rfl,rfl,k+1,key::ns,_,by omega,by omega,StX.ext e1 (StX.put (S:=fun i=>i=st.nb) rfl _) (fun i hi=>by rw[hi];exact Nat.le_refl _),hb,by simp[St.put],hns.add key,hE⟩,by dsimp only;omega⟩
 ·have:k=f.length:=by omega
  subst this
  rw[List.drop_length]at hE
  have:=hk st1 e1
  rw[hE]at this;exact this
theorem Keys_ok {st0 st:St} {uf:TV} {xf:List TV} {f:List Fd} (hke:BI st0 st) (h4:SlR st0 14 uf f.length xf) (h5:FsR st0 f xf) (hN:BS f<=2000000) {K:Int->St->Prop} (hk:∀st',Ah st st'->K (Es [] f:Nat) st'):
  CallT PR BV [uf] [.one (.int .i64)] st K:=by
 have hfl:=CC f
 refine JH _ st K ⟨fun i u st'=>uf=u/\∃k:Nat,i=k/\k<=f.length/\Ah st st'/\Es [] f=Es ((f.take k).map Fd.key) (f.drop k),fun i _ _=>(f.length-i).toNat,⟨rfl,0,rfl,Nat.zero_le _,Ah.refl _,rfl⟩,?_⟩
 rintro _ _ st1 ⟨rfl,k,rfl,hkf,e1,hE⟩
 refine Ab h4.isSl (Aa (fun g=>?_) fun g=>?_)
 ·rw[h4.lenS]at g
  have gd:f[k]? =some f[k]:=List.getElem?_eq_getElem (by omega)
  generalize f[k]=d at gd
  have hkl:=Vu (EB gd)
  rw[Ka gd,IM]at hE
  refine Mm (hke.trans e1.keeps) h4 h5 rfl gd (Qr (by omega) fun st2 e2=>?_)
  have e12:=e1.trans e2
  by_cases g1:U8 d.key
  case neg=>
   rw[if_neg g1]at hE
   refine Aq (fun _=>?_) fun h=>absurd (by unfold U8;simpa using h) g1
   have:=hk st2 e12
   rw[hE]at this;exact this
  rw[if_pos g1]at hE
  refine Aq (fun h=>absurd g1 (by unfold U8;simpa using h)) fun _=>Mm (hke.trans e12.keeps) h4 h5 rfl gd ?_
  by_cases g2:1024<d.key.length
  ·rw[if_pos g2]at hE
   refine Aa (fun _=>?_) fun h=>absurd (by omega) h
   have:=hk st2 e12
   rw[hE]at this;exact this
  rw[if_neg g2]at hE
  refine Aa (fun h=>absurd (by omega) g2) fun _=>?_
  refine⟨fun i u j st'=>uf=u/\j=(k:Int)/\st2=st'/\∃q:Nat,i=q/\q<=k/\∀(j:Nat) (x:Fd),j<q->f[j]? =some x->x.key≠d.key,fun i _ _ _=>(k-i).toNat,⟨rfl,rfl,rfl,0,rfl,Nat.zero_le _,fun j x hj=>absurd hj (Nat.not_lt_zero _)⟩,?_⟩
  rintro _ _ _ _ ⟨rfl,rfl,rfl,q,rfl,hq,hne⟩
  refine Aa (fun g3=>?_) fun g3=>?_
  ·have gx:f[q]? =some f[q]:=List.getElem?_eq_getElem (by omega)
   generalize f[q]=x at gx
   refine Mm (hke.trans e12.keeps) h4 h5 rfl gx (Mm (hke.trans e12.keeps) h4 h5 rfl gd (Aa (fun g4=>?_) fun g4=>?_))
   ·rw[if_pos]at hE
    ·have:=hk st2 e12
     rw[hE]at this;exact this
    ·rw[<-g4]
     refine List.mem_map_of_mem ?_
     have:(f.take k)[q]? =some x:=by rw[List.getElem?_take,if_pos (by omega)];exact gx
     exact EB this
   ·rw[Ad _ (by omega) (by omega)]
    refine⟨⟨rfl,rfl,rfl,q+1,by omega,by omega,fun j y hj hy=>?_⟩,by dsimp only;omega⟩
    by_cases hjq:j=q
    ·subst hjq
     rw[gx]at hy
     rw[<-Option.some.inj hy];exact g4
    ·exact hne j y (by omega) hy
  ·have hqk:q=k:=by omega
   subst hqk
   rw[if_neg]at hE
   ·rw[Ad _ (by omega) (by omega)]
    refine⟨⟨rfl,q+1,by omega,by omega,e12,?_⟩,by dsimp only;omega⟩
    rw[hE]
    refine NO _ _ _ fun x=>?_
    rw[Fi gd]
    simp[or_comm]
   ·intro hm
    obtain⟨x,hx,he⟩:=List.mem_map.1 hm
    obtain⟨j,hj⟩:=List.getElem?_of_mem hx
    rw[List.getElem?_take]at hj
    split at hj
    ·rename_i hlt
     exact hne j x hlt hj he
    ·cases hj
 ·rw[h4.lenS]at g
  have:k=f.length:=by omega
  subst this
  rw[List.drop_length]at hE
  have:=hk st1 e1
  rw[hE]at this;exact this
theorem BI.stx {b:Nat} {a c d:St} (h:BI a c) (k:StX (fun i=>i=b) c d) (hb:a.nb<=b):BI a d:=
 ⟨Nat.le_trans h.1 k.nb,fun i hi=>(k.box i (Nat.lt_of_lt_of_le hi h.1) (by omega)).trans (h.2 i hi)⟩
theorem VR {d n:Nat} {s:Sc} {l:List Vl} {f:List Fd} (h1:¬48<d) (h2:¬65536<=n) (h3:DK s l f=0):CG d n (.mk s l f)=F6 (B6 (d+1) (n+1) l) fun m=>CK (d+1) m f:=by
 unfold CG;rw[if_neg h1,if_neg h2,if_neg (fun h=>h h3)]
theorem Pz {d n:Nat} {s:Sc} {l:List Vl} {f:List Fd} (h1:¬48<d) (h2:¬65536<=n) (h3:DK s l f≠0):CG d n (.mk s l f)=(n,DK s l f):=by
 unfold CG;rw[if_neg h1,if_neg h2,if_pos h3]
theorem Ln (d n:Nat) (v:Vl) (r:List Vl):B6 d n (v::r)=F6 (CG d n v) fun m=>B6 d m r:=by rw[B6]
theorem PB (d n:Nat) (k:B8) (v:Vl) (r:List Fd):CK d n (.mk k v::r)=F6 (CG d n v) fun m=>CK d m r:=by rw[CK,Oc]
theorem TP:U8 []:=by unfold U8;rw[Oz];rfl
theorem YE:∀(N:Nat) (v:Vl),v.sz<=N->N<=2000000->∀{st0 st:St} {cs:List TV} {b d n:Nat} {D:Int} {K:Int->St->Prop},VlR st0 v cs->BI st0 st->st0.nb<=b->b<st.nb->st.box b= .cells [.int .i64 (n:Nat)]->n<=65536->D=(d:Int)->d<=100->
  (∀st' (m:Nat),StX (fun i=>i=b) st st'->st'.box b= .cells [.int .i64 (m:Nat)]->((CG d n v).2=0->m=(CG d n v).1/\m<=65536)->K ((CG d n v).2:Nat) st')->CallT PR DO [.agg cs,.int .i64 D,.box b 0] [.one (.int .i64)] st K:=by
 intro N
 induction N with
 | zero=>intro v h;have:=v.sz_pos;omega
 | succ N ih=>
 intro v hN hN2 st0 st cs b d n D K h hke hb0 hb hbx hn hD hd hk
 subst hD
 cases v with
 | mk s l f=>
 have hsz:(Vl.mk s l f).sz=1+s.bytes.length+s.text.length+s.dg.length+Ct l+BS f:=by unfold Vl.sz;rfl
 have hll:=DF l
 have hfl:=CC f
 unfold VlR at h
 obtain⟨ub,ul,uf,xl,xf,rfl,h1,h2,h3,h4,h5⟩:=h
 refine OB _ _ _ _ _ _ _ _ _ _ _ _ _ (d:Int) b st K ?_
 refine Ac (x:= .int .i64 (n:Nat)) (by simp[Af,hbx]) (Ap ?_)
 rw[Ad _ (by omega) (by omega)]
 refine⟨_,hbx,by simp,?_⟩
 obtain⟨st1,hst1⟩:∃st1,st1=st.put b (.cells (setAll [.int .i64 (n:Nat)] 0 [.int .i64 ((n:Int)+1)])):=⟨_,rfl⟩
 rw[<-hst1]
 have e1:StX (fun i=>i=b) st st1:=by rw[hst1];exact StX.put (S:=fun i=>i=b) rfl _
 have hb1:st1.box b= .cells [.int .i64 ((n+1:Nat):Int)]:=by rw[hst1];simp[St.put,setAll]
 have hke1:=hke.stx e1 hb0
 refine⟨fun dp p kd bo ng dg ex tk td tn tz tx u1 u2 u3 st'=>dp=d/\p= .box b 0/\ul=u2/\uf=u3/\¬48<d/\¬65536<=n/\DK s l f=Es [] f/\StX (fun i=>i=b) st st'/\st'.box b= .cells [.int .i64 ((n+1:Nat):Int)],?_,?_⟩
 ·--the value but for the values in it
  refine Aa (fun g=>?_) fun g=>?_
  ·have hc:CG d n (.mk s l f)=(n,9):=by unfold CG;rw[if_pos (by omega)]
   have:=hk st1 (n+1) e1 hb1 (by rw[hc];intro h;cases h)
   rw[hc]at this;exact this
  refine Ac (x:= .int .i64 ((n+1:Nat):Int)) (by simp[Af,hb1]) (Ap (Aa (fun g2=>?_) fun g2=>?_))
  ·have hc:CG d n (.mk s l f)=(n,10):=by unfold CG;rw[if_neg (by omega),if_pos (by omega)]
   have:=hk st1 (n+1) e1 hb1 (by rw[hc];intro h;cases h)
   rw[hc]at this;exact this
  have hg1:¬48<d:=by omega
  have hg2:¬65536<=n:=by omega
  --an error of the value itself
  have err:∀st',StX (fun i=>i=b) st st'->st'.box b= .cells [.int .i64 ((n+1:Nat):Int)]->DK s l f≠0->K ((DK s l f:Nat):Int) st':=fun st' e' hb' ho=>by
   have hc:=Pz hg1 hg2 ho
   have:=hk st' (n+1) e' hb' (by rw[hc];intro h;exact absurd h ho)
   rw[hc]at this;exact this
  refine⟨fun q dp p kd bo ng dg ex tk td tn tz tx u1 u2 u3 st'=>dp=d/\p= .box b 0/\kd=s.kind/\ng=s.neg/\dg=s.dg/\ex=s.ex/\tk=s.tk/\td=s.td/\tn=s.tn/\tz=s.tz/\tx=s.text/\ub=u1/\ul=u2/\uf=u3/\q= !decide (FM s l f)/\st1=st',?_,?_⟩
  ·refine Aa (fun g3=>?_) fun g3=>Aa (fun g4=>?_) fun g4=>?_
   ·exact⟨rfl,rfl,rfl,rfl,rfl,rfl,rfl,rfl,rfl,rfl,rfl,rfl,rfl,rfl,by rw[decide_eq_false fun o=>by have:=o.k0;omega];rfl,rfl⟩
   ·exact⟨rfl,rfl,rfl,rfl,rfl,rfl,rfl,rfl,rfl,rfl,rfl,rfl,rfl,rfl,by rw[decide_eq_false fun o=>by have:=o.k7;omega];rfl,rfl⟩
   ·exact Yi (s:=s) (l:=l) (f:=f) h1.isSl h2.isSl h4.isSl h1.lenS h2.lenS h4.lenS ⟨rfl,rfl,rfl,rfl,rfl,rfl,rfl,rfl,rfl,rfl,rfl,rfl,rfl,rfl,exB_eq (by omega) (by omega),rfl⟩
  rintro q _ _ _ bo _ _ _ _ _ _ _ _ _ _ _ _ ⟨rfl,rfl,rfl,rfl,rfl,rfl,rfl,rfl,rfl,rfl,rfl,rfl,rfl,rfl,rfl,rfl⟩
  by_cases ho:FM s l f
  case neg=>
   refine Aq (fun _=>?_) fun h=>by rw[decide_eq_false ho]at h;cases h
   have h6:DK s l f=6:=by unfold DK;rw[if_neg ho]
   have:=err st1 e1 hb1 (by rw[h6];decide)
   rw[h6]at this;exact this
  refine Aq (fun h=>by rw[decide_eq_true ho]at h;cases h) fun _=>?_
  have hdec:s.kind≠2->Cu s.neg s.dg s.ex:=fun hk2=>by
   obtain⟨q1,q2,q3⟩:=ho.nu hk2
   rw[q2];exact HY.2 ⟨q1,q3⟩
  refine⟨fun q dp p kd bo ng dg ex tk td tn tz tx u1 u2 u3 st'=>dp=d/\p= .box b 0/\kd=s.kind/\tx=s.text/\ub=u1/\ul=u2/\uf=u3/\q= !(decide (Cu s.neg s.dg s.ex)&&decide (s.kind=3->BW s.tk s.td s.tn s.tz))/\st1=st',?_,?_⟩
  ·refine Aa (fun g3=>NR (by omega) ?_) fun g3=>Aa (fun g4=>LO ?_) fun g4=>?_
   ·by_cases hq:Cu s.neg s.dg s.ex
    ·refine Aq (fun h=>by rw[decide_eq_true hq]at h;cases h) fun _=>Aa (fun g4=>by omega) fun g4=>?_
     exact⟨rfl,rfl,rfl,rfl,rfl,rfl,rfl,by rw[decide_eq_true hq,decide_eq_true fun h=>absurd h g4];rfl,rfl⟩
    ·refine Aq (fun h=>?_) fun h=>by rw[decide_eq_false hq]at h;cases h
     exact⟨rfl,rfl,rfl,rfl,rfl,rfl,rfl,by rw[decide_eq_false hq];rfl,rfl⟩
   ·exact⟨rfl,rfl,rfl,rfl,rfl,rfl,rfl,by rw[decide_eq_true (hdec g3),decide_eq_decide.2 (show(s.kind=3->BW s.tk s.td s.tn s.tz)↔_ from⟨fun h=>h g4,fun h _=>h⟩)];rfl,rfl⟩
   ·exact⟨rfl,rfl,rfl,rfl,rfl,rfl,rfl,by rw[decide_eq_true (hdec g3),decide_eq_true fun h=>absurd h g4];rfl,rfl⟩
  rintro q _ _ _ bo2 ng2 dg2 ex2 tk2 td2 tn2 tz2 _ _ _ _ _ ⟨rfl,rfl,rfl,rfl,rfl,rfl,rfl,rfl,rfl⟩
  by_cases hq:Cu s.neg s.dg s.ex
  case neg=>
   refine Aq (fun _=>?_) fun h=>by rw[decide_eq_false hq]at h;cases h
   have h6:DK s l f=2:=by unfold DK;rw[if_pos ho,if_neg hq]
   have:=err st1 e1 hb1 (by rw[h6];decide)
   rw[h6]at this;exact this
  by_cases hq2:s.kind=3->BW s.tk s.td s.tn s.tz
  case neg=>
   refine Aq (fun _=>?_) fun h=>by rw[decide_eq_true hq,decide_eq_false hq2]at h;cases h
   have h6:DK s l f=2:=by unfold DK;rw[if_pos ho,if_pos hq,if_neg hq2]
   have:=err st1 e1 hb1 (by rw[h6];decide)
   rw[h6]at this;exact this
  refine Aq (fun h=>by rw[decide_eq_true hq,decide_eq_true hq2]at h;cases h) fun _=>?_
  --sizes
  have sizes:U8 s.text->∀(X:Prop),(DK s l f=Es [] f->X)->BIf (decide (65536<(s.text.length:Int))) (K 10 st1) (need (isSl ub) (BIf (decide (65536<(lenS ub:Int))) (K 10 st1) X)):=fun hu X hX=>by
   have h6:DK s l f=if 65536<s.text.length then 10 else if 65536<s.bytes.length then 10 else Es [] f:=by unfold DK;rw[if_pos ho,if_pos hq,if_pos hq2,if_pos hu]
   refine Aa (fun g5=>?_) fun g5=>Ab h1.isSl (Aa (fun g6=>?_) fun g6=>?_)
   ·rw[if_pos (by omega)]at h6
    have:=err st1 e1 hb1 (by rw[h6];decide)
    rw[h6]at this;exact this
   ·rw[h1.lenS]at g6
    rw[if_neg (by omega),if_pos (by omega)]at h6
    have:=err st1 e1 hb1 (by rw[h6];decide)
    rw[h6]at this;exact this
   ·rw[h1.lenS]at g6
    rw[if_neg (by omega),if_neg (by omega)]at h6
    exact hX h6
  refine Aa (fun g3=>MY (by omega) (Aq (fun g4=>?_) fun g4=>?_)) fun g3=>?_
  ·have hu:¬U8 s.text:=by unfold U8;simpa using g4
   have h6:DK s l f=5:=by unfold DK;rw[if_pos ho,if_pos hq,if_pos hq2,if_neg hu]
   have:=err st1 e1 hb1 (by rw[h6];decide)
   rw[h6]at this;exact this
  ·exact sizes (by unfold U8;simpa using g4) _ fun h6=>⟨rfl,rfl,rfl,rfl,hg1,hg2,h6,e1,hb1⟩
  ·exact sizes (by rw[ho.tx g3];exact TP) _ fun h6=>⟨rfl,rfl,rfl,rfl,hg1,hg2,h6,e1,hb1⟩
 ·rintro _ _ kd bo ng dg ex tk td tn tz tx u1 _ _ st2 ⟨rfl,rfl,rfl,rfl,hg1,hg2,h6,e2,hb2⟩
  have hke2:=hke.stx e2 hb0
  refine keys_ok hke2 h4 h5 (by omega) fun st3 e3=>?_
  have e23:=e2.trans (StX.of e3)
  have hb3:st3.box b= .cells [.int .i64 ((n+1:Nat):Int)]:=(e3.box b (by have:=e2.nb;omega)).trans hb2
  refine Aa (fun g=>?_) fun g=>Ab h2.isSl ?_
  ·have ho:DK s l f≠0:=by rw[h6];omega
   have hc:=Pz hg1 hg2 ho
   have:=hk st3 (n+1) e23 hb3 (by rw[hc];intro h;exact absurd h ho)
   rw[hc,h6]at this;exact this
  have hone:DK s l f=0:=by rw[h6];omega
  have hC:=VR hg1 hg2 hone
  refine⟨fun i dp p u m kd bo ng dg ex tk td tn tz tx u1 u2 u3 st'=>dp=d/\p= .box b 0/\ul=u/\m=(l.length:Int)/\uf=u3/\∃k c:Nat,i=k/\k<=l.length/\c<=65536/\StX (fun i=>i=b) st st'/\st'.box b= .cells [.int .i64 ((c:Nat):Int)]/\B6 (d+1) (n+1) l=B6 (d+1) c (l.drop k),
   fun i _ _ _ _ _ _ _ _ _ _ _ _ _ _ _ _ _ _=>(l.length-i).toNat,⟨rfl,rfl,rfl,by rw[h2.lenS],rfl,0,n+1,rfl,Nat.zero_le _,by omega,e23,hb3,rfl⟩,?_⟩
  rintro _ _ _ _ _ kd bo ng dg ex tk td tn tz tx u1 u2 _ st4 ⟨rfl,rfl,rfl,rfl,rfl,k,c,rfl,hkl,hc,e4,hb4,hE⟩
  have hke4:=hke.stx e4 hb0
  refine Aa (fun g3=>?_) fun g3=>?_
  ·refine Yp hke4 h2 h3 rfl (by omega) fun s' l' f' ub1 ul1 uf1 gw hw on=>Ab on ?_
   have hwsz:=EO gw
   rw[Ka gw,Ln]at hE
   rw[Ad _ (by omega) (by omega)]
   refine ih _ (by omega) (by omega) (d:=d+1) hw hke4 hb0 (by have:=e4.nb;omega) hb4 hc (by omega) (by omega) fun st5 m e5 hb5 hm=>?_
   have e45:=e4.trans e5
   refine Aa (fun g4=>?_) fun g4=>?_
   ·have hne:(CG (d+1) c (.mk s' l' f')).2≠0:=by omega
    rw[Kk hne]at hE
    have hc2:CG d n (.mk s l f)=CG (d+1) c (.mk s' l' f'):=by rw[hC,hE,Kk hne]
    have:=hk st5 m e45 hb5 (by rw[hc2];intro h;exact absurd h hne)
    rw[hc2]at this;exact this
   ·have hz:(CG (d+1) c (.mk s' l' f')).2=0:=by omega
    rw[DH hz]at hE
    obtain⟨hm1,hm2⟩:=hm hz
    rw[Ad _ (by omega) (by omega)]
    exact⟨⟨rfl,rfl,rfl,rfl,rfl,k+1,m,by omega,by omega,hm2,e45,hb5,by rw[hE,hm1]⟩,by dsimp only;omega⟩
  ·have hkk:k=l.length:=by omega
   subst hkk
   rw[List.drop_length]at hE
   have hE2:B6 (d+1) (n+1) l=(c,0):=by rw[hE,B6]
   rw[hE2,DH rfl]at hC
   refine Ab h4.isSl ?_
   refine⟨fun i dp p u m st'=>dp=d/\p= .box b 0/\uf=u/\m=(f.length:Int)/\∃k c2:Nat,i=k/\k<=f.length/\c2<=65536/\StX (fun i=>i=b) st st'/\st'.box b= .cells [.int .i64 ((c2:Nat):Int)]/\CK (d+1) c f=CK (d+1) c2 (f.drop k),
    fun i _ _ _ _ _=>(f.length-i).toNat,⟨rfl,rfl,rfl,by rw[h4.lenS],0,c,rfl,Nat.zero_le _,hc,e4,hb4,rfl⟩,?_⟩
   rintro _ _ _ _ _ st5 ⟨rfl,rfl,rfl,rfl,k,c2,rfl,hkf,hc2,e5,hb5,hF⟩
   have hke5:=hke.stx e5 hb0
   refine Aa (fun g4=>?_) fun g4=>?_
   ·refine el14 hke5 h4 h5 rfl (by omega) fun key s' l' f' ub1 ul1 uf1 gw hw on=>Ab on ?_
    have hwsz:=FH gw
    have hwk:(Fd.mk key (.mk s' l' f')).sz=key.length+(Vl.mk s' l' f').sz:=by unfold Fd.sz;rfl
    rw[Ka gw,PB]at hF
    rw[Ad _ (by omega) (by omega)]
    refine ih (.mk s' l' f') (by omega) (by omega) (d:=d+1) hw hke5 hb0 (by have:=e5.nb;omega) hb5 hc2 (by omega) (by omega) fun st6 m e6 hb6 hm=>?_
    have e56:=e5.trans e6
    refine Aa (fun g5=>?_) fun g5=>?_
    ·have hne:(CG (d+1) c2 (.mk s' l' f')).2≠0:=by omega
     rw[Kk hne]at hF
     have hc3:CG d n (.mk s l f)=CG (d+1) c2 (.mk s' l' f'):=by rw[hC];exact hF
     have:=hk st6 m e56 hb6 (by rw[hc3];intro h;exact absurd h hne)
     rw[hc3]at this;exact this
    ·have hz:(CG (d+1) c2 (.mk s' l' f')).2=0:=by omega
     rw[DH hz]at hF
     obtain⟨hm1,hm2⟩:=hm hz
     rw[Ad _ (by omega) (by omega)]
     exact⟨⟨rfl,rfl,rfl,rfl,k+1,m,by omega,by omega,hm2,e56,hb6,by rw[hF,hm1]⟩,by dsimp only;omega⟩
   ·have hkk:k=f.length:=by omega
    subst hkk
    rw[List.drop_length]at hF
    have hF2:CG d n (.mk s l f)=(c2,0):=by rw[hC];show CK (d+1) c f=_;rw[hF,CK]
    have:=hk st5 c2 e5 hb5 (by rw[hF2];exact fun _=>⟨rfl,hc2⟩)
    rw[hF2]at this;exact this
section
theorem YX {v:Vl} (hN:v.sz<=2000000) {st0 st:St} {cs:List TV} {K:Int->St->Prop} (h:VlR st0 v cs) (hke:BI st0 st) (hk:∀st',Ah st st'->K (F3 v:Nat) st'):
  CallT PR GE [.agg cs] [.one (.int .i64)] st K:=by
 have h0:=h
 cases v with
 | mk s l f=>
 unfold VlR at h0
 obtain⟨ub,ul,uf,xl,xf,rfl,_⟩:=h0
 have he:Ah st (st.push (.cells [.int .i64 0]) (some 3)):=(Ah.refl st).push _ _
 refine OC _ _ _ _ _ _ _ _ _ _ _ _ _ st K ⟨[.int .i64 0],by simp[St.push],by simp,?_⟩
 obtain⟨st1,hst1⟩:∃st1,st1=(st.push (.cells [.int .i64 0]) (some 3)).put st.nb (.cells (setAll [.int .i64 0] 0 [.int .i64 0])):=⟨_,rfl⟩
 rw[<-hst1]
 have e1:Ah st st1:=by rw[hst1];exact StX.ext he (StX.put (S:=fun i=>i=st.nb) rfl _) (fun i hi=>by rw[hi];exact Nat.le_refl _)
 have hb1:st1.box st.nb= .cells [.int .i64 ((0:Nat):Int)]:=by rw[hst1];simp[St.put,setAll]
 exact YE 2000000 _ hN (by omega) (d:=1) h (hke.trans e1.keeps) hke.1 (by rw[hst1];simp[St.put,St.push]) hb1 (by omega) rfl (by omega) fun st2 m e2 hb2 _=>hk st2 (StX.ext e1 e2 (fun i hi=>by rw[hi];exact Nat.le_refl _))
theorem one_ok {s:Sc} {l:List Vl} {f:List Fd} (hN:(Vl.mk s l f).sz<=2000000) {st0 st:St} {ub ul uf:TV} {K:Int->St->Prop} (h:VlR st0 (.mk s l f) (AI s ub ul uf)) (hke:BI st0 st) (hk:∀st',Ah st st'->K (DK s l f:Nat) st'):
  CallT PR Eh [.agg (AI s ub ul uf)] [.one (.int .i64)] st K:=by
 have hsz:(Vl.mk s l f).sz=1+s.bytes.length+s.text.length+s.dg.length+Ct l+BS f:=by unfold Vl.sz;rfl
 unfold VlR at h
 obtain⟨ub',ul',uf',xl,xf,hcs,h1,h2,h3,h4,h5⟩:=h
 simp only[AI,List.cons.injEq,and_true,true_and]at hcs
 obtain⟨rfl,rfl,rfl⟩:=hcs
 refine KF _ _ _ _ _ _ _ _ _ _ _ _ _ st K (own_ok h1.isSl h2.isSl h4.isSl h1.lenS h2.lenS h4.lenS ?_)
 have kk:∀(c:Nat) (st':St),DK s l f=c->Ah st st'->K (c:Int) st':=fun c st' hc e=>by rw[<-hc];exact hk st' e
 by_cases ho:FM s l f
 case neg=>exact Aq (fun _=>kk 6 st (by unfold DK;rw[if_neg ho]) (Ah.refl _)) fun h=>by rw[decide_eq_false ho]at h;cases h
 refine Aq (fun h=>by rw[decide_eq_true ho]at h;cases h) fun _=>rDec_ok (by omega) ?_
 by_cases hq:Cu s.neg s.dg s.ex
 case neg=>exact Aq (fun _=>kk 2 st (by unfold DK;rw[if_pos ho,if_neg hq]) (Ah.refl _)) fun h=>by rw[decide_eq_false hq]at h;cases h
 refine Aq (fun h=>by rw[decide_eq_true hq]at h;cases h) fun _=>?_
 have rest:(s.kind=3->BW s.tk s.td s.tn s.tz)->CallT PR Bj [.str s.text] [.one (.bool)] st (fun (b4:Bool) (st4:St)=>BIf (!b4) (K 5 st4) (BIf (decide (65536<(s.text.length:Int))) (K 10 st4) (need (isSl ub) (BIf (decide (65536<(lenS ub:Int))) (K 10 st4) (
   CallT PR BV [uf] [.one (.int .i64)] st4 fun (n1:Int) (st5:St)=>K n1 st5))))):=by
  intro hq2
  refine Qr (by omega) fun st1 e1=>?_
  by_cases hu:U8 s.text
  case neg=>exact Aq (fun _=>kk 5 st1 (by unfold DK;rw[if_pos ho,if_pos hq,if_pos hq2,if_neg hu]) e1) fun h=>absurd (by unfold U8;simpa using h) hu
  have h6:DK s l f=if 65536<s.text.length then 10 else if 65536<s.bytes.length then 10 else Es [] f:=by unfold DK;rw[if_pos ho,if_pos hq,if_pos hq2,if_pos hu]
  refine Aq (fun h=>absurd hu (by unfold U8;simpa using h)) fun _=>Aa (fun g5=>?_) fun g5=>Ab h1.isSl (Aa (fun g6=>?_) fun g6=>?_)
  ·exact kk 10 st1 (by rw[h6,if_pos (by omega)]) e1
  ·rw[h1.lenS]at g6
   exact kk 10 st1 (by rw[h6,if_neg (by omega),if_pos (by omega)]) e1
  ·rw[h1.lenS]at g6
   exact Keys_ok (hke.trans e1.keeps) h4 h5 (by omega) fun st2 e2=>kk _ st2 (by rw[h6,if_neg (by omega),if_neg (by omega)]) (e1.trans e2)
 refine Aa (fun g3=>SZ ?_) fun g3=>rest fun h=>absurd h g3
 by_cases hq2:BW s.tk s.td s.tn s.tz
 ·exact Aq (fun h=>by rw[decide_eq_true hq2]at h;cases h) fun _=>rest fun _=>hq2
 ·exact Aq (fun _=>kk 2 st (by unfold DK;rw[if_pos ho,if_pos hq,if_neg fun h=>hq2 (h g3)]) (Ah.refl _)) fun h=>by rw[decide_eq_false hq2]at h;cases h
def Fe (s:Sc) (l:List Vl) (f:List Fd):List Vl:=if s.kind=7 then f.map Fd.val else l
theorem QT (d:Nat):∀(f:List Fd) (n:Nat),CK d n f=B6 d n (f.map Fd.val)
 | [],n=>by simp[CK,B6]
 | .mk k v::r,n=>by
  rw[PB,List.map_cons,Ln]
  have:(fun m=>CK d m r)=fun m=>B6 d m (r.map Fd.val):=funext fun m=>QT d r m
  rw[this];rfl
theorem Xe (x:Nat×Nat):F6 x (fun m=>(m,0))=x:=by
 unfold F6;split
 ·rename_i h;exact Prod.ext rfl h.symm
 ·rfl
theorem WK {d n:Nat} {s:Sc} {l:List Vl} {f:List Fd} (ho:FM s l f):(F6 (B6 (d+1) (n+1) l) fun m=>CK (d+1) m f)=B6 (d+1) (n+1) (Fe s l f):=by
 unfold Fe
 by_cases h7:s.kind=7
 ·rw[if_pos h7,ho.ls (by omega),B6,DH rfl,QT]
 ·rw[if_neg h7,ho.fs h7]
  simp only[CK]
  exact Xe _
mutual
theorem Ot:∀(v:Vl) (d n:Nat),n<=65536->(CG d n v).2=0->(CG d n v).1<=65536
 | .mk s l f,d,n,hn,h=>by
  unfold CG at h⊢
  split at h
  ·cases h
  ·rename_i g1
   rw[if_neg g1]
   split at h
   ·cases h
   ·rename_i g2
    rw[if_neg g2]
    split at h
    ·rename_i h1;exact absurd h h1
    ·rename_i g3
     rw[if_neg g3]
     obtain⟨h2,h3⟩:=B2 h
     rw[DH h2]
     exact TD f _ _ (TA l _ _ (by omega) h2) h3
theorem TA:∀(l:List Vl) (d n:Nat),n<=65536->(B6 d n l).2=0->(B6 d n l).1<=65536
 | [],d,n,hn,_=>by unfold B6;exact hn
 | v::r,d,n,hn,h=>by
  unfold B6 at h⊢
  obtain⟨h2,h3⟩:=B2 h
  rw[DH h2]
  exact TA r _ _ (Ot v _ _ hn h2) h3
theorem chkD_le:∀(x:Fd) (d n:Nat),n<=65536->(Oc d n x).2=0->(Oc d n x).1<=65536
 | .mk k v,d,n,hn,h=>by unfold Oc at h⊢;exact Ot v _ _ hn h
theorem TD:∀(l:List Fd) (d n:Nat),n<=65536->(CK d n l).2=0->(CK d n l).1<=65536
 | [],d,n,hn,_=>by unfold CK;exact hn
 | x::r,d,n,hn,h=>by
  unfold CK at h⊢
  obtain⟨h2,h3⟩:=B2 h
  rw[DH h2]
  exact TD r _ _ (chkD_le x _ _ hn h2) h3
end
theorem VsR.snoc {st:St} {v:Vl} {cv:List TV}:∀{l:List Vl} {xs:List TV},VsR st l xs->VlR st v cv->VsR st (l++[v]) (xs++cv)
 | [],xs,h,hv=>by
  unfold VsR at h
  subst h
  show VsR st [v] _
  unfold VsR
  exact⟨cv,[],by simp,hv,by unfold VsR;rfl⟩
 | w::r,xs,h,hv=>by
  unfold VsR at h
  obtain⟨a,b,rfl,h1,h2⟩:=h
  show VsR st (w::(r++[v])) _
  unfold VsR
  exact⟨a,b++cv,by simp,h1,VsR.snoc h2 hv⟩
theorem kids_ok {s:Sc} {l:List Vl} {f:List Fd} (hN:(Vl.mk s l f).sz<=2000000) {st0 st:St} {ub ul uf:TV} {K:TV->St->Prop} (h:VlR st0 (.mk s l f) (AI s ub ul uf)) (hke:BI st0 st)
  (hk:∀u xl st',Ah st st'->SlR st' 13 u (Fe s l f).length xl->VsR st' (Fe s l f) xl->K u st'):CallT PR DW [.agg (AI s ub ul uf)] [.one .tv] st K:=by
 have hsz:(Vl.mk s l f).sz=1+s.bytes.length+s.text.length+s.dg.length+Ct l+BS f:=by unfold Vl.sz;rfl
 have hfl:=CC f
 unfold VlR at h
 obtain⟨ub',ul',uf',xl,xf,hcs,h1,h2,h3,h4,h5⟩:=h
 simp only[AI,List.cons.injEq,and_true,true_and]at hcs
 obtain⟨rfl,rfl,rfl⟩:=hcs
 refine JG _ _ _ _ _ _ _ _ _ _ _ _ _ st K (Aa (fun g=>?_) fun g=>?_)
 ·have e:Fe s l f=l:=by unfold Fe;rw[if_neg g]
  rw[e]at hk
  exact hk ul xl st (Ah.refl _) (h2.keep hke) (VsR.keep hke h3)
 ·have e:Fe s l f=f.map Fd.val:=by unfold Fe;rw[if_pos (by omega)]
  rw[e,List.length_map]at hk
  refine⟨fun o i kd bo ng dg ex tk td tn tz tx u1 u2 u3 st'=>uf=u3/\∃(k:Nat) (xs:List TV),i=k/\k<=f.length/\Ah st st'/\Own st.nt 13 st' o k xs/\VsR st ((f.take k).map Fd.val) xs,fun _ i _ _ _ _ _ _ _ _ _ _ _ _ _ _=>(f.length-i).toNat,
   ⟨rfl,0,[],rfl,Nat.zero_le _,Ah.refl _,Own.nil _ _ _,by simp only[List.take_zero,List.map_nil];unfold VsR;rfl⟩,?_⟩
  rintro o _ kd bo ng dg ex tk td tn tz tx u1 u2 _ st1 ⟨rfl,k,xs,rfl,hkf,e1,ho,hv⟩
  refine Ab h4.isSl (Aa (fun g2=>?_) fun g2=>?_)
  ·rw[h4.lenS]at g2
   refine Vg (hke.trans e1.keeps) h4 h5 rfl (by omega) fun key s' l' f' ub1 ul1 uf1 gw hw on=>Ab on ?_
   refine H5 e1 rfl ho (by omega) (fun h=>by cases h) fun v2 st2 e2 _ ho2=>?_
   rw[Ad _ (by omega) (by omega)]
   refine⟨⟨rfl,k+1,_,by omega,by omega,e2,ho2,?_⟩,by dsimp only;omega⟩
   rw[Fi gw,List.map_append]
   exact VsR.snoc hv (VlR.keep hke hw)
  ·rw[h4.lenS]at g2
   have hkk:k=f.length:=by omega
   subst hkk
   rw[List.take_length]at hv
   exact hk o xs st1 e1 (.of_rd ho.rd) (VsR.keep e1.keeps hv)
theorem kids_sz {s:Sc} {l:List Vl} {f:List Fd} {k:Nat} {w:Vl} (h:(Fe s l f)[k]? =some w):w.sz+1<=(Vl.mk s l f).sz:=by
 have hsz:(Vl.mk s l f).sz=1+s.bytes.length+s.text.length+s.dg.length+Ct l+BS f:=by unfold Vl.sz;rfl
 unfold Fe at h
 split at h
 ·rw[List.getElem?_map]at h
  obtain⟨d,hd,rfl⟩:=Option.map_eq_some_iff.1 h
  have:=FH hd
  cases d;unfold Fd.sz at this;simp only[Fd.val];omega
 ·have:=EO h;omega
theorem XY {s:Sc} {l:List Vl} {f:List Fd}:(Fe s l f).length<=(Vl.mk s l f).sz:=by
 have hsz:(Vl.mk s l f).sz=1+s.bytes.length+s.text.length+s.dg.length+Ct l+BS f:=by unfold Vl.sz;rfl
 have:=DF l
 have:=CC f
 unfold Fe;split
 ·rw[List.length_map];omega
 ·omega
theorem look_ok:∀(N:Nat) (v:Vl),v.sz<=N->N<=2000000->∀{st0 st:St} {cs:List TV} {d n:Nat} {D:Int} {K:Int->Int->St->Prop},VlR st0 v cs->BI st0 st->n<=65536->D=(d:Int)->d<=100->
  (∀st',Ah st st'->K ((CG d n v).1:Nat) ((CG d n v).2:Nat) st')->CallT PR CE [.agg cs,.int .i64 D,.int .i64 (n:Nat)] [.one (.int .i64),.one (.int .i64)] st K:=by
 intro N
 induction N with
 | zero=>intro v h;have:=v.sz_pos;omega
 | succ N ih=>
 intro v hN hN2 st0 st cs d n D K h hke hn hD hd hk
 subst hD
 cases v with
 | mk s l f=>
 have hcs:∃ub ul uf,cs=AI s ub ul uf:=by
  have h0:=h
  unfold VlR at h0
  obtain⟨ub,ul,uf,xl,xf,rfl,_⟩:=h0
  exact⟨ub,ul,uf,rfl⟩
 obtain⟨ub,ul,uf,rfl⟩:=hcs
 have kk:∀(x:Nat×Nat) (st':St),CG d n (.mk s l f)=x->Ah st st'->K (x.1:Nat) (x.2:Nat) st':=fun x st' hx e=>by rw[<-hx];exact hk st' e
 refine JE _ _ _ _ _ _ _ _ _ _ _ _ _ (d:Int) (n:Int) st K (Aa (fun g=>?_) fun g=>Aa (fun g2=>?_) fun g2=>?_)
 ·exact kk (n,9) st (by unfold CG;rw[if_pos (by omega)]) (Ah.refl _)
 ·exact kk (n,10) st (by unfold CG;rw[if_neg (by omega),if_pos (by omega)]) (Ah.refl _)
 have hg1:¬48<d:=by omega
 have hg2:¬65536<=n:=by omega
 refine one_ok (l:=l) (f:=f) (by omega) h hke fun st1 e1=>Aa (fun g3=>?_) fun g3=>?_
 ·exact kk (n,DK s l f) st1 (Pz hg1 hg2 (by omega)) e1
 have hone:DK s l f=0:=by omega
 have ho:FM s l f:=(Qy.1 hone).own
 have hC:CG d n (.mk s l f)=B6 (d+1) (n+1) (Fe s l f):=by rw[VR hg1 hg2 hone,WK ho]
 refine kids_ok (l:=l) (f:=f) (by omega) h (hke.trans e1.keeps) fun u xl st2 e2 hu hv=>?_
 have e12:=e1.trans e2
 have hlen:=XY (s:=s) (l:=l) (f:=f)
 rw[Ad ((n:Int)+1) (by omega) (by omega)]
 refine⟨fun c i dp u' st'=>u=u'/\dp=(d:Int)/\∃k m:Nat,i=k/\k<=(Fe s l f).length/\c=(m:Int)/\m<=65536/\Ah st2 st'/\B6 (d+1) (n+1) (Fe s l f)=B6 (d+1) m ((Fe s l f).drop k),fun _ i _ _ _=>((Fe s l f).length-i).toNat,
  ⟨rfl,rfl,0,n+1,rfl,Nat.zero_le _,by omega,by omega,Ah.refl _,rfl⟩,?_⟩
 rintro _ _ _ _ st3 ⟨rfl,rfl,k,m,rfl,hkl,rfl,hm,e3,hE⟩
 refine Ab hu.isSl (Aa (fun g4=>?_) fun g4=>?_)
 ·rw[hu.lenS]at g4
  refine Yp e3.keeps hu hv rfl (by omega) fun s' l' f' ub1 ul1 uf1 gw hw on=>?_
  have hwsz:=kids_sz gw
  rw[Ka gw,Ln]at hE
  rw[Ad _ (by omega) (by omega)]
  refine ih _ (by omega) (by omega) (d:=d+1) hw e3.keeps hm (by omega) (by omega) fun st4 e4=>?_
  refine Aa (fun g5=>?_) fun g5=>?_
  ·have hne:(CG (d+1) m (.mk s' l' f')).2≠0:=by omega
   rw[Kk hne]at hE
   exact kk _ st4 (by rw[hC,hE]) (e12.trans (e3.trans e4))
  ·have hz:(CG (d+1) m (.mk s' l' f')).2=0:=by omega
   rw[DH hz]at hE
   rw[Ad _ (by omega) (by omega)]
   exact⟨⟨rfl,rfl,k+1,_,by omega,by omega,rfl,Ot _ _ _ hm hz,e3.trans e4,hE⟩,by dsimp only;omega⟩
 ·rw[hu.lenS]at g4
  have hkk:k=(Fe s l f).length:=by omega
  subst hkk
  rw[List.drop_length,B6]at hE
  exact kk (m,0) st3 (by rw[hC,hE]) (e12.trans e3)
theorem Qv {v:Vl} (hN:v.sz<=2000000) {st0 st:St} {cs:List TV} {K:Int->St->Prop} (h:VlR st0 v cs) (hke:BI st0 st) (hk:∀st',Ah st st'->K (F3 v:Nat) st'):
  CallT PR Co [.agg cs] [.one (.int .i64)] st K:=by
 have h0:=h
 cases v with
 | mk s l f=>
 unfold VlR at h0
 obtain⟨ub,ul,uf,xl,xf,rfl,_⟩:=h0
 exact Je _ _ _ _ _ _ _ _ _ _ _ _ _ st K (look_ok 2000000 _ hN (by omega) (d:=1) (n:=0) h hke (by omega) rfl (by omega) hk)
end
theorem VlR.cells {st:St} {s:Sc} {l:List Vl} {f:List Fd} {cs:List TV} (h:VlR st (.mk s l f) cs):∃ub ul uf xl xf,cs=AI s ub ul uf/\SlR st 1 ub s.bytes.length (At s.bytes)/\SlR st 13 ul l.length xl/\VsR st l xl/\SlR st 14 uf f.length xf/\FsR st f xf:=by
 unfold VlR at h
 obtain⟨ub,ul,uf,xl,xf,rfl,h⟩:=h
 exact⟨ub,ul,uf,xl,xf,rfl,h⟩
theorem szs (s:Sc) (l:List Vl) (f:List Fd):(Vl.mk s l f).sz=1+s.bytes.length+s.text.length+s.dg.length+Ct l+BS f:=by unfold Vl.sz;rfl
theorem szd (k:B8) (v:Vl):(Fd.mk k v).sz=k.length+v.sz:=by unfold Fd.sz;rfl
theorem Vv {st0 st:St} {uf:TV} {xf:List TV} {l:List Fd} (hke:BI st0 st) (h2:SlR st0 14 uf l.length xf) (h3:FsR st0 l xf) {k:Nat} {d:Fd} (hd:l[k]? =some d):Af st [] (.t (AC (ixT 14 uf k) 0)) 0=some (.str d.key):=by
 obtain⟨hk,_⟩:=List.getElem?_eq_some_iff.1 hd
 obtain⟨cw,hw,hcw,hcl⟩:=h3.get hd
 have hx:xf[k*14+0]? =some (.str d.key):=by
  cases d with
  | mk key w=>
   unfold FdR at hw
   obtain⟨cs,rfl,_⟩:=hw
   have:=congrArg (fun z=>z[0]?) hcw
   simpa [Fd.key]using this
 exact(h2.keep hke).ldf h3.len hk (by omega) hx
section
mutual
theorem PA:∀(v:Vl) (d n:Nat),(CG d n v).2=0->(CG d n v).1=n+v.cnt
 | .mk s l f,d,n,h=>by
  unfold CG at h⊢
  unfold Vl.cnt
  split at h
  ·cases h
  ·rename_i g1
   rw[if_neg g1]
   split at h
   ·cases h
   ·rename_i g2
    rw[if_neg g2]
    split at h
    ·rename_i h1;exact absurd h h1
    ·rename_i g3
     rw[if_neg g3]
     obtain⟨h2,h3⟩:=B2 h
     rw[DH h2,QU f _ _ h3,QS l _ _ h2];omega
theorem QS:∀(l:List Vl) (d n:Nat),(B6 d n l).2=0->(B6 d n l).1=n+Lx l
 | [],d,n,_=>by unfold B6 Lx;rfl
 | v::r,d,n,h=>by
  unfold B6 at h⊢
  unfold Lx
  obtain⟨h2,h3⟩:=B2 h
  rw[DH h2,QS r _ _ h3,PA v _ _ h2];omega
theorem YC:∀(x:Fd) (d n:Nat),(Oc d n x).2=0->(Oc d n x).1=n+x.cnt
 | .mk k v,d,n,h=>by unfold Oc at h⊢;unfold Fd.cnt;exact PA v _ _ h
theorem QU:∀(l:List Fd) (d n:Nat),(CK d n l).2=0->(CK d n l).1=n+Mw l
 | [],d,n,_=>by unfold CK Mw;rfl
 | x::r,d,n,h=>by
  unfold CK at h⊢
  unfold Mw
  obtain⟨h2,h3⟩:=B2 h
  rw[DH h2,QU r _ _ h3,YC x _ _ h2];omega
end
theorem WL {v:Vl} (h:F3 v=0):v.cnt<=65536:=by
 have h1:=PA v 1 0 h
 have h2:=Ot v 1 0 (by omega) h
 omega
theorem FK {v:Vl} (h:F3 v=0):DD v:=RY v 1 0 h
theorem Wr {f g:List Fd} (p:f.Perm g):BS f=BS g:=by
 induction p with
 | nil=>rfl
 | cons x _ ih=>unfold BS;rw[ih]
 | swap x y l=>unfold BS;simp only[BS];omega
 | trans _ _ h1 h2=>rw[h1,h2]
mutual
theorem LX:∀v:Vl,(Bk v).sz=v.sz
 | .mk s l f=>by
  unfold Bk
  rw[szs,szs,Ql l,Wr (Cz _),Qo f]
theorem Ql:∀l:List Vl,Ct (Ds l)=Ct l
 | []=>by unfold Ds;rfl
 | v::r=>by unfold Ds Ct;rw[LX v,Ql r]
theorem Xn:∀d:Fd,(CJ d).sz=d.sz
 | .mk k v=>by unfold CJ;rw[szd,szd,LX v]
theorem Qo:∀f:List Fd,BS (CN f)=BS f
 | []=>by unfold CN;rfl
 | d::r=>by unfold CN BS;rw[Xn d,Qo r]
end
end
theorem LR {α:Type} {l m:List α} {k:Nat} {x y:α} (h:l.take k=m.take k) (hx:l[k]? =some x) (hy:m[k]? =some y) (e:x=y):l.take (k+1)=m.take (k+1):=by
 rw[Fi hx,Fi hy,h,e]
theorem sc_eq {s t:Sc} (h1:s.kind=t.kind) (h2:s.b=t.b) (h3:s.neg=t.neg) (h4:s.dg=t.dg) (h5:s.ex=t.ex) (h6:s.tk=t.tk) (h7:s.td=t.td) (h8:s.tn=t.tn) (h9:s.tz=t.tz) (h10:s.text=t.text) (h11:s.bytes=t.bytes):s=t:=by
 cases s;cases t;simp_all
theorem Same_ok:∀(N:Nat) (v w:Vl),v.sz<=N->w.sz<=2000000->N<=2000000->∀{st0 st:St} {cs ds:List TV} {K:Bool->St->Prop},VlR st0 v cs->VlR st0 w ds->BI st0 st->(∀r,(r=true↔v=w)->K r st)->
  CallT PR BU [.agg cs,.agg ds] [.one .bool] st K:=by
 intro N
 induction N with
 | zero=>intro v w h;have:=v.sz_pos;omega
 | succ N ih=>
 intro v w hN hW hN2 st0 st cs ds K h h' hke hk
 cases v with
 | mk s l f=>
 cases w with
 | mk t m g=>
 have hsz:=szs s l f
 have hll:=DF l
 have hfl:=CC f
 have hsz':=szs t m g
 have hll':=DF m
 have hfl':=CC g
 obtain⟨ub,ul,uf,xl,xf,rfl,h1,h2,h3,h4,h5⟩:=h.cells
 obtain⟨wb,wl,wf,yl,yf,rfl,k1,k2,k3,k4,k5⟩:=h'.cells
 have no:(Vl.mk s l f≠Vl.mk t m g)->K false st:=fun hne=>hk false ⟨fun h=>(by cases h),fun h=>absurd h hne⟩
 have inj:Vl.mk s l f=Vl.mk t m g↔s=t/\l=m/\f=g:=by simp
 refine JF _ _ _ _ _ _ _ _ _ _ _ _ _ _ _ _ _ _ _ _ _ _ _ _ _ _ st K ?_
 refine Aa (fun e=>no fun h=>e (by rw[(inj.1 h).1])) fun e1=>Aq (fun e=>no fun h=>?_) fun e2=>Aq (fun e=>no fun h=>?_) fun e3=>Aq (fun e=>no fun h=>?_) fun e4=>Aa (fun e=>no fun h=>e (by rw[(inj.1 h).1])) fun e5=>?_
 ·rw[(inj.1 h).1]at e;simp at e
 ·rw[(inj.1 h).1]at e;simp at e
 ·rw[(inj.1 h).1]at e;simp at e
 refine Ac (x:= .str s.bytes) (by rw[(h1.keep hke).toBytes];rfl) (Aw (Ac (x:=TV.str t.bytes) (by rw[(k1.keep hke).toBytes];rfl) (Aw ?_)))
 refine Aa (fun e=>no fun h=>e (by rw[(inj.1 h).1])) fun e6=>?_
 have hst:s=t:=by
  simp only[Bool.not_eq_false',Bool.and_eq_true,beq_iff_eq,decide_eq_true_eq,and_true]at e2 e3 e4
  exact sc_eq (Decidable.not_not.1 e1) e2 e3.1 e3.2.1 e3.2.2 e4.1 e4.2.1 e4.2.2.1 e4.2.2.2 (Decidable.not_not.1 e5) (Decidable.not_not.1 e6)
 subst hst
 refine Ab h2.isSl (Ab k2.isSl ?_)
 rw[h2.lenS,k2.lenS]
 refine Aa (fun e=>no fun h=>e (by rw[(inj.1 h).2.1])) fun e7=>Ab h4.isSl (Ab k4.isSl ?_)
 rw[h4.lenS,k4.lenS]
 refine Aa (fun e=>no fun h=>e (by rw[(inj.1 h).2.2])) fun e8=>?_
 have ell:l.length=m.length:=by omega
 have efl:f.length=g.length:=by omega
 refine⟨fun i a1 a2 a3 a4 a5 a6 a7 a8 a9 a10 a11 a12 a13 b1 b2 b3 b4 b5 b6 b7 b8 b9 b10 b11 b12 b13 st'=>ul=a12/\uf=a13/\wl=b12/\wf=b13/\st=st'/\∃k:Nat,i=k/\k<=l.length/\l.take k=m.take k,fun i _ _ _ _ _ _ _ _ _ _ _ _ _ _ _ _ _ _ _ _ _ _ _ _ _ _ _=>(l.length-i).toNat,
  ⟨rfl,rfl,rfl,rfl,rfl,0,rfl,Nat.zero_le _,rfl⟩,?_⟩
 rintro _ a1 a2 a3 a4 a5 a6 a7 a8 a9 a10 a11 _ _ b1 b2 b3 b4 b5 b6 b7 b8 b9 b10 b11 _ _ _ ⟨rfl,rfl,rfl,rfl,rfl,k,rfl,hkl,hE⟩
 refine Ab h2.isSl (Aa (fun q=>?_) fun q=>?_)
 ·rw[h2.lenS]at q
  refine Yp hke h2 h3 rfl (by omega) fun s1 l1 f1 ub1 ul1 uf1 gw hw on=>Yp hke k2 k3 rfl (by omega) fun s2 l2 f2 ub2 ul2 uf2 gw2 hw2 on2=>?_
  have hwsz:=EO gw
  have hwsz2:=EO gw2
  refine ih _ (.mk s2 l2 f2) (by omega) (by omega) (by omega) hw hw2 hke fun r hr=>Aq (fun hb=>no fun h=>?_) fun hb=>?_
  ·rw[(inj.1 h).2.1,gw2]at gw
   rw[hr.2 (Option.some.inj gw).symm]at hb;cases hb
  ·rw[Ad _ (by omega) (by omega)]
   exact⟨⟨rfl,rfl,rfl,rfl,rfl,k+1,by omega,by omega,LR hE gw gw2 (hr.1 (by simpa using hb))⟩,by dsimp only;omega⟩
 ·rw[h2.lenS]at q
  have hlm:l=m:=by
   have:k=l.length:=by omega
   rw[this,List.take_length,ell,List.take_length]at hE;exact hE
  subst hlm
  refine⟨fun i a1 a2 a3 a4 a5 a6 a7 a8 a9 a10 a11 a12 a13 b1 b2 b3 b4 b5 b6 b7 b8 b9 b10 b11 b12 b13 st'=>uf=a13/\wf=b13/\st=st'/\∃k:Nat,i=k/\k<=f.length/\f.take k=g.take k,fun i _ _ _ _ _ _ _ _ _ _ _ _ _ _ _ _ _ _ _ _ _ _ _ _ _ _ _=>(f.length-i).toNat,
   ⟨rfl,rfl,rfl,0,rfl,Nat.zero_le _,rfl⟩,?_⟩
  rintro _ a1 a2 a3 a4 a5 a6 a7 a8 a9 a10 a11 a12 _ b1 b2 b3 b4 b5 b6 b7 b8 b9 b10 b11 b12 _ _ ⟨rfl,rfl,rfl,k,rfl,hkl,hF⟩
  refine Ab h4.isSl (Aa (fun q=>?_) fun q=>?_)
  ·rw[h4.lenS]at q
   have gd:f[k]? =some f[k]:=List.getElem?_eq_getElem (by omega)
   have gd2:g[k]? =some g[k]:=List.getElem?_eq_getElem (by omega)
   generalize f[k]=d at gd
   generalize g[k]=d2 at gd2
   refine Mm hke h4 h5 rfl gd (Mm hke k4 k5 rfl gd2 (Aa (fun e=>?_) fun e=>?_))
   ·refine⟨Vv hke k4 k5 gd2,Vv hke h4 h5 gd,no fun h=>e ?_⟩
    rw[(inj.1 h).2.2,gd2]at gd
    rw[Option.some.inj gd]
   ·refine Vg hke h4 h5 rfl (by omega) fun key1 s1 l1 f1 ub1 ul1 uf1 gw hw on=>Vg hke k4 k5 rfl (by omega) fun key2 s2 l2 f2 ub2 ul2 uf2 gw2 hw2 on2=>?_
    have hwsz:=FH gw
    have hwsz2:=FH gw2
    have hwk:=szd key1 (.mk s1 l1 f1)
    have hwk2:=szd key2 (.mk s2 l2 f2)
    refine ih (.mk s1 l1 f1) (.mk s2 l2 f2) (by omega) (by omega) (by omega) hw hw2 hke fun r hr=>⟨Vv hke k4 k5 gd2,Vv hke h4 h5 gd,Aq (fun hb=>no fun h=>?_) fun hb=>?_⟩
    ·rw[(inj.1 h).2.2,gw2]at gw
     have:=Option.some.inj gw
     simp only[Fd.mk.injEq]at this
     rw[hr.2 this.2.symm]at hb;cases hb
    ·rw[Ad _ (by omega) (by omega)]
     refine⟨⟨rfl,rfl,rfl,k+1,by omega,by omega,LR hF gw gw2 ?_⟩,by dsimp only;omega⟩
     rw[gd]at gw
     rw[gd2]at gw2
     have q1:=Option.some.inj gw
     have q2:=Option.some.inj gw2
     subst q1 q2
     have:=hr.1 (by simpa using hb)
     simp only[Fd.key,Decidable.not_not]at e
     rw[e,this]
  ·rw[h4.lenS]at q
   have hfg:f=g:=by
    have:k=f.length:=by omega
    rw[this,List.take_length,efl,List.take_length]at hF;exact hF
   exact hk true ⟨fun _=>by rw[hfg],fun _=>rfl⟩
theorem SlR.ldb {st:St} {u:TV} {l:B8} {k:Nat} (h:SlR st 1 u l.length (At l)) (hk:k<l.length):Af st [] (.t (ixT 1 u k)) 0=some (D5 l[k]):=by
 have:=h.ldc (by rw[BO];omega) hk
 rw[List.drop_eq_getElem_cons (by rw[BO];omega)]at this
 simp only[Al,List.take_succ_cons,List.take_zero]at this
 cases hq:Af st [] (.t (ixT 1 u k)) 0 with
 | none=>rw[hq]at this;cases this
 | some y=>
  rw[hq]at this
  simp only[Option.map_some,Option.some.injEq,List.cons.injEq,and_true]at this
  rw[this];simp[At]
def zs (n:Nat):B8:=List.replicate n 48
theorem OZ:∀n,Lib.repeatL [48] n=zs n
 | 0=>rfl
 | n+1=>by
  show [48]++Lib.repeatL [48] n=_
  rw[OZ n];rfl
theorem K6 (n:Nat):(zs n).length=n:=by simp[zs]
theorem Qt {n:Nat} (hn:n<=2000000) {st:St} {K:B8->St->Prop} (hk:K (zs n) st):CallT PR EV [.str [48],.int .i64 (n:Int)] [.one .str] st K:=by
 refine EP (fun _ _=>by kernel_rfl) fun g w vargs s hr=>?_
 obtain⟨v,u,rfl,hv,hu⟩:=Ma hr
 rw[DI hv,SU hu]
 refine Calls.mono (Tryz.strings_Repeat ⟨#[48]⟩ n w (by omega) (by simp[ByteArray.size];omega)) ?_
 rintro e w' ⟨rfl,hb⟩
 obtain⟨s',e'⟩:=s.world hb.size (s.below.trans (hb.mono s.fits)) hb.block
 refine⟨_,rfl,.str (zs n),st,g,hk,s',?_,e'⟩
 have:Lib.repeatL (ByteArray.mk #[48]).data.toList n=zs n:=OZ n
 rw[this];exact Rel.str _
theorem SlR.of_box {st:St} {b n:Nat} {xs:List TV} (hb:b<st.nb) (h:st.box b= .cells xs) (hl:xs.length=n):SlR st 1 (.ms 1 b 0 n n) n xs:=
 .inr ⟨b,0,n,xs,rfl,hb,h,by omega,Nat.le_refl _,by simp[<-hl]⟩
theorem YF (n:Nat):At (zs n)=List.replicate n (.int .u8 48):=by
 unfold zs At
 rw[List.map_replicate];rfl
theorem O4 {n:Nat} (hn:n<=2000000) {st:St} {K:B8->St->Prop} (hk:∀st',Ah st st'->K (zs n) st'):CallT PR BZ [.int .i64 (n:Int)] [.one .str] st K:=by
 have e0:Ah st (st.push (.cells (FO [.int .u8 0] (Int.toNat (n:Int)*1))) (some 5)):=(Ah.refl st).push _ _
 refine HI _ st K ⟨⟨by omega,by omega,by omega⟩,?_⟩
 rw[Int.toNat_natCast]at e0⊢
 refine⟨fun i m u st'=>(n:Int)=m/\.ms 1 st.nb 0 n n=u/\∃(k:Nat) (xs:List TV),i=k/\k<=n/\Ah st st'/\st.nb<st'.nb/\st'.box st.nb= .cells xs/\xs.length=n/\xs.take k=List.replicate k (.int .u8 48),fun i _ _ _=>(n-i).toNat,
  ⟨rfl,rfl,0,FO [.int .u8 0] (n*1),rfl,Nat.zero_le _,e0,by simp[St.push],by simp[St.push],by simp[FO],rfl⟩,?_⟩
 rintro _ _ _ st1 ⟨rfl,rfl,k,xs,rfl,hkn,e1,hb,hbx,hxl,htk⟩
 refine Aa (fun g=>?_) fun g=>?_
 ·rw[Int.toNat_natCast,Ad _ (by omega) (by omega)]
  refine⟨⟨by omega,by simp only[lenZ,Nat.beq_refl];omega⟩,?_⟩
  refine⟨xs,hbx,by simp only[List.length_cons,List.length_nil];omega,?_⟩
  have hset:setAll xs (0+k*1) [.int .u8 48]=xs.set k (.int .u8 48):=by simp[setAll]
  refine⟨⟨rfl,rfl,k+1,setAll xs (0+k*1) [.int .u8 48],by omega,by omega,StX.ext e1 (StX.put (S:=fun i=>i=st.nb) rfl _) (fun i hi=>by rw[hi];exact Nat.le_refl _),hb,by simp[St.put],by rw[Fu];exact hxl,?_⟩,by dsimp only;omega⟩
  rw[hset,List.take_set,List.replicate_succ',<-htk]
  rw[List.take_succ_eq_append_getElem (by omega),List.set_append_right _ _ (by simp;omega)]
  simp[show k-min k xs.length=0 by omega]
 ·have hkn2:k=n:=by omega
  subst hkn2
  rw[List.take_of_length_le (by omega)]at htk
  have hsl:SlR st1 1 (.ms 1 st.nb 0 k k) (zs k).length (At (zs k)):=by
   rw[K6,YF,<-htk]
   exact SlR.of_box hb hbx hxl
  exact Ac (x:=TV.str (zs k)) (by rw[hsl.toBytes];rfl) (Aw (hk st1 e1))
theorem QV {T b sz bytes:Nat} {st0 st:St} {v:TV} {n k:Nat} {xs ys:List TV} {K:TV->St->Prop} (e:Ah st0 st) (hb:b=st0.nt) (h:Own b sz st v n xs) (hby:(n+k)*bytes<=140737488355328) (hys:k=0->ys=[])
  (hK:∀v' st',Ah st0 st'->BI st st'->Own b sz st' v' (n+k) (xs++ys)->K v' st'):A5 T sz bytes v k ys st K:=by
 subst hb
 have kk:∀st':St,st'.nb=st.nb->st'.box=st.box->BI st st':=fun st' a b=>⟨Nat.le_of_eq a.symm,fun i _=>by rw[b]⟩
 rcases h with⟨rfl,rfl,rfl⟩ | ⟨tip,rfl,ht⟩
 ·simp only[A5]
  cases k with
  | zero=>rw[hys rfl]at hK;exact hK _ _ e (kk _ rfl rfl) (.nil _ _ _)
  | succ m=>
   simp only[Am]
   refine⟨by simpa using hby,hK _ _ (e.fresh _) (kk _ rfl rfl) ?_⟩
   simp only[List.nil_append,Nat.zero_add]
   exact Own.fresh _ _ e.nt
 ·simp only[A5,Nat.beq_refl]
  refine⟨hby,?_⟩
  rcases ht with rfl | ⟨id,rfl,h1,h2,h3⟩
  ·cases k with
   | zero=>rw[hys rfl]at hK;simp only[List.append_nil]at hK;exact hK _ _ e (kk _ rfl rfl) (Own.full _ _ _ _ _)
   | succ m=>exact hK _ _ (e.fresh _) (kk _ rfl rfl) (Own.fresh _ _ e.nt)
  ·exact⟨h3,hK _ _ ((e.retire h1).fresh _) (kk _ rfl rfl) (Own.fresh (st:=st.retire id) _ _ e.nt)⟩
def scK (k:Nat):Sc:=⟨(k:Nat),false,false,[],0,0,0,0,0,[],[]⟩
def After {α:Type} (S:Except Nat Nat) (f:Nat->Except Nat (α×Nat)) (Q:α->Prop) (T:Except Nat Nat):Prop:=match S with
 | .error e=>T= .error e
 | .ok a=>match f a with
  | .error e=>T= .error e
  | .ok (y,b)=>Q y/\T= .ok b
theorem Lw:∀l:List Vl,Ct l=(l.map Vl.sz).sum
 | []=>rfl
 | v::r=>by unfold Ct;rw[Lw r];rfl
theorem Mv:∀l:List Fd,BS l=(l.map Fd.sz).sum
 | []=>rfl
 | v::r=>by unfold BS;rw[Mv r];rfl
theorem StX.fresh {S:Nat->Prop} {a b:St} (h:StX S a b) (T:Option Nat):StX S a (b.fresh T):=
 h.trans ⟨Nat.le_refl _,fun _ _ _=>rfl,Nat.le_succ _,fun i hi=>by simp only[St.fresh];rw[if_neg (by omega)],fun i hi=>by simp only[St.fresh];rw[if_neg (by omega)],fun _ _=>rfl⟩
theorem StX.retire {S:Nat->Prop} {a b:St} (h:StX S a b) {id:Nat} (hid:a.nt<=id):StX S a (b.retire id):=
 ⟨h.nb,h.box,h.nt,fun i hi=>by simp only[St.retire];rw[if_neg (by omega)];exact h.live i hi,h.ty,h.bt⟩
theorem Own.extX {S:Nat->Prop} {b sz:Nat} {st st':St} {v:TV} {n:Nat} {xs:List TV} (h:Own b sz st v n xs) (e:StX S st st'):Own b sz st' v n xs:=by
 rcases h with h | ⟨tip,h,ht | ⟨id,h1,h2,h3,h4⟩⟩
 ·exact .inl h
 ·exact .inr ⟨tip,h,.inl ht⟩
 ·exact .inr ⟨tip,h,.inr ⟨id,h1,h2,Nat.lt_of_lt_of_le h3 e.nt,(e.live id h3).trans h4⟩⟩
theorem PH {S:Nat->Prop} {T b sz bytes:Nat} {st0 st:St} {v:TV} {n k:Nat} {xs ys:List TV} {K:TV->St->Prop} (e:StX S st0 st) (hb:b=st0.nt) (h:Own b sz st v n xs) (hby:(n+k)*bytes<=140737488355328) (hk1:k≠0)
  (hK:∀v' st',StX S st0 st'->st'.box=st.box->st'.nb=st.nb->Own b sz st' v' (n+k) (xs++ys)->K v' st'):A5 T sz bytes v k ys st K:=by
 subst hb
 rcases h with⟨rfl,rfl,rfl⟩ | ⟨tip,rfl,ht⟩
 ·simp only[A5]
  cases k with
  | zero=>exact absurd rfl hk1
  | succ m=>
   simp only[Am]
   refine⟨by simpa using hby,hK _ _ (e.fresh _) rfl rfl ?_⟩
   simp only[List.nil_append,Nat.zero_add]
   exact Own.fresh _ _ e.nt
 ·simp only[A5,Nat.beq_refl]
  refine⟨hby,?_⟩
  rcases ht with rfl | ⟨id,rfl,h1,h2,h3⟩
  ·cases k with
   | zero=>exact absurd rfl hk1
   | succ m=>exact hK _ _ (e.fresh _) rfl rfl (Own.fresh _ _ e.nt)
  ·exact⟨h3,hK _ _ ((e.retire h1).fresh _) rfl rfl (Own.fresh (st:=st.retire id) _ _ e.nt)⟩
theorem Fg (st:St) (s:Sc) (h:s.bytes=[]):VlR st (.mk s [] []) (AI s .nilSlice .nilSlice .nilSlice):=by
 unfold VlR
 refine⟨_,_,_,[],[],rfl,?_,.of_rd (.inl ⟨rfl,rfl,rfl⟩),by unfold VsR;rfl,.of_rd (.inl ⟨rfl,rfl,rfl⟩),by unfold FsR;rfl⟩
 rw[h];exact .of_rd (.inl ⟨rfl,rfl,rfl⟩)
theorem FsR.snoc0 {st:St} {d:Fd} {cd:List TV} {l:List Fd} {xs:List TV} (h:FsR st l xs) (hd:FdR st d cd):FsR st (l++[d]) (xs++cd):=by
 obtain⟨cks,rfl,hall⟩:=h.chunks
 have:=FsR.of_chunks (hall.snoc hd)
 simpa using this
theorem Uy (st:St):BI St.zero st:=⟨Nat.zero_le _,fun i hi=>absurd hi (Nat.not_lt_zero _)⟩
section
mutual
def BR:Vl->Prop
 | .mk s l f=>FM s l f/\Cu s.neg s.dg s.ex/\(s.kind=3->BW s.tk s.td s.tn s.tz)/\s.text.length<=65536/\s.bytes.length<=65536/\CL l/\CH f
def CL:List Vl->Prop
 | []=>True
 | v::r=>BR v/\CL r
def Lu:Fd->Prop
 | .mk k v=>k.length<=1024/\BR v
def CH:List Fd->Prop
 | []=>True
 | d::r=>Lu d/\CH r
end
mutual
def lvV:Vl->Nat
 | .mk _ l f=>1+max (Mi l) (KN f)
def Mi:List Vl->Nat
 | []=>0
 | v::r=>max (lvV v) (Mi r)
def lvD:Fd->Nat
 | .mk _ v=>lvV v
def KN:List Fd->Nat
 | []=>0
 | d::r=>max (lvD d) (KN r)
end
theorem Ft:∀{l:List Vl},CL l↔∀v,v∈l->BR v
 | []=>by unfold CL;simp
 | x::r=>by unfold CL;rw[Ft];simp
theorem EM:∀{l:List Fd},CH l↔∀v,v∈l->Lu v
 | []=>by unfold CH;simp
 | x::r=>by unfold CH;rw[EM];simp
theorem RB {l:List Vl} {n:Nat}:Mi l<=n↔∀v,v∈l->lvV v<=n:=by
 induction l with
 | nil=>unfold Mi;simp
 | cons x r ih=>unfold Mi;rw[Nat.max_le,ih];simp
theorem Mj {l:List Fd} {n:Nat}:KN l<=n↔∀v,v∈l->lvD v<=n:=by
 induction l with
 | nil=>unfold KN;simp
 | cons x r ih=>unfold KN;rw[Nat.max_le,ih];simp
theorem CM {s:Sc} {l:List Vl} {f:List Fd} (h:FM s l f) {t:Sc} (hk:s.kind=t.kind) (h1:s.kind=1->s.b=t.b) (h1':s.kind≠1->t.b=false) (h2:s.kind=2->s.neg=t.neg/\s.dg=t.dg/\s.ex=t.ex) (h2':s.kind≠2->t.neg=false/\t.dg=[]/\t.ex=0)
  (h3:s.kind=3->s.tk=t.tk/\s.td=t.td/\s.tn=t.tn/\s.tz=t.tz) (h3':s.kind≠3->t.tk=0/\t.td=0/\t.tn=0/\t.tz=0) (h4:s.kind=4->s.text=t.text) (h4':s.kind≠4->t.text=[]) (h5:s.kind=5->s.bytes=t.bytes) (h5':s.kind≠5->t.bytes=[]):s=t:=by
 have a1:s.b=t.b:=by
  by_cases k:s.kind=1
  ·exact h1 k
  ·rw[h.bo k,h1' k]
 have a2:s.neg=t.neg/\s.dg=t.dg/\s.ex=t.ex:=by
  by_cases k:s.kind=2
  ·exact h2 k
  ·obtain⟨x1,x2,x3⟩:=h.nu k
   obtain⟨y1,y2,y3⟩:=h2' k
   rw[x1,x2,x3,y1,y2,y3];exact⟨rfl,rfl,rfl⟩
 have a3:s.tk=t.tk/\s.td=t.td/\s.tn=t.tn/\s.tz=t.tz:=by
  by_cases k:s.kind=3
  ·exact h3 k
  ·obtain⟨x1,x2,x3,x4⟩:=h.ti k
   obtain⟨y1,y2,y3,y4⟩:=h3' k
   rw[x1,x2,x3,x4,y1,y2,y3,y4];exact⟨rfl,rfl,rfl,rfl⟩
 have a4:s.text=t.text:=by
  by_cases k:s.kind=4
  ·exact h4 k
  ·rw[h.tx k,h4' k]
 have a5:s.bytes=t.bytes:=by
  by_cases k:s.kind=5
  ·exact h5 k
  ·rw[h.by_ k,h5' k]
 cases s;cases t;simp_all
end
section
mutual
theorem DD.enc:∀{v:Vl},DD v->BR v
 | .mk s l f,h=>by
  unfold DD at h
  unfold BR
  obtain⟨h1,h2,h3⟩:=h
  exact⟨h1.own,h1.dec,h1.time,h1.tlen,h1.blen,CW.enc h2,CX.enc h3 fun d hd=>((Pd f [] h1.keys).2 d hd).2.2⟩
theorem CW.enc:∀{l:List Vl},CW l->CL l
 | [],h=>by unfold CL;trivial
 | v::r,h=>by
  unfold CW at h
  unfold CL
  exact⟨DD.enc h.1,CW.enc h.2⟩
theorem EE.enc:∀{d:Fd},EE d->d.key.length<=1024->Lu d
 | .mk k v,h,hk=>by
  unfold EE at h
  unfold Lu
  exact⟨hk,DD.enc h⟩
theorem CX.enc:∀{f:List Fd},CX f->(∀d,d∈f->d.key.length<=1024)->CH f
 | [],h,_=>by unfold CH;trivial
 | d::r,h,hk=>by
  unfold CX at h
  unfold CH
  exact⟨EE.enc h.1 (hk d (.head _)),CX.enc h.2 fun x hx=>hk x (.tail _ hx)⟩
end
theorem TZ {l:List Vl} (h:l=[]):Ds l=[]:=by subst h;rfl
theorem T0 {f:List Fd} (h:f=[]):Bl (CN f)=[]:=by subst h;rfl
mutual
theorem BR.sort:∀{v:Vl},BR v->BR (Bk v)
 | .mk s l f,h=>by
  unfold BR at h
  unfold Bk BR
  obtain⟨o,h1,h2,h3,h4,h5,h6⟩:=h
  exact⟨⟨o.k0,o.k7,o.bo,o.nu,o.ti,o.tx,o.by_,fun h=>TZ (o.ls h),fun h=>T0 (o.fs h)⟩,h1,h2,h3,h4,CL.sort h5,EM.2 fun d hd=>EM.1 (CH.sort h6) d ((Cz _).mem_iff.1 hd)⟩
theorem CL.sort:∀{l:List Vl},CL l->CL (Ds l)
 | [],h=>by unfold Ds CL;trivial
 | v::r,h=>by
  unfold CL at h
  unfold Ds CL
  exact⟨BR.sort h.1,CL.sort h.2⟩
theorem Lu.sort:∀{d:Fd},Lu d->Lu (CJ d)
 | .mk k v,h=>by unfold Lu at h;unfold CJ Lu;exact⟨h.1,BR.sort h.2⟩
theorem CH.sort:∀{f:List Fd},CH f->CH (CN f)
 | [],h=>by unfold CN CH;trivial
 | d::r,h=>by
  unfold CH at h
  unfold CN CH
  exact⟨Lu.sort h.1,CH.sort h.2⟩
end
mutual
theorem On:∀v:Vl,lvV (Bk v)<=lvV v
 | .mk s l f=>by
  have h1:=Tc l
  have h2:=Td f
  have h3:KN (Bl (CN f))<=KN (CN f):=Mj.2 fun d hd=>Mj.1 (Nat.le_refl _) d ((Cz _).mem_iff.1 hd)
  unfold Bk lvV
  omega
theorem Tc:∀l:List Vl,Mi (Ds l)<=Mi l
 | []=>by unfold Ds;exact Nat.le_refl _
 | v::r=>by
  have:=On v
  have:=Tc r
  unfold Ds Mi;omega
theorem XQ:∀d:Fd,lvD (CJ d)<=lvD d
 | .mk k v=>by unfold CJ lvD;exact On v
theorem Td:∀f:List Fd,KN (CN f)<=KN f
 | []=>by unfold CN;exact Nat.le_refl _
 | d::r=>by
  have:=XQ d
  have:=Td r
  unfold CN KN;omega
end
mutual
theorem MK:∀(v:Vl) (d n:Nat),(CG d n v).2=0->lvV v<=49-d
 | .mk s l f,d,n,h=>by
  unfold CG at h
  split at h
  ·cases h
  split at h
  ·cases h
  split at h
  ·rename_i h1;exact absurd h h1
  ·obtain⟨h1,h2⟩:=B2 h
   have:=Tz l (d+1) (n+1) h1
   have:=TC f (d+1) _ h2
   unfold lvV;omega
theorem Tz:∀(l:List Vl) (d n:Nat),(B6 d n l).2=0->Mi l<=49-d
 | [],d,n,h=>by unfold Mi;omega
 | v::r,d,n,h=>by
  unfold B6 at h
  obtain⟨h1,h2⟩:=B2 h
  have:=MK v d n h1
  have:=Tz r d _ h2
  unfold Mi;omega
theorem chkD_lv:∀(x:Fd) (d n:Nat),(Oc d n x).2=0->lvD x<=49-d
 | .mk k v,d,n,h=>by unfold Oc at h;unfold lvD;exact MK v d n h
theorem TC:∀(f:List Fd) (d n:Nat),(CK d n f).2=0->KN f<=49-d
 | [],d,n,h=>by unfold KN;omega
 | x::r,d,n,h=>by
  unfold CK at h
  obtain⟨h1,h2⟩:=B2 h
  have:=chkD_lv x d n h1
  have:=TC r d _ h2
  unfold KN;omega
end
end
end Go.TVF
