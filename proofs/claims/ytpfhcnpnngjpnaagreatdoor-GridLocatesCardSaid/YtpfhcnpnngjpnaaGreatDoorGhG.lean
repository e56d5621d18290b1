/- What the laws below rest on: a framework for Go programs, and contracts of the functions that they reach. -/
import Derived.Test.YtpfhcnpnngjpnaaGreatDoorGhF
import Derived.WideShapes
import Derived.Shelf.Strings.Builder2
import Derived.Shelf.Strings.Replace
import Derived.Test.YtpfhcnpnngjpnaaGreatDoorProg
set_option maxRecDepth 20000
set_option linter.unusedVariables false
set_option linter.unusedSimpArgs false
namespace Go.TVF
open Go.IntKind(i64 u8)
open Go Go.Proofs
section
abbrev decQs:List (Nat×(Nat->List TV->Prop)):=[(1,cellQ .bool),(1,strQ),(1,cellQ (.int .i64))]
abbrev timeQs:List (Nat×(Nat->List TV->Prop)):=[(1,cellQ (.int .i64)),(1,cellQ (.int .i64)),(1,cellQ (.int .i64)),(1,cellQ (.int .i64))]
def valQ (k:Nat) (tv:List TV):Prop:=∃v:Vl,VlR St.zero v tv/\v.sz<=k
def fldQ (k:Nat) (tv:List TV):Prop:=∃d:Fd,FdR St.zero d tv/\d.sz<=k
abbrev TP (c:Nat) (S:Nat->List TV->Prop) (k:Nat) (tv:List TV):Prop:=∃v,tv=[v]/\SlQ c S k v
abbrev inQ (Ss:List (Nat×(Nat->List TV->Prop))) (k:Nat) (tv:List TV):Prop:=∃k',k'+1<=k/\V3 Ss k' tv
abbrev valQs:List (Nat×(Nat->List TV->Prop)):=[(1,cellQ (.int .i64)),(1,cellQ .bool),(3,inQ decQs),(4,inQ timeQs),(1,strQ),(1,TP 1 (cellQ (.int .u8))),(1,TP 13 valQ),(1,TP 14 fldQ)]
abbrev fldQs:List (Nat×(Nat->List TV->Prop)):=[(1,strQ),(13,valQ)]
theorem SlQ.bytes {k:Nat} {v:TV} (h:SlQ 1 (cellQ (.int .u8)) k v):∃l:B8,SlR St.zero 1 v l.length (AF l)/\l.length<=k:=by
 rcases h with rfl | ⟨ps,rfl,h,hk⟩
 ·exact⟨[],.inl (.inl ⟨rfl,rfl,rfl⟩),Nat.zero_le _⟩
 ·have:∃l:B8,l.length=ps.length/\(ps.map (·.1)).flatten=AF l/\l.length<=(ps.map (·.2)).sum:=by
   clear hk
   induction ps with
   | nil=>exact⟨[],rfl,rfl,Nat.zero_le _⟩
   | cons p r ih=>
    obtain⟨l,h1,h2,h3⟩:=ih (fun q hq=>h q (.tail _ hq))
    obtain⟨hl,⟨n,ys,hp,hw,rfl⟩,h1k⟩:=h p (.head _)
    have hn:0<=n/\n<=255:=by simpa [Lit.wf,IntKind.min,IntKind.max,IntKind.signed,IntKind.bits]using hw
    refine⟨n.toNat.toUInt8::l,by simp[h1],?_,by simp only[List.length_cons,List.map_cons,List.sum_cons];omega⟩
    rw[List.map_cons,List.flatten_cons,hp,h2]
    simp only[AF,List.map_cons,Gq,List.cons_append,List.nil_append,List.cons.injEq,and_true,TV.int.injEq,true_and]
    have:=natB_lt n.toNat (by omega)
    omega
  obtain⟨l,h1,h2,h3⟩:=this
  exact⟨l,.inl (.inr ⟨.non,by rw[h1,h2]⟩),by omega⟩
theorem SlQ.vals {k:Nat} {v:TV} (h:SlQ 13 valQ k v):∃l xl,SlR St.zero 13 v l.length xl/\VsR St.zero l xl/\D2 l<=k:=by
 rcases h with rfl | ⟨ps,rfl,h,hk⟩
 ·exact⟨[],[],.inl (.inl ⟨rfl,rfl,rfl⟩),by unfold VsR;rfl,by unfold D2;exact Nat.zero_le _⟩
 ·have:∃l:List Vl,l.length=ps.length/\VsR St.zero l (ps.map (·.1)).flatten/\D2 l<=(ps.map (·.2)).sum:=by
   clear hk
   induction ps with
   | nil=>exact⟨[],rfl,by unfold VsR;rfl,by unfold D2;exact Nat.zero_le _⟩
   | cons p r ih=>
    obtain⟨l,h1,h2,h3⟩:=ih (fun q hq=>h q (.tail _ hq))
    obtain⟨hl,v,hv,hz⟩:=h p (.head _)
    exact⟨v::l,by simp[h1],by unfold VsR;exact⟨_,_,by simp,hv,h2⟩,by unfold D2;simp only[List.map_cons,List.sum_cons];omega⟩
  obtain⟨l,h1,h2,h3⟩:=this
  exact⟨l,_,.inl (.inr ⟨.non,by rw[h1]⟩),h2,by omega⟩
theorem SlQ.flds {k:Nat} {v:TV} (h:SlQ 14 fldQ k v):∃l xl,SlR St.zero 14 v l.length xl/\FsR St.zero l xl/\Fk l<=k:=by
 rcases h with rfl | ⟨ps,rfl,h,hk⟩
 ·exact⟨[],[],.inl (.inl ⟨rfl,rfl,rfl⟩),by unfold FsR;rfl,by unfold Fk;exact Nat.zero_le _⟩
 ·have:∃l:List Fd,l.length=ps.length/\FsR St.zero l (ps.map (·.1)).flatten/\Fk l<=(ps.map (·.2)).sum:=by
   clear hk
   induction ps with
   | nil=>exact⟨[],rfl,by unfold FsR;rfl,by unfold Fk;exact Nat.zero_le _⟩
   | cons p r ih=>
    obtain⟨l,h1,h2,h3⟩:=ih (fun q hq=>h q (.tail _ hq))
    obtain⟨hl,v,hv,hz⟩:=h p (.head _)
    exact⟨v::l,by simp[h1],by unfold FsR;exact⟨_,_,by simp,hv,h2⟩,by unfold Fk;simp only[List.map_cons,List.sum_cons];omega⟩
  obtain⟨l,h1,h2,h3⟩:=this
  exact⟨l,_,.inl (.inr ⟨.non,by rw[h1]⟩),h2,by omega⟩
theorem FZ {kd:IntKind} {k:Nat} {tv:List TV} (h:cellQ (.int kd) k tv):∃n,tv=[.int kd n]:=by
 obtain⟨⟨n,ys,rfl,_,rfl⟩,_⟩:=h;exact⟨n,rfl⟩
theorem Pe {k:Nat} {tv:List TV} (h:cellQ .bool k tv):∃b,tv=[.bool b]:=by
 obtain⟨⟨n,ys,rfl,rfl⟩,_⟩:=h;exact⟨n,rfl⟩
theorem each_field {k:Nat} {tv:List TV} (h:inQ fldQs k tv):fldQ k tv:=by
 obtain⟨k0,hk0,_,_,k1,k2,rfl,_,⟨key,rfl,_,hkey⟩,⟨_,_,k3,k4,rfl,_,⟨v,hv,hz⟩,rfl,h2⟩,h1⟩:=h
 refine⟨.mk key v,by unfold FdR;exact⟨_,by simp,hv⟩,by unfold Fd.sz;omega⟩
theorem each_value {k:Nat} {tv:List TV} (h:inQ valQs k tv):valQ k tv:=by
 obtain⟨k0,hk0,_,_,a1,r1,rfl,_,q1,⟨_,_,a2,r2,rfl,_,q2,⟨_,_,a3,r3,rfl,_,q3,⟨_,_,a4,r4,rfl,_,q4,⟨_,_,a5,r5,rfl,_,q5,⟨_,_,a6,r6,rfl,_,q6,⟨_,_,a7,r7,rfl,_,q7,⟨_,_,a8,r8,rfl,_,q8,rfl,h8⟩,h7⟩,h6⟩,h5⟩,h4⟩,h3⟩,h2⟩,h1⟩:=h
 obtain⟨kd,rfl⟩:=FZ q1
 obtain⟨bo,rfl⟩:=Pe q2
 obtain⟨d0,hd0,_,_,d1,d2,rfl,_,p1,⟨_,_,d3,d4,rfl,_,⟨dg,rfl,_,hdg⟩,⟨_,_,d5,d6,rfl,_,p3,rfl,g3⟩,g2⟩,g1⟩:=q3
 obtain⟨ng,rfl⟩:=Pe p1
 obtain⟨ex,rfl⟩:=FZ p3
 obtain⟨_,_,_,_,_,_,rfl,_,t1,⟨_,_,_,_,rfl,_,t2,⟨_,_,_,_,rfl,_,t3,⟨_,_,_,_,rfl,_,t4,rfl,_⟩,_⟩,_⟩,_⟩:=q4
 obtain⟨tk,rfl⟩:=FZ t1
 obtain⟨td,rfl⟩:=FZ t2
 obtain⟨tn,rfl⟩:=FZ t3
 obtain⟨tz,rfl⟩:=FZ t4
 obtain⟨tx,rfl,_,htx⟩:=q5
 obtain⟨ub,rfl,q6⟩:=q6
 obtain⟨ul,rfl,q7⟩:=q7
 obtain⟨uf,rfl,q8⟩:=q8
 obtain⟨bs,hb,hbl⟩:=q6.bytes
 obtain⟨l,xl,hl,hlv,hlz⟩:=q7.vals
 obtain⟨f,xf,hf,hfv,hfz⟩:=q8.flds
 refine⟨.mk ⟨kd,bo,ng,dg,ex,tk,td,tn,tz,tx,bs⟩ l f,?_,by rw[szs];simp only;omega⟩
 unfold VlR
 exact⟨ub,ul,uf,xl,xf,by simp,hb,hl,hlv,hf,hfv⟩
section
variable {H:Type} {enc:TypeId×Value->H} {P:Program} {w:World} {base b0:Nat} {held:Bool} {bk:DataW H->Nat}
end
end
section
def IsValU (t:TV):Prop:=∃v cs,t= .agg cs/\VlR St.zero v cs
section
variable {H:Type} {enc:TypeId×Value->H} {P:Program} {w:World} {base b0:Nat} {held:Bool} {bk:DataW H->Nat}
theorem open_valU {t:TypeId} {fs:Array Field} {v:Value} {d:DataW H} {p:List MemPlace} (ht:P.underlying t=some (.struct fs)) (hop:∀n,OpQ bk enc P w base held n 13 valQ t)
  (hval:Value.okWide P w .any b0 t v) (h:DataW.Trod enc P w base (fun _=>true) held t v d p):∃tv,Rel (Ghost.start w) w tv v/\IsValU tv:=by
 simp only[Value.okWide,ht]at hval
 obtain⟨vs,rfl,_,_⟩:=hval
 obtain⟨n,hn⟩:=h
 obtain⟨cs,hr,_,vl,hv,hz⟩:=(hop n).2 _ _ hn
 have:=Rel.agg cs vs.toList hr.1 hr.2
 rw[Array.toArray_toList]at this
 exact⟨_,this,vl,cs,rfl,hv⟩
end
end
def scZ:Sc:=⟨0,false,false,[],0,0,0,0,0,[],[]⟩
def Dg (l:List Vl):Vl:= .mk {scZ with kind:=6} l []
def Q2 (f:List Fd):Vl:= .mk {scZ with kind:=7} [] f
theorem VsR.nil (st:St):VsR st [] []:=by unfold VsR;rfl
theorem FsR.nil (st:St):FsR st [] []:=by unfold FsR;rfl
theorem WC {c:Int} {st:St} {K:Bool->St->Prop} (hk:K (LI c) st):CallT PR CE [.int .u8 c] [.one (.bool)] st K:=by
 refine HQ c st K ?_
 unfold LI at hk
 repeat' (refine Aa (fun _=>?_) fun _=>?_)
 all_goals first | exact Ck (decide_eq_true (by omega)).symm hk | exact Ck (decide_eq_false (by omega)).symm hk | exact Ck (decide_eq_decide.2 (by omega)) hk
theorem rbad_ok {s:B8} {st:St} {K:Int->St->Prop} (hl:s.length<=2000000) (hk:∀st',Aq st st'->K ((AX s:Nat):Int) st'):CallT PR DL [.str s] [.one (.int .i64)] st K:=by
 refine Kk s st K (KO hl fun v xs st1 e hr hx=>Ab hr.isSl ?_)
 rw[hr.lenS,hr.lenZ]
 have w:i64.wrap (((xs.length+1:Nat):Int)-1)=(xs.length:Nat):=by rw[Ah _ (by omega) (by omega)];omega
 rw[w]
 refine⟨⟨by omega,by omega⟩,Ad (hr.ldx st1 _ 0 (x:= .int .i64 ((AX s:Nat):Int)) ?_) (hk st1 e)⟩
 rw[Int.toNat_natCast];simp
end Go.TVF
section
namespace Go.TVF
open Go.IntKind(i64 u8)
open Go Go.Proofs Go.RowKit
theorem Rr {b:Nat} {st:St} {K:TV->St->Prop} (hk:K (.box b 0) st):CallT PR Iw [.box b 0] [.one (.tv)] st K:=by
 refine Q7 fun g w vargs s hr=>?_
 obtain⟨v,rfl,hv⟩:=Xk hr
 refine⟨v,w,?_,.box b 0,st,g,hk,s,hv,Ext.refl _ _⟩
 show(callFunc 300 #[v]).run Tryz.prog w=_
 rw[run_callFunc_extern Tryz.func300 (by kernel_rfl) (by kernel_rfl) (by kernel_rfl) (e:=Extern.AbiNoEscape.same) (by kernel_rfl)]
 rfl
def Pp (st0:St) (b:Nat) (st:St) (buf:B8):Prop:=
 Aq st0 st/\st0.nb<=b/\b<st.nb/\st.bt b=some 188/\∃p v,st.box b= .cells [p,v]/\(p= .nilPtr∨p= .box b 0)/\
  ((v= .nilSlice/\buf=[])∨∃id,v= .list 1 (.own id) buf.length (AF buf)/\buf≠ []/\st0.nt<=id/\id<st.nt/\st.live id=true/\st.ty id=some 5)
theorem Pp.new {st0 st:St} (e:Aq st0 st):Pp st0 st.nb (st.push (.cells [.nilPtr,.nilSlice]) (some 188)) []:=
 ⟨e.push _ _,e.nb,by simp[St.push],by simp[St.push],.nilPtr,.nilSlice,HG _ _ _,.inl rfl,.inl ⟨rfl,rfl⟩⟩
theorem PS {st0 st:St} {b:Nat} {buf:B8} {K:St->Prop} (h:Pp st0 b st buf) (hk:∀st',Pp st0 b st' buf->K st'):CallT PR Bv [.box b 0] [] st K:=by
 have h0:=h
 obtain⟨e,h1,h2,h3,p,v,hb,hp,hv⟩:=h
 refine Fi b st K (Ad (x:=p) (by simp[Ac,hb]) (Ab (by rcases hp with rfl | rfl<;>rfl) ?_))
 rcases hp with rfl | rfl
 ·refine(show BIf true _ _ from⟨by simp[Ac,hb],Rr ?_⟩)
  refine⟨⟨rfl,h3,_,hb,rfl⟩,Ab rfl ⟨_,hb,by simp,hk _ ?_⟩⟩
  exact⟨e.put h1 _,h1,h2,h3,.box b 0,v,E3 _ _ _,.inr rfl,hv⟩
 ·exact(show BIf false _ _ from Ad (x:= .box b 0) (by simp[Ac,hb]) ⟨rfl,hk st h0⟩)
theorem Fh {st0 st:St} {b:Nat} {buf s:B8} {K:Int->TV->St->Prop} (h:Pp st0 b st buf) (hl:buf.length+s.length<=140737488355328) (hk:∀st',Pp st0 b st' (buf++s)->K (s.length:Int) .nilIface st'):
  CallT PR AP [.box b 0,.str s] [.one (.int .i64),.one (.tv)] st K:=by
 refine EG b s st K (PS h fun st1 h1=>?_)
 obtain⟨e,a1,a2,a3,p,v,hb,hp,hv⟩:=h1
 refine Ad (x:=v) (by simp[Ac,hb]) (Ad (src_str st1 s) (Ab (Um s) ?_))
 rcases hv with⟨rfl,rfl⟩ | ⟨id,rfl,n1,n2,n3,n4,n5⟩
 ·cases s with
  | nil=>
   simp only[AV,List.length_nil,AF,List.map_nil]
   exact Ab rfl ⟨_,hb,by simp,hk _ ⟨e.put a1 _,a1,a2,a3,p,.nilSlice,E3 _ _ _,hp,.inl ⟨rfl,rfl⟩⟩⟩
  | cons c r=>
   simp only[AV,List.length_cons,Nat.mul_one]
   refine Ab (by simp only[List.length_nil,List.length_cons]at hl;simp;omega) (Ab rfl ⟨_,hb,by simp,hk _ ?_⟩)
   exact⟨(e.fresh _).put a1 _,a1,a2,a3,p,_,E3 _ _ _,hp,.inr ⟨st1.nt,rfl,by simp,e.nt,by simp[St.put,St.fresh],by simp[St.put,St.fresh],by simp[St.put,St.fresh]⟩⟩
 ·simp only[AV,Nat.beq_refl,Nat.mul_one]
  refine⟨hl,n4,Ab rfl ⟨_,hb,by simp,hk _ ?_⟩⟩
  refine⟨((e.retire n2).fresh _).put a1 _,a1,a2,a3,p,_,E3 _ _ _,hp,.inr ⟨st1.nt,?_,by simp[n1],e.nt,by simp[St.put,St.fresh,St.retire],by simp[St.put,St.fresh,St.retire],by simp[St.put,St.fresh,St.retire,n5,Mc]⟩⟩
  rw[List.length_append,<-KN]
theorem LU {st0 st:St} {b:Nat} {buf:B8} {K:B8->St->Prop} (h:Pp st0 b st buf) (hl:buf.length<=140737488355328) (hk:∀st',Aq st0 st'->K buf st'):
  CallT PR B1 [.box b 0] [.one (.str)] st K:=by
 obtain⟨e,h1,h2,h3,p,v,hb,hp,hv⟩:=h
 have hld:Ac st [] (.t (.box b 1)) 0=some v:=by simp[Ac,hb]
 rcases hv with⟨rfl,rfl⟩ | ⟨id,rfl,n1,n2,n3,n4,n5⟩
 ·refine DG b st K (Ad hld (Ad (x:= .nilPtr) rfl (Ad hld (Ab rfl ?_))))
  exact⟨rfl,hk st e⟩
 ·refine DG b st K (Ad hld (Ad (x:= .sptr (.list 1 (.own id) buf.length (AF buf))) ?_ (Ad hld (Ab rfl ?_))))
  case refine_2=>exact⟨⟨rfl,by omega,n4,n5⟩,Ad (Dy buf) (hk _ (e.retire n2))⟩
  simp only[Ou]
  cases hz:buf.length.beq 0 with
  | true=>exact absurd (List.eq_nil_of_length_eq_zero (Nat.eq_of_beq_eq_true hz)) n1
  | false=>rfl
end Go.TVF
end
namespace Go.TVF
open Go.IntKind(i64 u8)
open Go Go.Proofs
def Bd (s:B8) (k:Nat):Prop:=k<=s.length/\(k=s.length∨¬Pa (bt s k))
theorem Bd.char {s:B8} {k j:Nat} (h:Bd s k) (hj:j<k):j+ul (s.drop j)<=k:=by
 apply Decidable.byContradiction
 intro hn
 have hle:=Jr (s.drop j)
 rw[List.length_drop]at hle
 have:=Q4 (s.drop j) (k-j) (by omega) (by omega)
 rw[GP,show j+(k-j)=k by omega]at this
 rcases h.2 with h | h
 ·have:=h;omega
 ·exact h this
theorem Le:∀(n:Nat) (l:B8) (m:Nat),l.length<=n->AX l=l.length->Bd l m->AX (l.take m)=m
 | 0,l,m,hn,hv,hb=>by
  have:l=[]:=List.eq_nil_of_length_eq_zero (by omega)
  subst this
  have:=hb.1
  simp only[List.length_nil]at this
  rw[List.take_nil,Hg];omega
 | n+1,l,m,hn,hv,hb=>by
  cases m with
  | zero=>rw[List.take_zero,Hg]
  | succ m=>
  have h0:ul l≠0:=fun h=>by
   rw[BG l h]at hv
   have:=hb.1
   omega
  have hc:=hb.char (j:=0) (by omega)
  rw[List.drop_zero,Nat.zero_add]at hc
  have hu:=Vp h0 hc
  have hle:=Jr l
  rw[BH _ h0]at hv
  rw[BH _ (by rw[hu.1];exact h0),hu.1,UP]
  have hu4:0<ul l:=by omega
  rw[Le n (l.drop (ul l)) (m+1-ul l) (by rw[List.length_drop];omega) (by rw[List.length_drop];omega) ⟨by rw[List.length_drop];have:=hb.1;omega,?_⟩]
  ·omega
  ·rw[List.length_drop,GP,show ul l+(m+1-ul l)=m+1 by omega]
   rcases hb.2 with h | h
   ·left;omega
   ·right;exact h
theorem UF {s:B8} {st:St} {K:Int->St->Prop} (hl:s.length<=2000000) (hk:K (if AX s=s.length then-1 else((AX s:Nat):Int)) st):CallT PR EO [.str s] [.one (.int .i64)] st K:=by
 have hv:=Ld s
 refine L4 s st K ⟨fun i s' st'=>s=s'/\st=st'/\∃k:Nat,i=(k:Int)/\k<=s.length/\k+AX (s.drop k)=AX s,fun i _ _=>(s.length-i).toNat,⟨rfl,rfl,0,rfl,by omega,by simp⟩,?_⟩
 rintro _ _ _ ⟨rfl,rfl,k,rfl,h1,h2⟩
 refine Aa (fun g1=>Of rfl hl h1 ?_) fun g1=>?_
 ·have hle:=Jr (s.drop k)
  rw[List.length_drop]at hle
  unfold rD
  by_cases h0:ul (s.drop k)=0
  ·rw[if_pos h0]
   rw[BG _ h0]at h2
   rw[if_neg (by omega)]at hk
   refine Aa (fun _=>?_) fun h=>absurd rfl h
   rw[show k=AX s by omega];exact hk
  ·rw[if_neg h0]
   rw[BH _ h0,List.drop_drop]at h2
   refine Aa (fun h=>absurd h (by show ¬((ul (s.drop k):Nat):Int)=0;omega)) fun _=>?_
   have w:i64.wrap ((k:Int)+(ul (s.drop k):Nat))=((k+ul (s.drop k):Nat):Int):=by rw[Ah _ (by omega) (by omega)];omega
   dsimp only
   rw[w]
   exact⟨⟨rfl,rfl,_,rfl,by omega,by omega⟩,by omega⟩
 ·rw[show s.drop k=[]from List.drop_of_length_le (by omega),Hg]at h2
  rw[if_pos (by omega)]at hk;exact hk
section
inductive Nd where
 | mk (kind:Int) (lead text:B8) (kids:List Nd) (tail:B8)
mutual
def NdC:Nd->List TV->Prop
 | .mk k l t ks tl,cs=>∃v xs,cs=[.int .i64 k,.str l,.str t,v,.str tl]/\Rd 5 v ks.length xs/\AU ks xs
def AU:List Nd->List TV->Prop
 | [],xs=>xs=[]
 | n::r,xs=>∃a b,xs=a++b/\NdC n a/\AU r b
end
theorem NdC.len {n:Nd} {cs:List TV} (h:NdC n cs):cs.length=5:=by
 cases n
 unfold NdC at h
 obtain⟨v,xs,rfl,_⟩:=h
 rfl
theorem AU.get:∀{ks:List Nd} {xs:List TV},AU ks xs->∀{i:Nat} {n:Nd},ks[i]? =some n->∃cs,NdC n cs/\∀j x,cs[j]? =some x->xs[i*5+j]? =some x
 | [],xs,h,i,n,hi=>by simp at hi
 | m::r,xs,h,0,n,hi=>by
  unfold AU at h
  obtain⟨a,b,rfl,ha,hb⟩:=h
  simp only[List.getElem?_cons_zero,Option.some.injEq]at hi
  subst hi
  refine⟨a,ha,fun j x hj=>?_⟩
  rw[Nat.zero_mul,Nat.zero_add,List.getElem?_append_left (List.getElem?_eq_some_iff.1 hj).1]
  exact hj
 | m::r,xs,h,i+1,n,hi=>by
  unfold AU at h
  obtain⟨a,b,rfl,ha,hb⟩:=h
  obtain⟨cs,h1,h2⟩:=hb.get (i:=i) (n:=n) (by simpa using hi)
  refine⟨cs,h1,fun j x hj=>?_⟩
  have hl:=ha.len
  rw[List.getElem?_append_right (by omega),show(i+1)*5+j-a.length=i*5+j by omega]
  exact h2 j x hj
theorem AU.append:∀{ks js:List Nd} {xs ys:List TV},AU ks xs->AU js ys->AU (ks++js) (xs++ys)
 | [],js,xs,ys,h,g=>by unfold AU at h;subst h;exact g
 | n::r,js,xs,ys,h,g=>by
  unfold AU at h
  obtain⟨a,b,rfl,ha,hb⟩:=h
  rw[List.cons_append]
  unfold AU
  exact⟨a,b++ys,by rw[List.append_assoc],ha,hb.append g⟩
theorem AU.one {n:Nd} {cs:List TV} (h:NdC n cs):AU [n] cs:=by
 unfold AU
 exact⟨cs,[],by simp,h,by unfold AU;rfl⟩
theorem AU.nil:AU [] []:=by unfold AU;rfl
theorem Fj {v:TV} {ks:List Nd} {xs:List TV} (hr:Rd 5 v ks.length xs) (hk:AU ks xs) (st:St) {i:Nat} {k:Int} {l t tl:B8} {js:List Nd} (hi:ks[i]? =some (.mk k l t js tl)):
  ∃u ys,(Aj st [] (.t (ixT 5 v i)) 0 5).map TV.agg=some (.agg [.int .i64 k,.str l,.str t,u,.str tl])/\Rd 5 u js.length ys/\AU js ys/\Ap u=true:=by
 obtain⟨cs,hc,hx⟩:=hk.get hi
 unfold NdC at hc
 obtain⟨u,ys,rfl,h1,h2⟩:=hc
 refine⟨u,ys,?_,h1,h2,h1.one⟩
 simp only[Aj,Nat.zero_add,Nat.reduceAdd]
 rw[hr.ldx st i 0 (hx 0 _ rfl),hr.ldx st i 1 (hx 1 _ rfl),hr.ldx st i 2 (hx 2 _ rfl),hr.ldx st i 3 (hx 3 _ rfl),hr.ldx st i 4 (hx 4 _ rfl)]
 rfl
theorem Co {k:Int} {l t tl:B8} {u:TV} (h:Ap u=true):List.all [.int .i64 k,.str l,.str t,u,.str tl] Ap=true:=by
 simp only[List.all_cons,h];rfl
mutual
def BZ:Nd->Nat
 | .mk _ _ _ ks _=>1+Gv ks
def Gv:List Nd->Nat
 | []=>0
 | n::r=>BZ n+Gv r
end
theorem XH (n:Nd):1<=BZ n:=by cases n;unfold BZ;omega
theorem Dk:∀ks:List Nd,ks.length<=Gv ks
 | []=>by simp[Gv]
 | n::r=>by
  have h1:=XH n
  have h2:=Dk r
  simp only[Gv,List.length_cons];omega
theorem DT:∀(ks:List Nd) {i:Nat} {n:Nd} (h:ks[i]? =some n),BZ n<=Gv ks
 | [],i,n,h=>by simp at h
 | m::r,0,n,h=>by simp only[List.getElem?_cons_zero,Option.some.injEq]at h;subst h;simp only[Gv];omega
 | m::r,i+1,n,h=>by
  have:=DT r (i:=i) (n:=n) (by simpa using h)
  simp only[Gv];omega
mutual
def Ce:Nd->Nat
 | .mk _ l t ks tl=>l.length+t.length+tl.length+EL ks
def EL:List Nd->Nat
 | []=>0
 | n::r=>Ce n+EL r
end
mutual
def BF:Nd->B8
 | .mk _ l t ks tl=>l++t++E8 ks++tl
def E8:List Nd->B8
 | []=>[]
 | n::r=>BF n++E8 r
end
mutual
theorem CP:∀n:Nd,(BF n).length=Ce n
 | .mk _ l t ks tl=>by
  have:=J8 ks
  simp only[BF,Ce,List.length_append];omega
theorem J8:∀ks:List Nd,(E8 ks).length=EL ks
 | []=>rfl
 | n::r=>by
  have h1:=CP n
  have h2:=J8 r
  simp only[E8,EL,List.length_append];omega
end
theorem MH (ks:List Nd) (i:Nat) (n:Nd) (h:ks[i]? =some n):EL (ks.take (i+1))=EL (ks.take i)+Ce n:=by
 rw[List.take_add_one,h]
 generalize ks.take i=a
 induction a with
 | nil=>simp[EL]
 | cons m r ih=>simp only[Option.toList_some,List.cons_append,EL]at ih⊢;omega
theorem UA (ks:List Nd) (i:Nat):EL ks=EL (ks.take i)+EL (ks.drop i):=by
 conv=>lhs;rw[<-List.take_append_drop i ks]
 generalize ks.take i=a
 induction a with
 | nil=>simp[EL]
 | cons m r ih=>simp only[List.cons_append,EL]at ih⊢;omega
theorem Hu (ks:List Nd) (i:Nat) (n:Nd) (h:ks[i]? =some n):EL (ks.take i)+Ce n<=EL ks:=by
 have h1:=MH ks i n h
 have h2:=UA ks (i+1)
 omega
theorem OQ (ks:List Nd) (i:Nat) (n:Nd) (h:ks[i]? =some n):E8 (ks.take (i+1))=E8 (ks.take i)++BF n:=by
 rw[List.take_add_one,h]
 generalize ks.take i=a
 induction a with
 | nil=>simp[E8]
 | cons m r ih=>simp only[Option.toList_some,List.cons_append,E8,List.append_assoc]at ih⊢;rw[ih]
theorem AG {ks:List Nd} {i:Nat} {n:Nd} (h:ks[i]? =some n):n∈ks:=List.mem_of_getElem? h
theorem Vs:∀(n:Nd) {cs:List TV} (hc:NdC n cs) (hl:Ce n<=1000000000000000) (hcn:BZ n<=1000000000000000) {st:St} {K:Int->St->Prop} (hk:K (Ce n:Nat) st),CallT PR GI [.agg cs] [.one (.int .i64)] st K
 | .mk k l t ks tl,cs,hc,hl,hcn,st,K,hk=>by
  simp only[BZ]at hcn
  have hkl0:=Dk ks
  unfold NdC at hc
  obtain⟨v,xs,rfl,hr,hx⟩:=hc
  simp only[Ce]at hl hk
  refine Sd k l t v tl st K (Ab hr.isSl ⟨fun s i w n st'=>v=w/\n=(ks.length:Int)/\st=st'/\∃j:Nat,i=(j:Int)/\j<=ks.length/\s=((l.length+t.length+tl.length+EL (ks.take j):Nat):Int),fun _ i _ _ _=>(ks.length-i).toNat,⟨rfl,by rw[hr.lenS],rfl,0,rfl,by omega,?_⟩,?_⟩)
  ·rw[Ah ((l.length:Int)+t.length) (by omega) (by omega),Ah _ (by omega) (by omega)]
   simp only[List.take_zero,EL];omega
  rintro _ _ _ _ _ ⟨rfl,rfl,rfl,j,rfl,h1,rfl⟩
  rw[hr.lenZ,show Int.toNat (j:Int)=j from rfl]
  refine Aa (fun g=>?_) fun g=>?_
  ·have hlt:j<ks.length:=by omega
   have hget:=List.getElem?_eq_getElem hlt
   generalize hn:ks[j]=n at hget
   obtain⟨k',l',t',js,tl'⟩:=n
   obtain⟨u,ys,hld,h2,h3,h4⟩:=Fj hr hx st hget
   have hm:=Hu ks j _ hget
   have hcm:=DT ks hget
   have ht:=MH ks j _ hget
   refine⟨⟨by omega,by omega⟩,Ad hld (Ab (Co h4) ?_)⟩
   refine Vs (.mk k' l' t' js tl') (by unfold NdC;exact⟨u,ys,rfl,h2,h3⟩) (by omega) (by omega) ?_
   have w1:i64.wrap (((l.length+t.length+tl.length+EL (ks.take j):Nat):Int)+(Ce (.mk k' l' t' js tl'):Nat))=((l.length+t.length+tl.length+EL (ks.take (j+1)):Nat):Int):=by
    rw[Ah _ (by omega) (by omega)];omega
   have w2:i64.wrap ((j:Int)+1)=((j+1:Nat):Int):=by rw[Ah _ (by omega) (by omega)];omega
   rw[w1,w2]
   exact⟨⟨rfl,rfl,rfl,j+1,rfl,by omega,rfl⟩,by dsimp only;omega⟩
  ·rw[List.take_of_length_le (by omega)];exact hk
termination_by n=>SizeOf.sizeOf n
decreasing_by
 have:=List.sizeOf_lt_of_mem (AG hget)
 simp only[Nd.mk.sizeOf_spec]at this⊢
 omega
theorem VA:∀(n:Nd) {cs:List TV} (hc:NdC n cs) (hl:Ce n<=1000000000000000) (hcn:BZ n<=1000000000000000) {st:St} {K:Int->St->Prop} (hk:K (Ce n:Nat) st),CallT PR Cl [.agg cs] [.one (.int .i64)] st K
 | .mk k l t ks tl,cs,hc,hl,hcn,st,K,hk=>by
  simp only[BZ]at hcn
  have hkl0:=Dk ks
  unfold NdC at hc
  obtain⟨v,xs,rfl,hr,hx⟩:=hc
  simp only[Ce]at hl hk
  refine Kh k l t v tl st K ⟨fun s i k' l' t' w tl' st'=>v=w/\st=st'/\∃j:Nat,i=(j:Int)/\j<=ks.length/\s=((l.length+t.length+tl.length+EL (ks.take j):Nat):Int),fun _ i _ _ _ _ _ _=>(ks.length-i).toNat,⟨rfl,rfl,0,rfl,by omega,?_⟩,?_⟩
  ·rw[Ah ((l.length:Int)+t.length) (by omega) (by omega),Ah _ (by omega) (by omega)]
   simp only[List.take_zero,EL];omega
  rintro _ _ _ _ _ _ _ _ ⟨rfl,rfl,j,rfl,h1,rfl⟩
  refine Ab hr.isSl ?_
  rw[hr.lenS,hr.lenZ,show Int.toNat (j:Int)=j from rfl]
  refine Aa (fun g=>?_) fun g=>?_
  ·have hlt:j<ks.length:=by omega
   have hget:=List.getElem?_eq_getElem hlt
   generalize hn:ks[j]=n at hget
   obtain⟨k',l',t',js,tl'⟩:=n
   obtain⟨u,ys,hld,h2,h3,h4⟩:=Fj hr hx st hget
   have hm:=Hu ks j _ hget
   have hcm:=DT ks hget
   have ht:=MH ks j _ hget
   refine⟨⟨by omega,by omega⟩,Ad hld ?_⟩
   refine VA (.mk k' l' t' js tl') (by unfold NdC;exact⟨u,ys,rfl,h2,h3⟩) (by omega) (by omega) ?_
   have w1:i64.wrap (((l.length+t.length+tl.length+EL (ks.take j):Nat):Int)+(Ce (.mk k' l' t' js tl'):Nat))=((l.length+t.length+tl.length+EL (ks.take (j+1)):Nat):Int):=by
    rw[Ah _ (by omega) (by omega)];omega
   have w2:i64.wrap ((j:Int)+1)=((j+1:Nat):Int):=by rw[Ah _ (by omega) (by omega)];omega
   rw[w1,w2]
   exact⟨⟨rfl,rfl,j+1,rfl,by omega,rfl⟩,by dsimp only;omega⟩
  ·rw[List.take_of_length_le (by omega)];exact hk
termination_by n=>SizeOf.sizeOf n
decreasing_by
 have:=List.sizeOf_lt_of_mem (AG hget)
 simp only[Nd.mk.sizeOf_spec]at this⊢
 omega
theorem P5:∀(n:Nd) {cs:List TV} (hc:NdC n cs) (hl:Ce n<=1000000000000000) (hcn:BZ n<=1000000000000000) {st:St} {K:B8->St->Prop} (hk:K (BF n) st),CallT PR BS [.agg cs] [.one (.str)] st K
 | .mk k l t ks tl,cs,hc,hl,hcn,st,K,hk=>by
  simp only[BZ]at hcn
  have hkl0:=Dk ks
  unfold NdC at hc
  obtain⟨v,xs,rfl,hr,hx⟩:=hc
  simp only[Ce]at hl
  simp only[BF]at hk
  refine IL k l t v tl st K ⟨by omega,fun s i k' l' t' w tl' st'=>v=w/\tl=tl'/\st=st'/\∃j:Nat,i=(j:Int)/\j<=ks.length/\s=l++t++E8 (ks.take j),fun _ i _ _ _ _ _ _=>(ks.length-i).toNat,⟨rfl,rfl,rfl,0,rfl,by omega,by simp[E8]⟩,?_⟩
  rintro _ _ _ _ _ _ _ _ ⟨rfl,rfl,rfl,j,rfl,h1,rfl⟩
  refine Ab hr.isSl ?_
  rw[hr.lenS,hr.lenZ,show Int.toNat (j:Int)=j from rfl]
  have hkl:=J8 (ks.take j)
  refine Aa (fun g=>?_) fun g=>?_
  ·have hlt:j<ks.length:=by omega
   have hget:=List.getElem?_eq_getElem hlt
   generalize hn:ks[j]=n at hget
   obtain⟨k',l',t',js,tl'⟩:=n
   obtain⟨u,ys,hld,h2,h3,h4⟩:=Fj hr hx st hget
   have hm:=Hu ks j _ hget
   have hcm:=DT ks hget
   have ht:=OQ ks j _ hget
   refine⟨⟨by omega,by omega⟩,Ad hld ?_⟩
   refine P5 (.mk k' l' t' js tl') (by unfold NdC;exact⟨u,ys,rfl,h2,h3⟩) (by omega) (by omega) ⟨?_,?_⟩
   ·rw[CP];simp only[List.length_append];omega
   ·rw[Ah ((j:Int)+1) (by omega) (by omega)]
    exact⟨⟨rfl,rfl,rfl,j+1,by omega,by omega,by rw[ht];simp⟩,by dsimp only;omega⟩
  ·rw[List.take_of_length_le (by omega)]at hkl⊢
   exact⟨by simp only[List.length_append];omega,hk⟩
termination_by n=>SizeOf.sizeOf n
decreasing_by
 have:=List.sizeOf_lt_of_mem (AG hget)
 simp only[Nd.mk.sizeOf_spec]at this⊢
 omega
theorem PW:∀(n:Nd) {cs:List TV} (hc:NdC n cs) {st0 st:St} {b:Nat} {buf:B8} (hb:Pp st0 b st buf) (hl:buf.length+Ce n<=100000000000000) (hcn:BZ n<=1000000000000000) {K:St->Prop} (hk:∀st',Pp st0 b st' (buf++BF n)->K st'),CallT PR EY [.box b 0,.agg cs] [] st K
 | .mk k l t ks tl,cs,hc,st0,st,b,buf,hb,hl,hcn,K,hk=>by
  simp only[BZ]at hcn
  have hkl0:=Dk ks
  unfold NdC at hc
  obtain⟨v,xs,rfl,hr,hx⟩:=hc
  simp only[Ce]at hl
  simp only[BF]at hk
  refine Pw b k l t v tl st K (Fh hb (by omega) fun st1 b1=>Fh b1 (by rw[List.length_append];omega) fun st2 b2=>Ab hr.isSl ?_)
  refine⟨fun i b' w n k' l' t' w' tl' st'=>TV.box b 0=b'/\v=w/\n=(ks.length:Int)/\tl=tl'/\∃j:Nat,i=(j:Int)/\j<=ks.length/\Pp st0 b st' (buf++l++t++E8 (ks.take j)),fun i _ _ _ _ _ _ _ _ _=>(ks.length-i).toNat,⟨rfl,rfl,by rw[hr.lenS],rfl,0,rfl,by omega,by simpa [E8]using b2⟩,?_⟩
  rintro _ _ _ _ _ _ _ _ _ st3 ⟨rfl,rfl,rfl,rfl,j,rfl,h1,b3⟩
  rw[hr.lenZ,show Int.toNat (j:Int)=j from rfl]
  have hkl:=J8 (ks.take j)
  refine Aa (fun g=>?_) fun g=>?_
  ·have hlt:j<ks.length:=by omega
   have hget:=List.getElem?_eq_getElem hlt
   generalize hn:ks[j]=n at hget
   obtain⟨k',l',t',js,tl'⟩:=n
   obtain⟨u,ys,hld,h2,h3,h4⟩:=Fj hr hx st3 hget
   have hm:=Hu ks j _ hget
   have hcm:=DT ks hget
   have ht:=OQ ks j _ hget
   refine⟨⟨by omega,by omega⟩,Ad hld (Ab (Co h4) ?_)⟩
   refine PW (.mk k' l' t' js tl') (by unfold NdC;exact⟨u,ys,rfl,h2,h3⟩) b3 (by simp only[List.length_append];omega) (by omega) fun st4 b4=>?_
   rw[Ah ((j:Int)+1) (by omega) (by omega)]
   exact⟨⟨rfl,rfl,rfl,rfl,j+1,by omega,by omega,by rw[ht];simpa using b4⟩,by dsimp only;omega⟩
  ·rw[List.take_of_length_le (by omega)]at hkl b3
   exact Fh b3 (by simp only[List.length_append];omega) fun st4 b4=>hk st4 (by simpa using b4)
termination_by n=>SizeOf.sizeOf n
decreasing_by
 have:=List.sizeOf_lt_of_mem (AG hget)
 simp only[Nd.mk.sizeOf_spec]at this⊢
 omega
theorem V7 {n:Nd} {cs:List TV} (hc:NdC n cs) (hl:Ce n<=100000000000000) (hcn:BZ n<=1000000000000000) {st:St} {K:B8->St->Prop} (hk:∀st',Aq st st'->K (BF n) st'):CallT PR G4 [.agg cs] [.one (.str)] st K:=by
 have hc0:=hc
 obtain⟨k,l,t,ks,tl⟩:=n
 unfold NdC at hc
 obtain⟨v,xs,rfl,hr,hx⟩:=hc
 refine Py k l t v tl st K (PW _ hc0 (Pp.new (Aq.refl st)) (by simpa using hl) hcn fun st1 b1=>?_)
 have hn:=CP (.mk k l t ks tl)
 exact LU b1 (by simp only[List.nil_append];omega) fun st2 e=>hk st2 e
def Iv (k:Int):Bool:=decide (k=2∨k=6∨k=10∨k=11)
theorem leaf_ok {k:Int} {st:St} {K:Bool->St->Prop} (hk:K (Iv k) st):CallT PR If [.int .i64 k] [.one (.bool)] st K:=by
 unfold Iv at hk
 refine QV k st K ?_
 repeat' first
  | exact Ck (decide_eq_true (by omega)).symm hk
  | exact Ck (decide_eq_false (by omega)).symm hk
  | refine Aa (fun _=>?_) fun _=>?_
theorem Xh {k:Int} {st:St} {K:Bool->St->Prop} (hk:K (Iv k) st):CallT PR Dr [.int .i64 k] [.one (.bool)] st K:=by
 unfold Iv at hk
 refine Jm k st K ?_
 repeat' first
  | exact Ck (decide_eq_true (by omega)).symm hk
  | exact Ck (decide_eq_decide.2 (by omega)) hk
  | refine Aa (fun _=>?_) fun _=>?_
mutual
def chk:Nd->Int->Int->Except Int Int
 | .mk k l t ks tl,d,s=>if 192<d then .error 9 else if 524288<=s then .error 10 else if k<1∨11<k then .error 6
  else if Iv k=true/\(ks.length≠0∨tl≠ [])then .error 1 else Gx ks (d+1) (s+1)
def Gx:List Nd->Int->Int->Except Int Int
 | [],d,s=> .ok s
 | n::r,d,s=>match chk n d s with | .error e=> .error e | .ok s'=>Gx r d s'
end
end
section
mutual
theorem MT:∀(n:Nd) {d s s':Int},s<=524288->chk n d s= .ok s'->s<=s'/\s'<=524288
 | .mk k l t ks tl,d,s,s',hs,h=>by
  unfold chk at h
  split at h
  ·cases h
  split at h
  ·cases h
  split at h
  ·cases h
  split at h
  ·cases h
  have:=Pd ks (by omega) h
  omega
theorem Pd:∀(ks:List Nd) {d s s':Int},s<=524288->Gx ks d s= .ok s'->s<=s'/\s'<=524288
 | [],d,s,s',hs,h=>by unfold Gx at h;cases h;omega
 | n::r,d,s,s',hs,h=>by
  unfold Gx at h
  split at h
  ·cases h
  ·rename_i s1 h1
   have h2:=MT n hs h1
   have h3:=Pd r h2.2 h
   omega
end
mutual
theorem ET:∀(n:Nd) {d s e:Int},chk n d s= .error e->e≠0
 | .mk k l t ks tl,d,s,e,h=>by
  unfold chk at h
  split at h
  ·cases h;decide
  split at h
  ·cases h;decide
  split at h
  ·cases h;decide
  split at h
  ·cases h;decide
  exact Nj ks h
theorem Nj:∀(ks:List Nd) {d s e:Int},Gx ks d s= .error e->e≠0
 | [],d,s,e,h=>by unfold Gx at h;cases h
 | n::r,d,s,e,h=>by
  unfold Gx at h
  split at h
  ·rename_i e1 h1;cases h;exact ET n h1
  ·exact Nj r h
end
theorem At {k:IntKind} {n:Int} {f:Int->Prop} (h:f n):Af (.int k) (.int k n) f:=Ab (by simp) h
def V2 (st0:St) (b:Nat) (st:St) (s:Int):Prop:=Aq st0 st/\st0.nb<=b/\st.box b= .cells [.int .i64 s]
theorem P0:∀(n:Nd) {cs:List TV} (hc:NdC n cs) {d s:Int} (hd0:0<=d) (hd:d<=200) (hs0:0<=s) (hs:s<=524288) (hcn:BZ n<=1000000000000000) {st0 st:St} {b:Nat} (hb:V2 st0 b st s) {K:Int->St->Prop}
  (hk1:∀s' st',chk n d s= .ok s'->V2 st0 b st' s'->K 0 st') (hk2:∀e st',chk n d s= .error e->Aq st0 st'->K e st'),CallT PR DV [.agg cs,.int .i64 d,.box b 0] [.one (.int .i64)] st K
 | .mk k l t ks tl,cs,hc,d,s,hd0,hd,hs0,hs,hcn,st0,st,b,hb,K,hk1,hk2=>by
  simp only[BZ]at hcn
  have hkl0:=Dk ks
  unfold NdC at hc
  obtain⟨v,xs,rfl,hr,hx⟩:=hc
  unfold chk at hk1 hk2
  obtain⟨hb1,hb2,hb3⟩:=hb
  refine Px k l t v tl d b st K (Aa (fun g=>?_) fun g=>?_)
  ·rw[if_pos g]at hk2;exact hk2 _ _ rfl hb1
  rw[if_neg g]at hk1 hk2
  refine Ad (x:= .int .i64 s) (by simp[Ac,hb3]) ?_
  refine At (Vy hb3 (by simp) ?_)
  rw[Ah (s+1) (by omega) (by omega)]
  obtain⟨st1,hst1⟩:∃st1,st1=st.put b (.cells (setAll [.int .i64 s] 0 [.int .i64 (s+1)])):=⟨_,rfl⟩
  have hb4:st1.box b= .cells [.int .i64 (s+1)]:=by rw[hst1,E3];rfl
  have hb5:V2 st0 b st1 (s+1):=⟨by rw[hst1];exact hb1.put hb2 _,hb2,hb4⟩
  rw[<-hst1]
  refine Ad (x:= .int .i64 (s+1)) (by simp[Ac,hb4]) (At (Aa (fun g2=>?_) fun g2=>?_))
  ·rw[if_pos (by omega)]at hk2;exact hk2 _ _ rfl hb5.1
  rw[if_neg (by omega)]at hk1 hk2
  refine Aa (fun g3=>?_) fun g3=>Aa (fun g4=>?_) fun g4=>?_
  ·rw[if_pos (by omega)]at hk2;exact hk2 _ _ rfl hb5.1
  ·rw[if_pos (by omega)]at hk2;exact hk2 _ _ rfl hb5.1
  rw[if_neg (by omega)]at hk1 hk2
  refine leaf_ok (Ak (fun hl=>Ab hr.isSl ?_) fun hl=>Ab hr.isSl ?_)
  case' refine_1=>
   rw[hr.lenS]
   refine Aa (fun g5=>?_) fun g5=>Aa (fun g6=>?_) fun g6=>Ab hr.isSl ?_
   ·rw[if_pos ⟨hl,.inl (by omega)⟩]at hk2;exact hk2 _ _ rfl hb5.1
   ·rw[if_pos ⟨hl,.inr g6⟩]at hk2;exact hk2 _ _ rfl hb5.1
   rw[if_neg (by rintro⟨_,h | h⟩;omega;exact g6 h)]at hk1 hk2
  case' refine_2=>rw[if_neg (by rintro⟨h,_⟩;rw[hl]at h;cases h)]at hk1 hk2
  all_goals
   refine⟨fun i d' sn v' n st'=>v=v'/\TV.box b 0=sn/\d=d'/\n=(ks.length:Int)/\∃(j:Nat) (s1:Int),i=(j:Int)/\j<=ks.length/\V2 st0 b st' s1/\Gx ks (d+1) (s+1)=Gx (ks.drop j) (d+1) s1/\0<=s1/\s1<=524288,
    fun i _ _ _ _ _=>(ks.length-i).toNat,⟨rfl,rfl,rfl,by first | rw[hr.lenS] | rfl,0,s+1,rfl,by omega,hb5,rfl,by omega,by omega⟩,?_⟩
   rintro _ _ _ _ _ st2 ⟨rfl,rfl,rfl,rfl,j,s1,rfl,h1,hb6,heq,h2,h3⟩
   rw[hr.lenZ,show Int.toNat (j:Int)=j from rfl]
   refine Aa (fun q=>?_) fun q=>?_
   ·have hlt:j<ks.length:=by omega
    have hget:=List.getElem?_eq_getElem hlt
    have hdrop:=List.drop_eq_getElem_cons hlt
    generalize hn:ks[j]=n at hget hdrop
    obtain⟨k',l',t',js,tl'⟩:=n
    obtain⟨u,ys,hld,hu1,hu2,hu3⟩:=Fj hr hx st2 hget
    have hcm:=DT ks hget
    rw[hdrop,Gx]at heq
    refine⟨⟨by omega,by omega⟩,Ad hld (Ab (Co hu3) ?_)⟩
    rw[Ah (d+1) (by omega) (by omega),Ah ((j:Int)+1) (by omega) (by omega)]
    refine P0 (.mk k' l' t' js tl') (by unfold NdC;exact⟨u,ys,rfl,hu1,hu2⟩) (by omega) (by omega) h2 h3 (by omega) hb6 (fun s' st3 hc hb7=>?_) fun e st3 hc hb7=>?_
    ·rw[hc]at heq
     have:=MT _ h3 hc
     exact Aa (fun h=>absurd rfl h) fun _=>⟨⟨rfl,rfl,rfl,rfl,j+1,s',by omega,by omega,hb7,heq,by omega,by omega⟩,by dsimp only;omega⟩
    ·rw[hc]at heq
     exact Aa (fun _=>hk2 e st3 heq hb7) fun h=>absurd (Decidable.not_not.1 h) (ET _ hc)
   ·rw[List.drop_of_length_le (by omega),Gx]at heq
    exact hk1 _ _ heq hb6
termination_by n=>SizeOf.sizeOf n
decreasing_by
 all_goals
  have:=List.sizeOf_lt_of_mem (AG hget)
  simp only[Nd.mk.sizeOf_spec]at this⊢
  omega
theorem SK:∀(n:Nd) {cs:List TV} (hc:NdC n cs) {d s:Int} (hd0:0<=d) (hd:d<=200) (hs0:0<=s) (hs:s<=524288) (hcn:BZ n<=1000000000000000) {st:St} {K:Int->Int->St->Prop}
  (hk1:∀s',chk n d s= .ok s'->K s' 0 st) (hk2:∀e x,chk n d s= .error e->K x e st),CallT PR Bp [.agg cs,.int .i64 d,.int .i64 s] [.one (.int .i64),.one (.int .i64)] st K
 | .mk k l t ks tl,cs,hc,d,s,hd0,hd,hs0,hs,hcn,st,K,hk1,hk2=>by
  simp only[BZ]at hcn
  have hkl0:=Dk ks
  unfold NdC at hc
  obtain⟨v,xs,rfl,hr,hx⟩:=hc
  unfold chk at hk1 hk2
  refine Jk k l t v tl d s st K (Aa (fun g=>?_) fun g=>?_)
  ·rw[if_pos g]at hk2;exact hk2 _ _ rfl
  rw[if_neg g]at hk1 hk2
  refine Aa (fun g2=>?_) fun g2=>?_
  ·rw[if_pos g2]at hk2;exact hk2 _ _ rfl
  rw[if_neg g2]at hk1 hk2
  refine Aa (fun g3=>?_) fun g3=>Aa (fun g4=>?_) fun g4=>?_
  ·rw[if_pos (by omega)]at hk2;exact hk2 _ _ rfl
  ·rw[if_pos (by omega)]at hk2;exact hk2 _ _ rfl
  rw[if_neg (by omega)]at hk1 hk2
  refine Xh (Ak (fun hl=>Ab hr.isSl ?_) fun hl=>?_)
  case' refine_1=>
   rw[hr.lenS]
   refine Aa (fun g5=>?_) fun g5=>Aa (fun g6=>?_) fun g6=>?_
   ·rw[if_pos ⟨hl,.inl (by omega)⟩]at hk2;exact hk2 _ _ rfl
   ·rw[if_pos ⟨hl,.inr g6⟩]at hk2;exact hk2 _ _ rfl
   rw[if_neg (by rintro⟨_,h | h⟩;omega;exact g6 h)]at hk1 hk2
  case' refine_2=>rw[if_neg (by rintro⟨h,_⟩;rw[hl]at h;cases h)]at hk1 hk2
  all_goals
   rw[Ah (s+1) (by omega) (by omega)]
   refine⟨fun s1 i d' k' l' t' v' tl' st'=>v=v'/\st=st'/\d=d'/\∃j:Nat,i=(j:Int)/\j<=ks.length/\Gx ks (d+1) (s+1)=Gx (ks.drop j) (d+1) s1/\0<=s1/\s1<=524288,
    fun _ i _ _ _ _ _ _ _=>(ks.length-i).toNat,⟨rfl,rfl,rfl,0,rfl,by omega,rfl,by omega,by omega⟩,?_⟩
   rintro s1 _ _ _ _ _ _ _ _ ⟨rfl,rfl,rfl,j,rfl,h1,heq,h2,h3⟩
   refine Ab hr.isSl ?_
   rw[hr.lenS,hr.lenZ,show Int.toNat (j:Int)=j from rfl]
   refine Aa (fun q=>?_) fun q=>?_
   ·have hlt:j<ks.length:=by omega
    have hget:=List.getElem?_eq_getElem hlt
    have hdrop:=List.drop_eq_getElem_cons hlt
    generalize hn:ks[j]=n at hget hdrop
    obtain⟨k',l',t',js,tl'⟩:=n
    obtain⟨u,ys,hld,hu1,hu2,hu3⟩:=Fj hr hx st hget
    have hcm:=DT ks hget
    rw[hdrop,Gx]at heq
    refine⟨⟨by omega,by omega⟩,Ad hld ?_⟩
    rw[Ah (d+1) (by omega) (by omega),Ah ((j:Int)+1) (by omega) (by omega)]
    refine SK (.mk k' l' t' js tl') (by unfold NdC;exact⟨u,ys,rfl,hu1,hu2⟩) (by omega) (by omega) h2 h3 (by omega) (fun s' hc=>?_) fun e x hc=>?_
    ·rw[hc]at heq
     have:=MT _ h3 hc
     exact Aa (fun h=>absurd rfl h) fun _=>⟨⟨rfl,rfl,rfl,j+1,by omega,by omega,heq,by omega,by omega⟩,by dsimp only;omega⟩
    ·rw[hc]at heq
     exact Aa (fun _=>hk2 e x heq) fun h=>absurd (Decidable.not_not.1 h) (ET _ hc)
   ·rw[List.drop_of_length_le (by omega),Gx]at heq
    exact hk1 _ heq
termination_by n=>SizeOf.sizeOf n
decreasing_by
 all_goals
  have:=List.sizeOf_lt_of_mem (AG hget)
  simp only[Nd.mk.sizeOf_spec]at this⊢
  omega
def Iy (n:Nd):Int:=match chk n 1 0 with
 | .error e=>e
 | .ok _=>if 1048576<Ce n then 10 else 0
theorem Wa {n:Nd} {cs:List TV} (hc:NdC n cs) (hl:Ce n<=1000000000000000) (hcn:BZ n<=1000000000000000) {st:St} {K:Int->St->Prop} (hk:∀st',Aq st st'->K (Iy n) st'):CallT PR G5 [.agg cs] [.one (.int .i64)] st K:=by
 have hc0:=hc
 obtain⟨k,l,t,ks,tl⟩:=n
 unfold NdC at hc
 obtain⟨v,xs,rfl,hr,hx⟩:=hc
 unfold Iy at hk
 refine Pz k l t v tl st K (Vy (HG st _ _) (by simp) (P0 _ hc0 (d:=1) (s:=0) (by decide) (by decide) (by decide) (by decide) hcn (st0:=st) ⟨?_,Nat.le_refl _,by rw[E3];rfl⟩ (fun s' st' hc hb=>?_) fun e st' hc hb=>?_))
 ·exact((Aq.refl st).push _ _).put (Nat.le_refl _) _
 ·rw[hc]at hk
  refine Aa (fun h=>absurd rfl h) fun _=>Vs _ hc0 hl hcn (Aa (fun g=>?_) fun g=>?_)
  ·have:=hk _ hb.1
   rw[if_pos (by omega)]at this;exact this
  ·have:=hk _ hb.1
   rw[if_neg (by omega)]at this;exact this
 ·rw[hc]at hk
  exact Aa (fun _=>hk _ hb) fun h=>absurd (Decidable.not_not.1 h) (ET _ hc)
theorem Ud {n:Nd} {cs:List TV} (hc:NdC n cs) (hl:Ce n<=1000000000000000) (hcn:BZ n<=1000000000000000) {st:St} {K:Int->St->Prop} (hk:K (Iy n) st):CallT PR CY [.agg cs] [.one (.int .i64)] st K:=by
 have hc0:=hc
 obtain⟨k,l,t,ks,tl⟩:=n
 unfold NdC at hc
 obtain⟨v,xs,rfl,hr,hx⟩:=hc
 unfold Iy at hk
 refine IM k l t v tl st K (SK _ hc0 (d:=1) (s:=0) (by decide) (by decide) (by decide) (by decide) hcn (fun s' hc=>?_) fun e x hc=>?_)
 ·rw[hc]at hk
  refine Aa (fun _=>VA _ hc0 hl hcn (Aa (fun g=>?_) fun g=>?_)) fun h=>absurd rfl h
  ·rw[if_pos (by omega)]at hk;exact hk
  ·rw[if_neg (by omega)]at hk;exact hk
 ·rw[hc]at hk
  exact Aa (fun h=>absurd h (ET _ hc)) fun _=>hk
end
section
theorem Sk:∀(a b:Nd) {cs ds:List TV} (hc:NdC a cs) (hd:NdC b ds) (hcn:BZ a<=1000000000000000) {st:St} {K:Bool->St->Prop} (hk1:a=b->K true st) (hk2:a≠b->K false st),
  CallT PR FQ [.agg cs,.agg ds] [.one (.bool)] st K
 | .mk k l t ks tl,.mk k' l' t' js tl',cs,ds,hc,hd,hcn,st,K,hk1,hk2=>by
  simp only[BZ]at hcn
  have hkl0:=Dk ks
  unfold NdC at hc hd
  obtain⟨v,xs,rfl,hr,hx⟩:=hc
  obtain⟨u,ys,rfl,hr',hy⟩:=hd
  refine QW k l t v tl k' l' t' u tl' st K (Aa (fun g=>hk2 fun h=>by cases h;exact g rfl) fun g1=>Aa (fun g=>hk2 fun h=>by cases h;exact g rfl) fun g2=>Aa (fun g=>hk2 fun h=>by cases h;exact g rfl) fun g3=>
   Aa (fun g=>hk2 fun h=>by cases h;exact g rfl) fun g4=>Ab hr.isSl (Ab hr'.isSl ?_))
  have g1:=Decidable.not_not.1 g1
  have g2:=Decidable.not_not.1 g2
  have g3:=Decidable.not_not.1 g3
  have g4:=Decidable.not_not.1 g4
  subst g1 g2 g3 g4
  rw[hr.lenS,hr'.lenS]
  refine Aa (fun g=>hk2 fun h=>by cases h;exact g rfl) fun g5=>Ab hr.isSl ?_
  have hlen:ks.length=js.length:=by omega
  refine⟨fun i n k1 l1 t1 v1 tl1 k2 l2 t2 v2 tl2 st'=>n=(ks.length:Int)/\v=v1/\u=v2/\st=st'/\∃j:Nat,i=(j:Int)/\j<=ks.length/\ks.take j=js.take j,fun i _ _ _ _ _ _ _ _ _ _ _ _=>(ks.length-i).toNat,
   ⟨rfl,rfl,rfl,rfl,0,rfl,by omega,by simp⟩,?_⟩
  rintro _ _ _ _ _ _ _ _ _ _ _ _ _ ⟨rfl,rfl,rfl,rfl,j,rfl,h1,heq⟩
  rw[hr.lenZ,hr'.lenZ,show Int.toNat (j:Int)=j from rfl]
  refine Aa (fun q=>?_) fun q=>?_
  ·have hlt:j<ks.length:=by omega
   have hlt':j<js.length:=by omega
   have hget:=List.getElem?_eq_getElem hlt
   have hget':=List.getElem?_eq_getElem hlt'
   generalize hn:ks[j]=n at hget
   generalize hm:js[j]=m at hget'
   obtain⟨k1,l1,t1,a1,tl1⟩:=n
   obtain⟨k2,l2,t2,a2,tl2⟩:=m
   have hcm:=DT ks hget
   obtain⟨u1,ys1,hld,hu1,hu2,hu3⟩:=Fj hr hx CJ hget
   obtain⟨u2,ys2,hld',hv1,hv2,hv3⟩:=Fj hr' hy CJ hget'
   refine⟨⟨by omega,by omega⟩,Ad hld ⟨⟨by omega,by omega⟩,Ad hld' ?_⟩⟩
   refine Sk (.mk k1 l1 t1 a1 tl1) (.mk k2 l2 t2 a2 tl2) (by unfold NdC;exact⟨u1,ys1,rfl,hu1,hu2⟩) (by unfold NdC;exact⟨u2,ys2,rfl,hv1,hv2⟩) (by omega) (fun he=>?_) fun he=>?_
   ·refine Ak (fun h=>by cases h) fun _=>?_
    rw[Ah ((j:Int)+1) (by omega) (by omega)]
    exact⟨⟨rfl,rfl,rfl,rfl,j+1,by omega,by omega,by rw[List.take_add_one,List.take_add_one,heq,hget,hget',he]⟩,by dsimp only;omega⟩
   ·refine Ak (fun _=>hk2 fun h=>he ?_) fun h=>by cases h
    cases h
    rw[hget]at hget'
    exact Option.some.inj hget'
  ·rw[List.take_of_length_le (by omega),List.take_of_length_le (by omega)]at heq
   exact hk1 (by rw[heq])
termination_by a=>SizeOf.sizeOf a
decreasing_by
 have:=List.sizeOf_lt_of_mem (AG hget)
 simp only[Nd.mk.sizeOf_spec]at this⊢
 omega
theorem SF:∀(a b:Nd) {cs ds:List TV} (hc:NdC a cs) (hd:NdC b ds) (hcn:BZ a<=1000000000000000) {st:St} {K:Bool->St->Prop} (hk1:a=b->K true st) (hk2:a≠b->K false st),
  CallT PR Cc [.agg cs,.agg ds] [.one (.bool)] st K
 | .mk k l t ks tl,.mk k' l' t' js tl',cs,ds,hc,hd,hcn,st,K,hk1,hk2=>by
  simp only[BZ]at hcn
  have hkl0:=Dk ks
  unfold NdC at hc hd
  obtain⟨v,xs,rfl,hr,hx⟩:=hc
  obtain⟨u,ys,rfl,hr',hy⟩:=hd
  refine Jl k l t v tl k' l' t' u tl' st K (Aa (fun g=>hk2 fun h=>by cases h;exact g rfl) fun g1=>Aa (fun g=>hk2 fun h=>by cases h;exact g rfl) fun g2=>Aa (fun g=>hk2 fun h=>by cases h;exact g rfl) fun g3=>
   Aa (fun g=>hk2 fun h=>by cases h;exact g rfl) fun g4=>Ab hr.isSl (Ab hr'.isSl ?_))
  have g1:=Decidable.not_not.1 g1
  have g2:=Decidable.not_not.1 g2
  have g3:=Decidable.not_not.1 g3
  have g4:=Decidable.not_not.1 g4
  subst g1 g2 g3 g4
  rw[hr.lenS,hr'.lenS]
  refine Aa (fun g=>hk2 fun h=>by cases h;exact g rfl) fun g5=>?_
  have hlen:ks.length=js.length:=by omega
  refine⟨fun i k1 l1 t1 v1 tl1 k2 l2 t2 v2 tl2 st'=>v=v1/\u=v2/\st=st'/\∃j:Nat,i=(j:Int)/\j<=ks.length/\ks.take j=js.take j,fun i _ _ _ _ _ _ _ _ _ _ _=>(ks.length-i).toNat,
   ⟨rfl,rfl,rfl,0,rfl,by omega,by simp⟩,?_⟩
  rintro _ _ _ _ _ _ _ _ _ _ _ _ ⟨rfl,rfl,rfl,j,rfl,h1,heq⟩
  refine Ab hr.isSl ?_
  rw[hr.lenS,hr.lenZ,hr'.lenZ,show Int.toNat (j:Int)=j from rfl]
  refine Aa (fun q=>?_) fun q=>?_
  ·have hlt:j<ks.length:=by omega
   have hlt':j<js.length:=by omega
   have hget:=List.getElem?_eq_getElem hlt
   have hget':=List.getElem?_eq_getElem hlt'
   generalize hn:ks[j]=n at hget
   generalize hm:js[j]=m at hget'
   obtain⟨k1,l1,t1,a1,tl1⟩:=n
   obtain⟨k2,l2,t2,a2,tl2⟩:=m
   have hcm:=DT ks hget
   obtain⟨u1,ys1,hld,hu1,hu2,hu3⟩:=Fj hr hx CJ hget
   obtain⟨u2,ys2,hld',hv1,hv2,hv3⟩:=Fj hr' hy CJ hget'
   refine⟨⟨by omega,by omega⟩,Ad hld ⟨⟨by omega,by omega⟩,Ad hld' ?_⟩⟩
   refine SF (.mk k1 l1 t1 a1 tl1) (.mk k2 l2 t2 a2 tl2) (by unfold NdC;exact⟨u1,ys1,rfl,hu1,hu2⟩) (by unfold NdC;exact⟨u2,ys2,rfl,hv1,hv2⟩) (by omega) (fun he=>?_) fun he=>?_
   ·refine Ak (fun h=>by cases h) fun _=>?_
    rw[Ah ((j:Int)+1) (by omega) (by omega)]
    exact⟨⟨rfl,rfl,rfl,j+1,by omega,by omega,by rw[List.take_add_one,List.take_add_one,heq,hget,hget',he]⟩,by dsimp only;omega⟩
   ·refine Ak (fun _=>hk2 fun h=>he ?_) fun h=>by cases h
    cases h
    rw[hget]at hget'
    exact Option.some.inj hget'
  ·rw[List.take_of_length_le (by omega),List.take_of_length_le (by omega)]at heq
   exact hk1 (by rw[heq])
termination_by a=>SizeOf.sizeOf a
decreasing_by
 have:=List.sizeOf_lt_of_mem (AG hget)
 simp only[Nd.mk.sizeOf_spec]at this⊢
 omega
mutual
def Ej:Nd->Int->Int->Int->Int
 | .mk k l t ks tl,left,d,long=>if d<=0∨left-1<ks.length∨long<l.length∨long<t.length∨long<tl.length then-1 else Ed ks (left-1) (d-1) long
def Ed:List Nd->Int->Int->Int->Int
 | [],left,d,long=>left
 | n::r,left,d,long=>if left<0 then left else Ed r (Ej n left d long) d long
end
mutual
theorem Lz:∀(n:Nd) {left d long:Int},0<=left-> -1<=Ej n left d long/\Ej n left d long<=left
 | .mk k l t ks tl,left,d,long,h=>by
  unfold Ej
  split
  ·omega
  ·rename_i hn
   have:=LA ks (left:=left-1) (d:=d-1) (long:=long) (by omega)
   omega
theorem LA:∀(ks:List Nd) {left d long:Int}, -1<=left-> -1<=Ed ks left d long/\Ed ks left d long<=left
 | [],left,d,long,h=>by unfold Ed;omega
 | n::r,left,d,long,h=>by
  unfold Ed
  split
  ·omega
  ·have h1:=Lz n (left:=left) (d:=d) (long:=long) (by omega)
   have h2:=LA r (left:=Ej n left d long) (d:=d) (long:=long) h1.1
   omega
end
mutual
theorem P6:∀(n:Nd) {left d:Int} {long:Nat},0<=left->0<=Ej n left d long->(Ce n:Int)+Ej n left d long*(3*long)<=left*(3*long)
 | .mk k l t ks tl,left,d,long,h,h0=>by
  unfold Ej at h0⊢
  split
  ·rename_i hb;rw[if_pos hb]at h0;omega
  ·rename_i hn
   rw[if_neg hn]at h0
   have:=P9 ks (left:=left-1) (d:=d-1) (long:=long) (by omega) h0
   rw[Int.sub_mul]at this
   simp only[Ce]
   generalize Ed ks (left-1) (d-1) long*(3*(long:Int))=a at*
   generalize left*(3*(long:Int))=b at*
   omega
theorem P9:∀(ks:List Nd) {left d:Int} {long:Nat}, -1<=left->0<=Ed ks left d long->(EL ks:Int)+Ed ks left d long*(3*long)<=left*(3*long)
 | [],left,d,long,h,h0=>by unfold Ed EL;simp
 | n::r,left,d,long,h,h0=>by
  unfold Ed at h0⊢
  split
  ·rename_i hb;rw[if_pos hb]at h0;omega
  ·rename_i hn
   rw[if_neg hn]at h0
   have h1:=Lz n (left:=left) (d:=d) (long:=long) (by omega)
   have h2:=LA r (left:=Ej n left d long) (d:=d) (long:=long) h1.1
   have h3:=P9 r h1.1 h0
   have h4:=P6 n (left:=left) (d:=d) (long:=long) (by omega) (by omega)
   simp only[EL]
   omega
end
mutual
theorem P8:∀(n:Nd) {left d long:Int},0<=left->0<=Ej n left d long->(BZ n:Int)+Ej n left d long<=left
 | .mk k l t ks tl,left,d,long,h,h0=>by
  unfold Ej at h0⊢
  split
  ·rename_i hb;rw[if_pos hb]at h0;omega
  ·rename_i hn
   rw[if_neg hn]at h0
   have:=Qa ks (left:=left-1) (d:=d-1) (long:=long) (by omega) h0
   simp only[BZ]
   omega
theorem Qa:∀(ks:List Nd) {left d long:Int}, -1<=left->0<=Ed ks left d long->(Gv ks:Int)+Ed ks left d long<=left
 | [],left,d,long,h,h0=>by unfold Ed Gv;simp
 | n::r,left,d,long,h,h0=>by
  unfold Ed at h0⊢
  split
  ·rename_i hb;rw[if_pos hb]at h0;omega
  ·rename_i hn
   rw[if_neg hn]at h0
   have h1:=Lz n (left:=left) (d:=d) (long:=long) (by omega)
   have h2:=LA r (left:=Ej n left d long) (d:=d) (long:=long) h1.1
   have h3:=Qa r h1.1 h0
   have h4:=P8 n (left:=left) (d:=d) (long:=long) (by omega) (by omega)
   simp only[Gv]
   omega
end
theorem SJ:∀(n:Nd) {cs:List TV} (hc:NdC n cs) {left d long:Int} (hl:0<=left) (hl2:left<=1000000) (hd: -1000<=d) (hd2:d<=1000) {st:St} {K:Int->St->Prop} (hk:K (Ej n left d long) st),
  CallT PR Cb [.agg cs,.int .i64 left,.int .i64 d,.int .i64 long] [.one (.int .i64)] st K
 | .mk k l t ks tl,cs,hc,left,d,long,hl,hl2,hd,hd2,st,K,hk=>by
  unfold NdC at hc
  obtain⟨v,xs,rfl,hr,hx⟩:=hc
  unfold Ej at hk
  refine Jj k l t v tl left d long st K (Aa (fun g=>?_) fun g=>Ab hr.isSl ?_)
  ·rw[if_pos (.inl g)]at hk;exact hk
  rw[Ah (left-1) (by omega) (by omega),hr.lenS]
  refine Aa (fun g2=>?_) fun g2=>Aa (fun g3=>?_) fun g3=>Aa (fun g4=>?_) fun g4=>Aa (fun g5=>?_) fun g5=>?_
  ·rw[if_pos (by omega)]at hk;exact hk
  ·rw[if_pos (by omega)]at hk;exact hk
  ·rw[if_pos (by omega)]at hk;exact hk
  ·rw[if_pos (by omega)]at hk;exact hk
  rw[if_neg (by omega)]at hk
  refine⟨fun lf i d' lg k1 l1 t1 v1 tl1 st'=>d=d'/\long=lg/\v=v1/\st=st'/\∃j:Nat,i=(j:Int)/\j<=ks.length/\Ed ks (left-1) (d-1) long=Ed (ks.drop j) lf (d-1) long/\ -1<=lf/\lf<=1000000,
   fun _ i _ _ _ _ _ _ _ _=>(ks.length-i).toNat,⟨rfl,rfl,rfl,rfl,0,rfl,by omega,rfl,by omega,by omega⟩,?_⟩
  rintro lf _ _ _ _ _ _ _ _ _ ⟨rfl,rfl,rfl,rfl,j,rfl,h1,heq,h2,h3⟩
  refine Ab hr.isSl ?_
  rw[hr.lenS,hr.lenZ,show Int.toNat (j:Int)=j from rfl]
  refine Aa (fun q=>Aa (fun q2=>?_) fun q2=>?_) fun q=>?_
  ·have hlt:j<ks.length:=by omega
   have hget:=List.getElem?_eq_getElem hlt
   have hdrop:=List.drop_eq_getElem_cons hlt
   generalize hn:ks[j]=n at hget hdrop
   obtain⟨k',l',t',js,tl'⟩:=n
   obtain⟨u,ys,hld,hu1,hu2,hu3⟩:=Fj hr hx st hget
   rw[hdrop,Ed,if_neg (by omega)]at heq
   refine⟨⟨by omega,by omega⟩,Ad hld ?_⟩
   rw[Ah (d-1) (by omega) (by omega),Ah ((j:Int)+1) (by omega) (by omega)]
   have hle:=Lz (.mk k' l' t' js tl') (left:=lf) (d:=d-1) (long:=long) q2
   refine SJ (.mk k' l' t' js tl') (by unfold NdC;exact⟨u,ys,rfl,hu1,hu2⟩) q2 h3 (by omega) (by omega) ?_
   exact⟨⟨rfl,rfl,rfl,rfl,j+1,by omega,by omega,heq,hle.1,by omega⟩,by dsimp only;omega⟩
  ·have hlt:j<ks.length:=by omega
   rw[List.drop_eq_getElem_cons hlt,Ed,if_pos (by omega)]at heq
   rw[heq]at hk;exact hk
  ·rw[List.drop_of_length_le (by omega),Ed]at heq
   rw[heq]at hk;exact hk
termination_by n=>SizeOf.sizeOf n
decreasing_by
 have:=List.sizeOf_lt_of_mem (AG hget)
 simp only[Nd.mk.sizeOf_spec]at this⊢
 omega
theorem Xb {n:Nd} {cs:List TV} (hc:NdC n cs) {long:Int} {st:St} {K:Bool->St->Prop} (hk:K (decide (0<=Ej n 600 10 long)) st):
  CallT PR CX [.agg cs,.int .i64 600,.int .i64 10,.int .i64 long] [.one (.bool)] st K:=by
 have hc0:=hc
 obtain⟨k,l,t,ks,tl⟩:=n
 unfold NdC at hc
 obtain⟨v,xs,rfl,hr,hx⟩:=hc
 exact IK k l t v tl 600 10 long st K (SJ _ hc0 (by decide) (by decide) (by decide) (by decide) hk)
end
end Go.TVF
section
namespace Go.Proofs
open Go.Shelf
def Tryz.lays155_ren:Go.Shelf.Ren:=⟨fun | 155=>146 | 154=>226 | 138=>280 | 165=>275 | 143=>281 | 166=>196 | 197=>282 | 169=>123 | 195=>308 | 218=>309 | 240=>266 | 241=>305 | 219=>310 | 260=>311 | 276=>300 | 277=>321 | 217=>322 | 225=>323 | 224=>324 | 267=>325 | 266=>330 | 314=>331 | n=>n,fun | 9=>9 | 3=>3 | 4=>4 | 72=>188 | 0=>0 | 76=>254 | 105=>308 | 21=>21 | 5=>5 | 70=>186 | 20=>20 | 37=>59 | 75=>253 | 127=>256 | 164=>315 | 46=>267 | 119=>330 | 139=>333 | 138=>332 | 146=>319 | 51=>318 | 80=>190 | n=>n,fun | 1=>0 | 3=>1 | 4=>2 | n=>n⟩
theorem Tryz.lays155:Go.Proofs.Lays.n155 Tryz.prog Tryz.lays155_ren:={
 mixed:=by kernel_rfl
 f138:=Tryz.func280.trans (congrArg some (by kernel_rfl))
 f143:=Tryz.func281.trans (congrArg some (by kernel_rfl))
 f154:=Tryz.func226.trans (congrArg some (by kernel_rfl))
 f155:=Tryz.func146.trans (congrArg some (by kernel_rfl))
 f165:=Tryz.func275.trans (congrArg some (by kernel_rfl))
 f166:=Tryz.func196.trans (congrArg some (by kernel_rfl))
 f169:=Tryz.func123.trans (congrArg some (by kernel_rfl))
 f195:=Tryz.func308.trans (congrArg some (by kernel_rfl))
 f197:=Tryz.func282.trans (congrArg some (by kernel_rfl))
 f217:=Tryz.func322.trans (congrArg some (by kernel_rfl))
 f218:=Tryz.func309.trans (congrArg some (by kernel_rfl))
 f219:=Tryz.func310.trans (congrArg some (by kernel_rfl))
 f224:=Tryz.func324.trans (congrArg some (by kernel_rfl))
 f225:=Tryz.func323.trans (congrArg some (by kernel_rfl))
 f240:=Tryz.func266.trans (congrArg some (by kernel_rfl))
 f241:=Tryz.func305.trans (congrArg some (by kernel_rfl))
 f260:=Tryz.func311.trans (congrArg some (by kernel_rfl))
 f266:=Tryz.func330.trans (congrArg some (by kernel_rfl))
 f267:=Tryz.func325.trans (congrArg some (by kernel_rfl))
 f276:=Tryz.func300.trans (congrArg some (by kernel_rfl))
 f277:=Tryz.func321.trans (congrArg some (by kernel_rfl))
 f314:=Tryz.func331.trans (congrArg some (by kernel_rfl))
 t0:=Tryz.underlying0
 a0:=Tryz.isAgg0
 z0:=Tryz.sizeOf0
 v0:=Tryz.zeroValue0
 t3:=Tryz.underlying3
 a3:=Tryz.isAgg3
 z3:=Tryz.sizeOf3
 v3:=Tryz.zeroValue3
 t4:=Tryz.underlying4
 a4:=Tryz.isAgg4
 z4:=Tryz.sizeOf4
 v4:=Tryz.zeroValue4
 t5:=Tryz.underlying5
 a5:=Tryz.isAgg5
 z5:=Tryz.sizeOf5
 v5:=Tryz.zeroValue5
 t9:=Tryz.underlying9
 a9:=Tryz.isAgg9
 z9:=Tryz.sizeOf9
 v9:=Tryz.zeroValue9
 t20:=Tryz.underlying20
 a20:=Tryz.isAgg20
 z20:=Tryz.sizeOf20
 v20:=Tryz.zeroValue20
 t21:=Tryz.underlying21
 a21:=Tryz.isAgg21
 z21:=Tryz.sizeOf21
 v21:=Tryz.zeroValue21
 t37:=Tryz.underlying59
 a37:=Tryz.isAgg59
 z37:=Tryz.sizeOf59
 v37:=Tryz.zeroValue59
 t46:=Tryz.underlying267
 a46:=Tryz.isAgg267
 z46:=Tryz.sizeOf267
 v46:=Tryz.zeroValue267
 t51:=Tryz.underlying318
 a51:=Tryz.isAgg318
 z51:=Tryz.sizeOf318
 v51:=Tryz.zeroValue318
 t70:=Tryz.underlying186
 a70:=Tryz.isAgg186
 z70:=Tryz.sizeOf186
 v70:=Tryz.zeroValue186
 t72:=Tryz.underlying188
 a72:=Tryz.isAgg188
 z72:=Tryz.sizeOf188
 v72:=Tryz.zeroValue188
 t75:=Tryz.underlying253
 a75:=Tryz.isAgg253
 z75:=Tryz.sizeOf253
 v75:=Tryz.zeroValue253
 t76:=Tryz.underlying254
 a76:=Tryz.isAgg254
 z76:=Tryz.sizeOf254
 v76:=Tryz.zeroValue254
 t105:=Tryz.underlying308
 a105:=Tryz.isAgg308
 z105:=Tryz.sizeOf308
 v105:=Tryz.zeroValue308
 t119:=Tryz.underlying330
 a119:=Tryz.isAgg330
 z119:=Tryz.sizeOf330
 t127:=Tryz.underlying256
 a127:=Tryz.isAgg256
 z127:=Tryz.sizeOf256
 v127:=Tryz.zeroValue256
 t138:=Tryz.underlying332
 a138:=Tryz.isAgg332
 z138:=Tryz.sizeOf332
 v138:=Tryz.zeroValue332
 t139:=Tryz.underlying333
 a139:=Tryz.isAgg333
 z139:=Tryz.sizeOf333
 v139:=Tryz.zeroValue333
 t146:=Tryz.underlying319
 a146:=Tryz.isAgg319
 z146:=Tryz.sizeOf319
 v146:=Tryz.zeroValue319
 t164:=Tryz.underlying315
 a164:=Tryz.isAgg315
 z164:=Tryz.sizeOf315
 v164:=Tryz.zeroValue315
 g1:=by kernel_rfl
 g3:=by kernel_rfl
 g4:=by kernel_rfl}
theorem Tryz.Builder_Extra_155:Builder.Extra Tryz.prog Tryz.lays155_ren:={
 sizeBuilder:=by kernel_rfl
 liesBuilder:=by kernel_rfl
 t5:=Tryz.underlying5
 a5:=Tryz.isAgg5
 z5:=Tryz.sizeOf5
 v5:=Tryz.zeroValue5
 infoByte:=by kernel_rfl
 cellsByte:=by kernel_rfl
 sizeByte:=by kernel_rfl
 neB5:=by decide}
open Go.RowKit Go.Lib in
theorem Tryz.strings_ReplaceAll (s old new:ByteArray) (m:Int) (w:World) (hs:s.size<4294967281) (hm:w.cell? ⟨0,0,none⟩=some (.int .i64 m)) (h1:1<=old.size) (hlen:s.size+Lib.countB s old*new.size<=140737488355328):
  Calls Tryz.prog 146 #[.string s,.string old,.string new] w fun e w'=>
   e= .returned (.string ⟨(Lib.replaceAll s.data.toList old.data.toList new.data.toList).toArray⟩)/\Below w.heap.size w w':=Any.strings_ReplaceAll Tryz.lays155 Tryz.Builder_Extra_155 s old new m w hs hm h1 hlen
end Go.Proofs
end
section
namespace Go.TVF
open Go.IntKind(i64 u8)
open Go Go.Proofs
open Go.RowKit (Below)
def Oj (q:UInt8) (new:B8) (c:UInt8):B8:=if c=q then new else [c]
theorem XY (q:UInt8):∀s:B8,(Lib.index s [q]= -1/\q∉s)∨∃i:Nat,Lib.index s [q]=i/\q∉s.take i/\i<s.length/\s=s.take i++q::s.drop (i+1)
 | []=> .inl ⟨by simp[Lib.index],by simp⟩
 | c::l=>by
  have hp: [q].isPrefixOf (c::l)=(q==c):=by simp[List.isPrefixOf]
  unfold Lib.index
  rw[hp]
  by_cases hc:q=c
  ·subst hc
   exact .inr ⟨0,by simp,by simp,by simp,by simp⟩
  ·have hb:(q==c)=false:=by simpa using hc
   rw[hb]
   rcases XY q l with⟨h1,h2⟩ | ⟨i,h1,h2,h3,h4⟩
   ·left
    rw[h1]
    exact⟨by simp,by simp[hc,h2]⟩
   ·right
    refine⟨i+1,?_,?_,by simp;omega,?_⟩
    ·rw[h1]
     have:((i:Int)== -1)=false:=by simp
     simp[this]
    ·simp[hc,h2]
    ·simp only[List.take_succ_cons,List.drop_succ_cons,List.cons_append]
     rw[<-h4]
theorem Ka (q:UInt8) (new:B8):∀s:B8,q∉s->s.flatMap (Oj q new)=s
 | [],_=>rfl
 | c::l,h=>by
  simp only[List.mem_cons,not_or]at h
  rw[List.flatMap_cons,Ka q new l h.2]
  simp[Oj,Ne.symm h.1]
theorem count1 (q:UInt8) (new:B8):∀(n:Nat) (s:B8),s.length<=n->Lib.count s [q]<=s.length/\Lib.replaceK [q] new (Lib.count s [q]) s=s.flatMap (Oj q new):=by
 intro n
 induction n with
 | zero=>
  intro s hs
  have:s=[]:=List.eq_nil_of_length_eq_zero (by omega)
  subst this
  rw[Lib.count_miss (by simp[Lib.index])]
  exact⟨by simp,rfl⟩
 | succ n ih=>
  intro s hs
  rcases XY q s with⟨h1,h2⟩ | ⟨i,h1,h2,h3,h4⟩
  ·rw[Lib.count_miss h1]
   exact⟨by simp,by rw[Ka q new s h2];rfl⟩
  ·rw[Lib.count_hit (by simp) h1]
   obtain⟨c1,c2⟩:=ih (s.drop (i+1)) (by simp;omega)
   have hl: [q].length=1:=rfl
   rw[hl]
   refine⟨by simp at c1⊢;omega,?_⟩
   rw[Nat.add_comm,Lib.replaceK_hit _ _ _ _ i h1,hl,c2]
   conv=>rhs;rw[h4]
   rw[List.flatMap_append,List.flatMap_cons,Ka q new _ h2]
   simp[Oj]
theorem Oy {g:Ghost} {w:World} {x y z:TV} {vs:List Value} (h:AJ g w [x,y,z] vs):∃v u t,vs=[v,u,t]/\Rel g w x v/\Rel g w y u/\Rel g w z t:=by
 obtain⟨v,h1,h2⟩:=h.get? (i:=0) rfl
 obtain⟨u,h3,h4⟩:=h.get? (i:=1) rfl
 obtain⟨t,h5,h6⟩:=h.get? (i:=2) rfl
 have hl:=h.1
 match vs,hl with
 | [a,b,c],_=>simp at h1 h3 h5;subst h1 h3 h5;exact⟨_,_,_,rfl,h2,h4,h6⟩
theorem KA {s:B8} {q a b:UInt8} {st:St} {K:B8->St->Prop} (hne: [q]≠ [a,b]) (hl:s.length<=2000000000) (hk:K (s.flatMap (Oj q [a,b])) st):
  CallT PR AE [.str s,.str [q],.str [a,b]] [.one (.str)] st K:=by
 refine DA (fun _ _=>Tryz.call146 _ _) fun g w vargs sim hr=>?_
 obtain⟨v1,v2,v3,rfl,h1,h2,h3⟩:=Oy hr
 rw[Bo h1,Bo h2,Bo h3]
 obtain⟨_,m,hm⟩:=sim.glob w sim.below
 obtain⟨c1,c2⟩:=count1 q [a,b] s.length s (Nat.le_refl _)
 have hcB:Lib.countB ⟨s.toArray⟩ ⟨#[q]⟩=Lib.count s [q]:=rfl
 refine Calls.mono (Tryz.strings_ReplaceAll ⟨s.toArray⟩ ⟨#[q]⟩ ⟨#[a,b]⟩ m w ?_ hm ?_ ?_) ?_
 ·show s.toArray.size<_
  simp;omega
 ·show 1<=(#[q]:Array UInt8).size
  simp
 ·rw[hcB]
  show s.toArray.size+_*(#[a,b]:Array UInt8).size<=_
  simp;omega
 ·rintro e w' ⟨rfl,hb⟩
  obtain⟨s',e'⟩:=sim.grown hb
  have hv:Lib.replaceAll s [q] [a,b]=s.flatMap (Oj q [a,b]):=by
   unfold Lib.replaceAll Lib.replace
   rw[if_neg (by simp),<-c2]
   congr 1
  refine⟨_,rfl,.str (s.flatMap (Oj q [a,b])),st,g,hk,s',?_,e'⟩
  show Rel g w' _ (.string ⟨(Lib.replaceAll s [q] [a,b]).toArray⟩)
  rw[hv]
  exact Rel.str _
end Go.TVF
end
namespace Go.TVF
open Go.IntKind(i64 u8)
open Go Go.Proofs
def letB (c:Int):Bool:=decide (97<=c/\c<=122∨65<=c/\c<=90)
def Cm (c:Int):Bool:=decide (97<=c/\c<=122∨65<=c/\c<=90∨48<=c/\c<=57∨c=43∨c=45∨c=46∨c=58)
def dOk (a b:Int):Bool:=decide (((a=9∨(32<=a/\a<=126))/\33<=b/\b<=126/\a≠b)/\Cm a=false/\Cm b=false)
def lOk (a b c d e:Int):Bool:=decide (1<=a/\a<=48/\1<=b/\b<=65536/\1<=c/\c<=1048576/\0<=d/\d<=1024/\0<=e/\e<=65536)
theorem UQ {c:Int} {st:St} {K:Bool->St->Prop} (hk:K (letB c) st):CallT PR Fn [.int .u8 c] [.one (.bool)] st K:=by
 unfold letB at hk
 refine Nv c st K ?_
 repeat' first
  | exact Ck (decide_eq_true (by omega)).symm hk
  | exact Ck (decide_eq_false (by omega)).symm hk
  | exact Ck (decide_eq_decide.2 (by omega)) hk
  | refine Aa (fun _=>?_) fun _=>?_
theorem On {c:Int} {st:St} {K:Bool->St->Prop} (hk:K (Cm c) st):CallT PR BJ [.int .u8 c] [.one (.bool)] st K:=by
 unfold Cm at hk
 refine L3 c st K (UQ (Ak (fun h=>?_) fun h=>?_))
 ·have h:=of_decide_eq_true h
  exact Ck (decide_eq_true (by omega)).symm hk
 ·have h:=of_decide_eq_false h
  repeat' first
   | exact Ck (decide_eq_true (by omega)).symm hk
   | exact Ck (decide_eq_false (by omega)).symm hk
   | exact Ck (decide_eq_decide.2 (by omega)) hk
   | refine Aa (fun _=>?_) fun _=>?_
theorem MO {a b:Int} {x y:Bool} {st:St} {K:Bool->St->Prop} (hk:K (dOk a b) st):CallT PR Dp [.agg [.int .u8 a,.int .u8 b,.bool x,.bool y]] [.one (.bool)] st K:=by
 unfold dOk at hk
 have no:¬(((a=9∨(32<=a/\a<=126))/\33<=b/\b<=126/\a≠b)/\Cm a=false/\Cm b=false)->K false st:=fun h=>Ck (decide_eq_false h).symm hk
 have yes:((a=9∨(32<=a/\a<=126))/\33<=b/\b<=126/\a≠b)->Cm a=false->K (!Cm b) st:=fun h h1=>by
  cases hb:Cm b with
  | true=>exact no fun hh=>by rw[hb]at hh;exact absurd hh.2.2 (by decide)
  | false=>exact Ck (decide_eq_true ⟨h,h1,hb⟩).symm hk
 refine N8 a b x y st K ?_
 repeat' first
  | exact no (by omega)
  | refine Aa (fun _=>?_) fun _=>?_
 all_goals
  refine On (Ak (fun h=>?_) fun h=>no fun hh=>by rw[hh.2.1]at h;cases h)
  simp only[Bool.not_eq_true']at h
  exact On (yes (by omega) h)
theorem VF {c:Int} {st:St} {K:Bool->St->Prop} (hk:K (!Cm c) st):CallT PR A8 [.int .u8 c] [.one (.bool)] st K:=by
 have e:∀b,b= !Cm c->K b st:=fun b h=>h▸hk
 unfold Cm at e
 refine Jg c st K (WC (Ak (fun h=>Tk (Ak (fun h2=>?_) fun h2=>?_)) fun h=>?_))
 all_goals simp only[LI,JJ,Bool.not_eq_true',Bool.not_eq_false',decide_eq_true_eq,decide_eq_false_iff_not]at h
 ·simp only[LI,JJ,Bool.not_eq_true',Bool.not_eq_false',decide_eq_true_eq,decide_eq_false_iff_not]at h2
  repeat' first
   | refine Aa (fun _=>?_) fun _=>?_
  all_goals
   refine e _ ?_
   rw[<-decide_not]
   first
    | exact decide_eq_decide.2 (by omega)
    | exact(decide_eq_false (by omega)).symm
 ·simp only[LI,JJ,Bool.not_eq_true',Bool.not_eq_false',decide_eq_true_eq,decide_eq_false_iff_not]at h2
  exact e _ (by rw[<-decide_not];exact(decide_eq_false (by omega)).symm)
 ·exact e _ (by rw[<-decide_not];exact(decide_eq_false (by omega)).symm)
theorem T0 {a b:Int} {x y:Bool} {st:St} {K:Bool->St->Prop} (hk:K (dOk a b) st):CallT PR CU [.agg [.int .u8 a,.int .u8 b,.bool x,.bool y]] [.one (.bool)] st K:=by
 unfold dOk at hk
 have no:¬(((a=9∨(32<=a/\a<=126))/\33<=b/\b<=126/\a≠b)/\Cm a=false/\Cm b=false)->K false st:=fun h=>Ck (decide_eq_false h).symm hk
 have yes:((a=9∨(32<=a/\a<=126))/\33<=b/\b<=126/\a≠b)->Cm a=false->K (!Cm b) st:=fun h h1=>by
  cases hb:Cm b with
  | true=>exact no fun hh=>by rw[hb]at hh;exact absurd hh.2.2 (by decide)
  | false=>exact Ck (decide_eq_true ⟨h,h1,hb⟩).symm hk
 refine IE a b x y st K ?_
 repeat' first
  | exact no (by omega)
  | refine Aa (fun _=>?_) fun _=>?_
 all_goals
  refine VF (Ak (fun h=>?_) fun h=>no fun hh=>by rw[hh.2.1]at h;cases h)
  simp only[Bool.not_eq_true']at h
  exact VF (yes (by omega) h)
theorem Uv {a b c d e:Int} {st:St} {K:Bool->St->Prop} (hk:K (lOk a b c d e) st):CallT PR Gg [.agg [.int .i64 a,.int .i64 b,.int .i64 c,.int .i64 d,.int .i64 e]] [.one (.bool)] st K:=by
 unfold lOk at hk
 refine N6 a b c d e st K ?_
 repeat' first
  | exact Ck (decide_eq_false (by omega)).symm hk
  | exact Ck (decide_eq_decide.2 (by omega)) hk
  | refine Aa (fun _=>?_) fun _=>?_
theorem TW {a b c d e:Int} {st:St} {K:Bool->St->Prop} (hk:K (lOk a b c d e) st):CallT PR CZ [.agg [.int .i64 a,.int .i64 b,.int .i64 c,.int .i64 d,.int .i64 e]] [.one (.bool)] st K:=by
 unfold lOk at hk
 refine IN a b c d e st K ?_
 repeat' first
  | exact Ck (decide_eq_false (by omega)).symm hk
  | exact Ck (decide_eq_decide.2 (by omega)) hk
  | refine Aa (fun _=>?_) fun _=>?_
def Ky:B8:=[116,114,117,101]
def Jy:B8:=[102,97,108,115,101]
def HF (ty qd:Bool) (s:B8):Sc:=
 if ty=false∨qd=true then tkT s else if s=[]then scK 0 else if s=Ky then tkB true else if s=Jy then tkB false
 else if (dcP s).2.2.2=0 then tkN (dcP s).1 (dcP s).2.1 (dcP s).2.2.1
 else if (tmP s).2.2.2.2=0 then tkM (tmP s).1 (tmP s).2.1 (tmP s).2.2.1 (tmP s).2.2.2.1 else tkT s
theorem GM (ty qd:Bool) (s:B8):(HF ty qd s).bytes=[]:=by
 unfold HF
 repeat' split
 all_goals rfl
theorem Tz {s:B8} {k:Nat} {c:UInt8} (hc:c≠0) (h:b0 s k=c):s=s.take k++c::s.drop (k+1):=by
 have hk:=LW hc h
 have h1:s.drop k=c::s.drop (k+1):=by
  rw[List.drop_eq_getElem_cons hk]
  congr 1
  unfold b0 at h
  rw[List.getD_eq_getElem?_getD,List.getElem?_eq_getElem hk]at h
  exact h
 rw[<-h1,List.take_append_drop]
theorem Vu {s:B8} {k:Nat} (h:∀i,i<k->AS (b0 s i)):∀d,d∈s.take k->AS d:=by
 intro d hd
 obtain⟨i,hi,rfl⟩:=List.mem_iff_getElem.1 hd
 rw[List.length_take]at hi
 have:=h i (by omega)
 unfold b0 at this
 rw[List.getD_eq_getElem?_getD,List.getElem?_eq_getElem (by omega)]at this
 rw[List.getElem_take]
 exact this
theorem V8 {s:B8} (h:(tmP s).2.2.2.2=0):(dcP s).2.2.2=3:=by
 have key:∃a c r,s=a++c::r/\a≠ []/\(∀d,d∈a->AS d)/\(c=45∨c=58):=by
  by_cases hd:DU s
  ·obtain⟨⟨h0,h1⟩,⟨h2,h3⟩,h4,_⟩:=hd
   have e:=Tz (by decide) h4
   refine⟨_,_,_,e,fun h=>?_,Vu fun i hi=>?_,.inl rfl⟩
   ·have:=LW (by decide) h4
    have h':=congrArg List.length h
    rw[List.length_take,List.length_nil]at h';omega
   ·have:i=0∨i=1∨i=2∨i=3:=by omega
    rcases this with rfl | rfl | rfl | rfl<;>assumption
  ·have hc:JG s:=by
    apply Decidable.byContradiction
    intro hn
    unfold tmP at h
    rw[if_neg hd]at h
    have:Gn s=none:=by unfold Gn;rw[if_neg hn]
    rw[this]at h
    exact absurd h (by decide)
   obtain⟨⟨h0,h1⟩,h4,_⟩:=hc
   have e:=Tz (by decide) h4
   refine⟨_,_,_,e,fun h=>?_,Vu fun i hi=>?_,.inr rfl⟩
   ·have:=LW (by decide) h4
    have h':=congrArg List.length h
    rw[List.length_take,List.length_nil]at h';omega
   ·have:i=0∨i=1:=by omega
    rcases this with rfl | rfl<;>assumption
 obtain⟨a,c,r,e,h1,h2,h3⟩:=key
 have hh:AS (s.getD 0 0):=by rw[e];exact headDg h2 h1
 refine(RG _).2 ?_
 rw[show D3 s=0 from if_neg fun e=>by rw[e]at hh;revert hh;decide,List.drop_zero,e]
 exact not_isQ h2 h3
theorem Wz {s:B8} (h:isQ (s.drop (D3 s))):(tmP s).2.2.2.2≠0:=fun h2=>by
 have h3:=V8 h2
 have h4:=(RG s).1 h
 unfold okE at h4;omega
theorem s45:Cm ((45:UInt8).toNat:Int)=true:=by decide
theorem s46:Cm ((46:UInt8).toNat:Int)=true:=by decide
theorem s58:Cm ((58:UInt8).toNat:Int)=true:=by decide
theorem s101:Cm ((101:UInt8).toNat:Int)=true:=by decide
theorem s84:Cm ((84:UInt8).toNat:Int)=true:=by decide
theorem s90:Cm ((90:UInt8).toNat:Int)=true:=by decide
theorem s43:Cm ((43:UInt8).toNat:Int)=true:=by decide
theorem s48:Cm ((48:UInt8).toNat:Int)=true:=by decide
noncomputable def plT (s:Sc):B8:=if s.kind=1 then(if s.b then Ky else Jy)else if s.kind=2 then dcT s.neg s.dg s.ex else if s.kind=3 then TN s.tk s.td s.tn s.tz else []
def by_ (s:B8) (i:Nat):Int:=((s.getD i 0).toNat:Int)
def I6 (q:Int):B8->Nat->Option Nat
 | [],_=>none
 | [c],i=>if (c.toNat:Int)=q then some (i+1)else none
 | c::c2::l,i=>if (c.toNat:Int)=q then(if (c2.toNat:Int)=q then I6 q l (i+2)else some (i+1))else I6 q (c2::l) (i+1)
def SY (a q:Int):B8->Nat->Except Nat Nat
 | [],i=> .ok i
 | c::l,i=>if (c.toNat:Int)=a∨(c.toNat:Int)=10∨(c.toNat:Int)=13 then .ok i else if (c.toNat:Int)=q then .error i else SY a q l (i+1)
def QE (q:Int) (s:B8) (i:Nat):Option Nat:=I6 q (s.drop i) i
def PE (a q:Int) (s:B8) (i:Nat):Except Nat Nat:=SY a q (s.drop i) i
theorem GL {s:B8} {i:Nat} (h:i<s.length):∃c,s.drop i=c::s.drop (i+1)/\(c.toNat:Int)=by_ s i:=by
 refine⟨s[i],List.drop_eq_getElem_cons h,?_⟩
 unfold by_
 rw[List.getD_eq_getElem?_getD,List.getElem?_eq_getElem h];rfl
theorem RU {q:Int} {s:B8} {i:Nat} (h:s.length<=i):QE q s i=none:=by
 unfold QE;rw[List.drop_of_length_le h];rfl
theorem Pk {q:Int} {s:B8} {i:Nat} (h:i<s.length) (hb:by_ s i≠q):QE q s i=QE q s (i+1):=by
 obtain⟨c,hd,hc⟩:=GL h
 unfold QE
 rw[hd]
 cases hr:s.drop (i+1)with
 | nil=>simp only[I6];rw[if_neg (by omega)]
 | cons c2 l=>simp only[I6];rw[if_neg (by omega)]
theorem NW {q:Int} {s:B8} {i:Nat} (h:i<s.length) (hb:by_ s i=q) (h2:i+1<s.length->by_ s (i+1)≠q):QE q s i=some (i+1):=by
 obtain⟨c,hd,hc⟩:=GL h
 unfold QE
 rw[hd]
 by_cases hl:i+1<s.length
 ·obtain⟨c2,hd2,hc2⟩:=GL hl
  rw[hd2]
  simp only[I6]
  rw[if_pos (by omega),if_neg (by have:=h2 hl;omega)]
 ·rw[List.drop_of_length_le (by omega)]
  simp only[I6];rw[if_pos (by omega)]
theorem RT {q:Int} {s:B8} {i:Nat} (h:i+1<s.length) (hb:by_ s i=q) (h2:by_ s (i+1)=q):QE q s i=QE q s (i+2):=by
 obtain⟨c,hd,hc⟩:=GL (show i<s.length by omega)
 obtain⟨c2,hd2,hc2⟩:=GL h
 unfold QE
 rw[hd,hd2]
 simp only[I6]
 rw[if_pos (by omega),if_pos (by omega)]
theorem Pl {a q:Int} {s:B8} {i:Nat} (h:s.length<=i):PE a q s i= .ok i:=by
 unfold PE;rw[List.drop_of_length_le h];rfl
theorem Io {a q:Int} {s:B8} {i:Nat} (h:i<s.length) (hb:by_ s i=a∨by_ s i=10∨by_ s i=13):PE a q s i= .ok i:=by
 obtain⟨c,hd,hc⟩:=GL h
 unfold PE;rw[hd];simp only[SY];rw[if_pos (by rw[hc];exact hb)]
theorem RW {a q:Int} {s:B8} {i:Nat} (h:i<s.length) (hb:¬(by_ s i=a∨by_ s i=10∨by_ s i=13)) (hq:by_ s i=q):PE a q s i= .error i:=by
 obtain⟨c,hd,hc⟩:=GL h
 unfold PE;rw[hd];simp only[SY];rw[if_neg (by rw[hc];exact hb),if_pos (by omega)]
theorem RV {a q:Int} {s:B8} {i:Nat} (h:i<s.length) (hb:¬(by_ s i=a∨by_ s i=10∨by_ s i=13)) (hq:by_ s i≠q):PE a q s i=PE a q s (i+1):=by
 obtain⟨c,hd,hc⟩:=GL h
 unfold PE;rw[hd];simp only[SY];rw[if_neg (by rw[hc];exact hb),if_neg (by omega)]
def Bt (a q:Int) (s:B8) (i:Nat):Except (Nat×Int) Nat:=
 if i<s.length/\by_ s i=q then(match QE q s (i+1)with | some e=> .ok e | none=> .error (s.length,4))
 else match PE a q s i with | .ok e=> .ok e | .error o=> .error (o,3)
def slc (s:B8) (i e:Nat):B8:=(s.take e).drop i
def NA (q:Int):B8->B8
 | []=>[]
 | [c]=>[c]
 | c::c2::l=>if (c.toNat:Int)=q then c::NA q l else c::NA q (c2::l)
def txt (q:Int) (c:B8):B8:=if c=[]∨by_ c 0≠q then c else NA q ((c.take (c.length-1)).drop 1)
def Ch (s:B8) (i:Nat):Except (Nat×Int) Nat:=
 if s.length<=i then .ok 0 else if by_ s i=10 then .ok 1 else if by_ s i≠13 then .error (i,3)else if s.length<=i+1 then .error (s.length,4)else if by_ s (i+1)=10 then .ok 2 else .error (i,3)
def EB (dep nod:Int) (d:Int) (i:Nat) (v:Int):Except (Nat×Int) Int:=if dep<d then .error (i,9)else if nod<=v then .error (i,10)else .ok (v+1)
structure Cx where
 s:B8
 a:Int
 q:Int
 dep:Int
 nod:Int
def Ei (x:Cx) (hd:Bool) (i:Nat) (v:Int) (ns:List B8):Except (Nat×Int) (Nat×Int×List B8):=do
 let v1<-if hd then .ok v else EB x.dep x.nod 3 i v
 let e<-Bt x.a x.q x.s i
 let t:=txt x.q (slc x.s i e)
 if (if hd then 1024 else 65536)<t.length then .error (i,10)
 else if hd/\t∈ns then .error (i,8)
 else .ok (e,v1,if hd then t::ns else ns)
def JI (s:B8) (i e:Nat) (mark:List Nd):Nd:= .mk 5 [] [] (.mk 2 [] (slc s i e) [] []::mark) []
def BX (x:Cx) (num:Bool) (wid:Int) (hd:Bool):Nat->List Nd->Nat->Int->List B8->Except (Nat×Int) (Nat×Int×List B8×List Nd)
 | 0,_,_,_,_=> .error (0,0)
 | n+1,acc,i,v,ns=>
  if num/\wid<=acc.length then .error (i,10)else do
   let (e,v1,ns1)<-Ei x hd i v ns
   if e<x.s.length/\by_ x.s e=x.a then BX x num wid hd n (acc++[JI x.s i e [.mk 11 [] [x.s.getD e 0] [] []]]) (e+1) v1 ns1
   else do
    let _<-Ch x.s e
    .ok (e,v1,ns1,acc++[JI x.s i e []])
def dbl (c:UInt8) (t:B8):B8:=t.flatMap (Oj c [c,c])
theorem By (c b:UInt8) (t:B8):dbl c (b::t)=(if b=c then [c,c]else [b])++dbl c t:=by
 simp[dbl,Oj]
theorem Wu {q:Int} {c:UInt8} (hc:(c.toNat:Int)=q):∀(n:Nat) (l:B8) (i e:Nat),l.length<=n->I6 q l i=some e->∃t rest,l=dbl c t++c::rest/\e=i+(dbl c t).length+1:=by
 have heq:∀b:UInt8,(b.toNat:Int)=q↔b=c:=fun b=>⟨fun h=>UInt8.toNat_inj.1 (by omega),fun h=>by rw[h];exact hc⟩
 intro n
 induction n with
 | zero=>intro l i e hl h;have:l=[]:=List.eq_nil_of_length_eq_zero (by omega);subst this;simp[I6]at h
 | succ n ih=>
  intro l i e hl h
  match l,hl,h with
  | [],_,h=>simp[I6]at h
  | [b],_,h=>
   simp only[I6]at h
   split at h
   ·rename_i hb
    cases h
    exact⟨[],[],by rw[(heq b).1 hb];rfl,rfl⟩
   ·cases h
  | b::b2::l,hl,h=>
   simp only[I6]at h
   split at h
   ·rename_i hb
    have hb:=(heq b).1 hb
    split at h
    ·rename_i hb2
     have hb2:=(heq b2).1 hb2
     obtain⟨t,rest,h1,h2⟩:=ih l (i+2) e (by simp at hl;omega) h
     refine⟨c::t,rest,?_,?_⟩
     ·rw[hb,hb2,h1,By];simp
     ·rw[h2,By];simp;omega
    ·cases h
     exact⟨[],b2::l,by rw[hb];rfl,rfl⟩
   ·rename_i hb
    have hb:b≠c:=fun h=>hb ((heq b).2 h)
    obtain⟨t,rest,h1,h2⟩:=ih (b2::l) (i+1) e (by simp at hl⊢;omega) h
    refine⟨b::t,rest,?_,?_⟩
    ·rw[h1,By,if_neg hb];simp
    ·rw[h2,By,if_neg hb];simp;omega
theorem Si {q:Int} {c:UInt8} (hc:(c.toNat:Int)=q):∀t:B8,NA q (dbl c t)=t
 | []=>rfl
 | b::t=>by
  have ih:=Si hc t
  rw[By]
  by_cases hb:b=c
  ·subst hb
   simp only[if_true,List.cons_append,List.nil_append,NA]
   rw[if_pos hc,ih]
  ·rw[if_neg hb]
   have hb':(b.toNat:Int)≠q:=fun h=>hb (UInt8.toNat_inj.1 (by omega))
   simp only[List.cons_append,List.nil_append]
   cases hd:dbl c t with
   | nil=>rw[hd]at ih;simp only[NA]at ih⊢;rw[<-ih]
   | cons b2 l=>simp only[NA];rw[if_neg hb',<-hd,ih]
theorem MZ (c:UInt8):∀t:B8,c∉t∨∃a b,t=a++c::b/\c∉a
 | []=> .inl (by simp)
 | d::t=>by
  by_cases h:d=c
  ·exact .inr ⟨[],t,by rw[h];rfl,by simp⟩
  ·rcases MZ c t with h1 | ⟨a,b,h1,h2⟩
   ·exact .inl (by simp[Ne.symm h,h1])
   ·exact .inr ⟨d::a,b,by rw[h1];rfl,by simp[Ne.symm h,h2]⟩
theorem Tn {c:UInt8} {t:B8} (h:c∉t):dbl c t=t:=Ka c [c,c] t h
theorem NS (c:UInt8) (a b:B8):dbl c (a++b)=dbl c a++dbl c b:=by simp[dbl]
theorem MI (c:UInt8) (l:B8):∀a:B8,c∉a->Lib.index (a++l) [c,c]=if Lib.index l [c,c]= -1 then-1 else Lib.index l [c,c]+a.length
 | [],_=>by simp
 | d::a,h=>by
  simp only[List.mem_cons,not_or]at h
  have hp: [c,c].isPrefixOf (d::(a++l))=false:=by simp[List.isPrefixOf,h.1]
  rw[List.cons_append,Lib.index,hp,MI c l a h.2]
  have hge:=Lib.index_ge l [c,c]
  by_cases hm:Lib.index l [c,c]= -1
  ·simp[hm]
  ·have:¬(Lib.index l [c,c]+(a.length:Int)= -1):=by omega
   simp[hm,this];omega
theorem count2 (c:UInt8):∀(n:Nat) (t:B8),t.length<=n->Lib.count (dbl c t) [c,c]<=t.length/\Lib.replaceK [c,c] [c] (Lib.count (dbl c t) [c,c]) (dbl c t)=t:=by
 intro n
 induction n with
 | zero=>
  intro t ht
  have:t=[]:=List.eq_nil_of_length_eq_zero (by omega)
  subst this
  have h0:Lib.count (dbl c []) [c,c]=0:=Lib.count_miss (by simp[dbl,Lib.index])
  rw[h0];exact⟨by simp,rfl⟩
 | succ n ih=>
  intro t ht
  rcases MZ c t with h | ⟨a,b,h1,h2⟩
  ·rw[Tn h]
   have:Lib.index t [c,c]= -1:=by
    have:=MI c [] t h
    simpa [Lib.index]using this
   rw[Lib.count_miss this]
   exact⟨by simp,rfl⟩
  ·have hd:dbl c t=a++(c::c::dbl c b):=by rw[h1,NS,Tn h2,By,if_pos rfl];rfl
   have hi:Lib.index (dbl c t) [c,c]=(a.length:Nat):=by
    have h0:Lib.index (c::c::dbl c b) [c,c]=0:=by simp[Lib.index,List.isPrefixOf]
    rw[hd,MI c _ a h2,h0];simp
   have hdr:(dbl c t).drop (a.length+ [c,c].length)=dbl c b:=by
    rw[hd,<-List.drop_drop,List.drop_left];rfl
   have hlen:t.length=a.length+1+b.length:=by rw[h1];simp;omega
   obtain⟨c1,c2⟩:=ih b (by omega)
   rw[Lib.count_hit (by simp) hi,hdr]
   refine⟨by omega,?_⟩
   rw[Nat.add_comm,Lib.replaceK_hit _ _ _ _ _ hi,hdr,c2,hd,List.take_left,h1]
   simp
theorem Sj {s t:B8} {c:UInt8} {st:St} {K:B8->St->Prop} (hs:s=dbl c t) (hl:s.length<=2000000000) (hk:K t st):
  CallT PR AE [.str s,.str [c,c],.str [c]] [.one (.str)] st K:=by
 refine DA (fun _ _=>Tryz.call146 _ _) fun g w vargs sim hr=>?_
 obtain⟨v1,v2,v3,rfl,h1,h2,h3⟩:=Oy hr
 rw[Bo h1,Bo h2,Bo h3]
 obtain⟨_,m,hm⟩:=sim.glob w sim.below
 obtain⟨c1,c2⟩:=count2 c t.length t (Nat.le_refl _)
 have hcB:Lib.countB ⟨s.toArray⟩ ⟨#[c,c]⟩=Lib.count s [c,c]:=rfl
 have hts:t.length<=s.length:=by
  rw[hs]
  clear hs hl h1 c1 c2 hk hcB
  induction t with
  | nil=>simp
  | cons b t ih=>rw[By];split<;>simp<;>omega
 refine Calls.mono (Tryz.strings_ReplaceAll ⟨s.toArray⟩ ⟨#[c,c]⟩ ⟨#[c]⟩ m w ?_ hm ?_ ?_) ?_
 ·show s.toArray.size<_
  simp;omega
 ·show 1<=(#[c,c]:Array UInt8).size
  simp
 ·rw[hcB]
  show s.toArray.size+_*(#[c]:Array UInt8).size<=_
  rw[hs]at hl hts⊢
  simp;omega
 ·rintro e w' ⟨rfl,hb⟩
  obtain⟨s',e'⟩:=sim.grown hb
  have hv:Lib.replaceAll s [c,c] [c]=t:=by
   unfold Lib.replaceAll Lib.replace
   rw[if_neg (by simp),hs]
   exact c2
  refine⟨_,rfl,.str t,st,g,hk,s',?_,e'⟩
  show Rel g w' _ (.string ⟨(Lib.replaceAll s [c,c] [c]).toArray⟩)
  rw[hv]
  exact Rel.str _
def JU (q:Int) (cl:B8):Prop:=cl=[]∨by_ cl 0≠q∨∃c t,(c.toNat:Int)=q/\cl=c::(dbl c t++[c])
theorem KV {q:Int} {c:UInt8} {t:B8} (hc:(c.toNat:Int)=q):txt q (c::(dbl c t++[c]))=t:=by
 unfold txt
 rw[if_neg (by simp[by_,hc])]
 have:((c::(dbl c t++[c])).take ((c::(dbl c t++[c])).length-1)).drop 1=dbl c t:=by
  simp
 rw[this,Si hc]
theorem Oi {cl:B8} {a q:Int} {x y:Bool} (hw:JU q cl) (hl:cl.length<=2000000) {st:St} {K:B8->Bool->St->Prop} (hk:∀st',Aq st st'->K (txt q cl) (decide (¬(cl=[]∨by_ cl 0≠q))) st'):
  CallT PR CR [.str cl,.agg [.int .u8 a,.int .u8 q,.bool x,.bool y]] [.one (.str),.one (.bool)] st K:=by
 have hk:=hk st (Aq.refl st)
 refine PD cl a q x y st K (Aa (fun g=>?_) fun g=>⟨⟨by omega,?_⟩,Aa (fun g2=>?_) fun g2=>?_⟩)
 ·subst g
  unfold txt at hk
  simpa using hk
 ·cases cl with
  | nil=>exact absurd rfl g
  | cons b l=>simp
 ·have g2':by_ cl 0≠q:=g2
  unfold txt at hk
  rw[if_pos (.inr g2')]at hk
  simpa [g2']using hk
 ·have g2':¬by_ cl 0≠q:=g2
  rcases hw with h | h | ⟨c,t,hc,h⟩
  ·exact absurd h g
  ·exact absurd h g2'
  subst h
  rw[KV hc]at hk
  have htb:toBytes st (.list 1 .full 1 [.int .u8 q])=some [c]:=by
   have:UInt8.ofNat q.toNat=c:=by rw[<-hc];simp
   rw[<-this];rfl
  have hlen:(c::(dbl c t++[c])).length=(dbl c t).length+2:=by simp
  rw[hlen]at hl
  have hw64:i64.wrap (((c::(dbl c t++[c])).length:Int)-1)=(((dbl c t).length+1:Nat):Int):=by
   rw[hlen,Ah _ (by omega) (by omega)];omega
  rw[htb]
  refine Ad rfl (show Af .str (.str [c]) _ from⟨⟨by omega,by rw[hw64];omega,by rw[hw64,hlen];omega⟩,by simp,?_⟩)
  rw[hw64]
  have hin:List.drop (Int.toNat 1) (List.take (Int.toNat (((dbl c t).length+1:Nat):Int)) (c::(dbl c t++[c])))=dbl c t:=by
   simp
  rw[hin]
  refine Sj rfl (by omega) ?_
  simpa [g2',hc,by_]using hk
def FJ (x:Cx) (num:Bool) (wid:Int) (hd:Bool) (i:Nat) (v:Int) (ns:List B8):Except (Nat×Int) (Nat×Int×List B8×Nd×Int):=do
 let v1<-if hd then .ok v else EB x.dep x.nod 2 i v
 let (e,v2,ns2,ks)<-BX x num wid hd (x.s.length+1) [] i v1 ns
 let n<-Ch x.s e
 let wid':=if num then wid else(ks.length:Int)
 if (ks.length:Int)<wid' then .error (e,10)else .ok (e+n,v2,ns2,.mk 8 [] [] ks (slc x.s e (e+n)),wid')
def DX (x:Cx) (hdr:Bool):Nat->List Nd->Nat->Int->List B8->Int->Except (Nat×Int) (List Nd)
 | 0,_,_,_,_,_=> .error (0,0)
 | n+1,acc,i,v,ns,wid=>
  if x.s.length<=i then .ok acc else do
   let (i',v',ns',r,wid')<-FJ x (!acc.isEmpty) wid (hdr&&acc.isEmpty) i v ns
   DX x hdr n (acc++[r]) i' v' ns' wid'
theorem VK {s:B8} {I:Int} {i:Nat} (hI:I=(i:Int)) (hi:i<=s.length) (hl:s.length<=2000000) {st:St} {K:Int->St->Prop}
  (hk:K (match Ch s i with | .ok n=>(n:Int) | .error (_,e)=>if e=4 then-2 else-1) st):CallT PR AD [.str s,.int .i64 I] [.one (.int .i64)] st K:=by
 subst hI
 unfold Ch by_ at hk
 have hw:i64.wrap ((i:Int)+1)=((i+1:Nat):Int):=by rw[Ah _ (by omega) (by omega)];omega
 refine Jh s (i:Int) st K ?_
 rw[hw,show Int.toNat (i:Int)=i from rfl,show Int.toNat ((i+1:Nat):Int)=i+1 from rfl]
 refine Aa (fun g=>?_) fun g=>⟨⟨by omega,by omega⟩,Aa (fun g2=>?_) fun g2=>⟨⟨by omega,by omega⟩,Aa (fun g3=>?_) fun g3=>Aa (fun g4=>?_) fun g4=>⟨⟨by omega,by omega⟩,Aa (fun g5=>?_) fun g5=>?_⟩⟩⟩
 ·rw[if_pos (by omega)]at hk;exact hk
 ·rw[if_neg (by omega),if_pos g2]at hk;exact hk
 ·rw[if_neg (by omega),if_neg g2,if_pos g3]at hk;exact hk
 ·rw[if_neg (by omega),if_neg g2,if_neg g3,if_pos (by omega)]at hk;exact hk
 ·rw[if_neg (by omega),if_neg g2,if_neg g3,if_neg (by omega),if_pos g5]at hk;exact hk
 ·rw[if_neg (by omega),if_neg g2,if_neg g3,if_neg (by omega),if_neg g5]at hk;exact hk
section
theorem Own.extXD {S:Nat->Prop} {b sz:Nat} {st st':St} {v:TV} {n:Nat} {xs:List TV} (h:Own b sz st v n xs) (e:StX S st st'):Own b sz st' v n xs:=by
 rcases h with h | ⟨tip,h,ht | ⟨id,h1,h2,h3,h4⟩⟩
 ·exact .inl h
 ·exact .inr ⟨tip,h,.inl ht⟩
 ·exact .inr ⟨tip,h,.inr ⟨id,h1,h2,Nat.lt_of_lt_of_le h3 e.nt,by rw[e.live _ h3];exact h4⟩⟩
theorem ldB {st:St} {b i:Nat} {l:List TV} {x:TV} (hb:st.box b= .cells l) (hx:l[i]? =some x):Ac st [] (.t (.box b i)) 0=some x:=by
 simp only[Ac,hb,Nat.add_zero];exact hx
theorem Fx {st:St} {b off:Nat} {x:TV} {l:List TV} {k:St->Prop} (hb:st.box b= .cells l) (hl:Nat.ble (off+1) l.length=true) (hk:∀st',StX (·=b) st st'->st'.box b= .cells (l.set off x)->k st'):stB st (.box b off) [x] k:=by
 have hl:=Nat.le_of_ble_eq_true hl
 refine⟨l,hb,by simpa using hl,hk _ (StX.put (S:=(·=b)) rfl _) ?_⟩
 rw[E3]
 rfl
def Nk (st:St) (p i:Nat):Int:=match st.box p with | .cells l=>(match l[i]? with | some (TV.int _ k)=>k | _=>0) | _=>0
theorem DY {st:St} {p i:Nat} {l:List TV} {kd:IntKind} {k:Int} (hb:st.box p= .cells l) (hx:l[i]? =some (.int kd k)):Nk st p i=k:=by
 simp only[Nk,hb,hx]
def pcl (x:Cx) (hd ty:Bool) (l2 l3 l4:Int) (m:Nat) (i n w o e:Int):List TV:=
 [.str x.s,.int .u8 x.a,.int .u8 x.q,.bool hd,.bool ty,.int .i64 x.dep,.int .i64 x.nod,.int .i64 l2,.int .i64 l3,.int .i64 l4,.int .i64 i,.int .i64 n,.int .i64 w,.map m,.int .i64 o,.int .i64 e]
structure PSD (p m:Nat) (x:Cx) (hd ty:Bool) (l2 l3 l4:Int) (ns:List B8) (i n w o e:Int) (st:St):Prop where
 ne:p≠m
 lp:p<st.nb
 lm:m<st.nb
 bx:st.box p= .cells (pcl x hd ty l2 l3 l4 m i n w o e)
 mp:∃es,st.box m= .map es/\YH es ns
abbrev PM (p m:Nat):Nat->Prop:=fun i=>i=p∨i=m
theorem PSD.of {p m:Nat} {x:Cx} {hd ty:Bool} {l2 l3 l4:Int} {ns:List B8} {i n w o e i' n' w' o' e':Int} {st st':St} (h:PSD p m x hd ty l2 l3 l4 ns i n w o e st) (k:StX (·=p) st st')
  (b:st'.box p= .cells (pcl x hd ty l2 l3 l4 m i' n' w' o' e')):PSD p m x hd ty l2 l3 l4 ns i' n' w' o' e' st':=by
 obtain⟨es,h1,h2⟩:=h.mp
 exact⟨h.ne,Nat.lt_of_lt_of_le h.lp k.nb,Nat.lt_of_lt_of_le h.lm k.nb,b,es,by rw[k.box _ h.lm (fun g=>h.ne g.symm)];exact h1,h2⟩
theorem PSD.keep {S:Nat->Prop} {p m:Nat} {x:Cx} {hd ty:Bool} {l2 l3 l4:Int} {ns:List B8} {i n w o e:Int} {st st':St} (h:PSD p m x hd ty l2 l3 l4 ns i n w o e st) (k:StX S st st') (hp:¬S p) (hm:¬S m):
  PSD p m x hd ty l2 l3 l4 ns i n w o e st':=by
 obtain⟨es,h1,h2⟩:=h.mp
 exact⟨h.ne,Nat.lt_of_lt_of_le h.lp k.nb,Nat.lt_of_lt_of_le h.lm k.nb,by rw[k.box _ h.lp hp];exact h.bx,es,by rw[k.box _ h.lm hm];exact h1,h2⟩
theorem StX.pm {p m:Nat} {a b:St} (h:StX (·=p) a b):StX (PM p m) a b:=h.mono fun _=> .inl
section
variable {p m:Nat} {x:Cx} {hd ty:Bool} {l2 l3 l4:Int} {ns:List B8} {I n w o e:Int} {st:St}
theorem Dh {o' e':Int} {K:Bool->St->Prop} (h:PSD p m x hd ty l2 l3 l4 ns I n w o e st) (hk:∀st',StX (PM p m) st st'->PSD p m x hd ty l2 l3 l4 ns I n w o' e' st'->K false st'):
  CallT PR Al [.box p 0,.int .i64 o',.int .i64 e'] [.one .bool] st K:=by
 refine Jd p o' e' st K (Fx h.bx rfl fun st1 e1 b1=>Fx b1 rfl fun st2 e2 b2=>?_)
 exact hk st2 (e1.trans e2).pm (h.of (e1.trans e2) b2)
theorem Qd {d v:Int} {i:Nat} {K:Bool->St->Prop} (hI:I=(i:Int)) (hv0:0<=v) (hv:v<1000000000) (h:PSD p m x hd ty l2 l3 l4 ns I v w o e st)
  (h0:∀v' st',EB x.dep x.nod d i v= .ok v'->StX (PM p m) st st'->PSD p m x hd ty l2 l3 l4 ns I v' w o e st'->K true st')
  (h1:∀(o':Nat) e' st',EB x.dep x.nod d i v= .error (o',e')->StX (PM p m) st st'->PSD p m x hd ty l2 l3 l4 ns I v w o' e' st'->K false st'):
  CallT PR Bh [.box p 0,.int .i64 d] [.one .bool] st K:=by
 unfold EB at h0 h1
 subst hI
 have hb:=h.bx
 refine IC p d st K ?_
 repeat' first
  | (guard_target=~need _ _;refine Ab rfl ?_)
  | (guard_target=~Ag (Ac _ _ _ _) _;refine Ad (ldB hb rfl) ?_)
  | (guard_target=~Af (.int _) _ _;refine At ?_)
  | (guard_target=~Af .str _ _;refine Am ?_)
  | (guard_target=~Af .bool _ _;refine Ar ?_)
 refine Aa (fun g=>?_) fun g=>?_
 ·rw[if_pos g]at h1
  repeat' first
   | (guard_target=~need _ _;refine Ab rfl ?_)
   | (guard_target=~Ag (Ac _ _ _ _) _;refine Ad (ldB hb rfl) ?_)
   | (guard_target=~Af (.int _) _ _;refine At ?_)
   | (guard_target=~Af .str _ _;refine Am ?_)
   | (guard_target=~Af .bool _ _;refine Ar ?_)
  exact Dh h fun st' e1 k1=>h1 _ _ st' rfl e1 k1
 rw[if_neg g]at h0 h1
 repeat' first
  | (guard_target=~need _ _;refine Ab rfl ?_)
  | (guard_target=~Ag (Ac _ _ _ _) _;refine Ad (ldB hb rfl) ?_)
  | (guard_target=~Af (.int _) _ _;refine At ?_)
  | (guard_target=~Af .str _ _;refine Am ?_)
  | (guard_target=~Af .bool _ _;refine Ar ?_)
 refine Aa (fun g2=>?_) fun g2=>?_
 ·rw[if_pos g2]at h1
  repeat' first
   | (guard_target=~need _ _;refine Ab rfl ?_)
   | (guard_target=~Ag (Ac _ _ _ _) _;refine Ad (ldB hb rfl) ?_)
   | (guard_target=~Af (.int _) _ _;refine At ?_)
   | (guard_target=~Af .str _ _;refine Am ?_)
   | (guard_target=~Af .bool _ _;refine Ar ?_)
  exact Dh h fun st' e1 k1=>h1 _ _ st' rfl e1 k1
 rw[if_neg g2]at h0
 repeat' first
  | (guard_target=~need _ _;refine Ab rfl ?_)
  | (guard_target=~Ag (Ac _ _ _ _) _;refine Ad (ldB hb rfl) ?_)
  | (guard_target=~Af (.int _) _ _;refine At ?_)
  | (guard_target=~Af .str _ _;refine Am ?_)
  | (guard_target=~Af .bool _ _;refine Ar ?_)
 refine Fx hb rfl fun st1 e1 b1=>?_
 rw[Ah _ (by omega) (by omega)]at b1
 exact h0 _ st1 rfl e1.pm (h.of e1 b1)
theorem Ug {i:Nat} {K:Bool->St->Prop} (hI:I=(i:Int)) (hi:i<x.s.length) (hl:x.s.length<=2000000) (h:PSD p m x hd ty l2 l3 l4 ns I n w o e st)
  (h0:∀(k:Nat) st',QE x.q x.s (i+1)=some k->StX (PM p m) st st'->PSD p m x hd ty l2 l3 l4 ns k n w o e st'->K true st')
  (h1:∀(k:Int) st',QE x.q x.s (i+1)=none->StX (PM p m) st st'->PSD p m x hd ty l2 l3 l4 ns k n w (x.s.length:Nat) 4 st'->K false st'):
  CallT PR CB [.box p 0] [.one .bool] st K:=by
 subst hI
 have hb:=h.bx
 have tn:∀k:Nat,Int.toNat (k:Int)=k:=fun k=>rfl
 have w1:∀k:Nat,k<=x.s.length->i64.wrap ((k:Int)+1)=((k+1:Nat):Int):=fun k hk=>by rw[Ah _ (by omega) (by omega)];omega
 refine HM p st K ?_
 repeat' first
  | (guard_target=~need _ _;refine Ab rfl ?_)
  | (guard_target=~Ag (Ac _ _ _ _) _;refine Ad (ldB hb rfl) ?_)
  | (guard_target=~Af (.int _) _ _;refine At ?_)
  | (guard_target=~Af .str _ _;refine Am ?_)
  | (guard_target=~Af .bool _ _;refine Ar ?_)
 refine Fx hb rfl fun st1 e1 b1=>?_
 rw[w1 i (by omega)]at b1
 refine⟨fun p' st'=>TV.box p 0=p'/\StX (PM p m) st st'/\∃k:Nat,PSD p m x hd ty l2 l3 l4 ns k n w o e st'/\i<k/\k<=x.s.length/\QE x.q x.s (i+1)=QE x.q x.s k,
  fun _ st'=>(x.s.length-Nk st' p 10).toNat,⟨rfl,e1.pm,i+1,h.of e1 b1,by omega,by omega,rfl⟩,?_⟩
 rintro _ st2 ⟨rfl,e2,k,h2,hk1,hk2,hq⟩
 have hb2:=h2.bx
 repeat' first
  | (guard_target=~need _ _;refine Ab rfl ?_)
  | (guard_target=~Ag (Ac _ _ _ _) _;refine Ad (ldB hb2 rfl) ?_)
  | (guard_target=~Af (.int _) _ _;refine At ?_)
  | (guard_target=~Af .str _ _;refine Am ?_)
  | (guard_target=~Af .bool _ _;refine Ar ?_)
 refine Aa (fun q1=>?_) fun q1=>?_
 ·repeat' first
   | (guard_target=~need _ _;refine Ab rfl ?_)
   | (guard_target=~Ag (Ac _ _ _ _) _;refine Ad (ldB hb2 rfl) ?_)
   | (guard_target=~Af (.int _) _ _;refine At ?_)
   | (guard_target=~Af .str _ _;refine Am ?_)
   | (guard_target=~Af .bool _ _;refine Ar ?_)
  refine⟨⟨by omega,by omega⟩,?_⟩
  repeat' first
   | (guard_target=~need _ _;refine Ab rfl ?_)
   | (guard_target=~Ag (Ac _ _ _ _) _;refine Ad (ldB hb2 rfl) ?_)
   | (guard_target=~Af (.int _) _ _;refine At ?_)
   | (guard_target=~Af .str _ _;refine Am ?_)
   | (guard_target=~Af .bool _ _;refine Ar ?_)
  rw[tn]
  refine Aa (fun q2=>?_) fun q2=>?_
  ·repeat' first
    | (guard_target=~need _ _;refine Ab rfl ?_)
    | (guard_target=~Ag (Ac _ _ _ _) _;refine Ad (ldB hb2 rfl) ?_)
    | (guard_target=~Af (.int _) _ _;refine At ?_)
    | (guard_target=~Af .str _ _;refine Am ?_)
    | (guard_target=~Af .bool _ _;refine Ar ?_)
   refine Fx hb2 rfl fun st3 e3 b3=>?_
   rw[w1 k (by omega)]at b3
   rw[Pk (by omega) q2]at hq
   refine⟨⟨rfl,e2.trans e3.pm,k+1,h2.of e3 b3,by omega,by omega,hq⟩,?_⟩
   dsimp only
   rw[DY b3 rfl,DY hb2 rfl]
   omega
  ·have q2:by_ x.s k=x.q:=Decidable.not_not.1 q2
   repeat' first
    | (guard_target=~need _ _;refine Ab rfl ?_)
    | (guard_target=~Ag (Ac _ _ _ _) _;refine Ad (ldB hb2 rfl) ?_)
    | (guard_target=~Af (.int _) _ _;refine At ?_)
    | (guard_target=~Af .str _ _;refine Am ?_)
    | (guard_target=~Af .bool _ _;refine Ar ?_)
   refine Fx hb2 rfl fun st3 e3 b3=>?_
   rw[w1 k (by omega)]at b3
   have h3:=h2.of e3 b3
   repeat' first
    | (guard_target=~need _ _;refine Ab rfl ?_)
    | (guard_target=~Ag (Ac _ _ _ _) _;refine Ad (ldB b3 rfl) ?_)
    | (guard_target=~Af (.int _) _ _;refine At ?_)
    | (guard_target=~Af .str _ _;refine Am ?_)
    | (guard_target=~Af .bool _ _;refine Ar ?_)
   refine Aa (fun q3=>?_) fun q3=>?_
   ·rw[NW (by omega) q2 (fun h=>absurd h (by omega))]at hq
    exact h0 _ st3 hq (e2.trans e3.pm) h3
   ·repeat' first
     | (guard_target=~need _ _;refine Ab rfl ?_)
     | (guard_target=~Ag (Ac _ _ _ _) _;refine Ad (ldB b3 rfl) ?_)
     | (guard_target=~Af (.int _) _ _;refine At ?_)
     | (guard_target=~Af .str _ _;refine Am ?_)
     | (guard_target=~Af .bool _ _;refine Ar ?_)
    refine⟨⟨by omega,by omega⟩,?_⟩
    repeat' first
     | (guard_target=~need _ _;refine Ab rfl ?_)
     | (guard_target=~Ag (Ac _ _ _ _) _;refine Ad (ldB b3 rfl) ?_)
     | (guard_target=~Af (.int _) _ _;refine At ?_)
     | (guard_target=~Af .str _ _;refine Am ?_)
     | (guard_target=~Af .bool _ _;refine Ar ?_)
    rw[tn]
    refine Aa (fun q4=>?_) fun q4=>?_
    ·rw[NW (by omega) q2 (fun h=>q4)]at hq
     exact h0 _ st3 hq (e2.trans e3.pm) h3
    ·repeat' first
      | (guard_target=~need _ _;refine Ab rfl ?_)
      | (guard_target=~Ag (Ac _ _ _ _) _;refine Ad (ldB b3 rfl) ?_)
      | (guard_target=~Af (.int _) _ _;refine At ?_)
      | (guard_target=~Af .str _ _;refine Am ?_)
      | (guard_target=~Af .bool _ _;refine Ar ?_)
     refine Fx b3 rfl fun st4 e4 b4=>?_
     rw[w1 (k+1) (by omega)]at b4
     rw[RT (by omega) q2 (Decidable.not_not.1 q4)]at hq
     refine⟨⟨rfl,(e2.trans e3.pm).trans e4.pm,k+2,h3.of e4 b4,by omega,by omega,hq⟩,?_⟩
     dsimp only
     rw[DY b4 rfl,DY hb2 rfl]
     omega
 ·repeat' first
   | (guard_target=~need _ _;refine Ab rfl ?_)
   | (guard_target=~Ag (Ac _ _ _ _) _;refine Ad (ldB hb2 rfl) ?_)
   | (guard_target=~Af (.int _) _ _;refine At ?_)
   | (guard_target=~Af .str _ _;refine Am ?_)
   | (guard_target=~Af .bool _ _;refine Ar ?_)
  rw[RU (i:=k) (by omega)]at hq
  exact Dh h2 fun st' e3 k3=>h1 _ st' hq (e2.trans e3) k3
end
end
def rst (s:B8) (a q:Int) (hd ty:Bool) (l0 l1 l2 l3 l4 i v off err:Int):TV:=
 .agg [.str s,.int .u8 a,.int .u8 q,.bool hd,.bool ty,.int .i64 l0,.int .i64 l1,.int .i64 l2,.int .i64 l3,.int .i64 l4,.int .i64 i,.int .i64 v,.int .i64 off,.int .i64 err]
abbrev rsh:RTy:= .agg [.str,.int .u8,.int .u8,.bool,.bool,.int .i64,.int .i64,.int .i64,.int .i64,.int .i64,.int .i64,.int .i64,.int .i64,.int .i64]
theorem Ee {s:B8} {a q:Int} {hd ty:Bool} {l0 l1 l2 l3 l4 i v off err o e:Int} {st:St} {K:B8->Int->Int->Bool->Bool->Int->Int->Int->Int->Int->Int->Int->Int->Int->St->Prop}
  (h0:err=0->K s a q hd ty l0 l1 l2 l3 l4 i v o e st) (h1:err≠0->K s a q hd ty l0 l1 l2 l3 l4 i v off err st):
  CallT PR Ai [rst s a q hd ty l0 l1 l2 l3 l4 i v off err,.int .i64 o,.int .i64 e] [rsh] st K:=
 F2 s a q hd ty l0 l1 l2 l3 l4 i v off err o e st K (Aa h0 h1)
theorem Mr {s:B8} {a q:Int} {hd ty:Bool} {l0 l1 l2 l3 l4 i off d:Int} {v:Int} {k:Nat} (hi:i=(k:Int)) (hv:v<1000000000) (hv0:0<=v) {st:St} {K:B8->Int->Int->Bool->Bool->Int->Int->Int->Int->Int->Int->Int->Int->Int->St->Prop}
  (h0:∀v',EB l0 l1 d k v= .ok v'->K s a q hd ty l0 l1 l2 l3 l4 i v' off 0 st) (h1:∀o e,EB l0 l1 d k v= .error (o,e)->K s a q hd ty l0 l1 l2 l3 l4 i v (o:Int) e st):
  CallT PR AN [rst s a q hd ty l0 l1 l2 l3 l4 i v off 0,.int .i64 d] [rsh] st K:=by
 unfold EB at h0 h1
 subst hi
 refine FE s a q hd ty l0 l1 l2 l3 l4 (k:Int) v off 0 d st K (Aa (fun g=>?_) fun g=>Aa (fun g2=>?_) fun g2=>?_)
 ·rw[if_pos g]at h1
  exact Ee (fun _=>h1 _ _ rfl) fun h=>absurd rfl h
 ·rw[if_neg g,if_pos g2]at h1
  exact Ee (fun _=>h1 _ _ rfl) fun h=>absurd rfl h
 ·rw[if_neg g,if_neg g2]at h0
  rw[Ah _ (by omega) (by omega)]
  exact h0 _ rfl
theorem QE_le {q:Int} {s:B8}:∀(n i e:Nat),s.length-i<=n->QE q s i=some e->i<e/\e<=s.length:=by
 intro n
 induction n with
 | zero=>intro i e h he;rw[RU (by omega)]at he;cases he
 | succ n ih=>
  intro i e h he
  by_cases hi:i<s.length
  ·by_cases hb:by_ s i=q
   ·by_cases h2:i+1<s.length/\by_ s (i+1)=q
    ·rw[RT h2.1 hb h2.2]at he
     have:=ih (i+2) e (by omega) he
     omega
    ·rw[NW hi hb (fun h3 h4=>h2 ⟨h3,h4⟩)]at he
     cases he;omega
   ·rw[Pk hi hb]at he
    have:=ih (i+1) e (by omega) he
    omega
  ·rw[RU (by omega)]at he;cases he
theorem Xr {s:B8} {a q:Int} {hd ty:Bool} {l0 l1 l2 l3 l4 I off err:Int} {v:Int} {i:Nat} (hI:I=(i:Int)) (hi:i<=s.length) (hl:s.length<=2000000) {st:St} {K:B8->Int->Int->Bool->Bool->Int->Int->Int->Int->Int->Int->Int->Int->Int->B8->St->Prop}
  (h0:∀e,Bt a q s i= .ok e->i<=e->e<=s.length->K s a q hd ty l0 l1 l2 l3 l4 (e:Int) v off err (slc s i e) st)
  (h1:∀o c (k:Nat),Bt a q s i= .error (o,c)->k<=s.length->K s a q hd ty l0 l1 l2 l3 l4 (k:Int) v (if err=0 then(o:Int)else off) (if err=0 then c else err) [] st):
  CallT PR Ca [rst s a q hd ty l0 l1 l2 l3 l4 I v off err] [rsh,.one .str] st K:=by
 subst hI
 have fin:∀o c (k:Nat),Bt a q s i= .error (o,c)->k<=s.length->CallT PR Ai [rst s a q hd ty l0 l1 l2 l3 l4 (k:Int) v off err,.int .i64 (o:Int),.int .i64 c] [rsh] st
   (fun s2 n12 n13 b3 b4 n14 n15 n16 n17 n18 n19 n20 n21 n22 st2=>K s2 n12 n13 b3 b4 n14 n15 n16 n17 n18 n19 n20 n21 n22 [] st2):=fun o c k h hk=>
  Ee (fun h2=>by have:=h1 o c k h hk;rwa [if_pos h2,if_pos h2]at this) fun h2=>by have:=h1 o c k h hk;rwa [if_neg h2,if_neg h2]at this
 have w1:∀k:Nat,k<=s.length->i64.wrap ((k:Int)+1)=((k+1:Nat):Int):=fun k hk=>by rw[Ah _ (by omega) (by omega)];omega
 have tn:∀k:Nat,Int.toNat (k:Int)=k:=fun k=>rfl
 refine Ji s a q hd ty l0 l1 l2 l3 l4 (i:Int) v off err st K (Aa (fun g=>⟨⟨by omega,by omega⟩,Aa (fun g2=>?_) fun g2=>?_⟩) fun g=>?_)
 ·--quoted
  have hc:Bt a q s i=match QE q s (i+1)with | some e=> .ok e | none=> .error (s.length,4):=by
   unfold Bt;rw[if_pos ⟨by omega,g2⟩]<;>(cases QE q s (i+1)<;>rfl)
  rw[w1 i hi]
  refine⟨fun fr s1 n1 n2 b1 b2 n3 n4 n5 n6 n7 n8 n9 n10 n11 st1=>(i:Int)=fr/\s=s1/\a=n1/\q=n2/\hd=b1/\ty=b2/\l0=n3/\l1=n4/\l2=n5/\l3=n6/\l4=n7/\v=n9/\off=n10/\err=n11/\st=st1/\∃k:Nat,n8=(k:Int)/\i<k/\k<=s.length/\QE q s (i+1)=QE q s k,
   fun _ _ _ _ _ _ _ _ _ _ _ n8 _ _ _ _=>(s.length-n8).toNat,⟨rfl,rfl,rfl,rfl,rfl,rfl,rfl,rfl,rfl,rfl,rfl,rfl,rfl,rfl,rfl,i+1,rfl,by omega,by omega,rfl⟩,?_⟩
  rintro _ _ _ _ _ _ _ _ _ _ _ _ _ _ _ _ ⟨rfl,rfl,rfl,rfl,rfl,rfl,rfl,rfl,rfl,rfl,rfl,rfl,rfl,rfl,rfl,k,rfl,hk1,hk2,hq⟩
  rw[w1 k hk2,tn,tn]
  have stop:(k:Int)<s.length->by_ s k=q->(k+1<s.length->by_ s (k+1)≠q)->K s a q hd ty l0 l1 l2 l3 l4 ((k+1:Nat):Int) v off err (slc s i (k+1)) st:=fun h h2 h3=>by
   rw[NW (by omega) h2 h3]at hq
   rw[hq]at hc
   exact h0 _ hc (by omega) (by omega)
  refine Aa (fun q1=>⟨⟨by omega,by omega⟩,Aa (fun q2=>⟨⟨by omega,by omega⟩,Aa (fun q3=>absurd q3 q2) fun _=>?_⟩) fun q2=>Aa (fun q3=>⟨⟨by omega,by omega⟩,Aa (fun q4=>⟨⟨by omega,by omega⟩,Aa (fun q5=>?_) fun q5=>absurd (Decidable.not_not.1 q2) q5⟩) fun q4=>Aa (fun q5=>?_) fun q5=>⟨⟨by omega,by omega,by omega⟩,?_⟩⟩) fun q3=>Aa (fun q5=>?_) fun q5=>⟨⟨by omega,by omega,by omega⟩,?_⟩⟩) fun q1=>Aa (fun q5=>?_) fun q5=>absurd (by omega) q5
  ·rw[Pk (by omega) q2]at hq
   exact⟨⟨rfl,rfl,rfl,rfl,rfl,rfl,rfl,rfl,rfl,rfl,rfl,rfl,rfl,rfl,rfl,k+1,rfl,by omega,by omega,hq⟩,by dsimp only;omega⟩
  ·rw[RT (by omega) (Decidable.not_not.1 q2) q4]at hq
   rw[w1 (k+1) (by omega)]
   exact⟨⟨rfl,rfl,rfl,rfl,rfl,rfl,rfl,rfl,rfl,rfl,rfl,rfl,rfl,rfl,rfl,k+2,rfl,by omega,by omega,hq⟩,by dsimp only;omega⟩
  ·omega
  ·exact stop q1 (Decidable.not_not.1 q2) fun _=>q4
  ·omega
  ·exact stop q1 (Decidable.not_not.1 q2) fun h=>absurd (by omega) q3
  ·refine fin s.length 4 k ?_ hk2
   rw[hc,hq,RU (by omega)]
 all_goals
  have hc:Bt a q s i=match PE a q s i with | .ok e=> .ok e | .error o=> .error (o,3):=by
   unfold Bt
   rw[if_neg (by first | (rintro⟨_,h⟩;exact g2 h) | (rintro⟨h,_⟩;omega))]<;>(cases PE a q s i<;>rfl)
  refine⟨fun fr s1 n1 n2 b1 b2 n3 n4 n5 n6 n7 n8 n9 n10 n11 st1=>(i:Int)=fr/\s=s1/\a=n1/\q=n2/\hd=b1/\ty=b2/\l0=n3/\l1=n4/\l2=n5/\l3=n6/\l4=n7/\v=n9/\off=n10/\err=n11/\st=st1/\∃k:Nat,n8=(k:Int)/\i<=k/\k<=s.length/\PE a q s i=PE a q s k,
   fun _ _ _ _ _ _ _ _ _ _ _ n8 _ _ _ _=>(s.length-n8).toNat,⟨rfl,rfl,rfl,rfl,rfl,rfl,rfl,rfl,rfl,rfl,rfl,rfl,rfl,rfl,rfl,i,rfl,by omega,by omega,rfl⟩,?_⟩
  rintro _ _ _ _ _ _ _ _ _ _ _ _ _ _ _ _ ⟨rfl,rfl,rfl,rfl,rfl,rfl,rfl,rfl,rfl,rfl,rfl,rfl,rfl,rfl,rfl,k,rfl,hk1,hk2,hq⟩
  rw[w1 k hk2,tn]
  have stop:PE a q s k= .ok k->K s a q hd ty l0 l1 l2 l3 l4 (k:Int) v off err (slc s i k) st:=fun h=>by
   rw[h]at hq
   rw[hq]at hc
   exact h0 _ hc hk1 hk2
  refine Aa (fun q1=>⟨⟨by omega,by omega⟩,Aa (fun q2=>⟨⟨by omega,by omega⟩,Aa (fun q3=>⟨⟨by omega,by omega⟩,Aa (fun q4=>⟨⟨by omega,by omega⟩,Aa (fun q5=>?_) fun q5=>?_⟩) fun q4=>?_⟩) fun q3=>?_⟩) fun q2=>?_⟩) fun q1=>?_
  ·refine fin k 3 k ?_ hk2
   rw[hc,hq,RW (by omega) (by rintro(h | h | h);exact q2 h;exact q3 h;exact q4 h) q5]
  ·rw[RV (by omega) (by rintro(h | h | h);exact q2 h;exact q3 h;exact q4 h) q5]at hq
   exact⟨⟨rfl,rfl,rfl,rfl,rfl,rfl,rfl,rfl,rfl,rfl,rfl,rfl,rfl,rfl,rfl,k+1,rfl,by omega,by omega,hq⟩,by dsimp only;omega⟩
  ·exact⟨⟨by omega,by omega,by omega⟩,stop (Io (by omega) (.inr (.inr (Decidable.not_not.1 q4))))⟩
  ·exact⟨⟨by omega,by omega,by omega⟩,stop (Io (by omega) (.inr (.inl (Decidable.not_not.1 q3))))⟩
  ·exact⟨⟨by omega,by omega,by omega⟩,stop (Io (by omega) (.inl (Decidable.not_not.1 q2)))⟩
  ·exact⟨⟨by omega,by omega,by omega⟩,stop (Pl (by omega))⟩
theorem J2 {s:B8} {i e:Nat} (h:i<=e) (h2:e<=s.length):(slc s i e).length=e-i:=by
 unfold slc;rw[List.length_drop,List.length_take];omega
theorem FY {s:B8} {i e:Nat} (h:i<=e):s.drop i=slc s i e++s.drop e:=by
 unfold slc
 rw[EU]
 have:s.drop e=(s.drop i).drop (e-i):=by rw[List.drop_drop];congr 1;omega
 rw[this,List.take_append_drop]
theorem slc_get {s:B8} {i e:Nat} (h:i<e) (h2:e<=s.length):by_ (slc s i e) 0=by_ s i:=by
 unfold by_ slc
 rw[Hx,List.getD_eq_getElem?_getD,List.getD_eq_getElem?_getD,List.getElem?_take,if_pos (by omega)]
 rfl
theorem Q9 {s:B8} {e:Nat} (h:e<s.length):slc s e (e+1)=[s.getD e 0]:=by
 unfold slc
 rw[EU,QA _ _ 0 h]
 simp
theorem PE_le {a q:Int} {s:B8}:∀(n i e:Nat),s.length-i<=n->i<=s.length->PE a q s i= .ok e->i<=e/\e<=s.length/\(e<s.length->by_ s e=a∨by_ s e=10∨by_ s e=13)/\(i<e->by_ s i≠q):=by
 intro n
 induction n with
 | zero=>intro i e h hi he;rw[Pl (by omega)]at he;cases he;exact⟨by omega,by omega,fun h=>absurd h (by omega),fun h=>absurd h (by omega)⟩
 | succ n ih=>
  intro i e h hi he
  by_cases hl:i<s.length
  ·by_cases hb:by_ s i=a∨by_ s i=10∨by_ s i=13
   ·rw[Io hl hb]at he;cases he;exact⟨by omega,by omega,fun _=>hb,fun h=>absurd h (by omega)⟩
   ·by_cases hq:by_ s i=q
    ·rw[RW hl hb hq]at he;cases he
    ·rw[RV hl hb hq]at he
     obtain⟨h1,h2,h3,_⟩:=ih (i+1) e (by omega) (by omega) he
     exact⟨by omega,h2,h3,fun _=>hq⟩
  ·rw[Pl (by omega)]at he;cases he;exact⟨by omega,by omega,fun h=>absurd h (by omega),fun h=>absurd h (by omega)⟩
theorem Cd {a q:Int} {s:B8} {i e:Nat} (hi:i<=s.length) (h:Bt a q s i= .ok e):i<=e/\e<=s.length:=by
 unfold Bt at h
 split at h
 ·split at h
  ·rename_i e' he;cases h;have:=QE_le _ _ _ (Nat.le_refl _) he;omega
  ·cases h
 ·split at h
  ·rename_i e' he;cases h;have:=PE_le _ _ _ (Nat.le_refl _) hi he;omega
  ·cases h
theorem byte_of (q:Int) (s:B8) (i:Nat) (h:i<s.length) (hq:by_ s i=q):∃c:UInt8,(c.toNat:Int)=q/\s.getD i 0=c:=⟨s.getD i 0,hq,rfl⟩
theorem NT {a q:Int} {s:B8} {i e:Nat} (hi:i<=s.length) (h:Bt a q s i= .ok e):JU q (slc s i e):=by
 unfold Bt at h
 split at h
 ·rename_i hc
  split at h
  ·rename_i e' he
   cases h
   obtain⟨c,hc1,hc2⟩:=byte_of q s i hc.1 hc.2
   obtain⟨t,rest,h1,h2⟩:=Wu hc1 _ _ _ _ (Nat.le_refl _) he
   right;right
   refine⟨c,t,hc1,?_⟩
   have hle:=QE_le _ _ _ (Nat.le_refl _) he
   unfold slc
   rw[EU,QA _ _ 0 hc.1,hc2,h1,show e-i=(dbl c t++[c]).length+1 by simp;omega,List.take_succ_cons]
   congr 1
   rw[show dbl c t++c::rest=(dbl c t++[c])++rest by simp,List.take_left]
  ·cases h
 ·rename_i hc
  split at h
  ·rename_i e' he
   cases h
   have hle:=PE_le _ _ _ (Nat.le_refl _) hi he
   by_cases hlt:i<e
   ·right;left
    rw[slc_get hlt hle.2.1]
    exact hle.2.2.2 hlt
   ·left
    apply List.eq_nil_of_length_eq_zero
    rw[J2 hle.1 hle.2.1];omega
  ·cases h
theorem W3 (q:Int):∀(n:Nat) (l:B8),l.length<=n->(NA q l).length<=l.length:=by
 intro n
 induction n with
 | zero=>intro l h;have:l=[]:=List.eq_nil_of_length_eq_zero (by omega);subst this;simp[NA]
 | succ n ih=>
  intro l h
  match l,h with
  | [],_=>simp[NA]
  | [c],_=>simp[NA]
  | c::c2::l,h=>
   simp only[NA]
   split
   ·have:=ih l (by simp at h;omega);simp;omega
   ·have:=ih (c2::l) (by simp at h⊢;omega);simp at this⊢;omega
theorem txt_len (q:Int) (c:B8):(txt q c).length<=c.length:=by
 unfold txt
 split
 ·omega
 ·have:=W3 q _ ((c.take (c.length-1)).drop 1) (Nat.le_refl _)
  simp at this⊢;omega
theorem En {s:B8} {e n:Nat} (he:e<=s.length) (h:Ch s e= .ok n):e+n<=s.length/\(n=0->e=s.length)/\(0<n->by_ s (e+n-1)=10)/\(e<s.length->by_ s e=10∨by_ s e=13):=by
 unfold Ch at h
 split at h
 ·cases h;exact⟨by omega,fun _=>by omega,fun h=>by omega,fun h=>by omega⟩
 split at h
 ·rename_i h1 h2;cases h;exact⟨by omega,fun h=>by omega,fun _=>by simpa using h2,fun _=> .inl h2⟩
 split at h
 ·cases h
 split at h
 ·cases h
 split at h
 ·rename_i h1 h2 h3 h4 h5;cases h;exact⟨by omega,fun h=>by omega,fun _=>by simpa using h5,fun _=> .inr (Decidable.not_not.1 h3)⟩
 ·cases h
inductive HJ (a q:Int) (s:B8):Nat->List Nd->Nat->Nat->Prop where
 | last {i e n:Nat}:Bt a q s i= .ok e->¬(e<s.length/\by_ s e=a)->Ch s e= .ok n->HJ a q s i [JI s i e []] e n
 | more {i e f n:Nat} {ks:List Nd}:Bt a q s i= .ok e->e<s.length->by_ s e=a->HJ a q s (e+1) ks f n->HJ a q s i (JI s i e [.mk 11 [] [s.getD e 0] [] []]::ks) f n
inductive HH (a q:Int) (s:B8):Nat->List Nd->Prop where
 | nil {i:Nat}:s.length<=i->HH a q s i []
 | cons {i e n:Nat} {ks rs:List Nd}:i<s.length->HJ a q s i ks e n->HH a q s (e+n) rs->HH a q s i (.mk 8 [] [] ks (slc s e (e+n))::rs)
theorem HJ.le {a q:Int} {s:B8} {i:Nat} {ks:List Nd} {e n:Nat} (h:HJ a q s i ks e n):i<=s.length->i<=e/\e+n<=s.length/\1<=ks.length/\ks.length<=e-i+1/\Ch s e= .ok n:=by
 induction h with
 | last h1 h2 h3=>intro hi;have:=Cd hi h1;have:=En this.2 h3;exact⟨by omega,by omega,by simp,by simp,h3⟩
 | more h1 h2 h3 h4 ih=>intro hi;have:=Cd hi h1;have ih:=ih (by omega);refine⟨by omega,by omega,by simp,?_,ih.2.2.2.2⟩;rw[List.length_cons];omega
theorem HJ.text {a q:Int} {s:B8} {i:Nat} {ks:List Nd} {e n:Nat} (h:HJ a q s i ks e n):i<=s.length->E8 ks=slc s i e:=by
 induction h with
 | last h1 h2 h3=>intro hi;simp[E8,BF,JI]
 | @more i e e' n ks h1 h2 h3 h4 ih=>
  intro hi
  have hl:=Cd hi h1
  have hl2:=h4.le (by omega)
  simp only[E8,BF,JI,List.nil_append,List.append_nil]
  rw[ih (by omega),<-Q9 h2]
  have e1:=FY (s:=s) (i:=i) (e:=e') (by omega)
  have e2:=FY (s:=s) (i:=i) (e:=e) (by omega)
  have e3:=FY (s:=s) (i:=e) (e:=e+1) (by omega)
  have e4:=FY (s:=s) (i:=e+1) (e:=e') (by omega)
  rw[e2,e3,e4,<-List.append_assoc,<-List.append_assoc]at e1
  have:=List.append_inj_left' e1 rfl
  rw[<-this,List.append_assoc]
theorem HH.text {a q:Int} {s:B8} {i:Nat} {rs:List Nd} (h:HH a q s i rs):i<=s.length->E8 rs=s.drop i:=by
 induction h with
 | nil h=>intro hi;rw[List.drop_of_length_le h];rfl
 | @cons i e n ks rs h1 h2 h3 ih=>
  intro hi
  have hl:=h2.le (by omega)
  simp only[E8,BF,List.nil_append]
  rw[ih (by omega),h2.text (by omega),List.append_assoc,<-FY (by omega),<-FY (by omega)]
def Vi (a q:Int) (n:Nd):Prop:=∃c mark,n= .mk 5 [] [] (.mk 2 [] c [] []::mark) []/\JU q c/\(mark=[]∨∃b:UInt8,(b.toNat:Int)=a/\mark=[.mk 11 [] [b] [] []])
def RecF (a q:Int) (n:Nd):Prop:=∃ks t,n= .mk 8 [] [] ks t/\1<=ks.length/\∀k∈ks,Vi a q k
theorem HJ.form {a q:Int} {s:B8} {i:Nat} {ks:List Nd} {e n:Nat} (h:HJ a q s i ks e n):i<=s.length->∀k∈ks,Vi a q k:=by
 induction h with
 | last h1 h2 h3=>intro hi k hk;rw[List.mem_singleton]at hk;subst hk;exact⟨_,_,rfl,NT hi h1,.inl rfl⟩
 | @more i e e' n ks h1 h2 h3 h4 ih=>
  intro hi k hk
  have hl:=Cd hi h1
  rcases List.mem_cons.1 hk with rfl | hk
  ·exact⟨_,_,rfl,NT hi h1,.inr ⟨s.getD e 0,h3,rfl⟩⟩
  ·exact ih (by omega) k hk
theorem HH.form {a q:Int} {s:B8} {i:Nat} {rs:List Nd} (h:HH a q s i rs):i<=s.length->∀r∈rs,RecF a q r:=by
 induction h with
 | nil h=>intro hi r hr;cases hr
 | @cons i e n ks rs h1 h2 h3 ih=>
  intro hi r hr
  have hl:=h2.le (by omega)
  rcases List.mem_cons.1 hr with rfl | hr
  ·exact⟨_,_,rfl,hl.2.2.1,h2.form (by omega)⟩
  ·exact ih (by omega) r hr
section
theorem ldsB {st:St} {b i n:Nat} {l xs:List TV} (hb:st.box b= .cells l) (hx:(l.drop i).take n=xs) (hn:xs.length=n):Aj st [] (.t (.box b i)) 0 n=some xs:=by
 have gen:∀n j,j+n<=(l.drop i).length->Aj st [] (.t (.box b i)) j n=some (((l.drop i).drop j).take n):=by
  intro n
  induction n with
  | zero=>intro j h;simp[Aj]
  | succ n ih=>
   intro j h
   have hj:j<(l.drop i).length:=by omega
   have h1:Ac st [] (.t (.box b i)) j=some (l.drop i)[j]:=by
    simp only[Ac,hb]
    rw[List.getElem_drop,List.getElem?_eq_getElem]
   simp only[Aj,h1,ih (j+1) (by omega)]
   rw[List.drop_eq_getElem_cons hj]
   rfl
 rw[gen n 0 (by rw[<-hx,List.length_take]at hn;omega),<-hx]
 rfl
section
variable {p m:Nat} {x:Cx} {hd ty:Bool} {l2 l3 l4:Int} {ns:List B8} {I n w o e:Int} {st:St}
theorem Xy {i:Nat} {K:Bool->St->Prop} (hI:I=(i:Int)) (hi:i<=x.s.length) (hl:x.s.length<=2000000) (h:PSD p m x hd ty l2 l3 l4 ns I n w o e st)
  (h0:∀(k:Nat) st',Bt x.a x.q x.s i= .ok k->StX (PM p m) st st'->PSD p m x hd ty l2 l3 l4 ns k n w o e st'->K true st')
  (h1:∀(o':Nat) e' (k:Int) st',Bt x.a x.q x.s i= .error (o',e')->StX (PM p m) st st'->PSD p m x hd ty l2 l3 l4 ns k n w o' e' st'->K false st'):
  CallT PR B7 [.box p 0] [.one .bool] st K:=by
 subst hI
 have hb:=h.bx
 have tn:∀k:Nat,Int.toNat (k:Int)=k:=fun k=>rfl
 have w1:∀k:Nat,k<=x.s.length->i64.wrap ((k:Int)+1)=((k+1:Nat):Int):=fun k hk=>by rw[Ah _ (by omega) (by omega)];omega
 have loop:∀k:Nat,(i<x.s.length/\by_ x.s i=x.q->False)->Bt x.a x.q x.s i=match PE x.a x.q x.s i with | .ok e=> .ok e | .error o=> .error (o,3):=fun k hc=>by
  unfold Bt;rw[if_neg hc]<;>(cases PE x.a x.q x.s i<;>rfl)
 refine Je p st K ?_
 repeat' first
  | (guard_target=~need _ _;refine Ab rfl ?_)
  | (guard_target=~Ag (Ac _ _ _ _) _;refine Ad (ldB hb rfl) ?_)
  | (guard_target=~Af (.int _) _ _;refine At ?_)
  | (guard_target=~Af .str _ _;refine Am ?_)
  | (guard_target=~Af .bool _ _;refine Ar ?_)
 refine Aa (fun g=>?_) fun g=>?_
 ·repeat' first
   | (guard_target=~need _ _;refine Ab rfl ?_)
   | (guard_target=~Ag (Ac _ _ _ _) _;refine Ad (ldB hb rfl) ?_)
   | (guard_target=~Af (.int _) _ _;refine At ?_)
   | (guard_target=~Af .str _ _;refine Am ?_)
   | (guard_target=~Af .bool _ _;refine Ar ?_)
  refine⟨⟨by omega,by omega⟩,?_⟩
  repeat' first
   | (guard_target=~need _ _;refine Ab rfl ?_)
   | (guard_target=~Ag (Ac _ _ _ _) _;refine Ad (ldB hb rfl) ?_)
   | (guard_target=~Af (.int _) _ _;refine At ?_)
   | (guard_target=~Af .str _ _;refine Am ?_)
   | (guard_target=~Af .bool _ _;refine Ar ?_)
  rw[tn]
  refine Aa (fun g2=>?_) fun g2=>?_
  ·have hc:Bt x.a x.q x.s i=match QE x.q x.s (i+1)with | some e=> .ok e | none=> .error (x.s.length,4):=by
    unfold Bt;rw[if_pos ⟨by omega,g2⟩]<;>(cases QE x.q x.s (i+1)<;>rfl)
   exact Ug rfl (by omega) hl h (fun k st' hq=>h0 k st' (by rw[hc,hq])) fun k st' hq=>h1 _ _ k st' (by rw[hc,hq])
  have hc:=loop i fun hh=>g2 hh.2
  refine⟨fun p' st'=>TV.box p 0=p'/\StX (PM p m) st st'/\∃k:Nat,PSD p m x hd ty l2 l3 l4 ns k n w o e st'/\k<=x.s.length/\PE x.a x.q x.s i=PE x.a x.q x.s k,
   fun _ st'=>(x.s.length-Nk st' p 10).toNat,⟨rfl,StX.refl _ _,i,h,by omega,rfl⟩,?_⟩
  rintro _ st2 ⟨rfl,e2,k,h2,hk2,hq⟩
  have hb2:=h2.bx
  have next:¬(by_ x.s k=x.a∨by_ x.s k=10∨by_ x.s k=13)->k<x.s.length->by_ x.s k≠x.q->∀st3,StX (·=p) st2 st3->st3.box p= .cells ((pcl x hd ty l2 l3 l4 m k n w o e).set 10 (.int .i64 (i64.wrap ((k:Int)+1))))->
    (TV.box p 0=TV.box p 0/\StX (PM p m) st st3/\∃k:Nat,PSD p m x hd ty l2 l3 l4 ns k n w o e st3/\k<=x.s.length/\PE x.a x.q x.s i=PE x.a x.q x.s k)/\(x.s.length-Nk st3 p 10).toNat<(x.s.length-Nk st2 p 10).toNat:=fun c1 c2 c3 st3 e3 b3=>by
   rw[w1 k (by omega)]at b3
   rw[RV c2 c1 c3]at hq
   refine⟨⟨rfl,e2.trans e3.pm,k+1,h2.of e3 b3,by omega,hq⟩,?_⟩
   rw[DY b3 rfl,DY hb2 rfl]
   omega
  repeat' first
   | (guard_target=~need _ _;refine Ab rfl ?_)
   | (guard_target=~Ag (Ac _ _ _ _) _;refine Ad (ldB hb2 rfl) ?_)
   | (guard_target=~Af (.int _) _ _;refine At ?_)
   | (guard_target=~Af .str _ _;refine Am ?_)
   | (guard_target=~Af .bool _ _;refine Ar ?_)
  refine Aa (fun q1=>?_) fun q1=>?_
  ·repeat' first
    | (guard_target=~need _ _;refine Ab rfl ?_)
    | (guard_target=~Ag (Ac _ _ _ _) _;refine Ad (ldB hb2 rfl) ?_)
    | (guard_target=~Af (.int _) _ _;refine At ?_)
    | (guard_target=~Af .str _ _;refine Am ?_)
    | (guard_target=~Af .bool _ _;refine Ar ?_)
   refine⟨⟨by omega,by omega⟩,?_⟩
   repeat' first
    | (guard_target=~need _ _;refine Ab rfl ?_)
    | (guard_target=~Ag (Ac _ _ _ _) _;refine Ad (ldB hb2 rfl) ?_)
    | (guard_target=~Af (.int _) _ _;refine At ?_)
    | (guard_target=~Af .str _ _;refine Am ?_)
    | (guard_target=~Af .bool _ _;refine Ar ?_)
   rw[tn]
   refine Aa (fun q2=>Aa (fun _=>?_) fun q3=>absurd q2 q3) fun q2=>Aa (fun q3=>Aa (fun _=>?_) fun q4=>absurd q3 q4) fun q3=>Aa (fun q4=>?_) fun q4=>?_
   ·rw[Io (by omega) (.inl q2)]at hq;exact h0 k st2 (by rw[hc,hq]) e2 h2
   ·rw[Io (by omega) (.inr (.inl q3))]at hq;exact h0 k st2 (by rw[hc,hq]) e2 h2
   ·rw[Io (by omega) (.inr (.inr q4))]at hq;exact h0 k st2 (by rw[hc,hq]) e2 h2
   ·have hno:¬(by_ x.s k=x.a∨by_ x.s k=10∨by_ x.s k=13):=by rintro(h | h | h);exact q2 h;exact q3 h;exact q4 h
    repeat' first
     | (guard_target=~need _ _;refine Ab rfl ?_)
     | (guard_target=~Ag (Ac _ _ _ _) _;refine Ad (ldB hb2 rfl) ?_)
     | (guard_target=~Af (.int _) _ _;refine At ?_)
     | (guard_target=~Af .str _ _;refine Am ?_)
     | (guard_target=~Af .bool _ _;refine Ar ?_)
    refine Aa (fun q5=>?_) fun q5=>?_
    ·repeat' first
      | (guard_target=~need _ _;refine Ab rfl ?_)
      | (guard_target=~Ag (Ac _ _ _ _) _;refine Ad (ldB hb2 rfl) ?_)
      | (guard_target=~Af (.int _) _ _;refine At ?_)
      | (guard_target=~Af .str _ _;refine Am ?_)
      | (guard_target=~Af .bool _ _;refine Ar ?_)
     rw[RW (by omega) hno q5]at hq
     exact Dh h2 fun st' e3 k3=>h1 _ _ _ st' (by rw[hc,hq]) (e2.trans e3) k3
    ·repeat' first
      | (guard_target=~need _ _;refine Ab rfl ?_)
      | (guard_target=~Ag (Ac _ _ _ _) _;refine Ad (ldB hb2 rfl) ?_)
      | (guard_target=~Af (.int _) _ _;refine At ?_)
      | (guard_target=~Af .str _ _;refine Am ?_)
      | (guard_target=~Af .bool _ _;refine Ar ?_)
     exact Fx hb2 rfl fun st3 e3 b3=>next hno (by omega) q5 st3 e3 b3
  ·rw[Pl (i:=k) (by omega)]at hq;exact h0 k st2 (by rw[hc,hq]) e2 h2
 ·--at the end
  have hc:=loop i fun hh=>by omega
  rw[Pl (i:=i) (by omega)]at hc
  refine⟨fun p' st'=>TV.box p 0=p'/\st=st',fun _ st'=>0,⟨rfl,rfl⟩,?_⟩
  rintro _ _ ⟨rfl,rfl⟩
  repeat' first
   | (guard_target=~need _ _;refine Ab rfl ?_)
   | (guard_target=~Ag (Ac _ _ _ _) _;refine Ad (ldB hb rfl) ?_)
   | (guard_target=~Af (.int _) _ _;refine At ?_)
   | (guard_target=~Af .str _ _;refine Am ?_)
   | (guard_target=~Af .bool _ _;refine Ar ?_)
  refine Aa (fun q1=>absurd q1 g) fun q1=>?_
  exact h0 i st hc (StX.refl _ _) h
abbrev PM3 (p m r:Nat):Nat->Prop:=fun i=>i=p∨i=m∨i=r
theorem StX.pm3 {p m r:Nat} {a b:St} (h:StX (PM p m) a b):StX (PM3 p m r) a b:=h.mono fun _ g=>g.elim .inl fun g=> .inr (.inl g)
theorem PSD.other {p m r:Nat} {x:Cx} {hd ty:Bool} {l2 l3 l4:Int} {ns:List B8} {i n w o e:Int} {st st':St} (h:PSD p m x hd ty l2 l3 l4 ns i n w o e st) (k:StX (·=r) st st') (hp:p≠r) (hm:m≠r):
  PSD p m x hd ty l2 l3 l4 ns i n w o e st':=h.keep k hp hm
theorem SU {i r:Nat} {c0 c1 c2 c3:TV} {K:Bool->St->Prop} (hI:I=(i:Int)) (hi:i<=x.s.length) (hl:x.s.length<=2000000) (h:PSD p m x hd ty l2 l3 l4 ns I n w o e st)
  (hrp:p≠r) (hrm:m≠r) (hrl:r<st.nb) (hr:st.box r= .cells [c0,c1,c2,c3,.str []])
  (h0:∀(k:Nat) st',Ch x.s i= .ok k->StX (PM3 p m r) st st'->PSD p m x hd ty l2 l3 l4 ns ((i+k:Nat):Int) n w o e st'->st'.box r= .cells [c0,c1,c2,c3,.str (slc x.s i (i+k))]->K true st')
  (h1:∀(o':Nat) e' (k:Int) st',Ch x.s i= .error (o',e')->StX (PM3 p m r) st st'->PSD p m x hd ty l2 l3 l4 ns k n w o' e' st'->st'.box r= .cells [c0,c1,c2,c3,.str []]->K false st'):
  CallT PR AI [.box p 0,.box r 0] [.one .bool] st K:=by
 subst hI
 have hb:=h.bx
 have tn:∀k:Nat,Int.toNat (k:Int)=k:=fun k=>rfl
 have w1:∀k:Nat,k<=x.s.length->i64.wrap ((k:Int)+1)=((k+1:Nat):Int):=fun k hk=>by rw[Ah _ (by omega) (by omega)];omega
 have rk:∀st',StX (·=p) st st'->st'.box r= .cells [c0,c1,c2,c3,.str []]:=fun st' e=>by rw[e.box r hrl (fun h=>hrp h.symm)];exact hr
 have rk2:∀st',StX (PM p m) st st'->st'.box r= .cells [c0,c1,c2,c3,.str []]:=fun st' e=>by rw[e.box r hrl (fun h=>h.elim (fun h=>hrp h.symm) fun h=>hrm h.symm)];exact hr
 have hp3:∀st1 st2,StX (PM p m) st st1->StX (·=r) st1 st2->StX (PM3 p m r) st st2:=fun st1 st2 e1 e2=>e1.pm3.trans (e2.mono fun _ g=> .inr (.inr g))
 unfold Ch at h0 h1
 refine Hj p r st K ?_
 repeat' first
  | (guard_target=~need _ _;refine Ab rfl ?_)
  | (guard_target=~Ag (Ac _ _ _ _) _;refine Ad (ldB hb rfl) ?_)
  | (guard_target=~Af (.int _) _ _;refine At ?_)
  | (guard_target=~Af .str _ _;refine Am ?_)
  | (guard_target=~Af .bool _ _;refine Ar ?_)
 refine Aa (fun g=>?_) fun g=>?_
 ·rw[if_pos (by omega)]at h0
  refine h0 0 st rfl (StX.refl _ _) h ?_
  rw[hr]
  have:slc x.s i (i+0)=[]:=List.eq_nil_of_length_eq_zero (by rw[J2 (by omega) (by omega)];omega)
  rw[this]
 rw[if_neg (by omega)]at h0 h1
 repeat' first
  | (guard_target=~need _ _;refine Ab rfl ?_)
  | (guard_target=~Ag (Ac _ _ _ _) _;refine Ad (ldB hb rfl) ?_)
  | (guard_target=~Af (.int _) _ _;refine At ?_)
  | (guard_target=~Af .str _ _;refine Am ?_)
  | (guard_target=~Af .bool _ _;refine Ar ?_)
 refine⟨⟨by omega,by omega⟩,?_⟩
 rw[tn]
 refine Aa (fun g2=>?_) fun g2=>Aa (fun g3=>?_) fun g3=>?_
 ·have g2':by_ x.s i=13:=g2
  rw[if_neg (by omega),if_neg (by omega)]at h0 h1
  repeat' first
   | (guard_target=~need _ _;refine Ab rfl ?_)
   | (guard_target=~Ag (Ac _ _ _ _) _;refine Ad (ldB hb rfl) ?_)
   | (guard_target=~Af (.int _) _ _;refine At ?_)
   | (guard_target=~Af .str _ _;refine Am ?_)
   | (guard_target=~Af .bool _ _;refine Ar ?_)
  refine Fx hb rfl fun st1 e1 b1=>?_
  rw[w1 i (by omega)]at b1
  have k1:=h.of e1 b1
  repeat' first
   | (guard_target=~need _ _;refine Ab rfl ?_)
   | (guard_target=~Ag (Ac _ _ _ _) _;refine Ad (ldB b1 rfl) ?_)
   | (guard_target=~Af (.int _) _ _;refine At ?_)
   | (guard_target=~Af .str _ _;refine Am ?_)
   | (guard_target=~Af .bool _ _;refine Ar ?_)
  refine Aa (fun g3=>?_) fun g3=>?_
  ·rw[if_pos (by omega)]at h1
   repeat' first
    | (guard_target=~need _ _;refine Ab rfl ?_)
    | (guard_target=~Ag (Ac _ _ _ _) _;refine Ad (ldB b1 rfl) ?_)
    | (guard_target=~Af (.int _) _ _;refine At ?_)
    | (guard_target=~Af .str _ _;refine Am ?_)
    | (guard_target=~Af .bool _ _;refine Ar ?_)
   have e3:((i+1:Nat):Int)=(x.s.length:Int):=g3
   rw[e3]
   exact Dh k1 fun st2 e2 k2=>h1 _ _ _ st2 rfl (e1.pm.trans e2).pm3 k2 (rk2 _ (e1.pm.trans e2))
  rw[if_neg (by omega)]at h0 h1
  repeat' first
   | (guard_target=~need _ _;refine Ab rfl ?_)
   | (guard_target=~Ag (Ac _ _ _ _) _;refine Ad (ldB b1 rfl) ?_)
   | (guard_target=~Af (.int _) _ _;refine At ?_)
   | (guard_target=~Af .str _ _;refine Am ?_)
   | (guard_target=~Af .bool _ _;refine Ar ?_)
  refine⟨⟨by omega,by omega⟩,?_⟩
  rw[tn]
  refine Aa (fun g4=>?_) fun g4=>?_
  ·have g4':by_ x.s (i+1)≠10:=g4
   rw[if_neg g4']at h1
   exact Dh k1 fun st2 e2 k2=>h1 _ _ _ st2 rfl (e1.pm.trans e2).pm3 k2 (rk2 _ (e1.pm.trans e2))
  ·have g4':by_ x.s (i+1)=10:=Decidable.not_not.1 g4
   rw[if_pos g4']at h0
   repeat' first
    | (guard_target=~need _ _;refine Ab rfl ?_)
    | (guard_target=~Ag (Ac _ _ _ _) _;refine Ad (ldB b1 rfl) ?_)
    | (guard_target=~Af (.int _) _ _;refine At ?_)
    | (guard_target=~Af .str _ _;refine Am ?_)
    | (guard_target=~Af .bool _ _;refine Ar ?_)
   refine Fx b1 rfl fun st2 e2 b2=>?_
   rw[w1 (i+1) (by omega)]at b2
   have k2:=k1.of e2 b2
   repeat' first
    | (guard_target=~need _ _;refine Ab rfl ?_)
    | (guard_target=~Ag (Ac _ _ _ _) _;refine Ad (ldB b2 rfl) ?_)
    | (guard_target=~Af (.int _) _ _;refine At ?_)
    | (guard_target=~Af .str _ _;refine Am ?_)
    | (guard_target=~Af .bool _ _;refine Ar ?_)
   refine⟨⟨by omega,by omega,by omega⟩,Fx (rk st2 (e1.trans e2)) rfl fun st3 e3 b3=>?_⟩
   exact h0 2 st3 rfl (hp3 _ _ (e1.pm.trans e2.pm) e3) (k2.other e3 hrp hrm) b3
 ·have g3':by_ x.s i=10:=g3
  rw[if_pos g3']at h0
  repeat' first
   | (guard_target=~need _ _;refine Ab rfl ?_)
   | (guard_target=~Ag (Ac _ _ _ _) _;refine Ad (ldB hb rfl) ?_)
   | (guard_target=~Af (.int _) _ _;refine At ?_)
   | (guard_target=~Af .str _ _;refine Am ?_)
   | (guard_target=~Af .bool _ _;refine Ar ?_)
  refine Fx hb rfl fun st1 e1 b1=>?_
  rw[w1 i (by omega)]at b1
  have k1:=h.of e1 b1
  repeat' first
   | (guard_target=~need _ _;refine Ab rfl ?_)
   | (guard_target=~Ag (Ac _ _ _ _) _;refine Ad (ldB b1 rfl) ?_)
   | (guard_target=~Af (.int _) _ _;refine At ?_)
   | (guard_target=~Af .str _ _;refine Am ?_)
   | (guard_target=~Af .bool _ _;refine Ar ?_)
  refine⟨⟨by omega,by omega,by omega⟩,Fx (rk st1 e1) rfl fun st3 e3 b3=>?_⟩
  exact h0 1 st3 rfl (hp3 _ _ e1.pm e3) (k1.other e3 hrp hrm) b3
 ·have g2':by_ x.s i≠13:=g2
  have g3':by_ x.s i≠10:=g3
  rw[if_neg g3',if_pos g2']at h1
  exact Dh h fun st2 e2 k2=>h1 _ _ _ st2 rfl e2.pm3 k2 (rk2 _ e2)
end
end
def As:Nd->List Nd | .mk _ _ _ ks _=>ks
def AB (n:Nd):B8:=match As n with | .mk _ _ c _ _::_=>c | []=>[]
theorem B4 (s:B8) (i e:Nat) (m:List Nd):AB (JI s i e m)=slc s i e:=rfl
theorem LP {x:Cx} {i:Nat} {v:Int} {ns:List B8} {e:Nat} {v1:Int} {ns1:List B8} (h:Ei x false i v ns= .ok (e,v1,ns1)):
  3<=x.dep/\v<x.nod/\v1=v+1/\ns1=ns/\Bt x.a x.q x.s i= .ok e/\(txt x.q (slc x.s i e)).length<=65536:=by
 simp only[Ei,EB,Bool.false_eq_true,if_false,false_and]at h
 split at h
 ·cases h
 ·split at h
  ·cases h
  ·simp only[bind,Except.bind]at h
   split at h
   ·cases h
   ·rename_i e' he
    split at h
    ·cases h
    ·cases h
     exact⟨by omega,by omega,rfl,rfl,he,by omega⟩
theorem RB {x:Cx} {i:Nat} {v:Int} {ns:List B8} {e:Nat} (h1:3<=x.dep) (h2:v<x.nod) (h3:Bt x.a x.q x.s i= .ok e) (h4:(txt x.q (slc x.s i e)).length<=65536):
  Ei x false i v ns= .ok (e,v+1,ns):=by
 simp only[Ei,EB,Bool.false_eq_true,if_false,false_and]
 rw[if_neg (by omega),if_neg (by omega)]
 simp only[bind,Except.bind,h3]
 rw[if_neg (by omega)]
theorem entE_9 {x:Cx} {i:Nat} {v:Int} {ns:List B8} (h:x.dep<3):Ei x false i v ns= .error (i,9):=by
 simp only[Ei,EB,Bool.false_eq_true,if_false]
 rw[if_pos h];rfl
theorem entE_10 {x:Cx} {i:Nat} {v:Int} {ns:List B8} (h:3<=x.dep) (h2:x.nod<=v):Ei x false i v ns= .error (i,10):=by
 simp only[Ei,EB,Bool.false_eq_true,if_false]
 rw[if_neg (by omega),if_pos h2];rfl
theorem MN {x:Cx} {i:Nat} {v:Int} {ns:List B8} {e:Nat} {v1:Int} {ns1:List B8} (h:Ei x true i v ns= .ok (e,v1,ns1)):
  v1=v/\Bt x.a x.q x.s i= .ok e/\(txt x.q (slc x.s i e)).length<=1024:=by
 simp only[Ei,if_true,true_and]at h
 simp only[bind,Except.bind]at h
 split at h
 ·cases h
 ·rename_i e' he
  split at h
  ·cases h
  ·split at h
   ·cases h
   ·cases h
    exact⟨rfl,he,by omega⟩
abbrev Cx.lim (x:Cx) (d n:Int):Cx:={x with dep:=d,nod:=n}
theorem Xo {x:Cx} {num hd:Bool} {wid:Int}:∀(n:Nat) {acc:List Nd} {i:Nat} {v:Int} {ns:List B8} {e:Nat} {v':Int} {ns':List B8} {out:List Nd},
  i<=x.s.length->BX x num wid hd n acc i v ns= .ok (e,v',ns',out)->∃ks m,out=acc++ks/\HJ x.a x.q x.s i ks e m/\v'=v+(if hd then 0 else(ks.length:Int))/\
   (∀k∈ks,(txt x.q (AB k)).length<=65536)/\(num=true->(out.length:Int)<=wid)/\(hd=false->3<=x.dep/\v'<=x.nod/\ns'=ns):=by
 intro n
 induction n with
 | zero=>intro acc i v ns e v' ns' out hi h;simp only[BX]at h;cases h
 | succ n ih=>
  intro acc i v ns e v' ns' out hi h
  simp only[BX]at h
  split at h
  ·cases h
  rename_i hw
  simp only[bind,Except.bind]at h
  split at h
  ·cases h
  rename_i p he
  obtain⟨e1,v1,ns1⟩:=p
  have hent:Bt x.a x.q x.s i= .ok e1/\(txt x.q (slc x.s i e1)).length<=65536/\v1=v+(if hd then 0 else 1)/\(hd=false->3<=x.dep/\v1<=x.nod/\ns1=ns):=by
   cases hd with
   | false=>have:=LP he;exact⟨this.2.2.2.2.1,this.2.2.2.2.2,by simpa using this.2.2.1,fun _=>⟨this.1,by omega,this.2.2.2.1⟩⟩
   | true=>have:=MN he;exact⟨this.2.1,by omega,by simpa using this.1,fun h=>by cases h⟩
  obtain⟨c1,c2,c3,c4⟩:=hent
  have hle:=Cd hi c1
  simp only at h
  split at h
  ·rename_i hm
   obtain⟨ks,m,k1,k2,k3,k4,k5,k6⟩:=ih (by omega) h
   refine⟨_::ks,m,by rw[k1,List.append_assoc];rfl,.more c1 hm.1 hm.2 k2,?_,?_,k5,fun hh=>?_⟩
   ·rw[k3,c3];cases hd<;>simp<;>omega
   ·intro k hk
    rcases List.mem_cons.1 hk with rfl | hk
    ·exact c2
    ·exact k4 k hk
   ·have:=k6 hh;have:=c4 hh;exact⟨by omega,by omega,by rw[(k6 hh).2.2,this.2.2]⟩
  ·rename_i hm
   split at h
   ·cases h
   rename_i m hm2
   cases h
   refine⟨_,_,rfl,.last c1 hm hm2,by rw[c3];cases hd<;>simp,?_,?_,fun hh=>⟨(c4 hh).1,(c4 hh).2.1,(c4 hh).2.2⟩⟩
   ·intro k hk
    rw[List.mem_singleton]at hk;subst hk;exact c2
   ·intro hn
    rw[List.length_append,List.length_singleton]
    have:¬wid<=(acc.length:Int):=fun h=>hw ⟨hn,h⟩
    omega
theorem recE_of {x:Cx} {num:Bool} {wid:Int} (hdep:3<=x.dep):∀{i:Nat} {ks:List Nd} {e m:Nat},HJ x.a x.q x.s i ks e m->∀(n:Nat) {acc:List Nd} {v:Int} {ns:List B8},
  i<=x.s.length->x.s.length<i+n->(∀k∈ks,(txt x.q (AB k)).length<=65536)->(num=true->((acc.length+ks.length:Nat):Int)<=wid)->v+(ks.length:Int)<=x.nod->BX x num wid false n acc i v ns= .ok (e,v+(ks.length:Int),ns,acc++ks):=by
 intro i ks e m h
 induction h with
 | @last i e m h1 h2 h3=>
  intro n acc v ns hi hn hk hw hv
  cases n with
  | zero=>omega
  | succ n=>
  simp only[BX]
  rw[if_neg (by rintro⟨h,h'⟩;have:=hw h;simp at this;omega)]
  have hc:=hk _ (List.mem_singleton.2 rfl)
  rw[B4]at hc
  rw[RB hdep (by simp at hv;omega) h1 hc]
  simp only[bind,Except.bind]
  rw[if_neg h2,h3]
  rfl
 | @more i e e' m ks h1 h2 h3 h4 ih=>
  intro n acc v ns hi hn hk hw hv
  cases n with
  | zero=>omega
  | succ n=>
  simp only[BX]
  simp only[List.length_cons]at hw hv
  rw[if_neg (by rintro⟨h,h'⟩;have:=hw h;omega)]
  have hc:=hk _ (List.mem_cons_self ..)
  rw[B4]at hc
  rw[RB hdep (by omega) h1 hc]
  simp only[bind,Except.bind]
  have hle:=Cd hi h1
  rw[if_pos ⟨h2,h3⟩,ih n (by omega) (by omega) (fun k hk2=>hk k (List.mem_cons_of_mem _ hk2)) (fun h=>by have:=hw h;rw[List.length_append,List.length_singleton];omega) (by omega),List.append_assoc,List.length_cons]
  congr 2
  have:v+1+(ks.length:Int)=v+((ks.length+1:Nat):Int):=by omega
  rw[this];rfl
theorem Wm {x:Cx} {num:Bool} {wid:Int} (d' n':Int):∀(n:Nat) {acc:List Nd} {i:Nat} {v:Int} {ns:List B8},
  BX (x.lim d' n') num wid true n acc i v ns=BX x num wid true n acc i v ns:=by
 intro n
 induction n with
 | zero=>intros;rfl
 | succ n ih=>
  intro acc i v ns
  simp only[BX]
  have:Ei (x.lim d' n') true i v ns=Ei x true i v ns:=rfl
  rw[this]
  simp only[ih]
theorem Xn {x:Cx} {num:Bool} {wid:Int} {d' n':Int}:∀(n:Nat) {acc:List Nd} {i:Nat} {v:Int} {ns:List B8} {e:Nat} {v':Int} {ns':List B8} {out:List Nd},
  BX x num wid false n acc i v ns= .ok (e,v',ns',out)->v<v'/\(3<=d'->v'<=n'->BX (x.lim d' n') num wid false n acc i v ns= .ok (e,v',ns',out))/\
   (3<=d'->n'<v'->∃o,BX (x.lim d' n') num wid false n acc i v ns= .error (o,10))/\(d'<3->∃o,BX (x.lim d' n') num wid false n acc i v ns= .error (o,9)):=by
 intro n
 induction n with
 | zero=>intro acc i v ns e v' ns' out h;simp only[BX]at h;cases h
 | succ n ih=>
  intro acc i v ns e v' ns' out h
  simp only[BX]at h⊢
  split at h
  ·cases h
  rename_i hw
  rw[if_neg hw]
  simp only[bind,Except.bind]at h⊢
  split at h
  ·cases h
  rename_i p he
  obtain⟨e1,v1,ns1⟩:=p
  obtain⟨c1,c2,rfl,rfl,c3,c4⟩:=LP he
  simp only at h
  have e9:d'<3->Ei (x.lim d' n') false i v ns1= .error (i,9):=fun h=>entE_9 h
  have e10:3<=d'->n'<=v->Ei (x.lim d' n') false i v ns1= .error (i,10):=fun h h2=>entE_10 h h2
  have eok:3<=d'->v<n'->Ei (x.lim d' n') false i v ns1= .ok (e1,v+1,ns1):=fun h h2=>RB h h2 c3 c4
  split at h
  ·rename_i hm
   obtain⟨k0,k1,k2,k3⟩:=ih h
   refine⟨by omega,fun h1 h2=>?_,fun h1 h2=>?_,fun h1=>?_⟩
   ·rw[eok h1 (by omega)]
    simp only
    rw[if_pos hm];exact k1 h1 h2
   ·by_cases hv:n'<=v
    ·rw[e10 h1 hv];exact⟨_,rfl⟩
    ·rw[eok h1 (by omega)]
     simp only
     rw[if_pos hm];exact k2 h1 h2
   ·rw[e9 h1];exact⟨_,rfl⟩
  ·rename_i hm
   split at h
   ·cases h
   rename_i m hm2
   cases h
   refine⟨by omega,fun h1 h2=>?_,fun h1 h2=>?_,fun h1=>?_⟩
   ·rw[eok h1 (by omega)]
    simp only
    rw[if_neg hm,hm2]
   ·rw[e10 h1 (by omega)];exact⟨_,rfl⟩
   ·rw[e9 h1];exact⟨_,rfl⟩
def GY (s:B8) (num:Bool) (wid:Int) (R:Except (Nat×Int) (Nat×Int×List B8×List Nd)):Except (Nat×Int) (Nat×Int×List B8×Nd×Int):=
 match R with
 | .error e=> .error e
 | .ok (e,v2,ns2,ks)=>match Ch s e with
  | .error e=> .error e
  | .ok n=>if (ks.length:Int)<(if num then wid else(ks.length:Int))then .error (e,10)else .ok (e+n,v2,ns2,.mk 8 [] [] ks (slc s e (e+n)),if num then wid else(ks.length:Int))
theorem FI (x:Cx) (num:Bool) (wid:Int) (hd:Bool) (i:Nat) (v:Int) (ns:List B8):FJ x num wid hd i v ns=
  if hd=true then GY x.s num wid (BX x num wid hd (x.s.length+1) [] i v ns)else match EB x.dep x.nod 2 i v with
   | .error e=> .error e
   | .ok v1=>GY x.s num wid (BX x num wid hd (x.s.length+1) [] i v1 ns):=by
 unfold FJ GY
 cases hd with
 | true=>
  simp only[if_true,bind,Except.bind]
  rcases BX x num wid true (x.s.length+1) [] i v ns with e | ⟨e,v2,ns2,ks⟩
  ·rfl
  ·cases h:Ch x.s e<;>simp[h]
 | false=>
  simp only[Bool.false_eq_true,if_false,bind,Except.bind]
  cases EB x.dep x.nod 2 i v with
  | error e=>rfl
  | ok v1=>
   simp only
   rcases BX x num wid false (x.s.length+1) [] i v1 ns with e | ⟨e,v2,ns2,ks⟩
   ·rfl
   ·cases h:Ch x.s e<;>simp[h]
theorem NV {dep nod d:Int} {i:Nat} {v v1:Int} (h:EB dep nod d i v= .ok v1):v1=v+1:=by
 unfold EB at h
 split at h
 ·cases h
 split at h
 ·cases h
 ·cases h;rfl
theorem Ga {x:Cx} {num hd:Bool} {wid:Int} {i:Nat} {v:Int} {ns:List B8} {p:Nat×Int×List B8×Nd×Int} (h:FJ x num wid hd i v ns= .ok p):
  ∃v1,v1=v+(if hd then 0 else 1)/\GY x.s num wid (BX x num wid hd (x.s.length+1) [] i v1 ns)= .ok p:=by
 rw[FI]at h
 cases hd with
 | true=>exact⟨v,by simp,by simpa using h⟩
 | false=>
  simp only[Bool.false_eq_true,if_false]at h
  split at h
  ·cases h
  ·rename_i v1 h1
   exact⟨v1,by simpa using NV h1,h⟩
theorem LF {s:B8} {num:Bool} {wid:Int} {R:Except (Nat×Int) (Nat×Int×List B8×List Nd)} {p:Nat×Int×List B8×Nd×Int} (h:GY s num wid R= .ok p):
  ∃e v2 ns2 ks m,R= .ok (e,v2,ns2,ks)/\Ch s e= .ok m/\¬(ks.length:Int)<(if num then wid else(ks.length:Int))/\p=(e+m,v2,ns2,.mk 8 [] [] ks (slc s e (e+m)),if num then wid else(ks.length:Int)):=by
 unfold GY at h
 split at h
 ·cases h
 rename_i e v2 ns2 ks
 split at h
 ·cases h
 rename_i m hm
 by_cases hw:(ks.length:Int)<(if num then wid else(ks.length:Int))
 ·rw[if_pos hw]at h;cases h
 ·rw[if_neg hw]at h
  exact⟨e,v2,ns2,ks,m,rfl,hm,hw,(Except.ok.inj h).symm⟩
section
theorem Me (st:St) {a:Int} (c:UInt8) (hc:(c.toNat:Int)=a):(toBytes st (.list 1 .full 1 [.int .u8 a])).map TV.str=some (.str [c]):=by
 have:UInt8.ofNat a.toNat=c:=by rw[<-hc];simp
 rw[<-this];rfl
def G9 (x:Cx) (i e:Nat):Nd:=JI x.s i e (if e<x.s.length/\by_ x.s e=x.a then [.mk 11 [] [x.s.getD e 0] [] []]else [])
def LQ (x:Cx) (e:Nat):Nat:=if e<x.s.length/\by_ x.s e=x.a then e+1 else e
def Xd (c:B8):List TV:=[.int .i64 2,.str [],.str c,.nilSlice,.str []]
def mrkC (c:UInt8):List TV:=[.int .i64 11,.str [],.str [c],.nilSlice,.str []]
theorem NdC.leaf (k:Int) (t:B8):NdC (.mk k [] t [] []) [.int .i64 k,.str [],.str t,.nilSlice,.str []]:=by
 unfold NdC;exact⟨_,[],rfl,.inl ⟨rfl,rfl,rfl⟩,AU.nil⟩
theorem NdC.ent1 {s:B8} {i e:Nat} {v:TV} (h:Rd 5 v 1 (Xd (slc s i e))):NdC (JI s i e []) [.int .i64 5,.str [],.str [],v,.str []]:=by
 unfold JI NdC
 exact⟨v,_,rfl,h,AU.one (NdC.leaf 2 _)⟩
theorem NdC.ent2 {s:B8} {i e:Nat} {c:UInt8} {v:TV} (h:Rd 5 v 2 (Xd (slc s i e)++mrkC c)):NdC (JI s i e [.mk 11 [] [c] [] []]) [.int .i64 5,.str [],.str [],v,.str []]:=by
 unfold JI NdC
 exact⟨v,_,rfl,h,AU.append (AU.one (NdC.leaf 2 _)) (AU.one (NdC.leaf 11 _))⟩
theorem Kc {S:Nat->Prop} {T sz bytes:Nat} {st0 st:St} {v:TV} {n k:Nat} {xs ys:List TV} {K:TV->St->Prop} (e:StX S st0 st) (h:Own st0.nt sz st v n xs) (hby:(n+k)*bytes<=140737488355328) (hys:k=0->ys=[])
  (hK:∀v' st',StX S st0 st'->st'.box=st.box->st'.nb=st.nb->Own st0.nt sz st' v' (n+k) (xs++ys)->K v' st'):AV T sz bytes v k ys st K:=by
 have ef:∀st' T,StX S st0 st'->StX S st0 (st'.fresh T):=fun st' T h=>h.trans (StX.of ((Aq.refl st').fresh _))
 rcases h with⟨rfl,rfl,rfl⟩ | ⟨tip,rfl,ht⟩
 ·simp only[AV]
  cases k with
  | zero=>rw[hys rfl]at hK;exact hK _ _ e rfl rfl (.nil _ _ _)
  | succ m=>
   simp only[Au]
   refine⟨by simpa using hby,hK _ _ (ef _ _ e) rfl rfl ?_⟩
   simp only[List.nil_append,Nat.zero_add]
   exact Own.fresh _ _ e.nt
 ·simp only[AV,Nat.beq_refl]
  refine⟨hby,?_⟩
  rcases ht with rfl | ⟨id,rfl,h1,h2,h3⟩
  ·cases k with
   | zero=>rw[hys rfl]at hK;simp only[List.append_nil]at hK;exact hK _ _ e rfl rfl (Own.full _ _ _ _ _)
   | succ m=>exact hK _ _ (ef _ _ e) rfl rfl (Own.fresh _ _ e.nt)
  ·have er:StX S st0 (st.retire id):=⟨e.nb,e.box,e.nt,fun i hi=>by simp only[St.retire];rw[if_neg (by omega)];exact e.live i hi,e.ty,e.bt⟩
   exact⟨h3,hK _ _ (ef _ _ er) rfl rfl (Own.fresh (st:=st.retire id) _ _ e.nt)⟩
theorem PSD.same {p m:Nat} {x:Cx} {hd ty:Bool} {l2 l3 l4:Int} {ns:List B8} {i n w o e:Int} {st st':St} (h:PSD p m x hd ty l2 l3 l4 ns i n w o e st) (hb:st'.box=st.box) (hn:st'.nb=st.nb):
  PSD p m x hd ty l2 l3 l4 ns i n w o e st':=by
 obtain⟨es,h1,h2⟩:=h.mp
 exact⟨h.ne,by rw[hn];exact h.lp,by rw[hn];exact h.lm,by rw[hb];exact h.bx,es,by rw[hb];exact h1,h2⟩
theorem GD {v:TV} (h:Ap v=true):List.all [v] Ap=true:=by simp[h]
def PQ (x:Cx) (hd:Bool) (i:Nat) (v1:Int) (ns:List B8):Except (Nat×Int) (Nat×Int×List B8):=
 match Bt x.a x.q x.s i with
 | .error e=> .error e
 | .ok e=>if (if hd then 1024 else 65536)<(txt x.q (slc x.s i e)).length then .error (i,10)else if hd/\txt x.q (slc x.s i e)∈ns then .error (i,8)
  else .ok (e,v1,if hd then txt x.q (slc x.s i e)::ns else ns)
theorem NR (x:Cx) (hd:Bool) (i:Nat) (v:Int) (ns:List B8):Ei x hd i v ns=if hd=true then PQ x hd i v ns else match EB x.dep x.nod 3 i v with
  | .error e=> .error e
  | .ok v1=>PQ x hd i v1 ns:=by
 unfold Ei PQ
 cases hd with
 | true=>simp only[if_true,bind,Except.bind];cases Bt x.a x.q x.s i<;>rfl
 | false=>
  simp only[Bool.false_eq_true,if_false,bind,Except.bind]
  cases EB x.dep x.nod 3 i v with
  | error e=>rfl
  | ok v1=>simp only;cases Bt x.a x.q x.s i<;>rfl
section
variable {p m:Nat} {x:Cx} {hd ty:Bool} {l2 l3 l4:Int} {ns:List B8} {I v w o e:Int} {st:St}
theorem Wx {i:Nat} {header:Bool} {K:Int->B8->B8->TV->B8->Bool->St->Prop} (hI:I=(i:Int)) (hi:i<=x.s.length) (hl:x.s.length<=2000000) (hv0:0<=v) (hv:v<1000000000)
  (h:PSD p m x hd ty l2 l3 l4 ns I v w o e st)
  (h0:∀(k:Nat) v1 ns1 kv st',Ei x header i v ns= .ok (k,v1,ns1)->StX (PM p m) st st'->PSD p m x hd ty l2 l3 l4 ns1 (LQ x k:Nat) v1 w o e st'->NdC (G9 x i k) [.int .i64 5,.str [],.str [],kv,.str []]->Rd 5 kv (if k<x.s.length/\by_ x.s k=x.a then 2 else 1) (if k<x.s.length/\by_ x.s k=x.a then Xd (slc x.s i k)++mrkC (x.s.getD k 0)else Xd (slc x.s i k))->K 5 [] [] kv [] true st')
  (h1:∀(o':Nat) e' (k v1:Int) kv st',Ei x header i v ns= .error (o',e')->StX (PM p m) st st'->PSD p m x hd ty l2 l3 l4 ns k v1 w o' e' st'->Ap kv=true->K 5 [] [] kv [] false st'):
  CallT PR AO [.box p 0,.bool header] [.agg [.int .i64,.str,.str,.tv,.str],.one .bool] st K:=by
 subst hI
 have hb:=h.bx
 have tn:∀k:Nat,Int.toNat (k:Int)=k:=fun k=>rfl
 have w1:∀k:Nat,k<=x.s.length->i64.wrap ((k:Int)+1)=((k+1:Nat):Int):=fun k hk=>by rw[Ah _ (by omega) (by omega)];omega
 --behind the checks
 have fin:∀(k:Nat) (v1:Int) ns1,i<=k->k<=x.s.length->Ei x header i v ns= .ok (k,v1,ns1)->
   ∀(v4:TV) (st8:St),StX (PM p m) st st8->PSD p m x hd ty l2 l3 l4 ns1 k v1 w o e st8->Own st.nt 5 st8 v4 1 (Xd (slc x.s i k))->
    (k<x.s.length->by_ x.s k=x.a->∀st9,StX (·=p) st8 st9->st9.box p= .cells ((pcl x hd ty l2 l3 l4 m k v1 w o e).set 10 (.int .i64 (i64.wrap ((k:Int)+1))))->AV 79 5 80 v4 1 (mrkC (x.s.getD k 0)) st9 fun v5 st10=>need (List.all [v5] Ap) (need (List.all [.int .i64 5,.str [],.str [],v5,.str []] Ap) (K 5 [] [] v5 [] true st10)))/\
    (¬(k<x.s.length/\by_ x.s k=x.a)->K 5 [] [] v4 [] true st8):=by
  intro k v1 ns1 hik hk he v4 st8 e8 k8 o8
  refine⟨fun c1 c2 st9 e9 b9=>?_,fun c=>?_⟩
  ·rw[w1 k (by omega)]at b9
   have hen:G9 x i k=JI x.s i k [.mk 11 [] [x.s.getD k 0] [] []]:=by unfold G9;rw[if_pos ⟨c1,c2⟩]
   refine Kc (e8.trans e9.pm) (o8.extXD e9) (by omega) (fun h=>by cases h) fun v5 st10 e10 hbx hnb o10=>Ab (GD o10.rd.one) (Ab (Co o10.rd.one) ?_)
   refine h0 k v1 ns1 v5 st10 he e10 ?_ (by rw[hen];exact NdC.ent2 o10.rd) (by rw[if_pos ⟨c1,c2⟩,if_pos ⟨c1,c2⟩];exact o10.rd)
   have:LQ x k=k+1:=by unfold LQ;rw[if_pos ⟨c1,c2⟩]
   rw[this]
   exact(k8.of e9 b9).same hbx hnb
  ·have hen:G9 x i k=JI x.s i k []:=by unfold G9;rw[if_neg c]
   refine h0 k v1 ns1 v4 st8 he e8 ?_ (by rw[hen];exact NdC.ent1 o8.rd) (by rw[if_neg c,if_neg c];exact o8.rd)
   have:LQ x k=k:=by unfold LQ;rw[if_neg c]
   rw[this]
   exact k8
 refine ID p header st K (Ak (fun hh=>?_) fun hh=>?_)
 case' refine_1=>
  have hh:header=false:=by simpa using hh
  rw[NR,if_neg (by rw[hh];decide)]at h0 h1 fin
  refine Qd rfl hv0 hv h (fun v' st1 hb1 e1 k1=>?_) fun o' e' st1 hb1 e1 k1=>?_
  case' refine_2=>
   rw[hb1]at h1
   exact Ak (fun _=>h1 _ _ _ _ _ st1 rfl e1 k1 rfl) fun h=>by cases h
  rw[hb1]at h0 h1 fin
  refine Ak (fun h=>by cases h) fun _=>?_
  simp only at h0 h1 fin
 case' refine_2=>
  have hh:header=true:=by simpa using hh
  rw[NR,if_pos hh]at h0 h1 fin
  obtain⟨v',hv'⟩:∃v',v'=v:=⟨_,rfl⟩
  obtain⟨st1,hst1⟩:∃st1,st1=st:=⟨_,rfl⟩
  have e1:StX (PM p m) st st1:=hst1▸StX.refl _ _
  have k1:PSD p m x hd ty l2 l3 l4 ns i v' w o e st1:=by rw[hst1,hv'];exact h
  rw[<-hst1]
  rw[<-hv']at h0 h1 fin
 all_goals
  have b1:=k1.bx
  repeat' first
   | (guard_target=~need _ _;refine Ab rfl ?_)
   | (guard_target=~Ag (Ac _ _ _ _) _;refine Ad (ldB b1 rfl) ?_)
   | (guard_target=~Af (.int _) _ _;refine At ?_)
   | (guard_target=~Af .str _ _;refine Am ?_)
   | (guard_target=~Af .bool _ _;refine Ar ?_)
  refine Xy rfl hi hl k1 (fun k st2 hc e2 k2=>?_) fun o' e' k st2 hc e2 k2=>?_
  case' refine_2=>
   unfold PQ at h1
   rw[hc]at h1
   exact Ak (fun _=>h1 _ _ _ _ _ st2 rfl (e1.trans e2) k2 rfl) fun h=>by cases h
  refine Ak (fun h=>by cases h) fun _=>?_
  have hle:=Cd hi hc
  have hW:=NT hi hc
  have b2:=k2.bx
  unfold PQ at h0 h1 fin
  rw[hc]at h0 h1 fin
  simp only at h0 h1 fin
  repeat' first
   | (guard_target=~need _ _;refine Ab rfl ?_)
   | (guard_target=~Ag (Ac _ _ _ _) _;refine Ad (ldB b2 rfl) ?_)
   | (guard_target=~Af (.int _) _ _;refine At ?_)
   | (guard_target=~Af .str _ _;refine Am ?_)
   | (guard_target=~Af .bool _ _;refine Ar ?_)
  refine⟨⟨by omega,by omega,by omega⟩,Ad (x:= .agg [.int .u8 x.a,.int .u8 x.q,.bool hd,.bool ty]) (by rw[ldsB b2 rfl rfl];rfl) ?_⟩
  rw[tn,tn]
  refine Oi hW (by show(slc x.s i k).length<=_;rw[J2 hle.1 hle.2];omega) fun st3 e3=>?_
  have k3:=k2.keep (StX.of (S:=fun _=>False) e3) (fun h=>h) (fun h=>h)
  have e4:=(e1.trans e2).trans (StX.of e3)
  refine⟨fun mo p' hd' fr c t kd ld tx kv tl st'=>mo=(if header then 1024 else 65536)/\TV.box p 0=p'/\header=hd'/\(i:Int)=fr/\slc x.s i k=c/\txt x.q (slc x.s i k)=t/\5=kd/\[]=ld/\[]=tx/\TV.nilSlice=kv/\[]=tl/\st3=st',
   Ak (fun h=>⟨by rw[h];rfl,rfl,rfl,rfl,rfl,rfl,rfl,rfl,rfl,rfl,rfl,rfl⟩) (fun h=>⟨by rw[h];rfl,rfl,rfl,rfl,rfl,rfl,rfl,rfl,rfl,rfl,rfl,rfl⟩),?_⟩
  rintro _ _ _ _ _ _ _ _ _ _ _ _ ⟨rfl,rfl,rfl,rfl,rfl,rfl,rfl,rfl,rfl,rfl,rfl,rfl⟩
  refine Aa (fun g=>?_) fun g=>?_
  ·rw[if_pos (by cases header<;>simp at g⊢<;>omega)]at h1
   exact Dh k3 fun st4 e5 k4=>Ab rfl (h1 _ _ _ _ _ st4 rfl (e4.trans e5) k4 rfl)
  rw[if_neg (by cases header<;>simp at g⊢<;>omega)]at h0 h1 fin
  have b3:=k3.bx
  obtain⟨es,hm1,hm2⟩:=k3.mp
  refine Ak (fun g2=>?_) fun g2=>?_
  case' refine_1=>
   repeat' first
    | (guard_target=~need _ _;refine Ab rfl ?_)
    | (guard_target=~Ag (Ac _ _ _ _) _;refine Ad (ldB b3 rfl) ?_)
    | (guard_target=~Af (.int _) _ _;refine At ?_)
    | (guard_target=~Af .str _ _;refine Am ?_)
    | (guard_target=~Af .bool _ _;refine Ar ?_)
   refine Ad (x:=es) (by simp only[JE,hm1]) ?_
   rw[hm2]
   by_cases hin:txt x.q (slc x.s i k)∈ns
   case' pos=>
    rw[if_pos hin]
    rw[if_pos ⟨g2,hin⟩]at h1
    refine Ar (Ak (fun _=>?_) fun h=>by cases h)
    exact Dh k3 fun st4 e5 k4=>Ab rfl (h1 _ _ _ _ _ st4 rfl (e4.trans e5) k4 rfl)
   rw[if_neg hin]
   rw[if_neg (by rintro⟨_,h⟩;exact hin h),if_pos g2]at h0 fin
   refine Ar (Ak (fun h=>by cases h) fun _=>?_)
   repeat' first
    | (guard_target=~need _ _;refine Ab rfl ?_)
    | (guard_target=~Ag (Ac _ _ _ _) _;refine Ad (ldB b3 rfl) ?_)
    | (guard_target=~Af (.int _) _ _;refine At ?_)
    | (guard_target=~Af .str _ _;refine Am ?_)
    | (guard_target=~Af .bool _ _;refine Ar ?_)
   refine⟨es,hm1,?_⟩
   obtain⟨st7,hst7⟩:∃st7,st7=st3.put m (.map (Km (txt x.q (slc x.s i k)) (.bool true) es)):=⟨_,rfl⟩
   rw[<-hst7]
   have e7:StX (PM p m) st st7:=by rw[hst7];exact e4.trans (StX.put (.inr rfl) _)
   have k7:PSD p m x hd ty l2 l3 l4 (txt x.q (slc x.s i k)::ns) k v' w o e st7:=by
    refine⟨k3.ne,by rw[hst7];exact k3.lp,by rw[hst7];exact k3.lm,?_,_,?_,hm2.add _⟩
    ·rw[hst7];simp only[St.put];rw[if_neg k3.ne];exact k3.bx
    ·rw[hst7,E3]
  case' refine_2=>
   rw[if_neg (by rintro⟨h,_⟩;rw[g2]at h;cases h),if_neg (by rw[g2];decide)]at h0 fin
   obtain⟨st7,hst7⟩:∃st7,st7=st3:=⟨_,rfl⟩
   rw[<-hst7]
   have e7:StX (PM p m) st st7:=by rw[hst7];exact e4
   have k7:PSD p m x hd ty l2 l3 l4 ns k v' w o e st7:=by rw[hst7];exact k3
  all_goals
   refine Kc e7 (Own.nil _ _ _) (by omega) (fun h=>by cases h) fun v4 st8 e8 hbx hnb o8=>Ab (GD o8.rd.one) ?_
   have k8:=k7.same hbx hnb
   have b8:=k8.bx
   obtain⟨f1,f2⟩:=fin k v' _ hle.1 hle.2 rfl v4 st8 e8 k8 o8
   repeat' first
    | (guard_target=~need _ _;refine Ab rfl ?_)
    | (guard_target=~Ag (Ac _ _ _ _) _;refine Ad (ldB b8 rfl) ?_)
    | (guard_target=~Af (.int _) _ _;refine At ?_)
    | (guard_target=~Af .str _ _;refine Am ?_)
    | (guard_target=~Af .bool _ _;refine Ar ?_)
   refine Aa (fun q1=>?_) fun q1=>?_
   ·repeat' first
     | (guard_target=~need _ _;refine Ab rfl ?_)
     | (guard_target=~Ag (Ac _ _ _ _) _;refine Ad (ldB b8 rfl) ?_)
     | (guard_target=~Af (.int _) _ _;refine At ?_)
     | (guard_target=~Af .str _ _;refine Am ?_)
     | (guard_target=~Af .bool _ _;refine Ar ?_)
    refine⟨⟨by omega,by omega⟩,?_⟩
    repeat' first
     | (guard_target=~need _ _;refine Ab rfl ?_)
     | (guard_target=~Ag (Ac _ _ _ _) _;refine Ad (ldB b8 rfl) ?_)
     | (guard_target=~Af (.int _) _ _;refine At ?_)
     | (guard_target=~Af .str _ _;refine Am ?_)
     | (guard_target=~Af .bool _ _;refine Ar ?_)
    rw[tn]
    refine Aa (fun q2=>?_) fun q2=>?_
    ·repeat' first
      | (guard_target=~need _ _;refine Ab rfl ?_)
      | (guard_target=~Ag (Ac _ _ _ _) _;refine Ad (ldB b8 rfl) ?_)
      | (guard_target=~Af (.int _) _ _;refine At ?_)
      | (guard_target=~Af .str _ _;refine Am ?_)
      | (guard_target=~Af .bool _ _;refine Ar ?_)
     refine Fx b8 rfl fun st9 e9 b9=>?_
     repeat' first
      | (guard_target=~need _ _;refine Ab rfl ?_)
      | (guard_target=~Ag (Ac _ _ _ _) _;refine Ad (ldB b9 rfl) ?_)
      | (guard_target=~Af (.int _) _ _;refine At ?_)
      | (guard_target=~Af .str _ _;refine Am ?_)
      | (guard_target=~Af .bool _ _;refine Ar ?_)
     refine Ad (Me _ (x.s.getD k 0) q2) ?_
     exact f1 (by omega) q2 st9 e9 b9
    ·exact Ab (Co o8.rd.one) (f2 fun h=>q2 h.2)
   ·exact Ab (Co o8.rd.one) (f2 fun h=>absurd h.1 (by omega))
end
end
section
theorem Mq (x:Cx) (num:Bool) (wid:Int) (hd:Bool) (n:Nat) (acc:List Nd) (i:Nat) (v:Int) (ns:List B8):BX x num wid hd (n+1) acc i v ns=
  if num=true/\wid<=(acc.length:Int)then .error (i,10)else match Ei x hd i v ns with
   | .error e=> .error e
   | .ok (e,v1,ns1)=>if e<x.s.length/\by_ x.s e=x.a then BX x num wid hd n (acc++[G9 x i e]) (e+1) v1 ns1 else match Ch x.s e with
    | .error e=> .error e
    | .ok _=> .ok (e,v1,ns1,acc++[G9 x i e]):=by
 simp only[BX]
 by_cases hw:num=true/\wid<=(acc.length:Int)
 ·rw[if_pos hw,if_pos hw]
 rw[if_neg hw,if_neg hw]
 simp only[bind,Except.bind]
 rcases Ei x hd i v ns with e | ⟨e,v1,ns1⟩
 ·rfl
 simp only
 by_cases hm:e<x.s.length/\by_ x.s e=x.a
 ·rw[if_pos hm,if_pos hm]
  unfold G9;rw[if_pos hm]
 ·rw[if_neg hm,if_neg hm]
  unfold G9;rw[if_neg hm]
  cases Ch x.s e<;>rfl
theorem VJ {x:Cx} {hd:Bool} {i:Nat} {v:Int} {ns:List B8} {e:Nat} {v1:Int} {ns1:List B8} (hi:i<=x.s.length) (h:Ei x hd i v ns= .ok (e,v1,ns1)):i<=e/\e<=x.s.length/\v<=v1/\v1<=v+1:=by
 cases hd with
 | true=>have:=MN h;have h2:=Cd hi this.2.1;omega
 | false=>have:=LP h;have h2:=Cd hi this.2.2.2.2.1;omega
theorem StX.out {p m r:Nat} {a b c:St} (h:StX (PM p m) a b) (k:StX (PM3 p m r) b c) (hr:a.nb<=r):StX (PM p m) a c:=
 ⟨Nat.le_trans h.nb k.nb,fun i hi hs=>(k.box i (Nat.lt_of_lt_of_le hi h.nb) (by rintro(g | g | g);exact hs (.inl g);exact hs (.inr g);omega)).trans (h.box i hi hs),Nat.le_trans h.nt k.nt,fun i hi=>(k.live i (Nat.lt_of_lt_of_le hi h.nt)).trans (h.live i hi),fun i hi=>(k.ty i (Nat.lt_of_lt_of_le hi h.nt)).trans (h.ty i hi),fun i hi=>(k.bt i (Nat.lt_of_lt_of_le hi h.nb)).trans (h.bt i hi)⟩
theorem StX.r3 {p m r:Nat} {a b:St} (h:StX (·=r) a b):StX (PM3 p m r) a b:=h.mono fun _ g=> .inr (.inr g)
theorem stB_A {st:St} {b off:Nat} {xs:List TV} {l:List TV} {k:St->Prop} (hb:st.box b= .cells l) (hl:off+xs.length<=l.length) (hk:∀st',StX (·=b) st st'->st'.box b= .cells (setAll l off xs)->k st'):stB st (.box b off) xs k:=
 ⟨l,hb,hl,hk _ (StX.put (S:=(·=b)) rfl _) (E3 _ _ _)⟩
theorem ON {st:St} {b:Nat} {c0 c1 c2 c3 c4:TV} (hb:st.box b= .cells [c0,c1,c2,c3,c4]):(Aj st [] (.t (.box b 0)) 0 5).map TV.agg=some (.agg [c0,c1,c2,c3,c4]):=by
 rw[show Aj st [] (.t (.box b 0)) 0 5=some [c0,c1,c2,c3,c4]from ldsB hb rfl rfl];rfl
theorem JL {k:Int} {l t tl:B8} {u:TV} {f:Int->B8->B8->TV->B8->Prop} (h:f k l t u tl):AT [.int .i64,.str,.str,.tv,.str] (.agg [.int .i64 k,.str l,.str t,u,.str tl]) f:=h
theorem Pq {p H:Prop} [Decidable p] {A X:Prop} (t:H->X) (h1:p->(H->X)->A) (h2:¬p->H):BIf (decide p) A X:=Aa (fun q=>h1 q t) fun q=>t (h2 q)
section
variable {p m:Nat} {x:Cx} {hd ty:Bool} {l2 l3 l4:Int} {ns:List B8} {I v w o e:Int} {st:St}
theorem Ue {i:Nat} {N:Int} {K:Int->B8->B8->TV->B8->Bool->St->Prop} (hI:I=(i:Int)) (hi:i<=x.s.length) (hl:x.s.length<=2000000) (hv0:0<=v) (hv:v<=100000000) (hN:0<=N)
  (h:PSD p m x hd ty l2 l3 l4 ns I v w o e st)
  (h0:∀(k:Nat) v1 ns1 r w1 kv tl st',FJ x (decide (N≠0)) w (decide (N=0)&&hd) i v ns= .ok (k,v1,ns1,r,w1)->StX (PM p m) st st'->PSD p m x hd ty l2 l3 l4 ns1 k v1 w1 o e st'->NdC r [.int .i64 8,.str [],.str [],kv,.str tl]->K 8 [] [] kv tl true st')
  (h1:∀(o':Nat) e' ns1 (k v1 w1:Int) kv tl st',FJ x (decide (N≠0)) w (decide (N=0)&&hd) i v ns= .error (o',e')->StX (PM p m) st st'->PSD p m x hd ty l2 l3 l4 ns1 k v1 w1 o' e' st'->Ap kv=true->K 8 [] [] kv tl false st'):
  CallT PR CA [.box p 0,.int .i64 N] [.agg [.int .i64,.str,.str,.tv,.str],.one .bool] st K:=by
 subst hI
 have hb:=h.bx
 have tn:∀k:Nat,Int.toNat (k:Int)=k:=fun k=>rfl
 obtain⟨header,hhd⟩:∃b,b=(decide (N=0)&&hd):=⟨_,rfl⟩
 rw[<-hhd]at h0 h1
 --the record's own box
 obtain⟨r,hr⟩:∃r,r=st.nb:=⟨_,rfl⟩
 have hrp:p≠r:=by have:=h.lp;omega
 have hrm:m≠r:=by have:=h.lm;omega
 have start:∀st1,StX (·=r) (st.push (.cells [.int .i64 0,.str [],.str [],.nilSlice,.str []]) (some 79)) st1->st1.box r= .cells [.int .i64 8,.str [],.str [],.nilSlice,.str []]->
   StX (PM p m) st st1/\PSD p m x hd ty l2 l3 l4 ns i v w o e st1/\r<st1.nb:=fun st1 e1 b1=>by
  have e0:StX (PM3 p m r) (st.push (.cells [.int .i64 0,.str [],.str [],.nilSlice,.str []]) (some 79)) st1:=e1.r3
  have ep:StX (PM p m) st (st.push (.cells [.int .i64 0,.str [],.str [],.nilSlice,.str []]) (some 79)):=StX.of ((Aq.refl st).push _ _)
  refine⟨ep.out e0 (by omega),(h.keep (StX.of (S:=fun _=>False) ((Aq.refl st).push _ _)) (fun h=>h) fun h=>h).other e1 hrp hrm,?_⟩
  have:=e1.nb
  simp only[St.push]at this
  omega
 have rk:∀sta stb L,StX (PM p m) sta stb->r<sta.nb->sta.box r= .cells L->stb.box r= .cells L:=fun sta stb L e hlt h=>by
  rw[e.box r hlt (fun h=>h.elim (fun h=>hrp h.symm) fun h=>hrm h.symm)];exact h
 obtain⟨num,hnum⟩:∃b,b=decide (N≠0):=⟨_,rfl⟩
 have hnum1:num=true↔N≠0:=by rw[hnum];simp
 rw[<-hnum]at h0 h1
 generalize hD:FJ x num w header i v ns=D0 at h0 h1
 rw[FI]at hD
 --the loop's start:behind the first value
 refine HL p N st K (Aa (fun hn=>?_) fun hn=>?_)
 case' refine_1=>
  repeat' first
   | (guard_target=~need _ _;refine Ab rfl ?_)
   | (guard_target=~Ag (Ac _ _ _ _) _;refine Ad (ldB hb rfl) ?_)
   | (guard_target=~Af (.int _) _ _;refine At ?_)
   | (guard_target=~Af .str _ _;refine Am ?_)
   | (guard_target=~Af .bool _ _;refine Ar ?_)
  rw[<-hr]
  refine stB_A (b:=r) (by rw[hr];exact HG _ _ _) (by simp) fun st1 e1 b1=>?_
  have b1:st1.box r= .cells [.int .i64 8,.str [],.str [],.nilSlice,.str []]:=b1
  obtain⟨f1,k1,lr1⟩:=start st1 e1 b1
  refine Ak (fun hh=>?_) fun hh=>?_
 case' refine_2=>
  rw[<-hr]
  refine stB_A (b:=r) (by rw[hr];exact HG _ _ _) (by simp) fun st1 e1 b1=>?_
  have b1:st1.box r= .cells [.int .i64 8,.str [],.str [],.nilSlice,.str []]:=b1
  obtain⟨f1,k1,lr1⟩:=start st1 e1 b1
 case' refine_1.refine_1=>
  have hhd':header=hd:=by rw[hhd,hn];simp
  have hhf:header=false:=by rw[hhd'];simpa using hh
 case' refine_2=>
  have hhf:header=false:=by rw[hhd];simp[hn]
  have hhd':header=false:=hhf
 case' refine_1.refine_2=>
  have hhd':header=hd:=by rw[hhd,hn];simp
  have hht:header=true:=by rw[hhd'];simpa using hh
  rw[if_pos hht]at hD
  have hv1:v<=v/\v<=v+1:=by omega
  have f2:=f1
  have k2:=k1
  have lr2:=lr1
  have b2:=b1
 case' refine_1.refine_1 | refine_2=>
  rw[if_neg (by rw[hhf];decide)]at hD
  refine Qd rfl hv0 (by omega) k1 (fun v' st2 hb1 e2 k2=>?_) fun o' e' st2 hb1 e2 k2=>?_
 case' refine_1.refine_1.refine_2 | refine_2.refine_2=>
  rw[hb1]at hD
  refine Ak (fun _=>?_) fun h=>by cases h
  have b2:=rk _ _ _ e2 lr1 b1
  refine Ad (ON b2) (JL ?_)
  exact Ab (Co (u:= .nilSlice) rfl) (h1 _ _ _ _ _ _ .nilSlice [] st2 hD.symm (f1.trans e2) k2 rfl)
 case' refine_1.refine_1.refine_1 | refine_2.refine_1=>
  rw[hb1]at hD
  simp only at hD
  refine Ak (fun h=>by cases h) fun _=>?_
  have b2:=rk _ _ _ e2 lr1 b1
  have hv1:v<=v'/\v'<=v+1:=by have:=NV hb1;omega
  have f2:=f1.trans e2
  have lr2:r<st2.nb:=Nat.lt_of_lt_of_le lr1 e2.nb
 all_goals
  refine⟨fun p' N' hd' r' st'=>TV.box p 0=p'/\N=N'/\header=hd'/\TV.box r 0=r'/\∃(j n:Nat) (acc:List Nd) (v1:Int) (ns1:List B8) (kv:TV) (xs:List TV),StX (PM p m) st st'/\r<st'.nb/\PSD p m x hd ty l2 l3 l4 ns1 j v1 w o e st'/\
    st'.box r= .cells [.int .i64 8,.str [],.str [],kv,.str []]/\Own st.nt 5 st' kv acc.length xs/\AU acc xs/\j<=x.s.length/\x.s.length<j+n/\acc.length<=j/\0<=v1/\v1<=v+1+j/\GY x.s num w (BX x num w header n acc j v1 ns1)=D0,
   fun _ _ _ _ st'=>(x.s.length-Nk st' p 10).toNat,⟨rfl,rfl,hhd',rfl,i,x.s.length+1,[],_,ns,.nilSlice,[],f2,lr2,k2,b2,Own.nil _ _ _,AU.nil,hi,by omega,by simp,by omega,by omega,hD⟩,?_⟩
  rintro _ _ _ _ st3 ⟨rfl,rfl,rfl,rfl,j,n,acc,v1,ns1,kv,xs,f3,lr3,k3,b3,o3,hx,hj,hjn,hac,hv3,hv4,hE⟩
  cases n with
  | zero=>omega
  | succ n=>
  rw[Mq]at hE
  have bp3:=k3.bx
  refine Pq (H:=¬(num=true/\w<=(acc.length:Int))) (fun hw=>?_) (fun q t=>?_) (fun q=>by rintro⟨h,_⟩;have:=hnum1.1 h;omega)
  ·rw[if_neg hw]at hE
   refine Wx rfl hj hl (by omega) (by omega) k3 (fun k v2 ns2 v4 st4 he e4 k4 hc4 hr4=>?_) fun o' e' k' v' v4 st4 he e4 k4 ho4=>?_
   ·rw[he]at hE
    simp only at hE
    have hle:=VJ hj he
    refine Ab (Co hr4.one) (Ak (fun h=>by cases h) fun _=>?_)
    have b4:=rk _ _ _ e4 lr3 b3
    repeat' first
     | (guard_target=~need _ _;refine Ab rfl ?_)
     | (guard_target=~Ag (Ac _ _ _ _) _;refine Ad (ldB b4 rfl) ?_)
     | (guard_target=~Af (.int _) _ _;refine At ?_)
     | (guard_target=~Af .str _ _;refine Am ?_)
     | (guard_target=~Af .bool _ _;refine Ar ?_)
    refine Ab o3.rd.isSl ?_
    repeat' first
     | (guard_target=~need _ _;refine Ab rfl ?_)
     | (guard_target=~Ag (Ac _ _ _ _) _;refine Ad (ldB b4 rfl) ?_)
     | (guard_target=~Af (.int _) _ _;refine At ?_)
     | (guard_target=~Af .str _ _;refine Am ?_)
     | (guard_target=~Af .bool _ _;refine Ar ?_)
    refine Ab (Co hr4.one) ⟨rfl,?_⟩
    refine Kc (f3.trans e4) (o3.extXD e4) (by omega) (fun h=>by cases h) fun v5 st5 e5 hbx hnb o5=>?_
    have b5:st5.box r= .cells [.int .i64 8,.str [],.str [],kv,.str []]:=by rw[hbx];exact b4
    refine Fx b5 rfl fun st6 e6 b6=>?_
    have k6:=(k4.same hbx hnb).other e6 hrp hrm
    have f6:StX (PM p m) st st6:=e5.out e6.r3 (by omega)
    have lr6:r<st6.nb:=by have h1:=e4.nb;have h2:=e6.nb;omega
    have hx6:=hx.append (AU.one hc4)
    have o6:=o5.extXD e6
    have hlen:(acc++[G9 x j k]).length=acc.length+1:=by simp
    refine Ab hr4.isSl ?_
    rw[hr4.lenS]
    by_cases hmk:k<x.s.length/\by_ x.s k=x.a
    ·rw[if_pos hmk]at hE
     rw[if_pos hmk]
     refine Aa (fun h=>absurd h (by decide)) fun _=>?_
     have hat:LQ x k=k+1:=by unfold LQ;rw[if_pos hmk]
     rw[hat]at k6
     refine⟨⟨rfl,rfl,rfl,rfl,k+1,n,_,v2,ns2,v5,_,f6,lr6,k6,b6,by rw[hlen];exact o6,hx6,by omega,by omega,by omega,by omega,by omega,hE⟩,?_⟩
     dsimp only
     rw[DY k6.bx rfl,DY bp3 rfl]
     omega
    ·rw[if_neg hmk]at hE
     rw[if_neg hmk]
     refine Aa (fun _=>?_) fun h=>absurd rfl h
     have hat:LQ x k=k:=by unfold LQ;rw[if_neg hmk]
     rw[hat]at k6
     have bp6:=k6.bx
     repeat' first
      | (guard_target=~need _ _;refine Ab rfl ?_)
      | (guard_target=~Ag (Ac _ _ _ _) _;refine Ad (ldB bp6 rfl) ?_)
      | (guard_target=~Af (.int _) _ _;refine At ?_)
      | (guard_target=~Af .str _ _;refine Am ?_)
      | (guard_target=~Af .bool _ _;refine Ar ?_)
     refine SU rfl hle.2.1 hl k6 hrp hrm lr6 b6 (fun n7 st7 hle7 e7 k7 b7=>?_) fun o' e' k' st7 hle7 e7 k7 b7=>?_
     ·rw[hle7]at hE
      simp only[GY,hle7]at hE
      rw[hlen]at hE
      have f7:=f6.out e7 (by omega)
      have lr7:r<st7.nb:=Nat.lt_of_lt_of_le lr6 e7.nb
      have o7:=o6.extXD e7
      have bp7:=k7.bx
      have hnd:NdC (.mk 8 [] [] (acc++[G9 x j k]) (slc x.s k (k+n7))) [.int .i64 8,.str [],.str [],v5,.str (slc x.s k (k+n7))]:=by
       unfold NdC;exact⟨v5,_,rfl,by rw[hlen];exact o7.rd,hx6⟩
      refine Ak (fun h=>by cases h) fun _=>Aa (fun q0=>?_) fun q0=>?_
      ·have hn0:num=false:=by cases hb:num with | true=>exact absurd q0 (hnum1.1 hb) | false=>rfl
       rw[hn0,if_neg (by simp)]at hE
       repeat' first
        | (guard_target=~need _ _;refine Ab rfl ?_)
        | (guard_target=~Ag (Ac _ _ _ _) _;refine Ad (ldB b7 rfl) ?_)
        | (guard_target=~Af (.int _) _ _;refine At ?_)
        | (guard_target=~Af .str _ _;refine Am ?_)
        | (guard_target=~Af .bool _ _;refine Ar ?_)
       refine Ab o7.rd.isSl ?_
       rw[o7.rd.lenS]
       repeat' first
        | (guard_target=~need _ _;refine Ab rfl ?_)
        | (guard_target=~Ag (Ac _ _ _ _) _;refine Ad (ldB b7 rfl) ?_)
        | (guard_target=~Af (.int _) _ _;refine At ?_)
        | (guard_target=~Af .str _ _;refine Am ?_)
        | (guard_target=~Af .bool _ _;refine Ar ?_)
       refine Fx bp7 rfl fun st8 e8 bp8=>?_
       have b8:st8.box r= .cells [.int .i64 8,.str [],.str [],v5,.str (slc x.s k (k+n7))]:=by rw[e8.box r lr7 fun h=>hrp h.symm];exact b7
       have k8:=k7.of e8 bp8
       repeat' first
        | (guard_target=~need _ _;refine Ab rfl ?_)
        | (guard_target=~Ag (Ac _ _ _ _) _;refine Ad (ldB b8 rfl) ?_)
        | (guard_target=~Af (.int _) _ _;refine At ?_)
        | (guard_target=~Af .str _ _;refine Am ?_)
        | (guard_target=~Af .bool _ _;refine Ar ?_)
       refine Ab o7.rd.isSl ?_
       rw[o7.rd.lenS]
       repeat' first
        | (guard_target=~need _ _;refine Ab rfl ?_)
        | (guard_target=~Ag (Ac _ _ _ _) _;refine Ad (ldB bp8 rfl) ?_)
        | (guard_target=~Af (.int _) _ _;refine At ?_)
        | (guard_target=~Af .str _ _;refine Am ?_)
        | (guard_target=~Af .bool _ _;refine Ar ?_)
       refine Aa (fun h=>absurd h (by omega)) fun _=>?_
       refine Ad (ON b8) (JL ?_)
       refine Ab (Co o7.rd.one) (h0 _ _ _ _ _ _ _ st8 hE.symm (f7.trans e8.pm) ?_ hnd)
       exact k8
      ·have hn1:num=true:=hnum1.2 q0
       rw[hn1,if_pos rfl]at hE
       repeat' first
        | (guard_target=~need _ _;refine Ab rfl ?_)
        | (guard_target=~Ag (Ac _ _ _ _) _;refine Ad (ldB b7 rfl) ?_)
        | (guard_target=~Af (.int _) _ _;refine At ?_)
        | (guard_target=~Af .str _ _;refine Am ?_)
        | (guard_target=~Af .bool _ _;refine Ar ?_)
       refine Ab o7.rd.isSl ?_
       rw[o7.rd.lenS]
       repeat' first
        | (guard_target=~need _ _;refine Ab rfl ?_)
        | (guard_target=~Ag (Ac _ _ _ _) _;refine Ad (ldB bp7 rfl) ?_)
        | (guard_target=~Af (.int _) _ _;refine At ?_)
        | (guard_target=~Af .str _ _;refine Am ?_)
        | (guard_target=~Af .bool _ _;refine Ar ?_)
       refine Aa (fun q1=>?_) fun q1=>?_
       ·rw[if_pos q1]at hE
        refine Ad (ON b7) (JL ?_)
        refine Dh k7 fun st8 e8 k8=>⟨?_,Ab (Co o7.rd.one) (h1 _ _ _ _ _ _ _ _ st8 hE.symm (f7.trans e8) k8 o7.rd.one)⟩
        rw[ldsB (rk _ _ _ e8 lr7 b7) rfl rfl];rfl
       ·rw[if_neg q1]at hE
        refine Ad (ON b7) (JL ?_)
        exact Ab (Co o7.rd.one) (h0 _ _ _ _ _ _ _ st7 hE.symm f7 k7 hnd)
     ·rw[hle7]at hE
      refine Ak (fun _=>?_) fun h=>by cases h
      refine Ad (ON b7) (JL ?_)
      exact Ab (Co o6.rd.one) (h1 _ _ _ _ _ _ _ _ st7 hE.symm (f6.out e7 (by omega)) k7 o6.rd.one)
   ·rw[he]at hE
    refine Ab (Co ho4) (Ak (fun _=>?_) fun h=>by cases h)
    have b4:=rk _ _ _ e4 lr3 b3
    refine Ad (ON b4) (JL ?_)
    exact Ab (Co o3.rd.one) (h1 _ _ _ _ _ _ _ _ st4 hE.symm (f3.trans e4) k4 o3.rd.one)
  ·have hnm:num=true:=hnum1.2 (by omega)
   repeat' first
    | (guard_target=~need _ _;refine Ab rfl ?_)
    | (guard_target=~Ag (Ac _ _ _ _) _;refine Ad (ldB b3 rfl) ?_)
    | (guard_target=~Af (.int _) _ _;refine At ?_)
    | (guard_target=~Af .str _ _;refine Am ?_)
    | (guard_target=~Af .bool _ _;refine Ar ?_)
   refine Ab o3.rd.isSl ?_
   repeat' first
    | (guard_target=~need _ _;refine Ab rfl ?_)
    | (guard_target=~Ag (Ac _ _ _ _) _;refine Ad (ldB bp3 rfl) ?_)
    | (guard_target=~Af (.int _) _ _;refine At ?_)
    | (guard_target=~Af .str _ _;refine Am ?_)
    | (guard_target=~Af .bool _ _;refine Ar ?_)
   rw[o3.rd.lenS]
   refine Aa (fun q2=>?_) fun q2=>?_
   ·rw[if_pos ⟨hnm,q2⟩]at hE
    refine Ad (ON b3) (JL ?_)
    repeat' first
     | (guard_target=~need _ _;refine Ab rfl ?_)
     | (guard_target=~Ag (Ac _ _ _ _) _;refine Ad (ldB bp3 rfl) ?_)
     | (guard_target=~Af (.int _) _ _;refine At ?_)
     | (guard_target=~Af .str _ _;refine Am ?_)
     | (guard_target=~Af .bool _ _;refine Ar ?_)
    refine Dh k3 fun st4 e4 k4=>⟨?_,Ab (Co o3.rd.one) (h1 _ _ _ _ _ _ _ _ st4 hE.symm (f3.trans e4) k4 o3.rd.one)⟩
    rw[ldsB (rk _ _ _ e4 lr3 b3) rfl rfl];rfl
   ·exact t fun h=>q2 h.2
end
end
theorem OA {x:Cx} {num hd:Bool} {wid:Int} {i:Nat} {v:Int} {ns:List B8} {i':Nat} {v':Int} {ns':List B8} {r:Nd} {wid':Int} (hi:i<=x.s.length)
  (h:FJ x num wid hd i v ns= .ok (i',v',ns',r,wid')):∃ks e m,r= .mk 8 [] [] ks (slc x.s e (e+m))/\i'=e+m/\HJ x.a x.q x.s i ks e m/\v'=v+(if hd then 0 else 1+(ks.length:Int))/\
   (∀k∈ks,(txt x.q (AB k)).length<=65536)/\(ks.length:Int)=wid'/\(num=true->wid'=wid)/\(hd=false->3<=x.dep/\v'<=x.nod/\ns'=ns):=by
 obtain⟨v1,h1,h⟩:=Ga h
 obtain⟨e,v2,ns2,ks,m',h2,h3,hw,hp⟩:=LF h
 simp only[Prod.mk.injEq]at hp
 obtain⟨rfl,rfl,rfl,rfl,rfl⟩:=hp
 obtain⟨ks',m,k1,k2,k3,k4,k5,k6⟩:=Xo _ hi h2
 rw[List.nil_append]at k1
 subst k1
 have hl:=k2.le hi
 rw[hl.2.2.2.2]at h3
 cases h3
 refine⟨_,e,_,rfl,rfl,k2,?_,k4,?_,?_,k6⟩
 ·rw[k3,h1];cases hd<;>simp;omega
 ·cases num with
  | true=>simp only[if_true]at hw⊢;have:=k5 rfl;omega
  | false=>rfl
 ·intro hn;rw[hn];rfl
theorem recD_of {x:Cx} {num:Bool} {wid:Int} (hdep:3<=x.dep) {i:Nat} {ks:List Nd} {e m:Nat} (h:HJ x.a x.q x.s i ks e m) {v:Int} {ns:List B8}
  (hi:i<=x.s.length) (hk:∀k∈ks,(txt x.q (AB k)).length<=65536) (hw:num=true->(ks.length:Int)=wid) (hv:v+1+(ks.length:Int)<=x.nod):
  FJ x num wid false i v ns= .ok (e+m,v+1+(ks.length:Int),ns,.mk 8 [] [] ks (slc x.s e (e+m)),(ks.length:Int)):=by
 have hl:=h.le hi
 have hb:EB x.dep x.nod 2 i v= .ok (v+1):=by unfold EB;rw[if_neg (by omega),if_neg (by omega)]
 rw[FI]
 simp only[Bool.false_eq_true,if_false,hb]
 unfold GY
 rw[recE_of hdep h (x.s.length+1) (acc:=[]) (v:=v+1) (ns:=ns) hi (by omega) hk (fun hn=>by rw[List.length_nil,Nat.zero_add,hw hn];omega) (by omega)]
 simp only[hl.2.2.2.2]
 cases num with
 | true=>have:=hw rfl;simp only[if_true,List.nil_append];rw[<-this,if_neg (by omega)]
 | false=>simp only[Bool.false_eq_true,if_false,List.nil_append];rw[if_neg (by omega)]
theorem Wo {x:Cx} {num:Bool} {wid:Int} (d' n':Int) {i:Nat} {v:Int} {ns:List B8}:FJ (x.lim d' n') num wid true i v ns=FJ x num wid true i v ns:=by
 rw[FI,FI,if_pos rfl,if_pos rfl]
 have:=Wm (x:=x) (num:=num) (wid:=wid) d' n' (x.s.length+1) (acc:=[]) (i:=i) (v:=v) (ns:=ns)
 show GY x.s num wid (BX (x.lim d' n') num wid true (x.s.length+1) [] i v ns)=_
 rw[this]
theorem Xq {x:Cx} {num:Bool} {wid:Int} {d' n':Int} {i:Nat} {v:Int} {ns:List B8} {i':Nat} {v':Int} {ns':List B8} {r:Nd} {wid':Int}
  (h:FJ x num wid false i v ns= .ok (i',v',ns',r,wid')):v+1<v'/\(3<=d'->v'<=n'->FJ (x.lim d' n') num wid false i v ns= .ok (i',v',ns',r,wid'))/\
   (3<=d'->n'<v'->∃o,FJ (x.lim d' n') num wid false i v ns= .error (o,10))/\(d'=2->v<n'->∃o,FJ (x.lim d' n') num wid false i v ns= .error (o,9)):=by
 obtain⟨v1,h1,h⟩:=Ga h
 have h1:v1=v+1:=by simpa using h1
 subst h1
 obtain⟨e,v2,ns2,ks,m,h2,h3,hw,hp⟩:=LF h
 simp only[Prod.mk.injEq]at hp
 obtain⟨rfl,rfl,rfl,rfl,rfl⟩:=hp
 obtain⟨k0,k1,k2,k3⟩:=Xn (d':=d') (n':=n') _ h2
 have b1:2<=d'->v<n'->EB d' n' 2 i v= .ok (v+1):=fun g1 g2=>by unfold EB;rw[if_neg (by omega),if_neg (by omega)]
 have b2:2<=d'->n'<=v->EB d' n' 2 i v= .error (i,10):=fun g1 g2=>by unfold EB;rw[if_neg (by omega),if_pos g2]
 rw[FI]
 simp only[Bool.false_eq_true,if_false]
 refine⟨by omega,fun g1 g2=>?_,fun g1 g2=>?_,fun g1 g2=>?_⟩
 ·rw[b1 (by omega) (by omega)]
  show GY x.s num wid (BX (x.lim d' n') num wid false (x.s.length+1) [] i (v+1) ns)=_
  rw[k1 g1 g2]
  simp only[GY,h3]
  rw[if_neg hw]
 ·by_cases hv:n'<=v
  ·rw[b2 (by omega) hv];exact⟨_,rfl⟩
  ·rw[b1 (by omega) (by omega)]
   obtain⟨o,ho⟩:=k2 g1 g2
   exact⟨o,by show GY x.s num wid (BX (x.lim d' n') num wid false (x.s.length+1) [] i (v+1) ns)=_;rw[ho];rfl⟩
 ·rw[b1 (by omega) (by omega)]
  obtain⟨o,ho⟩:=k3 (by omega)
  exact⟨o,by show GY x.s num wid (BX (x.lim d' n') num wid false (x.s.length+1) [] i (v+1) ns)=_;rw[ho];rfl⟩
def LT (r:Nd):Int:=1+((As r).length:Int)
def Fe:List Nd->Int
 | []=>0
 | r::rs=>LT r+Fe rs
theorem FS:∀rs,0<=Fe rs
 | []=>by simp[Fe]
 | r::rs=>by have:=FS rs;simp only[Fe,LT];omega
def Ey (hd:Bool) (rs:List Nd):Int:=if hd then Fe rs.tail else Fe rs
theorem Qc {x:Cx} {num hd:Bool} {wid:Int}:∀(n:Nat) {acc:List Nd} {i:Nat} {v:Int} {ns:List B8} {e:Nat} {v':Int} {ns':List B8} {out:List Nd},
  BX x num wid hd n acc i v ns= .ok (e,v',ns',out)->v'=v+(if hd then 0 else(out.length:Int)-acc.length):=by
 intro n
 induction n with
 | zero=>intro acc i v ns e v' ns' out h;simp only[BX]at h;cases h
 | succ n ih=>
  intro acc i v ns e v' ns' out h
  simp only[BX]at h
  split at h
  ·cases h
  simp only[bind,Except.bind]at h
  split at h
  ·cases h
  rename_i p he
  obtain⟨e1,v1,ns1⟩:=p
  have c3:v1=v+(if hd then 0 else 1):=by
   cases hd with
   | false=>simpa using (LP he).2.2.1
   | true=>simpa using (MN he).1
  simp only at h
  split at h
  ·have:=ih h
   rw[this,c3]
   cases hd<;>simp
   omega
  ·split at h
   ·cases h
   cases h
   rw[c3]
   cases hd<;>simp
   omega
theorem recE_v1 {x:Cx} {num:Bool} {wid:Int} (n:Nat) {acc:List Nd} {i:Nat} {v:Int} {ns:List B8} {e:Nat} {v':Int} {ns':List B8} {out:List Nd}
  (h:BX x num wid true n acc i v ns= .ok (e,v',ns',out)):v'=v:=by simpa using Qc n h
theorem Wp {x:Cx} {num:Bool} {wid:Int} {i:Nat} {v:Int} {ns:List B8} {i':Nat} {v':Int} {ns':List B8} {r:Nd} {wid':Int}
  (h:FJ x num wid false i v ns= .ok (i',v',ns',r,wid')):v'=v+LT r:=by
 obtain⟨v1,h1,h⟩:=Ga h
 have h1:v1=v+1:=by simpa using h1
 subst h1
 obtain⟨e,v2,ns2,ks,m,h2,h3,hw,hp⟩:=LF h
 simp only[Prod.mk.injEq]at hp
 obtain⟨rfl,rfl,rfl,rfl,rfl⟩:=hp
 have:=Qc _ h2
 simp only[Bool.false_eq_true,if_false,List.length_nil]at this
 simp only[LT,As];omega
theorem O4 {x:Cx} {hdr:Bool}:∀(n:Nat) {acc:List Nd} {i:Nat} {v:Int} {ns:List B8} {wid:Int} {out:List Nd},i<=x.s.length->DX x hdr n acc i v ns wid= .ok out->
  ∃rs,out=acc++rs/\HH x.a x.q x.s i rs/\(∀r∈rs,∀k∈As r,(txt x.q (AB k)).length<=65536)/\(∃W:Int,(acc≠ []->W=wid)/\∀r∈rs,((As r).length:Int)=W)/\
   (Ey (hdr&&acc.isEmpty) rs=0∨3<=x.dep/\v+Ey (hdr&&acc.isEmpty) rs<=x.nod):=by
 intro n
 induction n with
 | zero=>intro acc i v ns wid out hi h;simp only[DX]at h;cases h
 | succ n ih=>
  intro acc i v ns wid out hi h
  simp only[DX]at h
  split at h
  ·rename_i hl
   cases h
   exact⟨[],by simp,.nil hl,fun r hr=>(by cases hr),⟨wid,fun _=>rfl,fun r hr=>(by cases hr)⟩,.inl (by unfold Ey;cases (hdr&&acc.isEmpty)<;>rfl)⟩
  rename_i hl
  simp only[bind,Except.bind]at h
  split at h
  ·cases h
  rename_i p h1
  obtain⟨i',v',ns',r,wid'⟩:=p
  obtain⟨ks,e,m,rfl,rfl,k2,k3,k4,k5,k6,k7⟩:=OA hi h1
  have hle:=k2.le hi
  obtain⟨rs,j1,j2,j3,⟨W,j4,j5⟩,j6⟩:=ih (by omega) h
  have hW:W=wid':=j4 (by simp)
  refine⟨_::rs,by rw[j1,List.append_assoc];rfl,.cons (by omega) k2 j2,?_,⟨W,fun hne=>?_,?_⟩,?_⟩
  ·intro r hr
   rcases List.mem_cons.1 hr with rfl | hr
   ·exact k4
   ·exact j3 r hr
  ·rw[hW];exact k6 (by cases acc;exact absurd rfl hne;rfl)
  ·intro r hr
   rcases List.mem_cons.1 hr with rfl | hr
   ·rw[hW];exact k5
   ·exact j5 r hr
  ·have hnil:(hdr&&(acc++[Nd.mk 8 [] [] ks (slc x.s e (e+m))]).isEmpty)=false:=by cases acc<;>simp
   rw[hnil]at j6
   have hcn:=FS rs
   cases hh:(hdr&&acc.isEmpty)with
   | true=>
    rw[hh]at k3 k7
    simp only[Ey,if_true,List.tail_cons,Bool.false_eq_true,if_false]at j6 k3⊢
    rcases j6 with j6 | j6
    ·exact .inl j6
    ·right;omega
   | false=>
    rw[hh]at k3 k7
    have k7:=k7 rfl
    simp only[Ey,Bool.false_eq_true,if_false,Fe,LT,As]at j6 k3⊢
    right
    rcases j6 with j6 | j6
    ·exact⟨k7.1,by omega⟩
    ·exact⟨k7.1,by omega⟩
theorem VN {x:Cx} (hdep:3<=x.dep) {W:Int}:∀{i:Nat} {rs:List Nd},HH x.a x.q x.s i rs->∀(n:Nat) {acc:List Nd} {v:Int} {ns:List B8} {wid:Int},i<=x.s.length->x.s.length<i+n->
  (∀r∈rs,∀k∈As r,(txt x.q (AB k)).length<=65536)->(acc≠ []->wid=W)->(∀r∈rs,((As r).length:Int)=W)->v+Fe rs<=x.nod->DX x false n acc i v ns wid= .ok (acc++rs):=by
 intro i rs h
 induction h with
 | nil h=>
  intro n acc v ns wid hi hn hk hw hW hv
  cases n with
  | zero=>omega
  | succ n=>simp only[DX];rw[if_pos h,List.append_nil]
 | @cons i e m ks rs h1 h2 h3 ih=>
  intro n acc v ns wid hi hn hk hw hW hv
  cases n with
  | zero=>omega
  | succ n=>
  have hle:=h2.le hi
  have hks:(ks.length:Int)=W:=hW _ (List.mem_cons_self ..)
  have hm:0<e+m-i:=by
   rcases Nat.eq_zero_or_pos m with h0 | h0
   ·have:=(En (by omega) hle.2.2.2.2).2.1 h0;omega
   ·omega
  simp only[Fe,LT,As]at hv
  have hcn:=FS rs
  simp only[DX,Bool.false_and]
  rw[if_neg (by omega),recD_of hdep h2 hi (hk _ (List.mem_cons_self ..)) (fun hn=>by rw[hks];exact(hw (by rintro rfl;simp at hn)).symm) (by omega)]
  simp only[bind,Except.bind]
  rw[ih n (by omega) (by omega) (fun r hr=>hk r (List.mem_cons_of_mem _ hr)) (fun _=>hks) (fun r hr=>hW r (List.mem_cons_of_mem _ hr)) (by omega),List.append_assoc]
  rfl
theorem Yk {x:Cx} {hdr:Bool} {d' n':Int}:∀(n:Nat) {acc:List Nd} {i:Nat} {v:Int} {ns:List B8} {wid:Int} {out:List Nd},DX x hdr n acc i v ns wid= .ok out->
  ∃rs,out=acc++rs/\((Ey (hdr&&acc.isEmpty) rs=0∨3<=d')->v+Ey (hdr&&acc.isEmpty) rs<=n'->DX (x.lim d' n') hdr n acc i v ns wid= .ok out)/\
   (0<Ey (hdr&&acc.isEmpty) rs->3<=d'->n'<v+Ey (hdr&&acc.isEmpty) rs->∃o,DX (x.lim d' n') hdr n acc i v ns wid= .error (o,10))/\
   (0<Ey (hdr&&acc.isEmpty) rs->d'=2->v+Ey (hdr&&acc.isEmpty) rs<=n'->∃o,DX (x.lim d' n') hdr n acc i v ns wid= .error (o,9)):=by
 intro n
 induction n with
 | zero=>intro acc i v ns wid out h;simp only[DX]at h;cases h
 | succ n ih=>
  intro acc i v ns wid out h
  simp only[DX]at h⊢
  split at h
  ·rename_i hl
   cases h
   have h0:Ey (hdr&&acc.isEmpty) []=0:=by unfold Ey;cases (hdr&&acc.isEmpty)<;>rfl
   refine⟨[],by simp,?_⟩
   rw[h0]
   exact⟨fun _ _=>by rw[if_pos hl],fun h=>absurd h (by decide),fun h=>absurd h (by decide)⟩
  rename_i hl
  rw[if_neg hl]
  simp only[bind,Except.bind]at h⊢
  split at h
  ·cases h
  rename_i p h1
  obtain⟨i',v',ns',r,wid'⟩:=p
  obtain⟨rs,j1,j2,j3,j4⟩:=ih h
  have hnil:(hdr&&(acc++[r]).isEmpty)=false:=by cases acc<;>simp
  rw[hnil]at j2 j3 j4
  have hcn:=FS rs
  refine⟨r::rs,by rw[j1,List.append_assoc];rfl,?_⟩
  cases hh:(hdr&&acc.isEmpty)with
  | true=>
   rw[hh]at h1
   rw[Wo,h1]
   have hv:v'=v:=by
    obtain⟨v1,h3,h4⟩:=Ga h1
    have h3:v1=v:=by simpa using h3
    subst h3
    obtain⟨e,v2,ns2,ks,m,h2,h5,hw,hp⟩:=LF h4
    simp only[Prod.mk.injEq]at hp
    obtain⟨rfl,rfl,rfl,rfl,rfl⟩:=hp
    exact recE_v1 _ h2
   subst hv
   simp only[Ey,if_true,List.tail_cons,Bool.false_eq_true,if_false]at j2 j3 j4⊢
   exact⟨j2,j3,j4⟩
  | false=>
   rw[hh]at h1
   have hc:v'=v+LT r:=Wp h1
   obtain⟨k0,k1,k2,k3⟩:=Xq (d':=d') (n':=n') h1
   simp only[Ey,Bool.false_eq_true,if_false,Fe]at j2 j3 j4⊢
   refine⟨fun g1 g2=>?_,fun g0 g1 g2=>?_,fun g0 g1 g2=>?_⟩
   ·have:3<=d':=by rcases g1 with g1 | g1;omega;exact g1
    rw[k1 this (by omega)]
    exact j2 (.inr this) (by omega)
   ·by_cases hv:n'<v'
    ·obtain⟨o,ho⟩:=k2 g1 hv
     rw[ho];exact⟨_,rfl⟩
    ·rw[k1 g1 (by omega)]
     by_cases h0:0<Fe rs
     ·exact j3 h0 g1 (by omega)
     ·omega
   ·obtain⟨o,ho⟩:=k3 g1 (by omega)
    rw[ho];exact⟨_,rfl⟩
def AY (x:Cx) (hd:Bool) (l2 l3 l4:Int):Except (Nat×Int) Nd:=
 if dOk x.a x.q=false then .error (0,1)else if lOk x.dep x.nod l2 l3 l4=false then .error (0,1)else if l2<x.s.length then .error (0,10)else if AX x.s≠x.s.length then .error (AX x.s,5)
 else match DX x hd (x.s.length+1) [] 0 1 [] 0 with
  | .error e=> .error e
  | .ok rs=> .ok (.mk 1 [] [] rs [])
def pN:Except (Nat×Int) Nd->Nd | .ok n=>n | .error _=> .mk 0 [] [] [] []
def pO:Except (Nat×Int) Nd->Int | .ok _=>0 | .error e=>e.1
def pE:Except (Nat×Int) Nd->Int | .ok _=>0 | .error e=>e.2
theorem MR (x:Cx) (hdr:Bool) (n:Nat) (acc:List Nd) (i:Nat) (v:Int) (ns:List B8) (wid:Int):DX x hdr (n+1) acc i v ns wid=
  if x.s.length<=i then .ok acc else match FJ x (!acc.isEmpty) wid (hdr&&acc.isEmpty) i v ns with
   | .error e=> .error e
   | .ok (i',v',ns',r,wid')=>DX x hdr n (acc++[r]) i' v' ns' wid':=by
 simp only[DX,bind,Except.bind]
 by_cases h:x.s.length<=i
 ·rw[if_pos h,if_pos h]
 ·rw[if_neg h,if_neg h]
  rcases FJ x (!acc.isEmpty) wid (hdr&&acc.isEmpty) i v ns with e | ⟨i',v',ns',r,wid'⟩<;>rfl
theorem Rm {x:Cx} {num hd:Bool} {wid:Int} {i:Nat} {v:Int} {ns:List B8} {i':Nat} {v':Int} {ns':List B8} {r:Nd} {wid':Int} (hi:i<x.s.length)
  (h:FJ x num wid hd i v ns= .ok (i',v',ns',r,wid')):i<i'/\i'<=x.s.length/\v<=v'/\v'<=v+3*(i'-i:Nat)/\1<=wid':=by
 obtain⟨ks,e,m,rfl,rfl,k2,k3,k4,k5,k6,k7⟩:=OA (by omega) h
 have hle:=k2.le (by omega)
 have hpos:1<=e+m-i:=by
  have:=(En (by omega) hle.2.2.2.2).2.1
  rcases Nat.eq_zero_or_pos m with h0 | h0
  ·have:=this h0;omega
  ·omega
 cases hd<;>simp at k3<;>omega
theorem Qf {x:Cx} {hd ty:Bool} {l2 l3 l4:Int} {st:St} {K:Int->B8->B8->TV->B8->Int->Int->St->Prop} (hl:x.s.length<=2000000)
  (hk:∀k kv st',Aq st st'->NdC (pN (AY x hd l2 l3 l4)) [.int .i64 k,.str [],.str [],kv,.str []]->K k [] [] kv [] (pO (AY x hd l2 l3 l4)) (pE (AY x hd l2 l3 l4)) st'):
  CallT PR Eu [.str x.s,.agg [.int .u8 x.a,.int .u8 x.q,.bool hd,.bool ty],.agg [.int .i64 x.dep,.int .i64 x.nod,.int .i64 l2,.int .i64 l3,.int .i64 l4]] [.agg [.int .i64,.str,.str,.tv,.str],.one (.int .i64),.one (.int .i64)] st K:=by
 generalize hP:AY x hd l2 l3 l4=P at hk
 unfold AY at hP
 have hnil:NdC (.mk 0 [] [] [] []) [.int .i64 0,.str [],.str [],.nilSlice,.str []]:=by unfold NdC;exact⟨_,[],rfl,.inl ⟨rfl,rfl,rfl⟩,AU.nil⟩
 have bad:∀(o:Nat) (e:Int) st',P= .error (o,e)->Aq st st'->K 0 [] [] .nilSlice [] o e st':=fun o e st' h he=>by
  have:=hk 0 .nilSlice st' he (by rw[h];exact hnil)
  rwa [h]at this
 refine Oa x.s x.a x.q hd ty x.dep x.nod l2 l3 l4 st K (MO (Ak (fun g=>?_) fun g=>?_))
 ·have g:dOk x.a x.q=false:=by simpa using g
  rw[if_pos g]at hP
  exact bad _ _ st hP.symm (Aq.refl _)
 have g:dOk x.a x.q=true:=by simpa using g
 rw[if_neg (by rw[g];decide)]at hP
 refine Uv (Ak (fun g=>?_) fun g=>?_)
 ·have g:lOk x.dep x.nod l2 l3 l4=false:=by simpa using g
  rw[if_pos g]at hP
  exact bad _ _ st hP.symm (Aq.refl _)
 have g:lOk x.dep x.nod l2 l3 l4=true:=by simpa using g
 rw[if_neg (by rw[g];decide)]at hP
 refine Aa (fun g=>?_) fun g=>?_
 ·rw[if_pos g]at hP
  exact bad _ _ st hP.symm (Aq.refl _)
 rw[if_neg g]at hP
 refine UF hl (Aa (fun g=>?_) fun g=>?_)
 ·have h2:AX x.s≠x.s.length:=fun h=>by rw[if_pos h]at g;omega
  rw[if_neg h2]
  rw[if_pos h2]at hP
  exact bad _ _ st hP.symm (Aq.refl _)
 have h2:AX x.s=x.s.length:=Decidable.byContradiction fun h=>by rw[if_neg h]at g;omega
 rw[if_neg (by rw[h2];simp)]at hP
 refine Ab rfl ?_
 obtain⟨m,hm⟩:∃m,m=st.nb:=⟨_,rfl⟩
 obtain⟨p,hp⟩:∃p,p=(st.push (.map []) none).nb:=⟨_,rfl⟩
 rw[<-hm,<-hp]
 have hpm:p=m+1:=by rw[hp,hm];rfl
 obtain⟨sa,hsa⟩:∃sa,sa=st.push (.map []) none:=⟨_,rfl⟩
 rw[<-hsa]at hp⊢
 obtain⟨sb,hsb⟩:∃sb,sb=sa.push (.cells (pcl x hd ty l2 l3 l4 m 0 1 0 0 0)) (some 180):=⟨_,rfl⟩
 have e0:Aq st sb:=by rw[hsb,hsa];exact((Aq.refl st).push _ _).push _ _
 have k0:PSD p m x hd ty l2 l3 l4 [] 0 1 0 0 0 sb:=by
  refine⟨by omega,by rw[hsb,hp];simp[St.push],by rw[hsb,hsa,hm];simp[St.push];omega,by rw[hsb,hp];exact HG _ _ _,[],?_,fun t=>by simp[Du]⟩
  rw[hsb,hsa,hm]
  simp[St.push]
 have lim:∀st',StX (PM p m) sb st'->Aq st st':=fun st' h=>StX.ext e0 h fun i hi=>by rcases hi with h | h<;>omega
 refine⟨fun s' p' kd le tx kv tl st'=>x.s=s'/\TV.box p 0=p'/\1=kd/\[]=le/\[]=tx/\[]=tl/\∃(j n:Nat) (acc:List Nd) (v w:Int) (ns:List B8) (xs:List TV),StX (PM p m) sb st'/\PSD p m x hd ty l2 l3 l4 ns j v w 0 0 st'/\
   Own sb.nt 5 st' kv acc.length xs/\AU acc xs/\j<=x.s.length/\x.s.length<j+n/\acc.length<=j/\0<=v/\v<=1+3*j/\(match DX x hd n acc j v ns w with | .error e=> .error e | .ok rs=> .ok (.mk 1 [] [] rs []))=P,
  fun _ _ _ _ _ _ _ st'=>(x.s.length-Nk st' p 10).toNat,⟨rfl,rfl,rfl,rfl,rfl,rfl,0,x.s.length+1,[],1,0,[],[],hsb▸StX.refl _ _,hsb▸k0,Own.nil _ _ _,AU.nil,by omega,by omega,by simp,by omega,by omega,hP⟩,?_⟩
 rintro _ _ _ _ _ kv _ st3 ⟨rfl,rfl,rfl,rfl,rfl,rfl,j,n,acc,v,w,ns,xs,f3,k3,o3,hx,hj,hjn,hac,hv0,hv,hE⟩
 have b3:=k3.bx
 cases n with
 | zero=>omega
 | succ n=>
 rw[MR]at hE
 repeat' first
  | (guard_target=~need _ _;refine Ab rfl ?_)
  | (guard_target=~Ag (Ac _ _ _ _) _;refine Ad (ldB b3 rfl) ?_)
  | (guard_target=~Af (.int _) _ _;refine At ?_)
  | (guard_target=~Af .str _ _;refine Am ?_)
  | (guard_target=~Af .bool _ _;refine Ar ?_)
 refine Aa (fun q=>Ab o3.rd.isSl ?_) fun q=>?_
 ·rw[if_neg (by omega)]at hE
  rw[o3.rd.lenS]
  have hN1:decide (((acc.length:Nat):Int)≠0)= !acc.isEmpty:=by
   cases acc with
   | nil=>rfl
   | cons a l=>exact decide_eq_true (by simp only[List.length_cons];omega)
  have hN2:(decide (((acc.length:Nat):Int)=0)&&hd)=(hd&&acc.isEmpty):=by
   cases acc with
   | nil=>cases hd<;>rfl
   | cons a l=>rw[decide_eq_false (by simp only[List.length_cons];omega)];cases hd<;>rfl
  refine Ue rfl hj hl hv0 (by omega) (by omega) k3 (fun k v1 ns1 r w1 kv1 tl st4 hr e4 k4 hc4=>?_) fun o' e' ns1 k v1 w1 kv1 tl st4 hr e4 k4 ho4=>?_
  ·rw[hN1,hN2]at hr
   rw[hr]at hE
   simp only at hE
   have hle:=Rm (by omega) hr
   have hone:Ap kv1=true:=by
    obtain⟨a,b,c,d,f⟩:=r
    unfold NdC at hc4
    obtain⟨u,ys,hu,hu2,_⟩:=hc4
    cases hu
    exact hu2.one
   refine Ab (Co hone) (Ak (fun h=>by cases h) fun _=>Ab (Co hone) ?_)
   refine Kc (f3.trans e4) (o3.extXD e4) (by omega) (fun h=>by cases h) fun v5 st5 e5 hbx hnb o5=>Ab (GD o5.rd.one) ?_
   have hlen:(acc++[r]).length=acc.length+1:=by simp
   refine⟨⟨rfl,rfl,rfl,rfl,rfl,rfl,k,n,acc++[r],v1,w1,ns1,_,e5,k4.same hbx hnb,by rw[hlen];exact o5,hx.append (AU.one hc4),by omega,by omega,by omega,by omega,by omega,hE⟩,?_⟩
   dsimp only
   rw[DY (k4.same hbx hnb).bx rfl,DY b3 rfl]
   omega
  ·rw[hN1,hN2]at hr
   rw[hr]at hE
   simp only at hE
   refine Ab (Co ho4) (Ak (fun _=>?_) fun h=>by cases h)
   have b4:=k4.bx
   repeat' first
    | (guard_target=~need _ _;refine Ab rfl ?_)
    | (guard_target=~Ag (Ac _ _ _ _) _;refine Ad (ldB b4 rfl) ?_)
    | (guard_target=~Af (.int _) _ _;refine At ?_)
    | (guard_target=~Af .str _ _;refine Am ?_)
    | (guard_target=~Af .bool _ _;refine Ar ?_)
   exact bad _ _ st4 hE.symm (lim _ (f3.trans e4))
 ·rw[if_pos (by omega)]at hE
  simp only at hE
  subst hE
  exact Ab (Co o3.rd.one) (hk 1 kv st3 (lim _ f3) (by unfold pN NdC;exact⟨kv,xs,rfl,o3.rd,hx⟩))
def WI (a:Int) (s:B8) (i:Nat):Except (Nat×Int) Unit:=if i<s.length/\by_ s i≠a then(match Ch s i with | .ok _=> .ok () | .error e=> .error e)else .ok ()
theorem MF {s:B8} {i o:Nat} {c:Int} (h:Ch s i= .error (o,c)):(o=i/\c=3)∨(o=s.length/\c=4):=by
 unfold Ch at h
 repeat' split at h
 all_goals first | cases h | skip
 all_goals simp
theorem Ri {s:B8} {a q:Int} {hd ty:Bool} {l0 l1 l2 l3 l4 I off err:Int} {v:Int} {i:Nat} (hI:I=(i:Int)) (hi:i<=s.length) (hl:s.length<=2000000) {st:St} {K:B8->Int->Int->Bool->Bool->Int->Int->Int->Int->Int->Int->Int->Int->Int->St->Prop}
  (h0:WI a s i= .ok ()->K s a q hd ty l0 l1 l2 l3 l4 (i:Int) v off err st)
  (h1:∀o c,WI a s i= .error (o,c)->K s a q hd ty l0 l1 l2 l3 l4 (i:Int) v (if err=0 then(o:Int)else off) (if err=0 then c else err) st):
  CallT PR AW [rst s a q hd ty l0 l1 l2 l3 l4 I v off err] [rsh] st K:=by
 subst hI
 unfold WI at h0 h1
 have fin:∀(o:Nat) (c:Int),(K s a q hd ty l0 l1 l2 l3 l4 (i:Int) v (if err=0 then(o:Int)else off) (if err=0 then c else err) st)->CallT PR Ai [rst s a q hd ty l0 l1 l2 l3 l4 (i:Int) v off err,.int .i64 (o:Int),.int .i64 c] [rsh] st K:=fun o c h=>
  Ee (fun h2=>by rwa [if_pos h2,if_pos h2]at h) fun h2=>by rwa [if_neg h2,if_neg h2]at h
 refine GV s a q hd ty l0 l1 l2 l3 l4 (i:Int) v off err st K (Aa (fun g=>⟨⟨by omega,by omega⟩,Aa (fun g2=>VK rfl hi hl ?_) fun g2=>?_⟩) fun g=>?_)
 ·have hc:i<s.length/\by_ s i≠a:=⟨by omega,g2⟩
  rw[if_pos hc]at h0 h1
  cases hle:Ch s i with
  | ok n=>
   rw[hle]at h0
   exact Aa (fun h=>by simp at h) fun _=>Aa (fun h=>by simp at h) fun _=>h0 rfl
  | error p=>
   obtain⟨o,c⟩:=p
   rw[hle]at h1
   rcases MF hle with⟨rfl,rfl⟩ | ⟨rfl,rfl⟩
   ·exact Aa (fun _=>fin _ _ (h1 _ _ rfl)) fun h=>absurd rfl h
   ·exact Aa (fun h=>by simp at h) fun _=>Aa (fun _=>fin _ _ (h1 _ _ rfl)) fun h=>absurd rfl h
 ·rw[if_neg (by rintro⟨_,h⟩;exact g2 h)]at h0;exact h0 rfl
 ·rw[if_neg (by rintro⟨h,_⟩;omega)]at h0;exact h0 rfl
theorem Mn {s:B8} {a q:Int} {x y:Bool} (hw:JU q s) (hl:s.length<=2000000) {st:St} {K:B8->St->Prop} (hk:K (txt q s) st):
  CallT PR A5 [.str s,.agg [.int .u8 a,.int .u8 q,.bool x,.bool y]] [.one (.str)] st K:=by
 refine IG s a q x y st K (Aa (fun g=>?_) fun g=>⟨⟨by omega,?_⟩,Aa (fun g2=>?_) fun g2=>?_⟩)
 ·subst g;simpa [txt]using hk
 ·cases s with
  | nil=>exact absurd rfl g
  | cons b l=>simp
 ·have g2':by_ s 0≠q:=g2
  unfold txt at hk
  rw[if_pos (.inr g2')]at hk;exact hk
 ·have g2':¬by_ s 0≠q:=g2
  rcases hw with h | h | ⟨c,t,hc,h⟩
  ·exact absurd h g
  ·exact absurd h g2'
  rw[h,KV hc]at hk
  have hlen:s.length=(dbl c t).length+2:=by rw[h];simp
  refine⟨fun out i s1 n1 n2 b1 b2 st1=>s=s1/\q=n2/\st=st1/\∃t1 t2,t=t1++t2/\out=t1/\i=((1+(dbl c t1).length:Nat):Int),fun _ i _ _ _ _ _ _=>(s.length-i).toNat,⟨rfl,rfl,rfl,[],t,rfl,rfl,rfl⟩,?_⟩
  rintro t1 _ _ _ _ _ _ _ ⟨rfl,rfl,rfl,_,t2,rfl,rfl,rfl⟩
  have hd:dbl c (t1++t2)=dbl c t1++dbl c t2:=NS c t1 t2
  rw[hd,List.length_append]at hlen
  generalize hi:1+(dbl c t1).length=i at*
  have hdrop:s.drop i=dbl c t2++[c]:=by
   rw[h,<-hi,hd,Nat.add_comm,List.drop_succ_cons,List.append_assoc,List.drop_left]
  have ht1:t1.length<=(dbl c t1).length:=by
   clear hdrop hi hlen hd h hk
   induction t1 with
   | nil=>simp
   | cons b t ih=>rw[By];split<;>simp<;>omega
  rw[Ah ((i:Int)+1) (by omega) (by omega),show Int.toNat (i:Int)=i from rfl]
  cases t2 with
  | nil=>
   refine Aa (fun q1=>?_) fun q1=>?_
   ·exfalso
    have h0:(dbl c []).length=0:=rfl
    omega
   ·simpa using hk
  | cons b t2=>
   have hb:s.drop i=b::s.drop (i+1):=by
    have:i<s.length:=by omega
    rw[List.drop_eq_getElem_cons this]
    congr 1
    have h2:s.getD i 0=(s.drop i).getD 0 0:=by rw[Hx];rfl
    have h3:s.getD i 0=s[i]:=by rw[List.getD_eq_getElem?_getD,List.getElem?_eq_getElem this];rfl
    rw[<-h3,h2,hdrop,By]
    split
    ·rename_i hbc;simp[hbc]
    ·simp
   have hget:(s.getD i 0)=b:=by
    have:(s.drop i).getD 0 0=b:=by rw[hb];rfl
    simpa [List.getD_eq_getElem?_getD]using this
   have hsl:List.drop i (List.take (Int.toNat ((i:Int)+1)) s)=[b]:=by
    rw[show Int.toNat ((i:Int)+1)=i+1 by omega,List.drop_take,hb]
    simp
   have hlc:=congrArg List.length (By c b t2)
   refine Aa (fun q1=>⟨⟨by omega,by omega,by omega⟩,?_,⟨by omega,by omega⟩,Aa (fun q2=>?_) fun q2=>?_⟩) fun q1=>?_
   ·rw[hsl];simp only[List.length_cons,List.length_nil];omega
   ·rw[hget]at q2
    have hbc:b=c:=UInt8.toNat_inj.1 (by omega)
    rw[hsl,Ah ((i:Int)+1+1) (by omega) (by omega)]
    rw[if_pos hbc]at hlc
    refine⟨⟨rfl,rfl,rfl,t1++[b],t2,by simp,rfl,?_⟩,by dsimp only;omega⟩
    have h0:(dbl c [b]).length=2:=by rw[hbc];simp[dbl,Oj]
    rw[NS,List.length_append];omega
   ·rw[hget]at q2
    have hbc:b≠c:=fun hh=>q2 (by rw[hh];exact hc)
    rw[hsl]
    refine⟨⟨rfl,rfl,rfl,t1++[b],t2,by simp,rfl,?_⟩,by dsimp only;omega⟩
    have h0:(dbl c [b]).length=1:=by simp[dbl,Oj,hbc]
    rw[NS,List.length_append];omega
   ·rw[hlc]at hlen
    split at hlen<;>simp at hlen<;>omega
end Go.TVF
