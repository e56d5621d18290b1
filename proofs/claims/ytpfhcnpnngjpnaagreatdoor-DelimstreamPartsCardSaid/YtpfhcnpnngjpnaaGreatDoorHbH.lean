/- What the laws below rest on: a framework for Go programs, and contracts of the functions that they reach. -/
import Derived.Test.YtpfhcnpnngjpnaaGreatDoorHbG
import Derived.SizedLaws
set_option maxRecDepth 20000
set_option linter.unusedVariables false
set_option linter.unusedSimpArgs false
namespace Go.TVF
open Go.IntKind(i64 u8)
open Go Go.Proofs
section
theorem Ju {α β:Type} {f g:α->List β}:∀{l:List α},(∀x,x∈l->f x=g x)->l.flatMap f=l.flatMap g
 | [],_=>rfl
 | x::r,h=>by rw[List.flatMap_cons,List.flatMap_cons,h x (.head _),Ju fun y hy=>h y (.tail _ hy)]
mutual
def evV:Vl->List Ev
 | .mk s l f=>if s.kind<6 then [.val s]else [if s.kind=6 then .ls else .ms]++(Dp l++(DH f++[if s.kind=6 then .le else .me]))
def Dp:List Vl->List Ev
 | []=>[]
 | v::r=>evV v++Dp r
def DH:List Fd->List Ev
 | []=>[]
 | .mk k v::r=>[.key k]++(evV v++DH r)
end
theorem RN:∀l m:List Vl,Dp (l++m)=Dp l++Dp m
 | [],m=>by simp[Dp]
 | v::r,m=>by rw[List.cons_append,Dp,Dp,RN r m,List.append_assoc]
theorem RS:∀l m:List Fd,DH (l++m)=DH l++DH m
 | [],m=>by simp[DH]
 | .mk k v::r,m=>by rw[List.cons_append,DH,DH,RS r m,List.append_assoc,List.append_assoc]
theorem Nv {α:Type} (g:α->Vl):∀l:List α,Dp (l.map g)=l.flatMap fun x=>evV (g x)
 | []=>rfl
 | x::r=>by rw[List.map_cons,Dp,Nv g r,List.flatMap_cons]
theorem Nw {s:Sc} (h:s.kind<6):evV (Bm s)=[.val s]:=by
 unfold Bm evV
 rw[if_pos h]
theorem RO (l:List Vl):evV (BW l)=[.ls]++(Dp l++[.le]):=by
 unfold BW evV
 rw[if_neg (by show ¬(6:Int)<6;decide),if_pos (by rfl),if_pos (by rfl),DH,List.nil_append]
theorem evV_map (f:List Fd):evV (Mw f)=[.ms]++(DH f++[.me]):=by
 unfold Mw evV
 rw[if_neg (by show ¬(7:Int)<6;decide),if_neg (by show ¬(7:Int)=6;decide),if_neg (by show ¬(7:Int)=6;decide),Dp,List.nil_append]
theorem NT (ty qd:Bool) (s:B8):(DE ty qd s).kind<6:=by
 unfold DE
 repeat' split
 all_goals first | decide | (show(4:Int)<6;decide) | (show(2:Int)<6;decide) | (show(3:Int)<6;decide)
theorem Qi (c:SC) (names:List B8):∀(ks:List Nd) (j:Nat),(c.hd=true->j+ks.length<=names.length)->
  evK c names j ks=(if j=0/\ks≠ []then [if c.hd then Ev.ms else .ls]else [])++(if c.hd=true then DH (EB (names.drop j) (Ca c.q c.ty (ks.map A2)))else Dp ((Ca c.q c.ty (ks.map A2)).map Bm))
 | [],j,h=>by
  rw[evK,if_neg (fun h=>h.2 rfl)]
  have e0:Ca c.q c.ty (([]:List Nd).map A2)=[]:=rfl
  rw[e0]
  cases c.hd with
  | true=>rw[if_pos rfl];unfold EB;rw[List.zipWith_nil_right];rfl
  | false=>rfl
 | k::ks,j,h=>by
  have ih:=Qi c names ks (j+1) (fun h2=>by have:=h h2;rw[List.length_cons]at this;omega)
  rw[if_neg (fun h=>by omega),List.nil_append]at ih
  rw[evK,ih]
  unfold evC
  have e1:(Ca c.q c.ty ((k::ks).map A2))=DE c.ty (Bd c.q (A2 k)) (txt c.q (A2 k))::Ca c.q c.ty (ks.map A2):=rfl
  rw[e1,List.append_assoc]
  have e2:(if j=0/\(k::ks)≠ []then [if c.hd=true then Ev.ms else Ev.ls]else [])=(if j=0 then [if c.hd=true then Ev.ms else Ev.ls]else []):=by
   by_cases h0:j=0
   ·rw[if_pos h0,if_pos ⟨h0,by simp⟩]
   ·rw[if_neg h0,if_neg (fun h=>h0 h.1)]
  rw[e2]
  congr 1
  cases hh:c.hd with
  | false=>
   rw[if_neg (by decide),if_neg (by decide),if_neg (by decide),List.map_cons,Dp,Nw (NT ..)]
   rfl
  | true=>
   have hl:=h hh
   rw[List.length_cons]at hl
   have hj:j<names.length:=by omega
   rw[if_pos rfl,if_pos rfl,if_pos rfl,List.drop_eq_getElem_cons hj]
   unfold EB
   rw[List.zipWith_cons_cons,DH,Nw (NT ..),List.getD_eq_getElem?_getD,List.getElem?_eq_getElem hj]
   simp
theorem Uo {c:SC} {rs:List Nd} {W:Nat} (hW:1<=W) (hw:∀r,r∈rs->(AA r).length=W):evV (BW (Df c.q c.hd c.ty (Bu rs)))=[Ev.ls]++(evD c rs++[Ev.le]):=by
 rw[RO]
 congr 2
 unfold evD Bu
 have hne:∀r,r∈rs->AA r≠ []:=fun r hr h=>by
  have:=hw r hr
  rw[h,List.length_nil]at this
  omega
 cases hh:c.hd with
 | false=>
  rw[Dw,Nv,List.flatMap_map,if_neg (by decide)]
  refine Ju fun r hr=>?_
  rw[Qi c _ _ 0 (fun h=>by rw[hh]at h;cases h),if_pos ⟨rfl,hne r hr⟩,hh,RO]
  simp
 | true=>
  cases rs with
  | nil=>rfl
  | cons r0 t=>
   rw[if_pos rfl]
   show Dp (((t.map fun r=>(AA r).map A2)).map fun r=>MS (((AA r0).map A2).map (txt c.q)) (Ca c.q c.ty r))=_
   have hn:CD c (r0::t)=((AA r0).map A2).map (txt c.q):=by
    unfold CD DM
    rw[if_pos hh]
    simp
   rw[Nv,List.flatMap_map,List.tail_cons,hn]
   refine Ju fun r hr=>?_
   have hlen:(((AA r0).map A2).map (txt c.q)).length=(AA r).length:=by
    rw[List.length_map,List.length_map,hw r0 (.head _),hw r (.tail _ hr)]
   rw[Qi c _ _ 0 (fun _=>by omega),if_pos ⟨rfl,hne r (.tail _ hr)⟩,hh,List.drop_zero]
   unfold MS
   rw[evV_map]
   simp[EB]
end
section
theorem Ud {parts:TV} {ps:List B8} (hp:Rd 1 parts ps.length (ps.map TV.str)) (st:St) {j:Nat} (hj:j<ps.length):Ab st [] (.t (ixT 1 parts ((j:Nat):Int).toNat)) 0=some (.str (ps.getD j [])):=by
 rw[Int.toNat_natCast,hp.ld st j 0 (by simp;exact hj)]
 simp[List.getD_eq_getElem?_getD,hj]
theorem MD {ps:List B8} {j:Nat} (hj:j<ps.length):((ps.take (j+1)).flatten).length=((ps.take j).flatten).length+(ps.getD j []).length:=O1 ps j hj
theorem Nl {ps:List B8} {M:Nat} (hb:∀s,s∈ps->s.length<=M):∀j,((ps.take j).flatten).length<=j*M:=by
 intro j
 induction j with
 | zero=>simp
 | succ j ih=>
  rw[Nat.succ_mul]
  by_cases hj:j<ps.length
  ·rw[MD hj]
   have:ps.getD j []∈ps:=by
    rw[List.getD_eq_getElem?_getD,List.getElem?_eq_getElem hj];exact List.getElem_mem hj
   have:=hb _ this
   omega
  ·rw[List.take_of_length_le (by omega)]
   rw[List.take_of_length_le (by omega)]at ih
   omega
theorem Sx {parts:TV} {ps:List B8} (hp:Rd 1 parts ps.length (ps.map TV.str)) (hb:∀s,s∈ps->s.length<=140737488351232) {st:St} {K:Bool->St->Prop} (hk:∀r:Bool,(r=true->ps.length<=60/\ps.flatten.length<=1500)->K r st):
  Ae PR CH [parts] [.one .bool] st K:=by
 refine HM parts st K ⟨fun n i p st'=>p=parts/\st'=st/\∃j:Nat,i=j/\j<=ps.length/\j<=61/\n=((ps.take j).flatten.length:Int),fun _ i _ _=>61-i.toNat,⟨rfl,rfl,0,rfl,Nat.zero_le _,by omega,by simp⟩,?_⟩
 rintro n i p st' ⟨rfl,rfl,j,rfl,hj,hj2,rfl⟩
 have fin:(j=ps.length∨j=61)->need (isSl p) (BIf (decide ((lenS p:Int)<=60)) (K (decide (((ps.take j).flatten.length:Int)<=1500)) st') (K false st')):=fun h=>by
  refine Aa hp.isSl (Ac (fun g=>hk _ fun h2=>?_) fun g=>hk false fun h=>by cases h)
  rw[hp.lenS]at g
  have h2:=of_decide_eq_true h2
  have hjl:j=ps.length:=by omega
  rw[hjl,List.take_of_length_le (Nat.le_refl _)]at h2
  exact⟨by omega,by omega⟩
 refine Aa hp.isSl (Ac (fun g=>Ac (fun g2=>?_) fun g2=>fin (.inr (by omega))) fun g=>fin (.inl (by rw[hp.lenS]at g;omega)))
 rw[hp.lenS]at g
 have hj1:j<ps.length:=by omega
 refine⟨⟨by omega,by rw[hp.lenZ];omega⟩,Ad (Ud hp st' hj1) (Al ?_)⟩
 have hb1:=Nl hb j
 have hb2:=Nl hb (j+1)
 have hs:=MD hj1
 have e1:i64.wrap (((ps.take j).flatten.length:Int)+((ps.getD j []).length:Int))=(((ps.take (j+1)).flatten.length:Nat):Int):=by
  rw[As _ (by omega) (by omega)];omega
 have e2:i64.wrap ((j:Int)+1)=((j+1:Nat):Int):=by rw[As _ (by omega) (by omega)];omega
 rw[e1,e2]
 refine⟨⟨rfl,rfl,j+1,rfl,hj1,by omega,rfl⟩,?_⟩
 show 61-Int.toNat _<61-Int.toNat _
 omega
theorem Vf {parts:TV} {ps:List B8} (hp:Rd 1 parts ps.length (ps.map TV.str)) (hl:ps.length<=60/\ps.flatten.length<=1500) {st:St} {K:B8->St->Prop} (hk:K ps.flatten st):
  Ae PR CW [parts] [.one .str] st K:=by
 refine H1 parts st K ⟨fun s i p st'=>p=parts/\st'=st/\∃j:Nat,i=j/\j<=ps.length/\s=(ps.take j).flatten,fun _ i _ _=>ps.length-i.toNat,⟨rfl,rfl,0,rfl,Nat.zero_le _,by simp⟩,?_⟩
 rintro s i p st' ⟨rfl,rfl,j,rfl,hj,rfl⟩
 refine Aa hp.isSl (Ac (fun g=>?_) fun g=>?_)
 ·rw[hp.lenS]at g
  have hj1:j<ps.length:=by omega
  refine⟨⟨by omega,by rw[hp.lenZ];omega⟩,Ad (Ud hp st' hj1) (Al ?_)⟩
  have hs:=MD hj1
  have hle:=Nm ps (j+1)
  have e2:i64.wrap ((j:Int)+1)=((j+1:Nat):Int):=by rw[As _ (by omega) (by omega)];omega
  rw[e2]
  refine⟨by omega,⟨rfl,rfl,j+1,rfl,hj1,?_⟩,?_⟩
  ·rw[Db _ _ [] hj1];simp
  ·show ps.length-Int.toNat _<ps.length-Int.toNat _
   omega
 ·rw[hp.lenS]at g
  rw[List.take_of_length_le (by omega)];exact hk
section
variable {a q:Int} {hd ty:Bool} {st:St}
end
end
section
theorem wr1 {k:Nat} (h:k<=100000000):i64.wrap ((k:Int)+1)=((k+1:Nat):Int):=by rw[As _ (by omega) (by omega)];omega
section
variable {c:SC} {hd ty:Bool} {st:St}
end
end
def Ev.kind:Ev->Int | .ls=>2 | .le=>3 | .ms=>4 | .me=>5 | .key _=>6 | .val _=>1
def Ev.ky:Ev->B8 | .key k=>k | _=>[]
def Ev.sc:Ev->Sc | .val s=>s | _=>scZ
def EvR (st:St) (e:Ev) (cs:List TV):Prop:=∃ub ul uf,cs= .int .i64 e.kind:: .str e.ky::Ba e.sc ub ul uf/\VlR st (Bm e.sc) (Ba e.sc ub ul uf)
def EA (st:St):List Ev->List TV->Prop
 | [],xs=>xs=[]
 | e::r,xs=>∃a b,xs=a++b/\EvR st e a/\EA st r b
theorem EvR.len {st:St} {e:Ev} {cs:List TV} (h:EvR st e cs):cs.length=15:=by
 obtain⟨ub,ul,uf,rfl,_⟩:=h;rfl
theorem EvR.keep {st st':St} (k:DF st st') {e:Ev} {cs:List TV} (h:EvR st e cs):EvR st' e cs:=by
 obtain⟨ub,ul,uf,h1,h2⟩:=h
 exact⟨ub,ul,uf,h1,h2.keep k⟩
theorem EA.keep {st st':St} (k:DF st st'):∀{l:List Ev} {xs:List TV},EA st l xs->EA st' l xs
 | [],xs,h=>h
 | e::r,xs,⟨a,b,h1,h2,h3⟩=>⟨a,b,h1,h2.keep k,h3.keep k⟩
theorem EA.app {st:St}:∀{l m:List Ev} {xs ys:List TV},EA st l xs->EA st m ys->EA st (l++m) (xs++ys)
 | [],m,xs,ys,h,hm=>by
  have h:xs=[]:=h
  subst h;exact hm
 | e::r,m,xs,ys,⟨a,b,h1,h2,h3⟩,hm=>⟨a,b++ys,by rw[h1,List.append_assoc],h2,h3.app hm⟩
theorem EA.one {st:St} {e:Ev} {cs:List TV} (h:EvR st e cs):EA st [e] cs:=⟨cs,[],by rw[List.append_nil],h,rfl⟩
theorem EA.len {st:St}:∀{l:List Ev} {xs:List TV},EA st l xs->xs.length=l.length*15
 | [],xs,h=>by
  have h:xs=[]:=h
  subst h;rfl
 | e::r,xs,⟨a,b,h1,h2,h3⟩=>by rw[h1,List.length_append,h2.len,h3.len,List.length_cons];omega
theorem Dq (st:St) (e:Ev) (h:e.sc=scZ) (hk:∀s,e≠.val s):EvR st e (evT e):=by
 have hz:VlR st (Bm scZ) (Ba scZ .nilSlice .nilSlice .nilSlice):=So st scZ rfl
 cases e<;>first | exact⟨_,_,_,rfl,hz⟩ | exact absurd rfl (hk _)
theorem evR_val (st:St) (s:Sc) (h:s.bytes=[]):EvR st (.val s) (evT (.val s)):=⟨_,_,_,rfl,So st s h⟩
def NoB (l:List Ev):Prop:=∀s,Ev.val s∈l->s.bytes=[]
theorem O4 (st:St):∀{l:List Ev},NoB l->EA st l (DG l)
 | [],h=>rfl
 | e::r,h=>by
  refine⟨evT e,DG r,rfl,?_,O4 st fun s hs=>h s (.tail _ hs)⟩
  cases e with
  | val s=>exact evR_val st s (h s (.head _))
  | ls=>exact Dq st _ rfl fun s h=>by cases h
  | le=>exact Dq st _ rfl fun s h=>by cases h
  | ms=>exact Dq st _ rfl fun s h=>by cases h
  | me=>exact Dq st _ rfl fun s h=>by cases h
  | key k=>exact Dq st _ rfl fun s h=>by cases h
theorem EA.get {st:St}:∀{l:List Ev} {xs:List TV} {i:Nat} {e:Ev},EA st l xs->l[i]? =some e->EvR st e ((xs.drop (i*15)).take 15)
 | [],xs,i,e,h,hi=>by simp at hi
 | d::r,xs,0,e,⟨a,b,h1,h2,h3⟩,hi=>by
  simp only[List.getElem?_cons_zero,Option.some.injEq]at hi
  subst hi
  rw[h1,Nat.zero_mul,List.drop_zero,List.take_append_of_le_length (by rw[h2.len];exact Nat.le_refl _),List.take_of_length_le (by rw[h2.len];exact Nat.le_refl _)]
  exact h2
 | d::r,xs,i+1,e,⟨a,b,h1,h2,h3⟩,hi=>by
  have:=EA.get h3 (i:=i) (e:=e) (by simpa using hi)
  rw[h1,Nat.succ_mul,Nat.add_comm,<-List.drop_drop,List.drop_append_of_le_length (by rw[h2.len];exact Nat.le_refl _),List.drop_of_length_le (l:=a) (by rw[h2.len];exact Nat.le_refl _),List.nil_append]
  exact this
theorem ev_ld {st:St} {u:TV} {xs:List TV} {l:List Ev} (hr:Rd 15 u l.length xs) (hx:EA st l xs) {i:Nat} {e:Ev} (hi:l[i]? =some e):
  (0<=((i:Nat):Int)/\((i:Nat):Int)<(lenZ 15 u:Int))/\isPtr (ixT 15 u ((i:Nat):Int).toNat)=true/\(∀st1,Ab st1 [] (.t (Ag (ixT 15 u ((i:Nat):Int).toNat) 0)) 0=some (.int .i64 e.kind))/\(∀st1,Ab st1 [] (.t (Ag (ixT 15 u ((i:Nat):Int).toNat) 1)) 0=some (.str e.ky))/\
  ∃ub ul uf,VlR st (Bm e.sc) (Ba e.sc ub ul uf)/\∀st1,(Aj st1 [] (.t (Ag (ixT 15 u ((i:Nat):Int).toNat) 2)) 0 13).map TV.agg=some (.agg (Ba e.sc ub ul uf)):=by
 have hlt:=(List.getElem?_eq_some_iff.1 hi).1
 have hlen:=hx.len
 obtain⟨ub,ul,uf,hcs,hv⟩:=hx.get hi
 rw[Int.toNat_natCast]
 have hat:∀k x,k<15->(TV.int .i64 e.kind::TV.str e.ky::Ba e.sc ub ul uf)[k]? =some x->xs[i*15+k]? =some x:=fun k x hk h=>by
  rw[<-hcs,List.getElem?_take,if_pos hk,List.getElem?_drop]at h
  exact h
 refine⟨⟨by omega,by rw[hr.lenZ];omega⟩,(SlR.of_rd (st:=st) hr).isPtr hlt,fun st1=>hr.ldfx st1 i 0 (hat 0 _ (by decide) rfl),fun st1=>hr.ldfx st1 i 1 (hat 1 _ (by decide) rfl),ub,ul,uf,hv,fun st1=>?_⟩
 rw[(SlR.of_rd (st:=st1) hr).ldcf (f:=2) (m:=13) hlen hlt (by omega)]
 have e1:(xs.drop (i*15+2)).take 13=Ba e.sc ub ul uf:=by
  have:=congrArg (fun z=>(z.drop 2).take 13) hcs
  simp only[List.drop_take,List.drop_drop]at this
  rw[List.take_take]at this
  simpa [Ba]using this
 rw[e1];rfl
theorem KV {u v:TV} {xs ys:List TV} {l:List Ev} {st:St} (hu:Rd 15 u l.length xs) (hx:EA st l xs) (hv:Rd 15 v l.length ys) (hy:EA st l ys) (hsz:∀e,e∈l->(Bm e.sc).sz<=2000000) (hl:l.length<=100000000) {K:Bool->St->Prop} (hk:K true st):
  Ae PR BB [u,v] [.one .bool] st K:=by
 refine HY u v st K (Aa hu.isSl (Aa hv.isSl (Ac (fun g=>by rw[hu.lenS,hv.lenS]at g;exact absurd rfl g) fun _=>?_)))
 refine⟨fun i a b st'=>a=u/\b=v/\st'=st/\∃j:Nat,i=j/\j<=l.length,fun i _ _ _=>l.length-i.toNat,⟨rfl,rfl,rfl,0,rfl,Nat.zero_le _⟩,?_⟩
 rintro _ _ _ _ ⟨rfl,rfl,rfl,j,rfl,hj⟩
 refine Aa hu.isSl (Ac (fun g=>?_) fun g=>hk)
 rw[hu.lenS]at g
 obtain⟨e,he⟩:∃e,l[j]? =some e:=⟨_,List.getElem?_eq_getElem (by omega)⟩
 obtain⟨a1,a2,a3,a4,ub,ul,uf,a5,a6⟩:=ev_ld hu hx he
 obtain⟨b1,b2,b3,b4,vb,vl,vf,b5,b6⟩:=ev_ld hv hy he
 have hz:=hsz e (List.mem_of_getElem? he)
 refine⟨a1,Aa a2 (Ad (a3 _) (Ao ⟨b1,Aa b2 (Ad (b3 _) (Ao (Ac (fun g=>absurd rfl g) fun _=>⟨a1,Aa a2 (Ad (a4 _) (Al ⟨b1,Aa b2 (Ad (b4 _) (Al (Ac (fun g=>absurd rfl g) fun _=>⟨a1,Aa a2 (Ad (a6 _) (NM ⟨b1,Aa b2 (Ad (b6 _) (NM ?_))⟩))⟩)))⟩))⟩)))⟩))⟩
 refine Same_ok 2000000 (Bm e.sc) (Bm e.sc) hz hz (Nat.le_refl _) a5 b5 ⟨Nat.le_refl _,fun _ _=>rfl⟩ fun r hr=>?_
 rw[hr.2 rfl]
 refine⟨b4 _,a4 _,b3 _,a3 _,Au (fun g=>by cases g) fun _=>?_⟩
 rw[wr1 (by omega)]
 refine⟨⟨rfl,rfl,rfl,j+1,rfl,by omega⟩,?_⟩
 show l.length-(j+1)<l.length-j
 omega
section
mutual
def TrE:Vl->Prop
 | .mk s l f=>((s.kind<6/\l=[]/\f=[]/\s.bytes=[])∨(s.kind=6/\f=[])∨(s.kind=7/\l=[]))/\IJ l/\IK f
def IJ:List Vl->Prop
 | []=>True
 | v::r=>TrE v/\IJ r
def IK:List Fd->Prop
 | []=>True
 | .mk k v::r=>TrE v/\IK r
end
theorem IJ.get:∀{l:List Vl} {i:Nat} {v:Vl},IJ l->l[i]? =some v->TrE v
 | [],i,v,h,hi=>by simp at hi
 | w::r,0,v,h,hi=>by simp only[List.getElem?_cons_zero,Option.some.injEq]at hi;subst hi;unfold IJ at h;exact h.1
 | w::r,i+1,v,h,hi=>by unfold IJ at h;exact IJ.get h.2 (by simpa using hi)
theorem IK.get:∀{l:List Fd} {i:Nat} {k:B8} {v:Vl},IK l->l[i]? =some (.mk k v)->TrE v
 | [],i,k,v,h,hi=>by simp at hi
 | .mk k' w::r,0,k,v,h,hi=>by simp only[List.getElem?_cons_zero,Option.some.injEq]at hi;cases hi;unfold IK at h;exact h.1
 | .mk k' w::r,i+1,k,v,h,hi=>by unfold IK at h;exact IK.get h.2 (by simpa using hi)
mutual
theorem Mh:∀v:Vl,(evV v).length+1<=3*v.sz
 | .mk s l f=>by
  have h1:=Kk l
  have h2:=Km f
  rw[szs]
  unfold evV
  split
  ·simp only[List.length_singleton];omega
  ·simp only[List.length_append,List.length_singleton];omega
theorem Kk:∀l:List Vl,(Dp l).length<=3*BM l
 | []=>by simp[Dp,BM]
 | v::r=>by
  have h1:=Mh v
  have h2:=Kk r
  simp only[Dp,BM,List.length_append];omega
theorem Km:∀l:List Fd,(DH l).length<=3*Cl l
 | []=>by simp[DH,Cl]
 | .mk k v::r=>by
  have h1:=Mh v
  have h2:=Km r
  simp only[DH,Cl,szd,List.length_append,List.length_singleton];omega
end
theorem O5 {l:List Vl} {k:Nat} {w:Vl} (h:l[k]? =some w):Dp (l.take (k+1))=Dp (l.take k)++evV w:=by
 rw[List.take_add_one,h,RN]
 simp[Dp]
theorem O8 {l:List Fd} {k:Nat} {key:B8} {w:Vl} (h:l[k]? =some (.mk key w)):DH (l.take (k+1))=DH (l.take k)++([.key key]++evV w):=by
 rw[List.take_add_one,h,RS]
 simp[DH]
theorem Oq (l:List Vl) (k:Nat):(Dp (l.take k)).length<=3*BM l:=by
 have h1:=Kk (l.take k)
 have h2:BM (l.take k)<=BM l:=by
  conv=>rhs;rw[<-List.take_append_drop k l,Mn]
  omega
 omega
theorem Ot (l:List Fd) (k:Nat):(DH (l.take k)).length<=3*Cl l:=by
 have h1:=Km (l.take k)
 have h2:Cl (l.take k)<=Cl l:=by
  conv=>rhs;rw[<-List.take_append_drop k l,Nk]
  omega
 omega
theorem Vj {l:List Vl} {k:Nat} {w:Vl} (h:l[k]? =some w):(Dp (l.take k)).length+3*w.sz<=3*BM l:=by
 have h1:=Kk (l.take k)
 have h2:=UI h
 have h3:BM (l.take (k+1))<=BM l:=by
  conv=>rhs;rw[<-List.take_append_drop (k+1) l,Mn]
  omega
 omega
theorem Vk {l:List Fd} {k:Nat} {key:B8} {w:Vl} (h:l[k]? =some (.mk key w)):(DH (l.take k)).length+3*w.sz<=3*Cl l:=by
 have h1:=Km (l.take k)
 have h2:=Vh h
 rw[szd]at h2
 have h3:Cl (l.take (k+1))<=Cl l:=by
  conv=>rhs;rw[<-List.take_append_drop (k+1) l,Nk]
  omega
 omega
theorem Own.cast {b sz:Nat} {st:St} {v:TV} {n m:Nat} {xs:List TV} (h:Own b sz st v n xs) (e:n=m):Own b sz st v m xs:=e▸h
theorem evK1 (st:St) (k:B8):EA st [.key k] (.int .i64 6:: .str k::KB):= .one (Dq st (.key k) rfl fun s h=>by cases h)
theorem pof_ok:∀(N:Nat) (v:Vl),v.sz<=N->N<=2000000->v.cnt<=65536->TrE v->∀{s0 st:St} {cs:List TV} {u:TV} {es:List Ev} {xs:List TV} {K:TV->St->Prop},VlR St.zero v cs->Ay s0 st->Own s0.nt 15 st u es.length xs->EA st es xs->es.length+3*v.sz<=100000000->
  (∀u' ys st',Ay s0 st'->DF st st'->Own s0.nt 15 st' u' (es++evV v).length ys->EA st' (es++evV v) ys->K u' st')->Ae PR Eu [u,.agg cs] [.one .tv] st K:=by
 intro N
 induction N with
 | zero=>intro v h;have:=v.sz_pos;omega
 | succ N ih=>
 intro v hN hN2 hC hT s0 st cs u es xs K h e0 ho hx hes hk
 have hlen:=Mh v
 cases v with
 | mk s l f=>
 have hsz:=szs s l f
 have hct:=vcnt s l f
 have hll:=HR l
 have hfl:=Ih f
 unfold TrE at hT
 obtain⟨hT1,hTl,hTf⟩:=hT
 obtain⟨ub,ul,uf,xl,xf,rfl,h1,h2,h3,h4,h5⟩:=h.cells
 refine QI u _ _ _ _ _ _ _ _ _ _ _ _ _ st K (Ac (fun g=>?_) fun g=>Ac (fun g7=>?_) fun g7=>?_)
 ·have hf0:f=[]:=by
   rcases hT1 with h | h | h
   ·omega
   ·exact h.2
   ·omega
  subst hf0
  have e:evV (.mk s l [])=[Ev.ls]++(Dp l++[Ev.le]):=by
   rw[evV,if_neg (by omega),if_pos g,if_pos g,DH,List.nil_append]
  rw[e]at hk
  refine Fn e0 rfl ho (by omega) (fun h=>by cases h) fun v1 st1 e1 kp1 o1=>Aa h2.isSl ?_
  refine⟨fun out i a n st'=>a=ul/\n=(l.length:Int)/\Ay s0 st'/\DF st st'/\∃(j:Nat) (xs:List TV),i=j/\j<=l.length/\Own s0.nt 15 st' out (es++([Ev.ls]++Dp (l.take j))).length xs/\EA st' (es++([Ev.ls]++Dp (l.take j))) xs,
   fun _ i _ _ _=>l.length-i.toNat,⟨rfl,by rw[h2.lenS],e1,kp1,0,_,rfl,Nat.zero_le _,by rw[List.take_zero,Dp,List.append_nil,List.length_append];exact o1,by rw[List.take_zero,Dp,List.append_nil];exact(hx.keep kp1).app (.one (Dq st1 Ev.ls rfl fun s h=>by cases h))⟩,?_⟩
  rintro out _ _ _ st2 ⟨rfl,rfl,e2,kp2,j,zs,rfl,hj,o2,z2⟩
  have t1:=Oq l j
  have t0:=fun w (h:l[j]? =some w)=>Vj h
  refine Ac (fun g2=>?_) fun g2=>?_
  ·refine el13 (Lb _) h2 h3 rfl (by omega) fun s' l' f' ub1 ul1 uf1 gw hw on=>Aa on ?_
   have hwsz:=HS gw
   have hwc:=KE gw
   have t0:=t0 _ gw
   refine ih _ (by omega) (by omega) (by omega) (hTl.get gw) hw e2 o2 z2 (by simp only[List.length_append,List.length_singleton];omega) fun u' ys st3 e3 kp3 o3 z3=>⟨⟨rfl,rfl,e3,⟨Nat.le_trans kp2.1 kp3.1,fun b hb=>(kp3.2 b (Nat.lt_of_lt_of_le hb kp2.1)).trans (kp2.2 b hb)⟩,j+1,ys,wr1 (by omega),by omega,o3.cast ?_,?_⟩,?_⟩
   ·rw[O5 gw];simp only[List.length_append];omega
   ·rw[O5 gw];simp only[List.append_assoc]at z3⊢;exact z3
   ·rw[wr1 (by omega)];show l.length-(j+1)<l.length-j;omega
  ·have hjl:l.take j=l:=List.take_of_length_le (by omega)
   rw[hjl]at o2 z2 t1
   refine Fn e2 rfl o2 (by simp only[List.length_append,List.length_singleton];omega) (fun h=>by cases h) fun v3 st3 e3 kp3 o3=>hk v3 _ st3 e3 ⟨Nat.le_trans kp2.1 kp3.1,fun b hb=>(kp3.2 b (Nat.lt_of_lt_of_le hb kp2.1)).trans (kp2.2 b hb)⟩ (o3.cast ?_) (?_)
   ·simp only[List.length_append,List.length_singleton];omega
   ·have:=(z2.keep kp3).app (.one (Dq st3 Ev.le rfl fun s h=>by cases h))
    simp only[List.append_assoc]at this⊢
    exact this
 ·have hl0:l=[]:=by
   rcases hT1 with h | h | h
   ·omega
   ·omega
   ·exact h.2
  subst hl0
  have e:evV (.mk s [] f)=[Ev.ms]++(DH f++[Ev.me]):=by
   rw[evV,if_neg (by omega),if_neg g,if_neg g,Dp,List.nil_append]
  rw[e]at hk
  refine Fn e0 rfl ho (by omega) (fun h=>by cases h) fun v1 st1 e1 kp1 o1=>Aa h4.isSl ?_
  refine⟨fun out i a n st'=>a=uf/\n=(f.length:Int)/\Ay s0 st'/\DF st st'/\∃(j:Nat) (xs:List TV),i=j/\j<=f.length/\Own s0.nt 15 st' out (es++([Ev.ms]++DH (f.take j))).length xs/\EA st' (es++([Ev.ms]++DH (f.take j))) xs,
   fun _ i _ _ _=>f.length-i.toNat,⟨rfl,by rw[h4.lenS],e1,kp1,0,_,rfl,Nat.zero_le _,by rw[List.take_zero,DH,List.append_nil,List.length_append];exact o1,by rw[List.take_zero,DH,List.append_nil];exact(hx.keep kp1).app (.one (Dq st1 Ev.ms rfl fun s h=>by cases h))⟩,?_⟩
  rintro out _ _ _ st2 ⟨rfl,rfl,e2,kp2,j,zs,rfl,hj,o2,z2⟩
  have t1:=Ot f j
  have t0:=fun k w (h:f[j]? =some (.mk k w))=>Vk h
  refine Ac (fun g2=>?_) fun g2=>?_
  ·refine el14 (Lb _) h4 h5 rfl (by omega) fun key s' l' f' ub1 ul1 uf1 gw hw on=>Aa on ?_
   have hwsz:=Ii gw
   rw[szd]at hwsz
   have hwc:=Lf gw
   rw[fcnt]at hwc
   have t0:=t0 _ _ gw
   refine Fn e2 rfl o2 (by simp only[List.length_append,List.length_singleton];omega) (fun h=>by cases h) fun v3 st3 e3 kp3 o3=>?_
   have z3:=(z2.keep kp3).app (evK1 st3 key)
   refine ih _ (by omega) (by omega) (by omega) (hTf.get gw) hw e3 (o3.cast (m:=((es++([Ev.ms]++DH (f.take j)))++[Ev.key key]).length) ?_) z3 ?_ fun u' ys st4 e4 kp4 o4 z4=>⟨⟨rfl,rfl,e4,⟨Nat.le_trans kp2.1 (Nat.le_trans kp3.1 kp4.1),fun b hb=>(kp4.2 b (Nat.lt_of_lt_of_le hb (Nat.le_trans kp2.1 kp3.1))).trans ((kp3.2 b (Nat.lt_of_lt_of_le hb kp2.1)).trans (kp2.2 b hb))⟩,j+1,ys,wr1 (by omega),by omega,o4.cast ?_,?_⟩,?_⟩
   ·simp only[List.length_append,List.length_singleton]
   ·simp only[List.length_append,List.length_singleton];omega
   ·rw[O8 gw];simp only[List.length_append,List.length_singleton];omega
   ·rw[O8 gw];simp only[List.append_assoc]at z4⊢;exact z4
   ·rw[wr1 (by omega)];show f.length-(j+1)<f.length-j;omega
  ·have hjl:f.take j=f:=List.take_of_length_le (by omega)
   rw[hjl]at o2 z2 t1
   refine Fn e2 rfl o2 (by simp only[List.length_append,List.length_singleton];omega) (fun h=>by cases h) fun v3 st3 e3 kp3 o3=>hk v3 _ st3 e3 ⟨Nat.le_trans kp2.1 kp3.1,fun b hb=>(kp3.2 b (Nat.lt_of_lt_of_le hb kp2.1)).trans (kp2.2 b hb)⟩ (o3.cast ?_) (?_)
   ·simp only[List.length_append,List.length_singleton];omega
   ·have:=(z2.keep kp3).app (.one (Dq st3 Ev.me rfl fun s h=>by cases h))
    simp only[List.append_assoc]at this⊢
    exact this
 ·obtain⟨hk6,rfl,rfl,hb⟩:s.kind<6/\l=[]/\f=[]/\s.bytes=[]:=by
   rcases hT1 with h | h | h
   ·exact h
   ·omega
   ·omega
  have e:evV (.mk s [] [])=[.val s]:=Nw hk6
  rw[e]at hk
  refine copy_ok (by omega) hC (h.keep (Lb st)) fun ub1 ul1 uf1 st1 fp g1 o1 o2 o3 _ _ e1=>Aa (show(_&&(_&&List.all (Ba s ub1 ul1 uf1) Ap))=true from by unfold Ba;rw[CJ o1 o2 o3];rfl) ?_
  refine Fn (e0.trans e1) rfl (ho.ext e1) (by omega) (fun h=>by cases h) fun v3 st3 e3 kp3 o3=>hk v3 _ st3 e3 ⟨Nat.le_trans e1.nb kp3.1,fun b hb=>(kp3.2 b (Nat.lt_of_lt_of_le hb e1.nb)).trans (e1.box b hb)⟩ (o3.cast ?_) ?_
  ·simp only[List.length_append,List.length_singleton]
  ·exact((hx.keep e1.keeps).keep kp3).app (.one ⟨ub1,ul1,uf1,rfl,g1.rd.keep kp3⟩)
theorem pOf_ok {v:Vl} (hN:v.sz<=2000000) (hC:v.cnt<=65536) (hT:TrE v) {st:St} {cs:List TV} {K:TV->St->Prop} (h:VlR St.zero v cs)
  (hk:∀u ys st',Ay st st'->Rd 15 u (evV v).length ys->EA st' (evV v) ys->K u st'):Ae PR Ik [.agg cs] [.one .tv] st K:=by
 obtain⟨s,l,f⟩:=v
 obtain⟨ub,ul,uf,xl,xf,rfl,_⟩:=h.cells
 exact QJ _ _ _ _ _ _ _ _ _ _ _ _ _ st K (pof_ok 2000000 _ hN (Nat.le_refl _) hC hT h (Ay.refl st) (es:=[]) (Own.nil _ _ _) rfl (by simp only[List.length_nil];omega) fun u ys st' e _ o z=>hk u ys st' e o.rd z)
end
section
mutual
theorem Nx:∀v:Vl,TrE v->∀e,e∈evV v->e.sc.bytes=[]/\(Bm e.sc).sz<=v.sz
 | .mk s l f,hT,e,he=>by
  have hz:(Bm scZ).sz=1:=by rw[VS];rfl
  have hs:=szs s l f
  unfold TrE at hT
  obtain⟨h1,h2,h3⟩:=hT
  unfold evV at he
  split at he
  ·rename_i hk
   obtain⟨_,rfl,rfl,hb⟩:s.kind<6/\l=[]/\f=[]/\s.bytes=[]:=by
    rcases h1 with h | h | h
    ·exact h
    ·omega
    ·omega
   rw[List.mem_singleton]at he
   subst he
   exact⟨hb,Nat.le_refl _⟩
  ·have flat:∀d:Ev,d.sc=scZ->d.sc.bytes=[]/\(Bm d.sc).sz<=(Vl.mk s l f).sz:=fun d h=>by rw[h,hz];exact⟨rfl,by omega⟩
   have hb:∀(p:Prop) [Decidable p] (x y:Ev),x.sc=scZ->y.sc=scZ->(if p then x else y).sc=scZ:=fun p _ x y hx hy=>by split<;>assumption
   rcases List.mem_append.1 he with he | he
   ·rw[List.mem_singleton]at he
    subst he
    exact flat _ (hb _ _ _ rfl rfl)
   rcases List.mem_append.1 he with he | he
   ·obtain⟨a,b⟩:=O6 l h2 e he
    exact⟨a,by omega⟩
   rcases List.mem_append.1 he with he | he
   ·obtain⟨a,b⟩:=O9 f h3 e he
    exact⟨a,by omega⟩
   ·rw[List.mem_singleton]at he
    subst he
    exact flat _ (hb _ _ _ rfl rfl)
theorem O6:∀l:List Vl,IJ l->∀e,e∈Dp l->e.sc.bytes=[]/\(Bm e.sc).sz<=BM l
 | [],hT,e,he=>by unfold Dp at he;cases he
 | v::r,hT,e,he=>by
  unfold IJ at hT
  unfold Dp at he
  unfold BM
  rcases List.mem_append.1 he with he | he
  ·obtain⟨a,b⟩:=Nx v hT.1 e he
   exact⟨a,by omega⟩
  ·obtain⟨a,b⟩:=O6 r hT.2 e he
   exact⟨a,by omega⟩
theorem O9:∀l:List Fd,IK l->∀e,e∈DH l->e.sc.bytes=[]/\(Bm e.sc).sz<=Cl l
 | [],hT,e,he=>by unfold DH at he;cases he
 | .mk k v::r,hT,e,he=>by
  have hz:(Bm scZ).sz=1:=by rw[VS];rfl
  unfold IK at hT
  unfold DH at he
  unfold Cl
  rw[szd]
  have hp:=v.sz_pos
  rcases List.mem_append.1 he with he | he
  ·rw[List.mem_singleton]at he
   subst he
   show scZ.bytes=[]/\(Bm scZ).sz<=_
   rw[hz]
   exact⟨rfl,by omega⟩
  rcases List.mem_append.1 he with he | he
  ·obtain⟨a,b⟩:=Nx v hT.1 e he
   exact⟨a,by omega⟩
  ·obtain⟨a,b⟩:=O9 r hT.2 e he
   exact⟨a,by omega⟩
end
theorem QT {s:Sc} (h:s.kind<6) (hb:s.bytes=[]):TrE (Bm s):=by
 unfold Bm TrE
 exact⟨.inl ⟨h,rfl,rfl,hb⟩,by unfold IJ;trivial,by unfold IK;trivial⟩
theorem QS {l:List Vl} (h:IJ l):TrE (BW l):=by
 unfold BW TrE
 exact⟨.inr (.inl ⟨rfl,rfl⟩),h,by unfold IK;trivial⟩
theorem trE_map {f:List Fd} (h:IK f):TrE (Mw f):=by
 unfold Mw TrE
 exact⟨.inr (.inr ⟨rfl,rfl⟩),by unfold IJ;trivial,h⟩
theorem JP {α:Type} {g:α->Vl}:∀{l:List α},(∀x,x∈l->TrE (g x))->IJ (l.map g)
 | [],_=>by unfold List.map IJ;trivial
 | x::r,h=>by
  rw[List.map_cons]
  unfold IJ
  exact⟨h x (.head _),JP fun y hy=>h y (.tail _ hy)⟩
theorem QR:∀(n:List B8) (r:List Sc),(∀s,s∈r->s.kind<6/\s.bytes=[])->IK (EB n r)
 | [],r,h=>by unfold EB;rw[List.zipWith_nil_left];unfold IK;trivial
 | k::n,[],h=>by unfold EB;rw[List.zipWith_nil_right];unfold IK;trivial
 | k::n,s::r,h=>by
  unfold EB
  rw[List.zipWith_cons_cons]
  unfold IK
  obtain⟨a,b⟩:=h s (.head _)
  exact⟨QT a b,QR n r fun t ht=>h t (.tail _ ht)⟩
theorem KX (q:Int) (ty:Bool) (r:List B8):∀s,s∈Ca q ty r->s.kind<6/\s.bytes=[]:=fun s hs=>by
 unfold Ca at hs
 obtain⟨c,_,rfl⟩:=List.mem_map.1 hs
 exact⟨NT ..,Ga ..⟩
theorem TS (q:Int) (hd ty:Bool) (L:List (List B8)):TrE (BW (Df q hd ty L)):=by
 refine QS ?_
 cases hd with
 | false=>
  rw[Dw]
  exact JP fun r _=>QS (JP fun s hs=>QT (KX _ _ _ s hs).1 (KX _ _ _ s hs).2)
 | true=>
  cases L with
  | nil=>unfold Df IJ;trivial
  | cons h t=>exact JP fun r _=>trE_map (QR _ _ (KX _ _ _))
section
variable {a q:Int} {hd ty:Bool} {l0 l1 l2 l3 l4 size:Int} {s:B8}
theorem O7 (hok:Id a q l0 l1 l2 l3 l4 size) (hs:s.length<=70000):evR (E7 a q hd ty l0 l1 size) l2 s=
  if l2<s.length then .error (0,10)else if A7 s≠s.length then .error ((A7 s:Int),5)else match A9 ⟨s,a,q,l0,l1⟩ hd l2 l3 l4 with
   | .error p=> .error (Jd p (Dl (E7 a q hd ty l0 l1 size) s 0))
   | .ok n=>match Dl (E7 a q hd ty l0 l1 size) s 0 with | some m=> .error ((m:Int),28) | none=> .ok (evV (BW (Df q hd ty (Bu (H8 n))))):=by
 obtain⟨h1,h2,h3⟩:=hok
 unfold evR
 by_cases g1:l2<s.length
 ·rw[if_pos g1,if_pos g1]
 rw[if_neg g1,if_neg g1]
 by_cases g2:A7 s≠s.length
 ·rw[if_pos g2,if_pos g2]
 rw[if_neg g2,if_neg g2]
 have hP:A9 ⟨s,a,q,l0,l1⟩ hd l2 l3 l4=match DI ⟨s,a,q,l0,l1⟩ hd (s.length+1) [] 0 1 [] 0 with | .error e=> .error e | .ok rs=> .ok (.mk 1 [] [] rs []):=by
  unfold A9
  rw[if_neg (by rw[h2];decide),if_neg (by rw[h3];decide),if_neg g1,if_neg g2]
  rfl
 have hc:DI (cxA (E7 a q hd ty l0 l1 size) s) (E7 a q hd ty l0 l1 size).hd (s.length+1) [] 0 1 [] 0=DI ⟨s,a,q,l0,l1⟩ hd (s.length+1) [] 0 1 [] 0:=rfl
 rw[hc]
 cases hD:DI ⟨s,a,q,l0,l1⟩ hd (s.length+1) [] 0 1 [] 0 with
 | error p=>rw[hD]at hP;rw[hP]
 | ok rs=>
  rw[hD]at hP
  rw[hP]
  have hU:=Ib hP
  obtain⟨htx,_,hou⟩:=M6 hs hU
  obtain⟨rs',W,he,hT⟩:=OJ hou
  have he:Nd.mk 1 [] [] rs []= .mk 1 [] [] rs' []:=he
  cases he
  have hE:evV (BW (Df q hd ty (Bu rs)))=[Ev.ls]++(evD (E7 a q hd ty l0 l1 size) rs++[Ev.le]):=by
   cases rs with
   | nil=>exact Uo (c:=E7 a q hd ty l0 l1 size) (rs:=[]) (W:=1) (Nat.le_refl _) fun r hr=>by cases hr
   | cons r t=>
    have hW:1<=W:=by
     have h4:=hT.wid r (.head _)
     obtain⟨ents,tail,hrE,hne,hents⟩:=hT.form r (.head _)
     have hke:AA r=ents:=by rw[hrE];rfl
     rw[<-h4,hke];exact hne
    exact Uo (c:=E7 a q hd ty l0 l1 size) hW fun r' hr=>hT.wid r' hr
  show(match Dl (E7 a q hd ty l0 l1 size) s 0 with | some m=>_ | none=>_)=match Dl (E7 a q hd ty l0 l1 size) s 0 with | some m=>_ | none=>Except.ok (evV (BW (Df q hd ty (Bu rs))))
  rw[hE]
theorem RQ (hok:Id a q l0 l1 l2 l3 l4 size) (hs:s.length<=1500) {es:List Ev} (h:evR (E7 a q hd ty l0 l1 size) l2 s= .ok es):es.length<=6000000/\(∀e,e∈es->(Bm e.sc).sz<=2000000)/\NoB es/\
  ∃rs,A9 ⟨s,a,q,l0,l1⟩ hd l2 l3 l4= .ok (.mk 1 [] [] rs [])/\es=evV (BW (Df q hd ty (Bu rs)))/\(BW (Df q hd ty (Bu rs))).sz<=1600000:=by
 rw[O7 (l3:=l3) (l4:=l4) hok (by omega)]at h
 split at h
 ·cases h
 split at h
 ·cases h
 split at h
 ·cases h
 ·rename_i n hP
  split at h
  ·cases h
  ·cases h
   obtain⟨rs,rfl,_⟩:=BP hP
   have hz:(BW (Df q hd ty (Bu rs))).sz<=1600000:=read_sz (ty:=ty) (Ib hP) hs
   have hl:=Mh (BW (Df q hd ty (Bu rs)))
   have hf:=Nx _ (TS q hd ty (Bu rs))
   refine⟨by show(evV (BW (Df q hd ty (Bu rs)))).length<=_;omega,fun e he=>?_,fun s' hs'=>(hf _ hs').1,rs,hP,rfl,hz⟩
   have:=(hf e he).2
   omega
end
section
variable {a q:Int} {hd ty:Bool} {l0 l1 l2 l3 l4 size:Int} {st:St}
theorem dOk_13 {a q:Int} (h:dOk a q=true):a≠13:=fun e=>by
 subst e
 unfold dOk at h
 simp at h
theorem Lj {ps:List B8} {parts:TV} (hp:Rd 1 parts ps.length (ps.map TV.str)) (hsz:ps.length<=60/\ps.flatten.length<=1500) {K:TV->Int->Int->St->Prop}
  (hk0:¬Id a q l0 l1 l2 l3 l4 size->∀st',K .nilSlice 0 1 st')
  (hk1:Id a q l0 l1 l2 l3 l4 size->∀o e st',e≠0->evR (E7 a q hd ty l0 l1 size) l2 ps.flatten= .error (o,e)->K .nilSlice o e st')
  (hk2:Id a q l0 l1 l2 l3 l4 size->∀es u xs st',evR (E7 a q hd ty l0 l1 size) l2 ps.flatten= .ok es->Rd 15 u es.length xs->EA St.zero es xs->K u 0 0 st'):
  Ae PR A5 [parts,.agg [.int .u8 a,.int .u8 q,.bool hd,.bool ty],.agg [.int .i64 l0,.int .i64 l1,.int .i64 l2,.int .i64 l3,.int .i64 l4],.int .i64 size] [.one .tv,.one (.int .i64),.one (.int .i64)] st K:=by
 refine Tn hp (by omega) (fun g st' _=>hk0 g st') fun g p E hpp hE v st' _ _ hv=>?_
 have hwin:1<=(E7 a q hd ty l0 l1 size).win:=by show 1<=size.toNat;have:=g.1;omega
 have hdl:=dlOk g.2.1
 have hR:=U5 (l2:=l2) (l3:=l3) (l4:=l4) (ps:=ps) hwin (show a≠10/\a≠13 from⟨hdl.a10,dOk_13 g.2.1⟩) hpp
 rw[<-hE]at hR
 unfold Pb at hR
 by_cases h0:E.err≠0
 ·rw[if_pos h0]at hR hv
  rw[if_pos h0,hv]
  exact hk1 g _ _ st' h0 hR.symm
 ·rw[if_neg h0]at hR hv
  have e0:E.err=0:=Decidable.not_not.1 h0
  obtain⟨f1,f2,f3,_⟩:=RQ (l3:=l3) (l4:=l4) g hsz.2 hR.symm
  rw[if_neg h0,e0]
  exact hk2 g _ v _ st' hR.symm hv (O4 _ f3)
end
end
section
def wC:SC:=E7 44 34 true true 48 65536 10
def wX0:RX:=Kc 1048576 1024 65536
def wX1:RX:=DS MF wX0
def wA1:RA:=Ce wC MF wX0 RA.start
def wX2:RX:=DS PQ wX1
def wA2:RA:=Ce wC PQ wX1 (FX wA1)
def wX3:RX:=DS Sv wX2
def wA3:RA:=Ce wC Sv wX2 (FX wA2)
def wE:RA:=II wC wX3 (FX wA3)
theorem w1:wA1.out.length=1:=by kernel_rfl
theorem w1t:(FX wA1).told=true:=by kernel_rfl
theorem w1n:(FX wA1).names=[[97],[98]]:=by kernel_rfl
theorem w2:wA2.out.length=3:=by kernel_rfl
theorem w3:wA3.out.length=0:=by kernel_rfl
theorem wEe:wE.err=0:=by kernel_rfl
theorem wEl:(wE.out++[Ev.le]).length=4:=by kernel_rfl
theorem wP:evR (E7 44 34 true true 48 65536 3) 1048576 [str5,str6].flatten= .error (2,28):=by kernel_rfl
theorem wQ:evR (E7 44 34 true true 48 65536 3) 1048576 [str7].flatten= .error (1,3):=by kernel_rfl
theorem wOk:Id 44 34 48 65536 1048576 1024 65536 10:=⟨by decide,by decide,by decide⟩
theorem wOk3:Id 44 34 48 65536 1048576 1024 65536 3:=⟨by decide,by decide,by decide⟩
theorem Bj {st:St} {K:Bool->St->Prop} (hk:∀st',K true st'):Ae PR A1 [] [.one .bool] st K:=by
 refine HL st K (HJ st _ (HK st _ (UA (fun g=>absurd wOk g) fun _ st3 e3 hR=>Ac (fun h=>absurd rfl h) fun _=>?_)))
 have hR:RB wC wX0 RA.start (st.nb+2) st.nb (st.nb+1) [] st3:=hR
 have f0:FI wC [] 1 wX0 RA.start:=FI.start wC 1048576 1024 65536
 have hwin:wC.win<=100000000:=by decide
 have f1:FI wC ([]++MF) (1+1+3*MF.length) wX1 (FX wA1):=f0.feed
 have f2:FI wC ([]++MF++PQ) (1+1+3*MF.length+1+3*PQ.length) wX2 (FX wA2):=f1.feed
 have f3:FI wC ([]++MF++PQ++Sv) (1+1+3*MF.length+1+3*PQ.length+1+3*Sv.length) wX3 (FX wA3):=f2.feed
 have room:∀{P:B8} {k:Nat} {X:RX} {A:RA},FI wC P k X A->P.length<=100->X.cut.length<=100/\((X.cut.length:Int)<=X.size/\X.size<=100000000):=fun f h=>by
  have:=f.cut
  have:=f.tx.size
  exact⟨by omega,by omega,by omega⟩
 have r0:=room f0 (by decide)
 have r1:=room f1 (by decide)
 have r2:=room f2 (by decide)
 have r3:=room f3 (by decide)
 refine Kq hR f0.sz hwin f0.w (s:=MF) (by decide) (by have:MF.length=4:=rfl;omega) r0.2 (fun g=>by rw[f0.ended]at g;cases g) fun _ v2 st4 I4 J4 h4 _ o4 _=>?_
 have h4:RB wC wX1 (FX wA1) (st.nb+2) st.nb (st.nb+1) I4 st4:=h4
 have o4:Da 15 st4 v2 wA1.out.length (DG wA1.out) J4:=o4
 refine R4 h4 (by rw[w1n];decide) (fun g=>g.elim (fun g=>by rw[w1t]at g;cases g) fun g=>by cases g) fun _ _ v3 st5 hv3 h5 _=>?_
 rw[w1n]at hv3
 refine Kq h5 f1.sz hwin f1.w (s:=PQ) (by decide) (by have:PQ.length=2:=rfl;omega) r1.2 (fun g=>by rw[f1.ended]at g;cases g) fun _ v4 st6 I6 J6 h6 _ o6 _=>?_
 have h6:RB wC wX2 (FX wA2) (st.nb+2) st.nb (st.nb+1) I6 st6:=h6
 have o6:Da 15 st6 v4 wA2.out.length (DG wA2.out) J6:=o6
 refine Kq h6 f2.sz hwin f2.w (s:=Sv) (by decide) (by have:Sv.length=1:=rfl;omega) r2.2 (fun g=>by rw[f2.ended]at g;cases g) fun _ v5 st7 I7 J7 h7 _ o7 _=>?_
 have h7:RB wC wX3 (FX wA3) (st.nb+2) st.nb (st.nb+1) I7 st7:=h7
 have o7:Da 15 st7 v5 wA3.out.length (DG wA3.out) J7:=o7
 refine UB h7 f3.sz hwin f3.w (by decide) (by omega) r3.2 (fun g=>by rw[f3.ended]at g;cases g) fun _ v6 st8 I8 h8 _ _ _ hv6=>?_
 have hv6:(if wE.err≠0 then v6= .nilSlice else Rd 15 v6 (wE.out++[Ev.le]).length (DG (wE.out++[Ev.le]))):=hv6
 rw[if_neg (by rw[wEe];decide)]at hv6
 rw[show(II wC wX3 (FX wA3)).err=0 from wEe]
 refine Lj (ps:=[str5,str6]) (.inr ⟨.full,rfl⟩) ⟨by decide,by decide⟩ (fun g=>absurd wOk3 g) (fun _ o e st9 _ hE=>?_) fun _ es u xs st9 hE _ _=>by rw[wP]at hE;cases hE
 rw[wP]at hE
 cases hE
 refine Lj (ps:=[str7]) (.inr ⟨.full,rfl⟩) ⟨by decide,by decide⟩ (fun g=>absurd wOk3 g) (fun _ o e st10 _ hE=>?_) fun _ es u xs st9 hE _ _=>by rw[wQ]at hE;cases hE
 rw[wQ]at hE
 cases hE
 have ok:∀{n m:Int} {p q:Prop},n=m->q->BIf (decide (n≠m)) p q:=fun h hq=>Ac (fun g=>absurd h g) fun _=>hq
 have yes:∀{n m:Int} {p q:Prop},n=m->p->BIf (decide (n=m)) p q:=fun h hp=>Ac (fun _=>hp) fun g=>absurd h g
 refine ok rfl (ok rfl (ok rfl (ok rfl (Aa o4.rd.isSl (ok (by rw[o4.rd.lenS,w1];rfl) (Aa o6.rd.isSl (ok (by rw[o6.rd.lenS,w2];rfl) (Aa o7.rd.isSl (ok (by rw[o7.rd.lenS,w3];rfl) (Aa hv6.isSl (ok (by rw[hv6.lenS,wEl];rfl) (Aa hv3.isSl (ok (by rw[hv3.lenS];rfl)
  ⟨⟨by decide,by rw[hv3.lenZ];decide⟩,Ad (hv3.ldx _ 1 0 rfl) (Al (Ac (fun g=>absurd (show([98]:B8)=str8 from rfl) g) fun _=>yes rfl (yes rfl (yes rfl (hk _)))))⟩)))))))))))))
theorem V1:∀row:List Sc,Ep (row.map Bm)=row.length
 | []=>rfl
 | s::r=>by rw[List.map_cons,Ep,R5,V1 r,List.length_cons];omega
theorem VG:∀(n:List B8) (r:List Sc),GS (EB n r)<=r.length
 | [],r=>by unfold EB;rw[List.zipWith_nil_left];exact Nat.zero_le _
 | k::n,[]=>by unfold EB;rw[List.zipWith_nil_right];exact Nat.zero_le _
 | k::n,s::r=>by
  have:=VG n r
  show GS (Fd.mk k (Bm s)::EB n r)<=_
  rw[GS,fcnt,R5,List.length_cons];omega
theorem Rc (q:Int) (ty:Bool):∀L:List (List B8),Ep (L.map fun r=>BW ((Ca q ty r).map Bm))=L.length+FP L
 | []=>rfl
 | r::L=>by
  have:=Rc q ty L
  rw[List.map_cons,Ep,this]
  unfold BW
  rw[vcnt,V1,FA,List.length_cons]
  simp only[FP,GS,List.map_cons,List.sum_cons]
  omega
theorem Rb (q:Int) (ty:Bool) (n:List B8):∀L:List (List B8),Ep (L.map fun r=>MS n (Ca q ty r))<=L.length+FP L
 | []=>Nat.le_refl _
 | r::L=>by
  have h:=Rb q ty n L
  have hz:=VG n (Ca q ty r)
  rw[FA]at hz
  rw[List.map_cons,Ep]
  have:(MS n (Ca q ty r)).cnt<=1+r.length:=by
   show(Mw (EB n (Ca q ty r))).cnt<=_
   unfold Mw
   rw[vcnt]
   simp only[Ep];omega
  rw[List.length_cons]
  simp only[FP,List.map_cons,List.sum_cons]at h⊢
  omega
theorem val_cnt {a q:Int} {hd ty:Bool} {l0 l1 l2 l3 l4:Int} {s:B8} {rs:List Nd} (hP:A9 ⟨s,a,q,l0,l1⟩ hd l2 l3 l4= .ok (.mk 1 [] [] rs [])) (hs:s.length<=1500):(BW (Df q hd ty (Bu rs))).cnt<=65536:=by
 obtain⟨rs',hn,_,_,_,_,_,hr,_⟩:=BP hP
 cases hn
 obtain⟨_,h2,_,h4⟩:=MR hr (Nat.zero_le _)
 have hl:(Bu rs).length=rs.length:=by unfold Bu;rw[List.length_map]
 have:Ep (Df q hd ty (Bu rs))<=(Bu rs).length+FP (Bu rs):=by
  generalize Bu rs=L
  cases hd with
  | false=>rw[Dw,Rc];exact Nat.le_refl _
  | true=>
   cases L with
   | nil=>exact Nat.le_refl _
   | cons h t=>
    have:=Rb q ty (h.map (txt q)) t
    show Ep (t.map fun r=>MS (h.map (txt q)) (Ca q ty r))<=_
    rw[List.length_cons]
    simp only[FP,List.map_cons,List.sum_cons]at this⊢
    omega
 unfold BW
 rw[vcnt]
 simp only[GS]
 have h4:rs.length+0<=s.length:=h4
 have h2:FP (Bu rs)+0<=s.length+1:=h2
 omega
section
variable {a q:Int} {hd ty:Bool} {l0 l1 l2 l3 l4 size:Int} {st:St}
theorem Q8 {st:St} {K:Bool->St->Prop} (hk:K true st):Ae PR BB [.nilSlice,.nilSlice] [.one .bool] st K:=
 KV (l:=[]) (xs:=[]) (ys:=[]) (.inl ⟨rfl,rfl,rfl⟩) rfl (.inl ⟨rfl,rfl,rfl⟩) rfl (fun e h=>by cases h) (by decide) hk
theorem Va {c:SC} {s:B8} (h:s.length<=c.win):∀i,i<=s.length->Dl c s i=none:=fun i hi=>by
 have:∀n i,i<=s.length+1->Ha c s n i=none:=by
  intro n
  induction n with
  | zero=>intro i _;rfl
  | succ n ih=>
   intro i hi
   rw[Ha]
   by_cases hl:s.length<=i
   ·rw[if_pos hl]
   obtain⟨g1,g2⟩:=Qh (c:=c) (s:=s) (i:=i) (by omega)
   rw[if_neg hl,if_neg (by omega),ih _ (by omega)]
   split
   ·rfl
   split
   ·rfl
   split
   ·exact ih _ (by omega)
   ·rfl
 exact this _ i (by omega)
theorem SY {parts:TV} {ps:List B8} (hp:Rd 1 parts ps.length (ps.map TV.str)) (hb:∀s,s∈ps->s.length<=140737488351232) {K:Bool->St->Prop} (hk:∀st',K true st'):
  Ae PR Bp [parts,.agg [.int .u8 a,.int .u8 q,.bool hd,.bool ty],.agg [.int .i64 l0,.int .i64 l1,.int .i64 l2,.int .i64 l3,.int .i64 l4,.int .i64 size]] [.one .bool] st K:=by
 have yes:∀{n m:Int} {p q:Prop},n=m->p->BIf (decide (n=m)) p q:=fun h hp=>Ac (fun _=>hp) fun g=>absurd h g
 have no:∀{n m:Int} {p q:Prop},n=m->q->BIf (decide (n≠m)) p q:=fun h hq=>Ac (fun g=>absurd h g) fun _=>hq
 refine DJ parts a q hd ty l0 l1 l2 l3 l4 size st K (Sx hp hb fun r hr=>Au (fun _=>Bj hk) fun g=>?_)
 have hsz:=hr ((Bool.not_eq_false' _).mp g)
 have hsz2: [ps.flatten].length<=60/\[ps.flatten].flatten.length<=1500:=⟨by show 1<=60;decide,by simpa using hsz.2⟩
 have hfl: [ps.flatten].flatten=ps.flatten:=by simp
 have hp2:Rd 1 (.list 1 .full 1 [.str ps.flatten]) [ps.flatten].length ([ps.flatten].map TV.str):= .inr ⟨.full,rfl⟩
 refine Vf hp hsz (Lj hp hsz (fun n0 st1=>?_) (fun n0 o e st1 he hE=>?_) fun n0 es u xs st1 hE hu hx=>?_)
 ·refine Lj hp2 hsz2 (fun _ st2=>?_) (fun n1=>absurd n1 n0) fun n1=>absurd n1 n0
  refine Q8 (Au (fun g=>by cases g) fun _=>no rfl (no rfl (Ac (fun _=>Bj hk) fun g1=>Ac (fun _=>Bj hk) fun g2=>Ac (fun _=>Bj hk) fun g3=>?_)))
  refine Ni (by omega) (fun p st3 _ hP _=>Aa (CJ rfl rfl rfl) (Ac (fun _=>Aa rfl (yes rfl ?_)) fun h=>?_)) fun rs u xs st3 _ hP _ _=>?_
  ·have h1:A9 ⟨ps.flatten,a,q,l0,l1⟩ hd l2 l3 l4= .error (0,1):=by
    unfold A9
    by_cases d:dOk a q=false
    ·rw[if_pos d]
    ·rw[if_neg d]
     by_cases l:lOk l0 l1 l2 l3 l4=false
     ·rw[if_pos l]
     ·exact absurd ⟨⟨by omega,by omega⟩,by simpa using d,by simpa using l⟩ n0
   rw[h1]at hP
   cases hP
   exact yes rfl (yes rfl (Bj hk))
  ·rename_i hne
   exact absurd h (by simpa using hne)
  ·obtain⟨_,_,d1,d2,_⟩:=BP hP
   exact absurd ⟨⟨by omega,by omega⟩,d1,d2⟩ n0
 ·refine Lj hp2 hsz2 (fun n1=>absurd n0 n1) (fun _ o' e' st2 _ hE'=>?_) fun _ es u xs st2 hE'=>by rw[hfl,hE]at hE';cases hE'
  rw[hfl,hE]at hE'
  cases hE'
  refine Q8 (Au (fun g=>by cases g) fun _=>no rfl (no rfl (Ac (fun _=>Bj hk) fun g1=>Ac (fun _=>Bj hk) fun g2=>Ac (fun _=>Bj hk) fun g3=>?_)))
  have hM:Dl (E7 a q hd ty l0 l1 size) ps.flatten 0=none:=Va (by show _<=size.toNat;omega) 0 (Nat.zero_le _)
  have hR:=O7 (hd:=hd) (ty:=ty) (s:=ps.flatten) n0 (by omega)
  rw[hE,hM]at hR
  have hP0:∀x,A9 ⟨ps.flatten,a,q,l0,l1⟩ hd l2 l3 l4=x->Except.error (o,e)=(match x with | .error p=>Except.error ((p.1:Int),p.2) | .ok n=> .ok (evV (BW (Df q hd ty (Bu (H8 n)))))):=fun x hx=>by
   subst hx
   obtain⟨_,h2,h3⟩:=n0
   rw[hR]
   by_cases g4:l2<ps.flatten.length
   ·rw[if_pos g4]
    unfold A9
    rw[if_neg (by rw[h2];decide),if_neg (by rw[h3];decide),if_pos g4];rfl
   rw[if_neg g4]
   by_cases g5:A7 ps.flatten≠ps.flatten.length
   ·rw[if_pos g5]
    unfold A9
    rw[if_neg (by rw[h2];decide),if_neg (by rw[h3];decide),if_neg g4,if_pos g5]
   rw[if_neg g5]
   cases A9 ⟨ps.flatten,a,q,l0,l1⟩ hd l2 l3 l4<;>rfl
  refine Ni (by omega) (fun p st3 _ hP hpe=>?_) fun rs u xs st3 _ hP _ _=>?_
  ·have:=hP0 _ hP
   simp only[Except.error.injEq,Prod.mk.injEq]at this
   obtain⟨rfl,rfl⟩:=this
   exact Aa (CJ rfl rfl rfl) (Ac (fun _=>Aa rfl (yes rfl (yes rfl (yes rfl (Bj hk))))) fun h=>absurd hpe h)
  ·have:=hP0 _ hP
   cases this
 ·refine Lj hp2 hsz2 (fun n1=>absurd n0 n1) (fun _ o' e' st2 _ hE'=>by rw[hfl,hE]at hE';cases hE') fun _ es' u' xs' st2 hE' hu' hx'=>?_
  rw[hfl,hE]at hE'
  cases hE'
  obtain⟨f1,f2,_,rs,hP,hes,hz⟩:=RQ (l3:=l3) (l4:=l4) n0 hsz.2 hE
  refine KV hu (hx.keep (Lb st2)) hu' (hx'.keep (Lb st2)) f2 (by omega) (Au (fun g=>by cases g) fun _=>no rfl (no rfl (Ac (fun _=>Bj hk) fun g1=>Ac (fun _=>Bj hk) fun g2=>Ac (fun _=>Bj hk) fun g3=>?_)))
  refine Ni (by omega) (fun p st3 _ hP' _=>by rw[hP]at hP';cases hP') fun rs' u3 xs3 st3 _ hP' hu3 hx3=>?_
  rw[hP]at hP'
  cases hP'
  have hcn:(BW (Df q hd ty (Bu rs))).cnt<=65536:=val_cnt (hd:=hd) (ty:=ty) hP hsz.2
  refine Aa (CJ rfl hu3.one rfl) (no rfl (yes rfl (yes rfl (pOf_ok (by omega) hcn (TS q hd ty (Bu rs)) (TL hu3 hx3) fun u4 ys4 st4 _ hu4 hy4=>?_))))
  rw[<-hes]at hu4 hy4
  exact KV hu (hx.keep (Lb st4)) hu4 hy4 f2 (by omega) (Au (fun _=>Bj hk) fun g=>by cases g)
end
end
section
theorem one_str {ck:List TV} (h:flatIs [.str] ck):∃s,ck=[.str s]:=by
 obtain⟨s,ys,rfl,_,rfl⟩:=h
 exact⟨s,rfl⟩
theorem SlS.row {v:TV} (h:SlS 1 (flatIs [.str]) v):∃row:List B8,Ky TV.str v row:=by
 rcases h with rfl | ⟨cks,rfl,h⟩
 ·exact⟨[],.inl ⟨rfl,rfl,rfl⟩⟩
 ·have:∃row:List B8,row.length=cks.length/\cks.flatten=row.map TV.str:=by
   induction cks with
   | nil=>exact⟨[],rfl,rfl⟩
   | cons c r ih=>
    obtain⟨row,h1,h2⟩:=ih (fun ck hk=>h ck (.tail _ hk))
    obtain⟨s,rfl⟩:=one_str (h c (.head _)).2
    exact⟨s::row,by simp[h1],by simp[h2]⟩
  obtain⟨row,h1,h2⟩:=this
  exact⟨row,.inr ⟨.non,by rw[h1,h2]⟩⟩
section
variable {H:Type} {enc:TypeId×Value->H} {P:Program} {w:World} {base b0:Nat} {held:Bool}
end
end
end Go.TVF
section
namespace Go.TVF
open Go.IntKind(i64 u8)
open Go Go.Proofs Go.ChangeShapes
def IsStrsB (v:TV):Prop:=∃ps:List B8,Rd 1 v ps.length (ps.map TV.str)/\∀s,s∈ps->s.length<=140737488351232
def IsBnd (v:TV):Prop:=∃l0 l1 l2 l3 l4 n:Int,v= .agg [.int .i64 l0,.int .i64 l1,.int .i64 l2,.int .i64 l3,.int .i64 l4,.int .i64 n]
theorem J5 {g:Ghost} {w:World} {sz:Nat} {tip:Tip} {n:Nat} {xs:List TV} {v:Value} (h:Rel g w (.list sz tip n xs) v):(n=0/\xs=[])∨∃(b o cap:Nat) (us:Nat->Value),v= .slice (some ⟨b,o,none⟩) n cap/\xs.length=n*sz/\n<=cap/\(∀i,i<xs.length->g.S ⟨b,o+i,none⟩/\w.cell? ⟨b,o+i,none⟩=some (us i))/\∀i (h:i<xs.length),Rel g w xs[i] (us i):=by
 cases h with
 | listE=>exact .inl ⟨rfl,rfl⟩
 | list _ _ _ _ b o cap us hl hn hc hr ht=>exact .inr ⟨b,o,cap,us,rfl,hl,hn,hc,hr⟩
theorem relStr {g:Ghost} {w:World} {l:B8} {v:Value} (h:Rel g w (.str l) v):v= .string ⟨l.toArray⟩:=by cases h;rfl
section
variable {H:Type} {enc:TypeId×Value->H} {P:Program} {w:World} {base b0:Nat} {held:Bool}
theorem If {e:TypeId}:∀{l:List (DataW H)} {i:Nat} {b:B8},l[i]? =some (.lit (.string b))->b.length∈DataW.weightsAll P e l
 | [],i,b,h=>by simp at h
 | d::r,0,b,h=>by
  simp only[List.getElem?_cons_zero,Option.some.injEq]at h
  subst h
  simp[DataW.weightsAll,DataW.weights]
 | d::r,i+1,b,h=>by
  rw[DataW.weightsAll,List.mem_append]
  exact .inr (If (i:=i) (by simpa using h))
theorem Su {t e:TypeId} (ht:P.underlying t=some (.slice e)) (he:P.underlying e=some .string) (hc:P.cellsOf e=1) {v:Value} {u:TV} {ps:List B8} (hr:Rel (Ghost.start w) w u v) (hp:Rd 1 u ps.length (ps.map TV.str)) {n:Nat} {x:DataW H×List MemPlace}
  (hd:DataW.trod enc P w base (fun _=>true) held n t [v]=some x) (hw:∀k,k∈x.1.weights P t->k<=reachBytes):∀s,s∈ps->s.length<=140737488351232:=by
 intro s hs
 obtain⟨i,hi,hsi⟩:=List.getElem_of_mem hs
 rcases hp with⟨_,h0,_⟩ | ⟨tip,rfl⟩
 ·omega
 rcases DataW.trod_slice ht hd with⟨h1,_⟩ | ⟨a,len,cap,elems,rest,m,_,h1,rfl,_,hlc,_,hel,hix,_,_⟩
 ·simp only[List.cons.injEq,and_true]at h1
  rw[h1]at hr
  rcases J5 hr with⟨h0,_⟩ | ⟨b,o,cap',us,h2,_⟩
  ·omega
  ·cases h2
 ·simp only[List.cons.injEq,and_true]at h1
  rw[h1]at hr
  rcases J5 hr with⟨h0,_⟩ | ⟨b,o,cap',us,h2,hl,hn,hcl,hrl⟩
  ·omega
  ·obtain⟨rfl,rfl,rfl⟩:a=⟨b,o,none⟩/\len=ps.length/\cap=cap':=by
    simp only[Value.slice.injEq,Option.some.injEq]at h2
    exact h2
   have hxi:(ps.map TV.str)[i]? =some (.str s):=by rw[List.getElem?_map,List.getElem?_eq_getElem hi,hsi];rfl
   obtain⟨hlt,hxe⟩:=List.getElem?_eq_some_iff.1 hxi
   have hR:=hrl i hlt
   rw[hxe]at hR
   have hus:=relStr hR
   have hcell:=(hcl i hlt).2
   have hb:=hix i (by omega)
   rw[hc,Nat.mul_one,List.getElem?_eq_getElem (by omega)]at hb
   obtain⟨vs,hb1,hb2⟩:=Option.bind_eq_some_iff.1 hb
   obtain⟨_,hvl,hvc⟩:=World.cells?_some hb1
   have h0:=hvc 0 (by omega)
   obtain⟨s',rfl,hx,_⟩:=DataW.trod_string he hb2
   have e1:((⟨b,o,none⟩:Addr).add i).add 0=⟨b,o+i,none⟩:=by rw[Hr,Hr,Nat.add_zero]
   rw[e1,hcell,hus]at h0
   simp only[List.getElem?_cons_zero,Option.some.injEq,Value.string.injEq]at h0
   subst h0
   have hm:s.length∈DataW.weightsAll P e (elems.map (·.1)):=by
    refine If (i:=i) ?_
    rw[List.getElem?_map,List.getElem?_eq_getElem (by omega),hx]
    simp
   exact hw _ (by simp only[DataW.weights,ht];exact .tail _ (List.mem_append_left _ hm))
theorem open_strs {t e:TypeId} (ht:P.underlying t=some (.slice e)) (he:P.underlying e=some .string) (hc:P.cellsOf e=1) (ht1:P.cellsOf t=1) {v:Value} {d:DataW H} {p:List MemPlace}
  (hval:Value.okWide P w .any b0 t v) (h:DataW.Trod enc P w base (fun _=>true) held t v d p) (hw:∀k,k∈d.weights P t->k<=reachBytes):∃tv,Rel (Ghost.start w) w tv v/\IsStrsB tv:=by
 obtain⟨n,hn⟩:=h
 have hv:v.cells.toList=[v]:=by
  simp only[Value.okWide,ht,Cell.okWide,Cell.ok]at hval
  split at hval<;>first | rfl | (simp_all) | exact hval.elim
 rw[hv]at hn
 have hop:Op enc P w base held n 1 (fun tv=>∃v,tv=[v]/\SlS 1 (flatIs [.str]) v) t:=Wd (c:=1) ht ht1 (Nat.le_refl _) fun m hm=>op_cell (c:= .str) he hc
 obtain⟨cs,hr,_,u,rfl,hs⟩:=hop.2 _ _ hn
 obtain⟨row,hrow⟩:=hs.row
 have hr0:Rel (Ghost.start w) w u v:=hr.2 0 (by simp)
 exact⟨u,hr0,row,hrow,Su ht he hc hr0 hrow hn hw⟩
def bndQ:List (Nat×(Nat->List TV->Prop)):=[(5,fun k tv=>∃k',k'+1<=k/\EachQ [(1,cellQ (.int .i64)),(1,cellQ (.int .i64)),(1,cellQ (.int .i64)),(1,cellQ (.int .i64)),(1,cellQ (.int .i64))] k' tv),(1,cellQ (.int .i64))]
theorem Fm {k:Nat} {tv:List TV} (h:cellQ (.int .i64) k tv):∃n:Int,tv=[.int .i64 n]:=by
 obtain⟨⟨n,ys,rfl,_,rfl⟩,_⟩:=h
 exact⟨n,rfl⟩
theorem bnd_of {k:Nat} {tv:List TV} (h:EachQ bndQ k tv):∃l0 l1 l2 l3 l4 n:Int,tv=[.int .i64 l0,.int .i64 l1,.int .i64 l2,.int .i64 l3,.int .i64 l4,.int .i64 n]:=by
 obtain⟨a,b,_,_,rfl,_,⟨_,_,h5⟩,h6,_⟩:=h
 obtain⟨c,r,_,_,rfl,_,h7,h8,_⟩:=h6
 have h8:r=[]:=h8
 subst h8
 obtain⟨a0,r0,_,_,rfl,_,g0,h5,_⟩:=h5
 obtain⟨a1,r1,_,_,rfl,_,g1,h5,_⟩:=h5
 obtain⟨a2,r2,_,_,rfl,_,g2,h5,_⟩:=h5
 obtain⟨a3,r3,_,_,rfl,_,g3,h5,_⟩:=h5
 obtain⟨a4,r4,_,_,rfl,_,g4,h5,_⟩:=h5
 have h5:r4=[]:=h5
 subst h5
 obtain⟨n0,rfl⟩:=Fm g0
 obtain⟨n1,rfl⟩:=Fm g1
 obtain⟨n2,rfl⟩:=Fm g2
 obtain⟨n3,rfl⟩:=Fm g3
 obtain⟨n4,rfl⟩:=Fm g4
 obtain⟨n5,rfl⟩:=Fm h7
 exact⟨n0,n1,n2,n3,n4,n5,rfl⟩
theorem open_bnd {bk:DataW H->Nat} {t:TypeId} {fs:Array Field} (ht:P.underlying t=some (.struct fs)) (hop:∀n,OpQ bk enc P w base held n 6 (fun k tv=>∃k',k'+1<=k/\EachQ bndQ k' tv) t) {v:Value} {d:DataW H} {p:List MemPlace}
  (hval:Value.okWide P w .any b0 t v) (h:DataW.Trod enc P w base (fun _=>true) held t v d p):∃tv,Rel (Ghost.start w) w tv v/\IsBnd tv:=by
 simp only[Value.okWide,ht]at hval
 obtain⟨vs,rfl,_,_⟩:=hval
 obtain⟨n,hn⟩:=h
 obtain⟨tv,hr,_,_,_,hb⟩:=(hop n).2 _ _ hn
 obtain⟨l0,l1,l2,l3,l4,m,rfl⟩:=bnd_of hb
 have:=Rel.agg _ vs.toList hr.1 hr.2
 rw[Array.toArray_toList]at this
 exact⟨_,this,l0,l1,l2,l3,l4,m,rfl⟩
end
theorem lpartsS_okF {t0:TV} {t1:List TV} {t2:TV} {K:Bool->St->Prop} (h0:IsStrsB t0) (h1:flatIs [.int .u8,.int .u8,.bool,.bool] t1) (h2:IsBnd t2) (hk:∀st',K true st'):
  Ae PR Bp [t0,.agg t1,t2] [.one .bool] St.zero K:=by
 obtain⟨ps,hp,hb⟩:=h0
 obtain⟨a,_,rfl,_,q,_,rfl,_,hd,_,rfl,ty,_,rfl,rfl⟩:=h1
 obtain⟨l0,l1,l2,l3,l4,n,rfl⟩:=h2
 exact SY hp hb hk
end Go.TVF
end
