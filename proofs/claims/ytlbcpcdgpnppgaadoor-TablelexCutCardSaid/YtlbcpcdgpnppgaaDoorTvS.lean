/- Words for contracts: states that have grown, slices that read as lists, slices that are the call's own. -/
import Derived.Test.YtlbcpcdgpnppgaaDoorTvR
set_option linter.unusedVariables false
set_option linter.unusedSimpArgs false
namespace Go.TVF

/-- The state has grown; what was there is as it was. -/
structure StExt (a b : St) : Prop where
  nb : a.nb ≤ b.nb
  box : ∀ i, i < a.nb → b.box i = a.box i
  nt : a.nt ≤ b.nt
  live : ∀ i, i < a.nt → b.live i = a.live i
  ty : ∀ i, i < a.nt → b.ty i = a.ty i
  bt : ∀ i, i < a.nb → b.bt i = a.bt i

theorem StExt.refl (a : St) : StExt a a := ⟨Nat.le_refl _, fun _ _ => rfl, Nat.le_refl _, fun _ _ => rfl, fun _ _ => rfl, fun _ _ => rfl⟩
theorem StExt.trans {a b c : St} (h : StExt a b) (k : StExt b c) : StExt a c :=
  ⟨Nat.le_trans h.nb k.nb, fun i hi => (k.box i (Nat.lt_of_lt_of_le hi h.nb)).trans (h.box i hi), Nat.le_trans h.nt k.nt, fun i hi => (k.live i (Nat.lt_of_lt_of_le hi h.nt)).trans (h.live i hi), fun i hi => (k.ty i (Nat.lt_of_lt_of_le hi h.nt)).trans (h.ty i hi), fun i hi => (k.bt i (Nat.lt_of_lt_of_le hi h.nb)).trans (h.bt i hi)⟩
theorem StExt.fresh {a b : St} (h : StExt a b) (T : Option Nat) : StExt a (b.fresh T) :=
  h.trans ⟨Nat.le_refl _, fun _ _ => rfl, Nat.le_succ _, fun i hi => by simp only [St.fresh]; rw [if_neg (by omega)], fun i hi => by simp only [St.fresh]; rw [if_neg (by omega)], fun _ _ => rfl⟩
theorem StExt.push {a b : St} (h : StExt a b) (o : AObj) (T : Option Nat) : StExt a (b.push o T) :=
  h.trans ⟨Nat.le_succ _, fun i hi => by simp only [St.push]; rw [if_neg (by omega)], Nat.le_refl _, fun _ _ => rfl, fun _ _ => rfl, fun i hi => by simp only [St.push]; rw [if_neg (by omega)]⟩
theorem StExt.retire {a b : St} (h : StExt a b) {id : Nat} (hid : a.nt ≤ id) : StExt a (b.retire id) :=
  ⟨h.nb, h.box, h.nt, fun i hi => by simp only [St.retire]; rw [if_neg (by omega)]; exact h.live i hi, h.ty, h.bt⟩
theorem StExt.put {a b : St} (h : StExt a b) {i : Nat} (hi : a.nb ≤ i) (o : AObj) : StExt a (b.put i o) :=
  ⟨h.nb, fun j hj => by simp only [St.put]; rw [if_neg (by omega)]; exact h.box j hj, h.nt, h.live, h.ty, h.bt⟩

/-! Bytes. -/
theorem length_bytesT (l : List UInt8) : (bytesT l).length = l.length := by simp [bytesT]
theorem asBytes_bytesT : ∀ l : List UInt8, asBytes (bytesT l) = some l
  | [] => rfl
  | c :: l => by
    have := asBytes_bytesT l
    simp only [bytesT] at this
    simp [bytesT, asBytes, byteT, asByte, this]
theorem one_bytesT (l : List UInt8) : (bytesT l).all oneT = true := by simp [bytesT, byteT, oneT]
theorem bytesT_append (a b : List UInt8) : bytesT a ++ bytesT b = bytesT (a ++ b) := by simp [bytesT]
theorem bytesT_get (l : List UInt8) (i : Nat) (h : i < l.length) : (bytesT l)[i]? = some (byteT l[i]) := by simp [bytesT, h]

/-- A slice that reads as n elements of sz cells. -/
def Rd (sz : Nat) (v : TV) (n : Nat) (xs : List TV) : Prop :=
  (v = .nilSlice ∧ n = 0 ∧ xs = []) ∨ ∃ tip, v = .list sz tip n xs

def RdB (v : TV) (l : List UInt8) : Prop := Rd 1 v l.length (bytesT l)

/-- A slice that the call may append to: its own from number b on. -/
def Own (b sz : Nat) (st : St) (v : TV) (n : Nat) (xs : List TV) : Prop :=
  (v = .nilSlice ∧ n = 0 ∧ xs = []) ∨ ∃ tip, v = .list sz tip n xs ∧ (tip = .full ∨ ∃ id, tip = .own id ∧ b ≤ id ∧ id < st.nt ∧ st.live id = true)

def OwnB (b : Nat) (st : St) (v : TV) (l : List UInt8) : Prop := Own b 1 st v l.length (bytesT l)

theorem Own.rd {b sz : Nat} {st : St} {v : TV} {n : Nat} {xs : List TV} (h : Own b sz st v n xs) : Rd sz v n xs := by
  rcases h with h | ⟨tip, h, _⟩
  · exact .inl h
  · exact .inr ⟨tip, h⟩
theorem OwnB.rd {b : Nat} {st : St} {v : TV} {l : List UInt8} (h : OwnB b st v l) : RdB v l := Own.rd h

theorem Own.mono {b b' sz : Nat} {st : St} {v : TV} {n : Nat} {xs : List TV} (h : Own b sz st v n xs) (hb : b' ≤ b) : Own b' sz st v n xs := by
  rcases h with h | ⟨tip, h, ht | ⟨id, h1, h2, h3, h4⟩⟩
  · exact .inl h
  · exact .inr ⟨tip, h, .inl ht⟩
  · exact .inr ⟨tip, h, .inr ⟨id, h1, Nat.le_trans hb h2, h3, h4⟩⟩

theorem Own.ext {b sz : Nat} {st st' : St} {v : TV} {n : Nat} {xs : List TV} (h : Own b sz st v n xs) (e : StExt st st') : Own b sz st' v n xs := by
  rcases h with h | ⟨tip, h, ht | ⟨id, h1, h2, h3, h4⟩⟩
  · exact .inl h
  · exact .inr ⟨tip, h, .inl ht⟩
  · exact .inr ⟨tip, h, .inr ⟨id, h1, h2, Nat.lt_of_lt_of_le h3 e.nt, (e.live id h3).trans h4⟩⟩

theorem Own.nil (b sz : Nat) (st : St) : Own b sz st .nilSlice 0 [] := .inl ⟨rfl, rfl, rfl⟩
theorem OwnB.nil (b : Nat) (st : St) : OwnB b st .nilSlice [] := Own.nil b 1 st
theorem Own.full (b sz : Nat) (st : St) (n : Nat) (xs : List TV) : Own b sz st (.list sz .full n xs) n xs := .inr ⟨_, rfl, .inl rfl⟩
theorem Own.fresh {b sz : Nat} {st : St} {T : Option Nat} (n : Nat) (xs : List TV) (hb : b ≤ st.nt) : Own b sz (st.fresh T) (.list sz (.own st.nt) n xs) n xs :=
  .inr ⟨_, rfl, .inr ⟨st.nt, rfl, hb, Nat.lt_succ_self _, by simp [St.fresh]⟩⟩
theorem OwnB.fresh {b : Nat} {st : St} {T : Option Nat} (l : List UInt8) (hb : b ≤ st.nt) : OwnB b (st.fresh T) (.list 1 (.own st.nt) l.length (bytesT l)) l := Own.fresh l.length (bytesT l) hb

theorem Rd.isSl {sz : Nat} {v : TV} {n : Nat} {xs : List TV} (h : Rd sz v n xs) : TVF.isSl v = true := by
  rcases h with ⟨rfl, _⟩ | ⟨tip, rfl⟩ <;> rfl
theorem Rd.lenS {sz : Nat} {v : TV} {n : Nat} {xs : List TV} (h : Rd sz v n xs) : TVF.lenS v = n := by
  rcases h with ⟨rfl, rfl, _⟩ | ⟨tip, rfl⟩ <;> rfl
theorem Rd.lenZ {sz : Nat} {v : TV} {n : Nat} {xs : List TV} (h : Rd sz v n xs) : TVF.lenZ sz v = n := by
  rcases h with ⟨rfl, rfl, _⟩ | ⟨tip, rfl⟩
  · rfl
  · simp [TVF.lenZ]
theorem Rd.isLst {sz : Nat} {v : TV} {n : Nat} {xs : List TV} (h : Rd sz v n xs) : TVF.isLst sz v = true := by
  rcases h with ⟨rfl, rfl, _⟩ | ⟨tip, rfl⟩
  · rfl
  · simp [TVF.isLst]
theorem Rd.one {sz : Nat} {v : TV} {n : Nat} {xs : List TV} (h : Rd sz v n xs) : oneT v = true := by
  rcases h with ⟨rfl, rfl, _⟩ | ⟨tip, rfl⟩ <;> rfl
theorem Rd.ld {sz : Nat} {v : TV} {n : Nat} {xs : List TV} (h : Rd sz v n xs) (st : St) (i j : Nat) (hi : i * sz + j < xs.length) : ldCell st [] (.t (ixT sz v i)) j = some xs[i * sz + j] := by
  rcases h with ⟨rfl, rfl, rfl⟩ | ⟨tip, rfl⟩
  · simp at hi
  · simp [ldCell, ixT, hi]
theorem Rd.ldf {sz : Nat} {v : TV} {n : Nat} {xs : List TV} (h : Rd sz v n xs) (st : St) (i f : Nat) (hi : i * sz + f < xs.length) : ldCell st [] (.t (fldT (ixT sz v i) f)) 0 = some xs[i * sz + f] := by
  rcases h with ⟨rfl, rfl, rfl⟩ | ⟨tip, rfl⟩
  · simp at hi
  · simp [ldCell, ixT, fldT, hi]
theorem RdB.ld {v : TV} {l : List UInt8} (h : RdB v l) (st : St) (i : Nat) (hi : i < l.length) : ldCell st [] (.t (ixT 1 v i)) 0 = some (byteT l[i]) := by
  have := Rd.ld h st i 0 (by simp [length_bytesT, hi])
  simpa [bytesT] using this
theorem RdB.toBytes {v : TV} {l : List UInt8} (h : RdB v l) (st : St) : TVF.toBytes st v = some l := by
  rcases h with ⟨rfl, h1, h2⟩ | ⟨tip, rfl⟩
  · have : l = [] := List.eq_nil_of_length_eq_zero h1
    subst this; rfl
  · simp [TVF.toBytes, asBytes_bytesT]
theorem RdB.src {v : TV} {l : List UInt8} (h : RdB v l) (st : St) : appSrc st 1 v = some (l.length, bytesT l) := by
  rcases h with ⟨rfl, h1, h2⟩ | ⟨tip, rfl⟩
  · have : l = [] := List.eq_nil_of_length_eq_zero h1
    subst this; rfl
  · simp [appSrc]
theorem src_str (st : St) (l : List UInt8) : appSrc st 1 (.str l) = some (l.length, bytesT l) := rfl

theorem appK_own {T b sz bytes : Nat} {st0 st : St} {v : TV} {n k : Nat} {xs ys : List TV} {K : TV → St → Prop} (e : StExt st0 st) (hb : b = st0.nt) (h : Own b sz st v n xs) (hby : (n + k) * bytes ≤ 140737488355328) (hys : k = 0 → ys = [])
    (hK : ∀ v' st', StExt st0 st' → st'.box = st.box → Own b sz st' v' (n + k) (xs ++ ys) → K v' st') : appK T sz bytes v k ys st K := by
  subst hb
  rcases h with ⟨rfl, rfl, rfl⟩ | ⟨tip, rfl, ht⟩
  · simp only [appK]
    cases k with
    | zero => rw [hys rfl] at hK; exact hK _ _ e rfl (.nil _ _ _)
    | succ m =>
      simp only [need_iff]
      refine ⟨by simpa using hby, hK _ _ (e.fresh _) rfl ?_⟩
      simp only [List.nil_append, Nat.zero_add]
      exact Own.fresh _ _ e.nt
  · simp only [appK, Nat.beq_refl]
    refine ⟨hby, ?_⟩
    rcases ht with rfl | ⟨id, rfl, h1, h2, h3⟩
    · cases k with
      | zero => rw [hys rfl] at hK; simp only [List.append_nil] at hK; exact hK _ _ e rfl (Own.full _ _ _ _ _)
      | succ m => exact hK _ _ (e.fresh _) rfl (Own.fresh _ _ e.nt)
    · exact ⟨h3, hK _ _ ((e.retire h1).fresh _) rfl (Own.fresh (st := st.retire id) _ _ e.nt)⟩

theorem appK_bytes {T : Nat} {st0 st : St} {v : TV} {l ys : List UInt8} {K : TV → St → Prop} (e : StExt st0 st) (h : OwnB st0.nt st v l) (hby : l.length + ys.length ≤ 140737488355328)
    (hK : ∀ v' st', StExt st0 st' → st'.box = st.box → OwnB st0.nt st' v' (l ++ ys) → K v' st') : appK T 1 1 v ys.length (bytesT ys) st K :=
  appK_own e rfl h (by omega) (fun h0 => by rw [List.eq_nil_of_length_eq_zero h0]; rfl) fun v' st' h1 h2 h3 => hK v' st' h1 h2 (by
    unfold OwnB
    rw [List.length_append, ← bytesT_append]; exact h3)

/-! Taking a condition apart. -/
theorem need_intro {b : Bool} {k : Prop} (h : b = true) (hk : k) : need b k := need_iff.2 ⟨h, hk⟩
theorem optK_intro {α : Type} {o : Option α} {x : α} {k : α → Prop} (h : o = some x) (hk : k x) : optK o k := by rw [h]; exact hk

/-- Results handed on. -/
theorem CallT.mono {P : Go.Program} {f : Nat} {args : List TV} {sh : List RTy} {st : St} {K K' : FunR sh (St → Prop)} (h : CallT P f args sh st K) (hk : ∀ r st', decRet sh r K (fun p => p st') → decRet sh r K' (fun p => p st')) : CallT P f args sh st K' :=
  TCalls.mono h hk

/-- Sums that fit. -/
theorem wrap64 (x : Int) (h1 : -9223372036854775808 ≤ x) (h2 : x ≤ 9223372036854775807) : IntKind.wrap .i64 x = x := by
  unfold IntKind.wrap
  simp only [IntKind.signed, IntKind.bits]
  simp
  omega
theorem wrapU8 (x : Int) (h1 : 0 ≤ x) (h2 : x ≤ 255) : IntKind.wrap .u8 x = x := by
  unfold IntKind.wrap
  simp only [IntKind.signed, IntKind.bits]
  simp
  omega

end Go.TVF
