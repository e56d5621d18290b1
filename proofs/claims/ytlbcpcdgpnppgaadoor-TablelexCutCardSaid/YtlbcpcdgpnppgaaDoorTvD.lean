/- What 'nres' says is what the model does. -/
import Derived.Test.YtlbcpcdgpnppgaaDoorTvC
import Derived.Laws.StructEq
import Derived.Laws.Small
import Derived.Laws.Pointers
import Derived.Laws.Cover3
import Derived.Laws.BytesArg
set_option linter.unusedVariables false
set_option linter.unusedSimpArgs false
namespace Go.TVF
open Go.RowKit (Below)

/-- An operation ends with a value, and the world is as it was. -/
def Gives (P : Program) (s : Sem Next) (w : World) (g : Ghost) (loc : List (Option (List TV))) (v : SV) : Prop :=
  ∃ u, s.run P w = .ok (.value u) w ∧ SRel g w loc v u

section
variable {P : Program} {g : Ghost} {st : St} {loc : List (Option (List TV))} {w : World}

theorem run_und {t : TypeId} {d : TypeDesc} (h : P.underlying t = some d) (w : World) : (underlying t).run P w = .ok d w := run_underlying h w

theorem binI_run (op : BinOp) (k : IntKind) (a b : Int) (v : SV) (h : (binI op k a b).Is v) (hs : isShift op = false) (t : TypeId) (x y : Operand) :
    ∃ u, (do eqGuard op t x y (.int k a) (.int k b); Go.binOp op t (.int k a) (.int k b)).run P w = .ok u w ∧ SRel g w loc v u := by
  have hg : (eqGuard op t x y (.int k a) (.int k b)).run P w = .ok () w := by
    unfold eqGuard
    cases op <;> simp
  simp only [Sem.run_bind, hg, Result.andThen_ok]
  cases op <;> first | (exact absurd hs (by decide)) | skip
  all_goals simp only [binI, NRes.Is, cmpI] at h
  all_goals simp only [Go.binOp, ne_eq, not_true_eq_false, if_false, Op.intArith, Op.intDiv, Op.intBits, Op.intCmp]
  case quo => obtain ⟨h1, rfl⟩ := h; have := of_decide_eq_true h1; rw [if_neg this]; exact ⟨_, rfl, Rel.int _ _⟩
  case rem => obtain ⟨h1, rfl⟩ := h; have := of_decide_eq_true h1; rw [if_neg this]; exact ⟨_, rfl, Rel.int _ _⟩
  all_goals subst h
  case add => exact ⟨_, rfl, Rel.int _ _⟩
  case sub => exact ⟨_, rfl, Rel.int _ _⟩
  case mul => exact ⟨_, rfl, Rel.int _ _⟩
  case and => exact ⟨_, rfl, Rel.int _ _⟩
  case or => exact ⟨_, rfl, Rel.int _ _⟩
  case xor => exact ⟨_, rfl, Rel.int _ _⟩
  case andNot => exact ⟨_, rfl, Rel.int _ _⟩
  all_goals (refine ⟨_, rfl, ?_⟩)
  case eql => rw [show (a == b) = decide (a = b) from rfl]; exact Rel.bool _
  case neq => rw [show (a != b) = decide (a ≠ b) from by rw [Bool.eq_iff_iff]; simp]; exact Rel.bool _
  case lss => exact Rel.bool _
  case leq => exact Rel.bool _
  case gtr => exact Rel.bool _
  case geq => exact Rel.bool _

theorem shI_run (op : BinOp) (k k' : IntKind) (a b : Int) (v : SV) (h : (shI op k a b).Is v) (t : TypeId) (x y : Operand) :
    ∃ u, (do eqGuard op t x y (.int k a) (.int k' b); Go.binOp op t (.int k a) (.int k' b)).run P w = .ok u w ∧ SRel g w loc v u := by
  have hg : (eqGuard op t x y (.int k a) (.int k' b)).run P w = .ok () w := by
    unfold eqGuard
    cases op <;> simp
  simp only [Sem.run_bind, hg, Result.andThen_ok]
  cases op <;> simp only [shI, NRes.Is] at h
  case shl =>
    obtain ⟨h1, rfl⟩ := h
    have := of_decide_eq_true h1
    simp only [Go.binOp, Op.shift]
    rw [if_neg (by omega)]
    exact ⟨_, rfl, Rel.int _ _⟩
  case shr =>
    obtain ⟨h1, rfl⟩ := h
    have := of_decide_eq_true h1
    simp only [Go.binOp, Op.shift]
    rw [if_neg (by omega)]
    exact ⟨_, rfl, Rel.int _ _⟩

theorem toList_mk (l : List UInt8) : (ByteArray.mk l.toArray).toList = l := by
  first | exact ByteArray.toList_mk l | exact Go.ByteArray.toList_mk l

theorem binS_run (op : BinOp) (a b : List UInt8) (v : SV) (h : (binS op a b).Is v) (t : TypeId) (x y : Operand) :
    ∃ u, (do eqGuard op t x y (.string ⟨a.toArray⟩) (.string ⟨b.toArray⟩); Go.binOp op t (.string ⟨a.toArray⟩) (.string ⟨b.toArray⟩)).run P w = .ok u w ∧ SRel g w loc v u := by
  have hg : (eqGuard op t x y (.string ⟨a.toArray⟩) (.string ⟨b.toArray⟩)).run P w = .ok () w := by
    unfold eqGuard
    cases op <;> simp
  simp only [Sem.run_bind, hg, Result.andThen_ok]
  cases op <;> simp only [binS, NRes.Is] at h
  case add =>
    obtain ⟨h1, rfl⟩ := h
    simp only [Go.binOp, Op.stringOp]
    rw [if_neg (by
      have e1 : (ByteArray.mk a.toArray).size = a.length := by simp [ByteArray.size]
      have e2 : (ByteArray.mk b.toArray).size = b.length := by simp [ByteArray.size]
      rw [e1, e2]
      have : IntKind.i64.max = 9223372036854775807 := by decide
      rw [this]; omega)]
    refine ⟨_, rfl, ?_⟩
    have : (ByteArray.mk a.toArray ++ ByteArray.mk b.toArray) = ByteArray.mk (a ++ b).toArray := by
      apply ByteArray.ext
      simp
    rw [this]
    exact Rel.str _
  all_goals subst h
  all_goals simp only [Go.binOp, Op.stringOp, toList_mk]
  all_goals refine ⟨_, rfl, ?_⟩
  case eql => rw [show (a == b) = decide (a = b) from by rw [Bool.eq_iff_iff]; simp]; exact Rel.bool _
  case neq => rw [show (!(a == b)) = decide (a ≠ b) from by rw [Bool.eq_iff_iff]; simp]; exact Rel.bool _
  case lss => exact Rel.bool _
  case leq => rw [show (a == b) = decide (a = b) from by rw [Bool.eq_iff_iff]; simp]; exact Rel.bool _
  case gtr => rw [show (a == b) = decide (a = b) from by rw [Bool.eq_iff_iff]; simp]; exact Rel.bool _
  case geq => exact Rel.bool _


theorem binB_run (op : BinOp) (a b : Bool) (v : SV) (t : TypeId) (ht : P.underlying t = some .bool) (x y : Operand)
    (h : (match op with | .eql => NRes.ok (.t (.bool (a == b))) | .neq => .ok (.t (.bool (!(a == b)))) | _ => .bad : NRes).Is v) :
    ∃ u, (do eqGuard op t x y (.bool a) (.bool b); Go.binOp op t (.bool a) (.bool b)).run P w = .ok u w ∧ SRel g w loc v u := by
  have hg : (eqGuard op t x y (.bool a) (.bool b)).run P w = .ok () w := by
    unfold eqGuard
    cases op <;> simp
  simp only [Sem.run_bind, hg, Result.andThen_ok]
  cases op <;> simp only [NRes.Is] at h
  case eql => subst h; exact ⟨_, run_eql_bool w t a b ht, Rel.bool _⟩
  case neq => subst h; exact ⟨_, run_neq_bool w t a b ht, Rel.bool _⟩

theorem eqGuard_run (op : BinOp) (t : TypeId) (x y : Operand) (a b : Value) (h : match a, b with | .nilIface, .nilIface => False | .agg _, .agg _ => False | _, _ => True) :
    (eqGuard op t x y a b).run P w = .ok () w := by
  unfold eqGuard
  cases op <;> simp only [Bool.not_true, Bool.not_false, Bool.false_eq_true, if_false, if_true] <;> first | rfl | skip
  all_goals
    split
    · exact h.elim
    · exact h.elim
    · rfl

theorem eqlPtr_run (t e : TypeId) (p : Option Addr) (ht : P.underlying t = some (.pointer e)) : (Go.binOp .eql t (.pointer p) (.pointer none)).run P w = .ok (.bool p.isNone) w ∧
    (Go.binOp .neq t (.pointer p) (.pointer none)).run P w = .ok (.bool (!p.isNone)) w := by
  have h : P.underlying t = some (.pointer (P.pointee t)) := by rw [ht]; simp only [Program.pointee, ht]
  exact ⟨run_eql_pointer_nil w t p h, run_neq_pointer_nil w t p h⟩

theorem eqlSl_run (t e : TypeId) (p : Option Addr) (l c : Nat) (ht : P.underlying t = some (.slice e)) : (Go.binOp .eql t (.slice p l c) (.slice none 0 0)).run P w = .ok (.bool p.isNone) w ∧
    (Go.binOp .neq t (.slice p l c) (.slice none 0 0)).run P w = .ok (.bool (!p.isNone)) w := by
  refine ⟨?_, run_neq_slice_nil w t e p l c ht⟩
  have := run_equal_slice_nil w t e p l c ht
  show (do pure (Value.bool (← Op.equal t (.slice p l c) (.slice none 0 0)))).run P w = _
  simp only [Sem.run_bind, this, Result.andThen_ok]
  rfl

theorem nilP_run (op : BinOp) (t : TypeId) (x : TV) (xv : Value) (hx : Rel g w x xv) (v : SV) (xo yo : Operand) (h : (nilP P t x (eqWant op)).Is v) :
    ∃ u, (do eqGuard op t xo yo xv (.pointer none); Go.binOp op t xv (.pointer none)).run P w = .ok u w ∧ SRel g w loc v u := by
  have hg : (eqGuard op t xo yo xv (.pointer none)).run P w = .ok () w := by
    apply eqGuard_run
    cases xv <;> trivial
  simp only [Sem.run_bind, hg, Result.andThen_ok]
  unfold nilP at h
  split at h
  · exact h.elim
  · rename_i eq heq
    split at h
    · rename_i e ht
      obtain ⟨h1, rfl⟩ := h
      cases op <;> simp only [eqWant, Option.some.injEq, reduceCtorEq] at heq
      all_goals subst heq
      all_goals cases x <;> simp only [isPtr0, Bool.false_eq_true] at h1
      all_goals cases hx
      all_goals first
        | exact ⟨_, (eqlPtr_run t e _ ht).1, Rel.bool _⟩
        | exact ⟨_, (eqlPtr_run t e _ ht).2, Rel.bool _⟩
    · exact h.elim

theorem nilS_run (op : BinOp) (t : TypeId) (x : TV) (xv : Value) (hx : Rel g w x xv) (v : SV) (xo yo : Operand) (h : (nilS P t x (eqWant op)).Is v) :
    ∃ u, (do eqGuard op t xo yo xv (.slice none 0 0); Go.binOp op t xv (.slice none 0 0)).run P w = .ok u w ∧ SRel g w loc v u := by
  have hg : (eqGuard op t xo yo xv (.slice none 0 0)).run P w = .ok () w := by
    apply eqGuard_run
    cases xv <;> trivial
  simp only [Sem.run_bind, hg, Result.andThen_ok]
  unfold nilS at h
  split at h
  · exact h.elim
  · rename_i eq heq
    split at h
    · rename_i e ht
      obtain ⟨h1, rfl⟩ := h
      cases op <;> simp only [eqWant, Option.some.injEq, reduceCtorEq] at heq
      all_goals subst heq
      all_goals cases x <;> simp only [isSl, Bool.false_eq_true] at h1
      all_goals cases hx
      all_goals first
        | exact ⟨_, (eqlSl_run t e _ _ _ ht).1, Rel.bool _⟩
        | exact ⟨_, (eqlSl_run t e _ _ _ ht).2, Rel.bool _⟩
    · exact h.elim

theorem binV_run (op : BinOp) (t : TypeId) (x y : TV) (xv yv : Value) (hx : Rel g w x xv) (hy : Rel g w y yv) (v : SV) (xo yo : Operand) (h : (binV P op t x y).Is v) :
    ∃ u, (do eqGuard op t xo yo xv yv; Go.binOp op t xv yv).run P w = .ok u w ∧ SRel g w loc v u := by
  unfold binV at h
  split at h
  · cases hx; cases hy
    split at h
    · exact shI_run _ _ _ _ _ _ h _ _ _
    · split at h
      · rename_i hk
        have := of_decide_eq_true hk
        subst this
        exact binI_run _ _ _ _ _ h ‹_› _ _ _
      · exact h.elim
  · cases hx; cases hy
    exact binS_run _ _ _ _ h _ _ _
  · cases hx; cases hy
    split at h
    · exact binB_run _ _ _ _ _ ‹_› _ _ h
    · exact h.elim
  · exact h.elim

theorem info_of_und {t : TypeId} {d : TypeDesc} (h : P.underlying t = some d) : ∃ i, P.info? t = some i := by
  unfold Program.underlying at h
  split at h
  · exact ⟨_, ‹_›⟩
  · exact ⟨_, ‹_›⟩
  · cases h

theorem run_size {t : TypeId} {d : TypeDesc} (h : P.underlying t = some d) (w : World) : (sizeOf t).run P w = .ok (P.cellsOf t) w := by
  obtain ⟨i, hi⟩ := info_of_und h
  simp [sizeOf, typeInfo, hi, Program.cellsOf]

theorem run_aggK {t : TypeId} {b : Bool} (h : aggK P t = some b) (w : World) : (isAgg t).run P w = .ok b w ∧ ∃ d, P.underlying t = some d := by
  unfold aggK at h
  split at h
  · rename_i hu; simp only [Option.some.injEq] at h; subst h; simp [isAgg, run_und hu, hu]
  · rename_i hu; simp only [Option.some.injEq] at h; subst h; simp [isAgg, run_und hu, hu]
  · rename_i d hn1 hn2 hu; simp only [Option.some.injEq] at h; subst h
    refine ⟨?_, d, hu⟩
    simp only [isAgg, Sem.run_bind, run_und hu, Result.andThen_ok]
    cases d <;> first | rfl | exact absurd rfl (hn1 _) | exact absurd rfl (hn2 _ _)
  · cases h

theorem part_one {t : TypeId} (h : aggK P t = some false) {xs : List TV} {vs : List Value} (hr : RelL g w xs vs) {off : Nat} {x : TV} (hx : xs[off]? = some x) :
    ∃ u, (part t vs.toArray off).run P w = .ok u w ∧ Rel g w x u := by
  obtain ⟨u, hu, hrel⟩ := hr.get? hx
  refine ⟨u, ?_, hrel⟩
  have := run_aggK h w
  simp only [part, Sem.run_bind, this.1, Result.andThen_ok]
  simp [hu]

theorem eqCell_run (d : Nat) {t : TypeId} {x y : TV} {a b : Value} (hx : Rel g w x a) (hy : Rel g w y b) {r : Bool} (h : eqCell P t x y = some r) : (Op.equalIn (d + 1) t a b).run P w = .ok r w := by
  unfold eqCell at h
  split at h
  · split at h
    · rename_i hu
      split at h
      · rename_i hk
        have := of_decide_eq_true hk
        subst this
        simp only [Option.some.injEq] at h; subst h
        cases hx; cases hy
        rw [run_equalIn_int w d t _ _ _ _ hu]; rfl
      · cases h
    · cases h
  · split at h
    · rename_i hu
      simp only [Option.some.injEq] at h; subst h
      cases hx; cases hy
      exact run_equalIn_bool' w d t _ _ hu
    · cases h
  · split at h
    · rename_i hu
      simp only [Option.some.injEq] at h; subst h
      cases hx; cases hy
      rw [run_equalIn_string w d t _ _ hu, toList_mk, toList_mk]
      congr 1
      rw [Bool.eq_iff_iff]; simp
    · cases h
  · cases h

theorem eqFT_run (d : Nat) {xs ys : List TV} {vs us : List Value} (hx : RelL g w xs vs) (hy : RelL g w ys us) : ∀ (fs : List Field) {r : Bool}, eqFT P xs ys fs = some r → (Op.eqFields (d + 1) vs.toArray us.toArray fs).run P w = .ok r w
  | [], r, h => by simp only [eqFT, Option.some.injEq] at h; subst h; rfl
  | f :: fs, r, h => by
    simp only [eqFT] at h
    split at h
    · rename_i x y hn ha h1 h2
      split at h
      · rename_i b hb
        split at h
        · rename_i r' hr'
          simp only [Option.some.injEq] at h; subst h
          obtain ⟨u, hu, ru⟩ := part_one (P := P) ha hx h1
          obtain ⟨u', hu', ru'⟩ := part_one (P := P) ha hy h2
          have ih := eqFT_run d hx hy fs hr'
          have hc := eqCell_run (P := P) d ru ru' hb
          simp only [Op.eqFields, if_pos (of_decide_eq_true hn), Sem.run_bind, hu, hu', hc, Result.andThen_ok]
          cases b
          · simp
          · simp [ih]
        · cases h
      · cases h
    · cases h

theorem aggN_run (op : BinOp) (t : TypeId) (x : TV) (xv : Value) (hx : Rel g w x xv) (ys : List TV) (us : List Value) (hl : ys.length = us.length) (hr : ∀ i (h : i < ys.length), Rel g w ys[i] (us.getD i Go.undef)) (v : SV) (xo yo : Operand)
    (h : (aggN P t x ys (eqWant op)).Is v) : ∃ u, (do eqGuard op t xo yo xv (.agg us.toArray); Go.binOp op t xv (.agg us.toArray)).run P w = .ok u w ∧ SRel g w loc v u := by
  unfold aggN at h
  split at h
  · rename_i eq xs fs hw ht
    cases hx with
    | agg _ vs hl' hr' =>
      split at h
      · rename_i hg
        split at h
        · rename_i b hb
          simp only [NRes.Is] at h; subst h
          have hf : P.fieldsOf t = fs := by simp [Program.fieldsOf, ht]
          have hg' : P.eqGuardType P.depth t = false ∧ P.stoodInHeld t = false := by
            cases h1 : P.eqGuardType P.depth t <;> cases h2 : P.stoodInHeld t <;> simp [h1, h2] at hg ⊢
          have hrun : (Op.equalIn 10000 t (.agg vs.toArray) (.agg us.toArray)).run P w = .ok b w := by
            rw [run_equalIn_struct w 9999 t _ _ (by rw [hf]; exact ht) hg'.2, hf]
            exact eqFT_run 9998 ⟨hl', hr'⟩ ⟨hl, hr⟩ fs.toList hb
          simp only [Sem.run_bind, run_eqGuard_agg w op t xo yo _ _ hg'.1, Result.andThen_ok]
          cases op <;> simp only [eqWant, Option.some.injEq, reduceCtorEq] at hw
          · subst hw
            refine ⟨_, by rw [run_eql_struct, hrun]; rfl, Rel.bool _⟩
          · subst hw
            refine ⟨_, by rw [run_neq_struct, hrun]; rfl, Rel.bool _⟩
        · exact h.elim
      · exact h.elim
  · exact h.elim

theorem run_equalIn_same (d : Nat) {t e : TypeId} (ht : P.underlying t = some (.pointer e)) (hn : P.cellsOf e ≠ 0) (a : Addr) : (Op.equalIn (d + 1) t (.pointer (some a)) (.pointer (some a))).run P w = .ok true w := by
  have hs : (sizeOf e).run P w = .ok (P.cellsOf e) w := by
    unfold Program.cellsOf at hn ⊢
    cases hi : P.info? e with
    | none => rw [hi] at hn; exact absurd rfl hn
    | some i => simp [sizeOf, typeInfo, hi]
  simp only [Op.equalIn, Sem.run_bind, run_und ht, Result.andThen_ok, hs]
  rw [if_pos (by exact hn)]
  simp [sameAddr]

theorem ptrN_run (op : BinOp) (t : TypeId) (x : TV) (xv : Value) (hx : Rel g w x xv) (b o : Nat) (v : SV) (xo yo : Operand) (h : (ptrN P t x b o (eqWant op)).Is v) :
    ∃ u, (do eqGuard op t xo yo xv (.pointer (some ⟨g.bk b, o, none⟩)); Go.binOp op t xv (.pointer (some ⟨g.bk b, o, none⟩))).run P w = .ok u w ∧ SRel g w loc v u := by
  unfold ptrN at h
  split at h
  · rename_i eq e hw ht
    split at h
    · exact h.elim
    · rename_i hn
      obtain ⟨rfl, rfl⟩ := h
      cases hx
      have hg : (eqGuard op t xo yo (.pointer (some ⟨g.bk b, o, none⟩)) (.pointer (some ⟨g.bk b, o, none⟩))).run P w = .ok () w := by apply eqGuard_run; trivial
      have heq : (Op.equal t (.pointer (some ⟨g.bk b, o, none⟩)) (.pointer (some ⟨g.bk b, o, none⟩))).run P w = .ok true w := by
        exact run_equalIn_same 9999 ht hn _
      simp only [Sem.run_bind, hg, Result.andThen_ok]
      cases op <;> simp only [eqWant, Option.some.injEq, reduceCtorEq] at hw
      · subst hw; exact ⟨_, by simp only [Go.binOp, Sem.run_bind, heq, Result.andThen_ok, Sem.run_pure], Rel.bool _⟩
      · subst hw; exact ⟨_, by simp only [Go.binOp, Sem.run_bind, heq, Result.andThen_ok, Sem.run_pure, Bool.not_true], Rel.bool _⟩
  · exact h.elim

theorem binT_run (op : BinOp) (t : TypeId) (x y : TV) (xv yv : Value) (hx : Rel g w x xv) (hy : Rel g w y yv) (v : SV) (xo yo : Operand) (h : (binT P op t x y).Is v) :
    ∃ u, (do eqGuard op t xo yo xv yv; Go.binOp op t xv yv).run P w = .ok u w ∧ SRel g w loc v u := by
  unfold binT at h
  split at h
  · cases hy; exact nilP_run op t _ xv hx v xo yo h
  · cases hy; exact nilS_run op t _ xv hx v xo yo h
  · cases hy with
    | agg _ us hl hr => exact aggN_run op t x xv hx _ us hl hr v xo yo h
  · cases hy; exact ptrN_run op t x xv hx _ _ v xo yo h
  · exact binV_run op t x _ xv yv hx hy v xo yo h

theorem plain_add (b o i : Nat) : (⟨b, o, none⟩ : Addr).add i = ⟨b, o + i, none⟩ := by unfold Addr.add; split <;> simp_all

theorem load_gives (s : Sim g st loc w) {t : TypeId} {p : SV} {pv : Value} (hp : SRel g w loc p pv) {v : SV} (h : (loadN P st loc t p).Is v) :
    ∃ u, (Instr.loadAt t pv).run P w = .ok u w ∧ SRel g w loc v u := by
  unfold loadN at h
  split at h
  · rename_i ha
    obtain ⟨x, hx, rfl⟩ := h
    obtain ⟨hag, d, hd⟩ := run_aggK ha w
    split at hx
    · cases hx
    · rename_i n hn
      obtain ⟨xs, hxs, rfl⟩ := Option.map_eq_some_iff.1 hx
      cases hc : P.cellsOf t with
      | zero => exact absurd hc hn
      | succ m =>
        have hxs' := hxs
        rw [hc] at hxs'
        simp only [ldCells] at hxs'
        split at hxs'
        · rename_i y hy
          obtain ⟨b, o, _, rfl, _, _⟩ := ldCell_sound s hp hy
          obtain ⟨vs, hl, hr, hcell⟩ := ldCells_sound s hp _ _ _ hxs
          refine ⟨.agg vs.toArray, ?_, Rel.agg _ _ hr.1 hr.2⟩
          have := run_loadCells_list (P := P) w ⟨b, o, none⟩ vs (fun j u hj => by rw [plain_add]; simpa using hcell j u hj)
          rw [hl] at this
          simp [Instr.loadAt, Instr.sureAddr, loadVar, hag, run_size hd, this]
        · cases hxs'
  · rename_i ha
    obtain ⟨x, hx, rfl⟩ := h
    obtain ⟨hag, d, hd⟩ := run_aggK ha w
    obtain ⟨b, o, u, rfl, hc, hr⟩ := ldCell_sound s hp hx
    refine ⟨u, ?_, hr⟩
    simp only [Nat.add_zero] at hc
    simp [Instr.loadAt, Instr.sureAddr, loadVar, hag, hc]
  · exact h.elim

theorem Rel.int_inv {k : IntKind} {n : Int} {u : Value} (h : Rel g w (.int k n) u) : u = .int k n := by cases h; rfl

theorem ldCell_loc (st : St) (l1 l2 : List (Option (List TV))) (v : TV) (j : Nat) : ldCell st l1 (.t v) j = ldCell st l2 (.t v) j := by
  cases v <;> rfl
theorem ldCells_loc (st : St) (l1 l2 : List (Option (List TV))) (v : TV) : ∀ (n j : Nat), ldCells st l1 (.t v) j n = ldCells st l2 (.t v) j n := by
  intro n
  induction n with
  | zero => intro j; rfl
  | succ n ih => intro j; simp only [ldCells, ldCell_loc st l1 l2, ih]

theorem asBytes_ints : ∀ {xs : List TV} {l : List UInt8}, asBytes xs = some l → ∃ ns : List Int, xs = ns.map (TV.int .u8) ∧ l = ns.map fun n => UInt8.ofNat n.toNat
  | [], l, h => by simp only [asBytes, Option.some.injEq] at h; subst h; exact ⟨[], rfl, rfl⟩
  | x :: xs, l, h => by
    simp only [asBytes] at h
    split at h
    · rename_i c hc
      obtain ⟨l', hl', rfl⟩ := Option.map_eq_some_iff.1 h
      obtain ⟨ns, rfl, rfl⟩ := asBytes_ints hl'
      unfold asByte at hc
      split at hc
      · rename_i n; simp only [Option.some.injEq] at hc; subst hc; exact ⟨n :: ns, rfl, rfl⟩
      · cases hc
    · cases h

theorem conv_bytes (s : Sim g st loc w) {src dst e : TypeId} (hs : P.underlying src = some (.slice e)) (he : P.underlying e = some (.int .u8)) (hd : P.underlying dst = some .string)
    {x : TV} {xv : Value} (hx : Rel g w x xv) {l : List UInt8} (h : toBytes st x = some l) : (Go.convert src dst xv).run P w = .ok (.string ⟨l.toArray⟩) w := by
  unfold toBytes at h
  split at h
  · simp only [Option.some.injEq] at h; subst h; cases hx; exact run_convert_bytes_nil w src e hs he _ _ dst hd
  · rename_i sz tip n xs
    split at h
    · rename_i hsz
      have : sz = 1 := Nat.eq_of_beq_eq_true hsz
      subst this
      obtain ⟨ns, rfl, rfl⟩ := asBytes_ints h
      cases hx with
      | list _ _ _ _ b o cap us hl hn hc hr ht =>
        have hlen : ns.length = n := by simpa using hl
        have := run_convert_bytes_arg (P := P) w src e hs he b o n cap ns hlen (fun i hi => by
          have hi' : i < (ns.map (TV.int .u8)).length := by simp; omega
          have h1 := (hc i hi').2
          have h2 := hr i hi'
          simp only [List.getElem_map] at h2
          rw [h1]
          have hin : i < ns.length := by omega
          have hget : ns.getD i 0 = ns[i] := by simp [List.getD_eq_getElem?_getD, List.getElem?_eq_getElem hin]
          rw [hget, h2.int_inv]) dst hd
        exact this
    · cases h
  · rename_i sz b off n cap
    split at h
    · split at h
      · rename_i xs hxs
        obtain ⟨ns, rfl, rfl⟩ := asBytes_ints h
        cases hx with
        | ms _ _ _ _ _ hb hn =>
          have hp : SRel g w loc (.t (.box b off)) (.pointer (some ⟨g.bk b, off, none⟩)) := Rel.box b off hb
          rw [ldCells_loc st [] loc] at hxs
          obtain ⟨vs, hl, hr, hcell⟩ := ldCells_sound s hp n 0 _ hxs
          have hlen : ns.length = n := by have := hr.1; simp at this; omega
          exact run_convert_bytes_arg (P := P) w src e hs he _ off n cap ns hlen (fun i hi => by
            obtain ⟨v, hv, hrel⟩ := hr.get? (i := i) (x := .int .u8 (ns.getD i 0)) (by
              have hin : i < ns.length := by omega
              simp [List.getD_eq_getElem?_getD, List.getElem?_eq_getElem hin])
            have := hcell i v hv
            simp only [Nat.add_zero] at this
            rw [this, hrel.int_inv]) dst hd
      · cases h
    · cases h
  · cases h

theorem Rel.box_inv' {b o : Nat} {u : Value} (h : Rel g w (.box b o) u) : b < g.nb ∧ u = .pointer (some ⟨g.bk b, o, none⟩) := by cases h; exact ⟨‹_›, rfl⟩

theorem sizeOf_run {t : TypeId} (hn : P.cellsOf t ≠ 0) (w : World) : (sizeOf t).run P w = .ok (P.cellsOf t) w := by
  unfold Program.cellsOf at hn ⊢
  cases hi : P.info? t with
  | none => rw [hi] at hn; exact absurd rfl hn
  | some i => simp [sizeOf, typeInfo, hi]

theorem seenAt_cells {b o : Nat} {c : Array Value} {T : TypeId} {fz : Nat × Nat} (hh : w.heap[b]? = some (.cells c T fz)) : (Conv.seenAt ⟨b, o, none⟩).run P w = .ok ⟨b, o, none⟩ w := by
  have hsh : w.shape? b = some (T, c.size) := by simp [World.shape?, hh]
  simp [Conv.seenAt, viewAt, hsh]

theorem conv_toUnsafe {src dst t : TypeId} (hs : P.underlying src = some (.pointer t)) (hd : P.underlying dst = some .unsafePointer) (hn : P.cellsOf t ≠ 0) {b o : Nat} {u : Value} (hc : w.cell? ⟨b, o, none⟩ = some u) :
    (Go.convert src dst (.pointer (some ⟨b, o, none⟩))).run P w = .ok (.pointer (some ⟨b, o, none⟩)) w := by
  have hcell : ∃ c T fz, w.heap[b]? = some (.cells c T fz) ∧ o < c.size := by
    unfold World.cell? at hc
    simp only at hc
    split at hc
    · rename_i c T fz hh
      refine ⟨c, T, fz, hh, ?_⟩
      simp at hc
      exact (Array.getElem?_eq_some_iff.1 hc).1
    · cases hc
  obtain ⟨c, T, fz, hh, ho⟩ := hcell
  have hsh : w.shape? b = some (T, c.size) := by simp [World.shape?, hh]
  have hci : (cellsIn b).run P w = .ok (some c.size) w := by simp [cellsIn, hsh]
  simp only [Go.convert, Sem.run_bind, run_und hs, run_und hd, Result.andThen_ok, Conv.unsafePointer, seenAt_cells hh, hci, sizeOf_run hn]
  rw [if_neg (by simp [hn, ho])]
  rfl

theorem conv_ofUnsafe {src dst u : TypeId} (hs : P.underlying src = some .unsafePointer) (hd : P.underlying dst = some (.pointer u)) (hn : P.cellsOf u ≠ 0) {b : Nat} {c : Array Value} {fz : Nat × Nat} (hh : w.heap[b]? = some (.cells c u fz)) (hsz : c.size = P.cellsOf u) :
    (Go.convert src dst (.pointer (some ⟨b, 0, none⟩))).run P w = .ok (.pointer (some ⟨b, 0, none⟩)) w := by
  have hsh : w.shape? b = some (u, c.size) := by simp [World.shape?, hh]
  have hl : liesAt P P.depth u (c.size / P.cellsOf u) 0 u 1 = true := by
    rw [hsz, Nat.div_self (Nat.pos_of_ne_zero hn)]
    have hdp : P.depth = (2 * (P.types.size + Made.depth) + 1) + 1 := rfl
    rw [hdp]
    simp only [liesAt, Bool.or_eq_true]
    left
    rw [hdp]
    simp [rowAt, hn, sameLayout]
  have hva : (variablesAt ⟨b, 0, none⟩ u 1).run P w = .ok true w := by
    simp [variablesAt, hsh, hl]
  simp only [Go.convert, Sem.run_bind, run_und hs, run_und hd, Result.andThen_ok, Conv.unsafePointer, seenAt_cells hh, sizeOf_run hn, hva, Sem.run_pure]
  simp

theorem conv_gives (s : Sim g st loc w) {src dst : TypeId} {x : TV} {xv : Value} (hx : Rel g w x xv) {v : SV} (h : (convN P st src dst x).Is v) :
    ∃ u, (Go.convert src dst xv).run P w = .ok u w ∧ SRel g w loc v u := by
  unfold convN at h
  split at h
  · rename_i d k k' n hs hd
    cases hx
    simp only [NRes.Is] at h; subst h
    refine ⟨_, ?_, Rel.int _ _⟩
    simp [Go.convert, run_und hs, run_und hd, Conv.intToInt]
  · rename_i l hs hd
    cases hx
    simp only [NRes.Is] at h; subst h
    refine ⟨_, ?_, Rel.str _⟩
    simp [Go.convert, run_und hs, run_und hd]
  · rename_i e hs hd
    split at h
    · rename_i he
      obtain ⟨y, hy, rfl⟩ := h
      obtain ⟨l, hl, rfl⟩ := Option.map_eq_some_iff.1 hy
      exact ⟨_, conv_bytes s hs he hd hx hl, Rel.str _⟩
    · exact h.elim
  · rename_i t b off hs hd
    split at h
    · exact h.elim
    · rename_i hn
      obtain ⟨hy, rfl⟩ := h
      obtain ⟨c, hc⟩ := Option.isSome_iff_exists.1 hy
      obtain ⟨hb, rfl⟩ := hx.box_inv'
      obtain ⟨b1, o1, u, e1, e2, _⟩ := ldCell_sound (s.dropLoc (loc' := []) (fun j x hx => by simp at hx)) (p := .t (.box b off)) (Rel.box b off hb) hc
      simp only [Value.pointer.injEq, Option.some.injEq, Addr.mk.injEq, true_and, and_true] at e1
      obtain ⟨rfl, rfl⟩ := e1
      refine ⟨_, ?_, Rel.box b off hb⟩
      exact conv_toUnsafe hs hd hn e2
  · exact h.elim

end
end Go.TVF
