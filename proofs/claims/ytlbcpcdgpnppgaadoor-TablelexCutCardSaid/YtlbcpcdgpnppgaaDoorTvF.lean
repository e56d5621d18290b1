/- What 'nres' says is what the model does: all operations together. -/
import Derived.Test.YtlbcpcdgpnppgaaDoorTvE
import Derived.Lib.UnsafeStr
set_option linter.unusedVariables false
set_option linter.unusedSimpArgs false
namespace Go.TVF
open Go.RowKit (Below)
section
variable {P : Program} {g : Ghost} {st : St} {loc : List (Option (List TV))} {w : World}

theorem gives_v {s : Sem Value} {v : SV} (h : ∃ u, s.run P w = .ok u w ∧ SRel g w loc v u) : Gives P (do pure (Next.value (← s))) w g loc v := by
  obtain ⟨u, h1, h2⟩ := h
  exact ⟨u, by simp [h1], h2⟩

theorem relOpt {ρ : Operand → SV} {ρc : Operand → Value} (x : Option Operand) (h : ∀ y, x = some y → SRel g w loc (ρ y) (ρc y)) : ORelB g w (x.map fun y => (ρ y).tv) (x.map ρc) := by
  cases x with
  | none => trivial
  | some y => exact (h y rfl).tv

set_option maxHeartbeats 1000000 in
theorem findNow_gives {k : List UInt8} : ∀ {es : List (List UInt8 × TV)} {ms : List MapEntry}, es.length = ms.length →
    (∀ (i : Nat) (k : List UInt8) (v : TV), es[i]? = some (k, v) → ∃ e : MapEntry, ms[i]? = some e ∧ e.key = Value.string ⟨k.toArray⟩ ∧ Rel g w v e.val) → ∀ n,
    (findM k es = none ∧ Instr.findNow .string (.string ⟨k.toArray⟩) ms n = some none) ∨ ∃ v i e, findM k es = some v ∧ Instr.findNow .string (.string ⟨k.toArray⟩) ms n = some (some (n + i, e.val)) ∧ ms[i]? = some e ∧ e.key = Value.string ⟨k.toArray⟩ ∧ Rel g w v e.val ∧ (∃ kk, es[i]? = some (kk, v) ∧ k = kk) ∧ ∀ j, j < i → ∀ kk vv, es[j]? = some (kk, vv) → k ≠ kk
  | [], [], _, _, n => .inl ⟨rfl, rfl⟩
  | [], _ :: _, hl, _, n => by simp at hl
  | _ :: _, [], hl, _, n => by simp at hl
  | (k', v') :: es, m :: ms, hl, h, n => by
    obtain ⟨e, he, hk, hr⟩ := h 0 k' v' rfl
    simp only [List.getElem?_cons_zero, Option.some.injEq] at he
    subst he
    have hnow : Instr.sameNow .string (.string ⟨k.toArray⟩) m.key = some (decide (k = k')) := by
      rw [hk]
      simp only [Instr.sameNow, Option.some.injEq]
      rw [beq_toListBytes, toList_mk, toList_mk, Bool.eq_iff_iff]
      simp
    by_cases hkk : k = k'
    · right
      exact ⟨v', 0, m, by simp [findM, hkk], by subst hkk; simp only [Instr.findNow, hnow, decide_true, Nat.add_zero], rfl, by rw [hkk]; exact hk, hr, ⟨k', rfl, hkk⟩, fun j hj => absurd hj (Nat.not_lt_zero _)⟩
    · have ih := findNow_gives (k := k) (es := es) (ms := ms) (by simpa using hl) (fun i kk vv hi => h (i + 1) kk vv (by simpa using hi)) (n + 1)
      rcases ih with ⟨h1, h2⟩ | ⟨v, i, e, h1, h2, h3, h4, h5, h6, h7⟩
      · left; exact ⟨by simp [findM, hkk, h1], by simp [Instr.findNow, hnow, hkk, h2]⟩
      · right
        refine ⟨v, i + 1, e, by simp [findM, hkk, h1], by simp only [Instr.findNow, hnow, hkk, decide_false]; rw [h2, show n + 1 + i = n + (i + 1) by omega], by simpa using h3, h4, h5, by simpa using h6, fun j hj kk vv hjv => ?_⟩
        cases j with
        | zero => simp only [List.getElem?_cons_zero, Option.some.injEq, Prod.mk.injEq] at hjv; rw [← hjv.1]; exact hkk
        | succ j => exact h7 j (by omega) kk vv (by simpa using hjv)

theorem findKey_gives {kt : TypeId} (hk : P.underlying kt = some .string) {k : List UInt8} {es : List (List UInt8 × TV)} {ms : List MapEntry} (hl : es.length = ms.length)
    (h : ∀ (i : Nat) (k : List UInt8) (v : TV), es[i]? = some (k, v) → ∃ e : MapEntry, ms[i]? = some e ∧ e.key = Value.string ⟨k.toArray⟩ ∧ Rel g w v e.val) :
    (findM k es = none ∧ (Instr.findKey kt (.string ⟨k.toArray⟩) ms).run P w = .ok none w) ∨ ∃ v i e, findM k es = some v ∧ (Instr.findKey kt (.string ⟨k.toArray⟩) ms).run P w = .ok (some (i, e.val)) w ∧ ms[i]? = some e ∧ e.key = Value.string ⟨k.toArray⟩ ∧ Rel g w v e.val ∧ (∃ kk, es[i]? = some (kk, v) ∧ k = kk) ∧ ∀ j, j < i → ∀ kk vv, es[j]? = some (kk, vv) → k ≠ kk := by
  rcases findNow_gives (k := k) hl h 0 with ⟨h1, h2⟩ | ⟨v, i, e, h1, h2, h3⟩
  · left; exact ⟨h1, by simp only [Instr.findKey, Sem.run_bind, run_und hk, Result.andThen_ok, h2, Sem.run_pure]⟩
  · right; exact ⟨v, i, e, h1, by simp only [Instr.findKey, Sem.run_bind, run_und hk, Result.andThen_ok, h2, Sem.run_pure, Nat.zero_add], h3⟩

theorem checkKey_str {kt : TypeId} (hk : P.underlying kt = some .string) (b : Bool) (n : Nat) (v : ByteArray) : (Instr.checkKey b (n + 1) kt (.string v)).run P w = .ok () w := by
  simp only [Instr.checkKey, Sem.run_bind, run_und hk, Result.andThen_ok, Sem.run_pure]

theorem zero1_run {t : TypeId} {z : TV} (h : zero1 P t = some z) : ∃ v, (zeroValue t).run P w = .ok v w ∧ Rel g w z v := by
  unfold zero1 at h
  split at h
  · rename_i i hi
    split at h
    · cases h
    · rename_i z' hz' hne
      simp only [Option.some.injEq] at h
      subst h
      exact ⟨z', by simp [zeroValue, typeInfo, hi, hne], rel_ofV1 g w z'⟩
    · cases h
  · cases h

theorem mapOf_gives (s : Sim g st loc w) {x : TV} {xv : Value} (hx : Rel g w x xv) {es : List (List UInt8 × TV)} (h : mapOf st x = some es) :
    (xv = .map none ∧ es = []) ∨ ∃ b ms c, xv = .map (some b) ∧ w.heap[b]? = some (.map ms c) ∧ es.length = ms.toList.length ∧ ∀ (i : Nat) (k : List UInt8) (v : TV), es[i]? = some (k, v) → ∃ e : MapEntry, ms.toList[i]? = some e ∧ e.key = Value.string ⟨k.toArray⟩ ∧ Rel g w v e.val := by
  unfold mapOf at h
  split at h
  · simp only [Option.some.injEq] at h
    cases hx; exact .inl ⟨rfl, h.symm⟩
  · rename_i b
    split at h
    · rename_i es' hb
      simp only [Option.some.injEq] at h
      subst h
      cases hx with
      | map _ hlt =>
        have hlt' : b < st.nb := by rw [← s.nb]; exact hlt
        have ob := s.obj (.box b) hlt'
        simp only [objOf, hb, Ghost.at] at ob
        obtain ⟨ms, c, h1, h2, h3⟩ := ob
        exact .inr ⟨_, ms, c, rfl, h1, h2, h3⟩
    · cases h
  · cases h

theorem look_gives (s : Sim g st loc w) {t : TypeId} {x i : TV} {xv iv : Value} (hx : Rel g w x xv) (hi : Rel g w i iv) {ok : Bool} {v : SV} (h : (lookN P st t x i ok).Is v) :
    ∃ u, (Instr.lookup t xv iv ok).run P w = .ok u w ∧ SRel g w loc v u := by
  unfold lookN at h
  split at h
  · rename_i kt e k ht
    split at h
    · rename_i z hkt hz
      obtain ⟨es, hes, rfl⟩ := h
      obtain ⟨zv, hzv, hzr⟩ := zero1_run (P := P) (g := g) (w := w) hz
      cases hi
      have fin : ∀ (o : Option TV) (ov : Value), (match o with | some v => Rel g w v ov | none => ov = zv) → SRel g w loc (.t (okT ok z o)) (if ok = true then .tuple #[ov, .bool o.isSome] else ov) := by
        intro o ov ho
        have h1 : Rel g w (orZero z o) ov := by
          cases o with
          | none => simp only at ho; rw [ho]; exact hzr
          | some v => exact ho
        cases ok with
        | false => exact h1
        | true => exact Rel.tuple _ [ov, .bool o.isSome] rfl (RelL.cons h1 (RelL.cons (Rel.bool _) (RelL.nil _ _))).2
      show ∃ u, (Instr.lookup t xv (.string ⟨k.toArray⟩) ok).run P w = .ok u w ∧ SRel g w loc (.t (okT ok z (findM k es))) u
      rcases mapOf_gives s hx hes with ⟨rfl, rfl⟩ | ⟨b, ms, c, rfl, hb, hl, hm⟩
      · refine ⟨_, ?_, fin none zv rfl⟩
        have hf : (Instr.findKey kt (.string ⟨k.toArray⟩) []).run P w = .ok none w := by simp [Instr.findKey, run_und hkt, Instr.findNow]
        simp only [Instr.lookup, Sem.run_bind, run_und ht, Result.andThen_ok, Sem.run_pure, checkKey_str hkt, hf, hzv]
        simp
      · rcases findKey_gives (P := P) hkt (k := k) hl hm with ⟨h1, h2⟩ | ⟨v, i, e', h1, h2, h3, h4, h5, _⟩
        · rw [h1]
          refine ⟨_, ?_, fin none zv rfl⟩
          have hg : (getObj b).run P w = .ok (.map ms c) w := by simp [getObj, Sem.run, hb]
          simp only [Instr.lookup, Sem.run_bind, run_und ht, Result.andThen_ok, hg, Sem.run_pure, checkKey_str hkt, h2, hzv]
          simp
        · rw [h1]
          refine ⟨_, ?_, fin (some v) e'.val h5⟩
          have hg : (getObj b).run P w = .ok (.map ms c) w := by simp [getObj, Sem.run, hb]
          simp only [Instr.lookup, Sem.run_bind, run_und ht, Result.andThen_ok, hg, Sem.run_pure, checkKey_str hkt, h2]
          simp
    · exact h.elim
  · exact h.elim

theorem sdata_gives {x : TV} {xv : Value} (hx : Rel g w x xv) {v : SV} (h : (NRes.opt (sdataO x)).Is v) (ts : Array TypeId) (ty : TypeId) : ∃ u, (Builtin.unsafeSliceData_ ts ty #[xv]).run P w = .ok u w ∧ SRel g w loc v u := by
  obtain ⟨y, h, rfl⟩ := h
  unfold sdataO at h
  split at h
  · simp only [Option.some.injEq] at h; subst h
    cases hx
    exact ⟨_, Lib.run_unsafeSliceData_nil w ts ty 0 0, Rel.nilPtr⟩
  · rename_i sz tip n xs
    split at h
    · cases h
    · rename_i hn0
      simp only [Option.some.injEq] at h
      subst h
      have hn : n ≠ 0 := fun h0 => by rw [h0] at hn0; cases hn0
      cases hx with
      | list _ _ _ _ b o cap us hl hnc hc hr ht =>
        have hcap : cap ≠ 0 := by omega
        exact ⟨_, Lib.run_unsafeSliceData_row w ts ty _ n cap hcap, Rel.sptr _ _ n cap hcap (Rel.list sz tip n xs b o cap us hl hnc hc hr ht)⟩
  · cases h

theorem nres_sound (s : Sim g st loc w) {ρ : Operand → SV} {ρc : Operand → Value} (o : Oper) (hρ : ∀ x, x ∈ o.op.operands → SRel g w loc (ρ x) (ρc x)) {v : SV} (h : (nres P st loc ρ o.op).Is v) :
    Gives P (execOp ρc o) w g loc v := by
  obtain ⟨dst, op, type, pos, after, guard⟩ := o
  simp only at hρ h
  unfold nres at h
  split at h
  · -- move
    simp only [NRes.Is] at h; subst h
    exact ⟨_, rfl, hρ _ (by simp [Op.operands])⟩
  · simp only [NRes.Is] at h; subst h
    exact ⟨_, rfl, hρ _ (by simp [Op.operands])⟩
  · -- pick
    rename_i c a b
    have hc := hρ c (by simp [Op.operands])
    have ha := hρ a (by simp [Op.operands])
    have hb := hρ b (by simp [Op.operands])
    split at h
    · rename_i hcv
      simp only [NRes.Is] at h; subst h
      have := hc.tv
      rw [hcv] at this
      have hcc : ρc c = .bool true := by generalize ρc c = q at this; cases this; rfl
      exact ⟨_, by simp [execOp, hcc, asBool], ha⟩
    · rename_i hcv
      simp only [NRes.Is] at h; subst h
      have := hc.tv
      rw [hcv] at this
      have hcc : ρc c = .bool false := by generalize ρc c = q at this; cases this; rfl
      exact ⟨_, by simp [execOp, hcc, asBool], hb⟩
    · exact h.elim
  · -- load
    rename_i t a
    exact gives_v (load_gives s (hρ a (by simp [Op.operands])) h)
  · -- nilCheck
    rename_i x
    have hx := hρ x (by simp [Op.operands])
    split at h
    · rename_i i off he
      simp only [NRes.Is] at h; subst h
      rw [he] at hx
      obtain ⟨hl, hxc⟩ := hx
      exact ⟨_, by simp only [execOp, hxc]; rfl, ⟨hl, rfl⟩⟩
    · rename_i u he
      obtain ⟨h1, rfl⟩ := h
      rw [he] at hx
      have hx' : Rel g w u (ρc x) := hx
      cases u <;> simp only [isPtr, Bool.false_eq_true] at h1
      · generalize hq : ρc x = q at hx'
        cases hx' with
        | box _ _ hb => exact ⟨_, by simp only [execOp, hq]; rfl, Rel.box _ _ hb⟩
      · generalize hq : ρc x = q at hx'
        cases hx' with
        | rptr _ b o us hc hr => exact ⟨_, by simp only [execOp, hq]; rfl, Rel.rptr _ b o us hc hr⟩
  · -- binOp
    rename_i op t x y yt
    have hx := hρ x (by simp [Op.operands])
    have hy := (hρ y (by simp [Op.operands])).tv
    split at h
    · rename_i i off he
      rw [he] at hx
      obtain ⟨hl, hxc⟩ := hx
      split at h
      · rename_i e eq hyv hu heq
        simp only [NRes.Is] at h; subst h
        rw [hyv] at hy
        have hyc : ρc y = .pointer none := by generalize ρc y = q at hy; cases hy; rfl
        apply gives_v
        simp only [hxc, hyc]
        have hg : (eqGuard op t x y (.pointer (some ⟨g.lam i, off, none⟩)) (.pointer none)).run P w = .ok () w := by apply eqGuard_run; trivial
        simp only [Sem.run_bind, hg, Result.andThen_ok]
        cases op <;> simp only [eqWant, Option.some.injEq, reduceCtorEq] at heq
        · subst heq; exact ⟨_, (eqlPtr_run t e _ hu).1, Rel.bool _⟩
        · subst heq; exact ⟨_, (eqlPtr_run t e _ hu).2, Rel.bool _⟩
      · exact h.elim
    · rename_i a he
      rw [he] at hx
      exact gives_v (binT_run op t a _ _ _ hx hy v x y h)
  · -- not
    rename_i t x
    have hx := (hρ x (by simp [Op.operands])).tv
    split at h
    · rename_i b hb
      simp only [NRes.Is] at h; subst h
      rw [hb] at hx
      have hxc : ρc x = .bool b := by generalize ρc x = q at hx; cases hx; rfl
      exact gives_v ⟨_, by rw [hxc]; rfl, Rel.bool _⟩
    · exact h.elim
  · -- neg
    rename_i t x
    have hx := (hρ x (by simp [Op.operands])).tv
    split at h
    · rename_i k n hb
      simp only [NRes.Is] at h; subst h
      rw [hb] at hx
      have hxc : ρc x = .int k n := by generalize ρc x = q at hx; cases hx; rfl
      exact gives_v ⟨_, by rw [hxc]; rfl, Rel.int _ _⟩
    · exact h.elim
  · -- convert
    rename_i sr d x
    exact gives_v (conv_gives s (hρ x (by simp [Op.operands])).tv h)
  · -- makeFunc
    rename_i f first cap
    split at h
    · rename_i hsz
      simp only [NRes.Is] at h; subst h
      have hf : first = #[] := Array.eq_empty_of_size_eq_zero hsz
      subst hf
      refine gives_v ⟨.func (.func f) #[] (cap.toList.map ρc).toArray, ?_, ?_⟩
      · simp only [Instr.makeFunc]; show Result.ok (Value.func (.func f) (#[].map ρc) (cap.map ρc)) w = _; rw [show cap.map ρc = (cap.toList.map ρc).toArray from Array.ext' (by simp)]; simp
      · refine Rel.func f _ _ (by simp) (fun i hi => ?_)
        have hi' : i < cap.toList.length := by simpa using hi
        simp only [List.getElem_map, List.getD_eq_getElem?_getD, List.getElem?_map, List.getElem?_eq_getElem hi', Option.map_some, Option.getD_some]
        exact (hρ _ (by simp only [Op.operands, Array.mem_append]; right; exact Array.mem_toList_iff.1 (List.getElem_mem hi'))).tv
    · exact h.elim
  · -- slice
    rename_i t x lo hi mx
    exact gives_v (slice_gives (hρ x (by simp [Op.operands])).tv (relOpt lo fun y hy => hρ y (by simp [Op.operands, hy])) (relOpt hi fun y hy => hρ y (by simp [Op.operands, hy])) (relOpt mx fun y hy => hρ y (by simp [Op.operands, hy])) h)
  · -- fieldAddr
    rename_i t x f
    have hx := hρ x (by simp [Op.operands])
    split at h
    · rename_i fd hfd
      split at h
      · exact h.elim
      · rename_i hz
        split at h
        · rename_i i off he
          simp only [NRes.Is] at h; subst h
          rw [he] at hx
          obtain ⟨hl, hxc⟩ := hx
          exact gives_v ⟨_, by rw [hxc]; exact fieldAddr_run hfd hz _ _, ⟨hl, rfl⟩⟩
        · rename_i u he
          obtain ⟨h1, rfl⟩ := h
          rw [he] at hx
          have hx' : Rel g w u (ρc x) := hx
          generalize hq : ρc x = q at hx'
          cases u <;> simp only [isPtr, Bool.false_eq_true] at h1
          · cases hx' with
            | box _ _ hb => exact gives_v ⟨_, by rw [hq]; exact fieldAddr_run hfd hz _ _, Rel.box _ _ hb⟩
          · cases hx' with
            | rptr xs b o us hc hr => exact gives_v ⟨_, by rw [hq]; exact fieldAddr_run hfd hz _ _, rptr_drop hc hr _⟩
    · exact h.elim
  · -- field
    rename_i t x f
    have hx := (hρ x (by simp [Op.operands])).tv
    split at h
    · rename_i fd xs hfd hxs
      obtain ⟨y, hy, rfl⟩ := h
      rw [hxs] at hx
      generalize hq : ρc x = q at hx
      cases hx with
      | agg _ vs hl hr =>
        obtain ⟨u, hu, hrel⟩ := part_gives (P := P) (w := w) ⟨hl, hr⟩ hy
        obtain ⟨fs, hus, hf⟩ := fieldOf_some hfd
        refine gives_v ⟨u, ?_, hrel⟩
        rw [hq]
        simp [Instr.field, run_und hus, hf, asAgg, hu]
    · exact h.elim
  · -- indexAddr
    rename_i t x i
    have hx := (hρ x (by simp [Op.operands])).tv
    have hi := (hρ i (by simp [Op.operands])).tv
    split at h
    · rename_i e k n hel hn
      split at h
      · rename_i sz hsz
        obtain ⟨⟨h0, h1⟩, rfl⟩ := h
        rw [hn] at hi
        have hic : ρc i = .int k n := by generalize ρc i = q at hi; cases hi; rfl
        have hu : P.underlying t = some (.slice e) := by
          unfold elemOfSl at hel
          split at hel
          · rename_i e' hu; simp only [Option.some.injEq] at hel; subst hel; exact hu
          · cases hel
        refine gives_v ?_
        rw [hic]
        exact indexAddr_gives hx hu hsz h0 h1
      · exact h.elim
    · exact h.elim
  · -- index
    rename_i t x i
    have hx := (hρ x (by simp [Op.operands])).tv
    have hi := (hρ i (by simp [Op.operands])).tv
    split at h
    · rename_i sl k n hu hsl hn
      obtain ⟨⟨h0, h1⟩, rfl⟩ := h
      rw [hn] at hi
      rw [hsl] at hx
      have hic : ρc i = .int k n := by generalize ρc i = q at hi; cases hi; rfl
      have hxc : ρc x = .string ⟨sl.toArray⟩ := by generalize ρc x = q at hx; cases hx; rfl
      refine gives_v ⟨_, ?_, Rel.int _ _⟩
      rw [hic, hxc]
      exact index_gives hu h0 h1
    · exact h.elim
  · -- extract
    rename_i x i
    have hx := (hρ x (by simp [Op.operands])).tv
    split at h
    · rename_i xs hxs
      obtain ⟨y, hy, rfl⟩ := h
      rw [hxs] at hx
      generalize hq : ρc x = q at hx
      cases hx with
      | tuple _ vs hl hr =>
        obtain ⟨u, hu, hrel⟩ := RelL.get? ⟨hl, hr⟩ hy
        refine gives_v ⟨u, ?_, hrel⟩
        rw [hq]
        simp [Instr.extract, hu]
    · exact h.elim
  · -- len
    rename_i args ts
    split at h
    · rename_i x t hx ht
      have hx' := (hρ x (by simp only [Op.operands, Call.operands]; exact Array.mem_append.2 (.inr (Array.mem_of_getElem? hx)))).tv
      obtain ⟨u, hu, hrel⟩ := len_gives hx' h ts ht type
      refine ⟨u, ?_, hrel⟩
      have h1 : (Builtin.len_ ts type (args.map ρc)).run P w = (Builtin.len_ ts type #[ρc x]).run P w := by
        simp [Builtin.len_, ht, hx]
      simp [execOp, resolve, invoke, Go.builtin, h1, hu]
    · exact h.elim
  · -- sliceData
    rename_i args ts
    split at h
    · rename_i x hx
      have ha : args = #[x] := by rw [← Array.toArray_toList (xs := args), hx]
      subst ha
      have hx' := (hρ x (by simp [Op.operands, Call.operands])).tv
      obtain ⟨u, hu, hrel⟩ := sdata_gives (P := P) (loc := loc) hx' h ts type
      refine ⟨u, ?_, hrel⟩
      simp [execOp, resolve, invoke, Go.builtin, hu]
    · exact h.elim
  · -- lookup
    rename_i t x i ok
    exact gives_v (look_gives s (hρ x (by simp [Op.operands])).tv (hρ i (by simp [Op.operands])).tv h)
  · -- min
    rename_i args ts
    split at h
    · rename_i x y hxy
      have ha : args = #[x, y] := by rw [← Array.toArray_toList (xs := args), hxy]
      subst ha
      have hx' := (hρ x (by simp [Op.operands, Call.operands])).tv
      have hy' := (hρ y (by simp [Op.operands, Call.operands])).tv
      obtain ⟨u, hu, hrel⟩ := min_gives (P := P) (loc := loc) hx' hy' h ts type
      refine ⟨u, ?_, hrel⟩
      simp only at hu
      simp [execOp, resolve, invoke, Go.builtin, hu]
    · exact h.elim
  · -- max
    rename_i args ts
    split at h
    · rename_i x y hxy
      have ha : args = #[x, y] := by rw [← Array.toArray_toList (xs := args), hxy]
      subst ha
      have hx' := (hρ x (by simp [Op.operands, Call.operands])).tv
      have hy' := (hρ y (by simp [Op.operands, Call.operands])).tv
      obtain ⟨u, hu, hrel⟩ := min_gives (P := P) (loc := loc) hx' hy' h ts type
      refine ⟨u, ?_, hrel⟩
      simp only at hu
      simp [execOp, resolve, invoke, Go.builtin, hu]
    · exact h.elim
  · exact h.elim

end
end Go.TVF
