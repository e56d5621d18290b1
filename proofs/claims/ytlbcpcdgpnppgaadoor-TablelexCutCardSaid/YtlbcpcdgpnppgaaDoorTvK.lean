/- What 'eop' says is what the model does. -/
import Derived.Test.YtlbcpcdgpnppgaaDoorTvJ
set_option linter.unusedVariables false
set_option linter.unusedSimpArgs false
namespace Go.TVF
open Go.RowKit (Below)

section
variable {P : Program} {g : Ghost} {st : St} {loc : List (Option (List TV))} {w : World}

theorem done_v {s : Sem Value} {R : Value → World → Prop} {u : Value} {w' : World} (h : s.run P w = .ok u w') (hR : R u w') : Done P (do pure (Next.value (← s))) w R := by
  simp [Done, h]
  exact hR

theorem length_fillT (place : Nat → Option (Nat × Nat)) : ∀ (parts : List (Nat × TV)) (cells out : List TV), fillT place cells parts = some out → out.length = cells.length
  | [], cells, out, h => by simp only [fillT, Option.some.injEq] at h; rw [h]
  | (i, v) :: rest, cells, out, h => by
    simp only [fillT] at h
    split at h
    · split at h
      · rw [length_fillT place rest _ out h, length_setAll]
      · cases h
    · cases h

theorem pRel_of {ρ : Operand → SV} {ρc : Operand → Value} : ∀ (parts : List (Nat × Operand)), (∀ p ∈ parts, SRel g w loc (ρ p.2) (ρc p.2)) → PRel g w (parts.map fun p => (p.1, (ρ p.2).tv)) (parts.map fun p => (p.1, ρc p.2))
  | [], _ => trivial
  | p :: ps, h => ⟨rfl, (h p (by simp)).tv, pRel_of ps fun q hq => h q (by simp [hq])⟩

theorem zrep_rel (z : Value) (n : Nat) (hz : 1 ≤ z.cells.size ∨ n = 0) : RelL g w (zrep (z.cells.toList.map ofV1) n) ((Array.range n).map (z.cells[· % z.cells.size]!)).toList := by
  refine ⟨by simp [zrep], fun i hi => ?_⟩
  have hin : i < n := by simpa [zrep] using hi
  have hm : i % z.cells.size < z.cells.size := Nat.mod_lt _ (by rcases hz with h | h <;> omega)
  simp only [zrep, List.getElem_map, List.getElem_range, List.length_map, Array.length_toList, List.getD_eq_getElem?_getD, List.getElem?_map, Array.toList_map, Array.toList_range, List.getElem?_range hin, Option.map_some, Option.getD_some]
  rw [List.getElem?_eq_getElem (by simpa using hm)]
  simp only [Option.map_some, Option.getD_some]
  rw [getElem!_pos z.cells _ hm]
  simp only [Array.getElem_toList]
  exact rel_ofV1 g w _

theorem Rel.box_inv {b o : Nat} {u : Value} (h : Rel g w (.box b o) u) : b < g.nb ∧ u = .pointer (some ⟨g.bk b, o, none⟩) := by cases h; exact ⟨‹_›, rfl⟩

theorem freeze_alloc (w : World) (c : Array Value) (T : TypeId) (n : Nat) : (w.alloc (.cells c T)).freeze ⟨w.heap.size, n, none⟩ 1 = w.alloc (.cells c T (n, n + 1)) := by
  have hh : ((w.heap.push (.cells c T)).modify w.heap.size fun
      | .cells c elem (lo, hi) => .cells c elem (if lo == hi then (n, n + 1) else (min lo n, max hi (n + 1)))
      | o => o) = w.heap.push (.cells c T (n, n + 1)) := by
    apply Array.ext
    · simp
    · intro i h1 h2
      simp only [Array.getElem_modify, Array.getElem_push]
      by_cases hi : i < w.heap.size
      · have : w.heap.size ≠ i := by omega
        simp [hi, this]
      · have hsz : i < w.heap.size + 1 := by simpa using h2
        have : w.heap.size = i := by omega
        subst this
        simp
  simp only [World.freeze, World.alloc]
  rw [if_neg (by omega)]
  congr 1

theorem run_info {t : TypeId} {i : TypeInfo} (h : P.info? t = some i) (w : World) : (typeInfo t).run P w = .ok i w := by simp [typeInfo, h]

theorem elem_und {t e : TypeId} (h : elemOfSl P t = some e) : P.underlying t = some (.slice e) := by
  unfold elemOfSl at h
  split at h
  · rename_i e' hu; simp only [Option.some.injEq] at h; subst h; exact hu
  · cases h

theorem zeroT_info {t : TypeId} {z : List TV} (h : zeroT P t = some z) {i : TypeInfo} (hi : P.info? t = some i) : ∃ v, i.zero = some v ∧ z = v.cells.toList.map ofV1 := by
  unfold zeroT at h
  rw [hi] at h
  simp only at h
  split at h
  · rename_i v hv; simp only [Option.some.injEq] at h; exact ⟨v, hv, h.symm⟩
  · cases h

theorem isStr_cases {d : Option TypeDesc} (h : isStr d = true) : ∃ du, d = some du ∧ ((∃ e', du = .slice e') ∨ du = .string) := by
  cases d with
  | none => simp [isStr] at h
  | some du => cases du <;> simp [isStr] at h <;> exact ⟨_, rfl, by simp⟩

theorem liesAt_off {e : TypeId} (hc : P.cellsOf e = 1) (count off n : Nat) (hn : off + n ≤ count) : liesAt P P.depth e count off e n = true := by
  have hd : P.depth = (2 * (P.types.size + Made.depth) + 1) + 1 := rfl
  rw [hd]
  simp only [liesAt, Bool.or_eq_true]
  left
  rw [hd]
  simp [rowAt, hc, hn, sameLayout, Nat.mod_one]

/-- Bytes read off cells: each number's low byte. -/
theorem run_loadInts (w : World) : ∀ (ns : List Int) (a : Addr) (acc : ByteArray), (∀ j x, ns[j]? = some x → w.cell? (a.add j) = some (.int .u8 x)) →
    (loadBytes a acc ns.length).run P w = .ok ⟨acc.data ++ (ns.map fun n => UInt8.ofNat n.toNat).toArray⟩ w
  | [], a, acc, _ => by simp [loadBytes]
  | x :: l, a, acc, h => by
    have h0 : w.cell? a = some (.int .u8 x) := by
      have := h 0 x rfl
      simpa [Addr.add] using this
    have ih := run_loadInts w l (a.add 1) (acc.push x.toNat.toUInt8) (fun j y hy => by
      have := h (j + 1) y (by simpa using hy)
      have e : (a.add 1).add j = a.add (j + 1) := by
        unfold Addr.add
        by_cases hj : j = 0
        · subst hj; simp
        · simp [hj]; omega
      rw [e]; exact this)
    simp only [List.length_cons, loadBytes, Sem.run_bind, run_load, h0, Result.andThen]
    rw [ih]
    congr 1
    apply ByteArray.ext
    simp [ByteArray.push]

theorem run_unsafeString_off (pt it ty e : TypeId) (hp : P.underlying pt = some (.pointer e)) (hc : P.cellsOf e = 1) (b o : Nat) (c : Array Value) (fz : Nat × Nat) (hrow : w.heap[b]? = some (.cells c e fz)) (ns : List Int) (h0 : ns ≠ []) (h63 : ns.length ≤ 9223372036854775807)
    (hcell : ∀ j x, ns[j]? = some x → w.cell? ((⟨b, o, none⟩ : Addr).add j) = some (.int .u8 x)) :
    (Builtin.unsafeString_ #[pt, it] ty #[.pointer (some ⟨b, o, none⟩), .int .i64 ns.length]).run P w = .ok (.string ⟨(ns.map fun n => UInt8.ofNat n.toNat).toArray⟩) (w.freeze ⟨b, o, none⟩ ns.length) := by
  have hl : ns.length ≠ 0 := by simpa using h0
  have hsh : w.shape? b = some (e, c.size) := by simp [World.shape?, hrow]
  have hon : o + ns.length ≤ c.size := by
    have hlast : ns.length - 1 < ns.length := by omega
    have := hcell (ns.length - 1) ns[ns.length - 1] (List.getElem?_eq_getElem hlast)
    rw [plain_add] at this
    unfold World.cell? at this
    simp only [hrow] at this
    simp at this
    have := (Array.getElem?_eq_some_iff.1 this).1
    omega
  have hlb := run_loadInts (P := P) w ns ⟨b, o, none⟩ .empty hcell
  have hlies := liesAt_off (P := P) hc (c.size / P.cellsOf e) o ns.length (by rw [hc]; simpa using hon)
  have h63' : ¬ (9223372036854775807 : Int) < (ns.length : Int) := by omega
  have hdef : Builtin.unsafeString_ #[pt, it] ty #[.pointer (some ⟨b, o, none⟩), .int .i64 ns.length] =
      (do
        let n ← asInt (.int .i64 ns.length)
        if n < 0 then runtimePanic (.error "unsafe.String: len out of range")
        if n > IntKind.i64.max then unsupported (.unsafePointer "String: a length above the largest int")
        if n = 0 then pure (.string .empty)
        else if ← variablesAt ⟨b, o, none⟩ (← elemOf pt) n.toNat then do
          let s ← loadBytes ⟨b, o, none⟩ .empty n.toNat
          freeze ⟨b, o, none⟩ n.toNat
          pure (.string s)
        else unsupported (.unsafePointer "String: not so many bytes at ptr")) := rfl
  rw [hdef]
  have hmax : IntKind.i64.max = 9223372036854775807 := rfl
  have hneg : ¬ (ns.length : Int) < 0 := by omega
  simp [asInt, asIntOf, hmax, h63', hneg, hl, variablesAt, hsh, elemOf, run_underlying hp, hlies, hlb]

def putO (w : World) (b : Nat) (o : Obj) : World := { w with heap := w.heap.setIfInBounds b o }
theorem heap_putObj (w : World) (b : Nat) (o : Obj) (k : Nat) (h : k ≠ b) : (putO w b o).heap[k]? = w.heap[k]? := by
  simp only [putO]
  rw [Array.getElem?_setIfInBounds_ne (Ne.symm h)]
theorem below_putObj {B : Nat} {a w : World} (h : Below B a w) {b : Nat} (hb : B ≤ b) (o : Obj) : Below B a (putO w b o) :=
  h.trans ⟨rfl, rfl, rfl, by simp [putO], fun k hk => heap_putObj _ _ _ _ (by omega)⟩

theorem setM_miss {k : List UInt8} {v : TV} : ∀ {es : List (List UInt8 × TV)}, findM k es = none → setM k v es = es ++ [(k, v)]
  | [], _ => rfl
  | (k', v') :: es, h => by
    simp only [findM] at h
    split at h
    · cases h
    · rename_i hk; simp only [setM, hk]; rw [setM_miss h]; rfl
theorem setM_hit {k : List UInt8} {v : TV} : ∀ {es : List (List UInt8 × TV)} {i : Nat} {u : TV}, es[i]? = some (k, u) → (∀ j, j < i → ∀ kk vv, es[j]? = some (kk, vv) → k ≠ kk) → setM k v es = es.set i (k, v)
  | [], i, u, h, _ => by simp at h
  | (k', v') :: es, 0, u, h, _ => by
    simp only [List.getElem?_cons_zero, Option.some.injEq, Prod.mk.injEq] at h
    simp [setM, h.1]
  | (k', v') :: es, i + 1, u, h, hj => by
    have hne : k ≠ k' := hj 0 (by omega) k' v' rfl
    simp only [setM, hne, decide_false, List.set_cons_succ]
    rw [setM_hit (by simpa using h) (fun j h1 kk vv h2 => hj (j + 1) (by omega) kk vv (by simpa using h2))]

theorem mapUpdate_run {t kt et : TypeId} (ht : P.underlying t = some (.map kt et)) (hkt : P.underlying kt = some .string) {b : Nat} {ms : Array MapEntry} {c : Nat} (hb : w.heap[b]? = some (.map ms c)) {es : List (List UInt8 × TV)} (hl : es.length = ms.toList.length)
    (hm : ∀ (i : Nat) (k : List UInt8) (v : TV), es[i]? = some (k, v) → ∃ e : MapEntry, ms.toList[i]? = some e ∧ e.key = Value.string ⟨k.toArray⟩ ∧ Rel g w v e.val) {k : List UInt8} {v : TV} {vv : Value} (hv : Rel g w v vv) :
    ∃ (ms' : Array MapEntry) (c' : Nat), (Instr.mapUpdate t (.map (some b)) (.string ⟨k.toArray⟩) vv).run P w = .ok () (putO w b (.map ms' c')) ∧ (setM k v es).length = ms'.toList.length ∧
      ∀ (i : Nat) (kk : List UInt8) (u : TV), (setM k v es)[i]? = some (kk, u) → ∃ e : MapEntry, ms'.toList[i]? = some e ∧ e.key = Value.string ⟨kk.toArray⟩ ∧ Rel g w u e.val := by
  have hg : (getObj b).run P w = .ok (.map ms c) w := by simp [getObj, Sem.run, hb]
  rcases findKey_gives (P := P) hkt (k := k) hl hm with ⟨h1, h2⟩ | ⟨u, i, e, h1, h2, h3, h4, h5, ⟨kk, h6, hkk⟩, h7⟩
  · refine ⟨ms.push { key := .string ⟨k.toArray⟩, val := vv, born := c }, c + 1, ?_, ?_, ?_⟩
    · simp only [Instr.mapUpdate, Sem.run_bind, run_und ht, Result.andThen_ok, hg, checkKey_str hkt, h2]
      simp [setObj, Sem.run, hb, putO]
    · rw [setM_miss h1]; simp; simpa using hl
    · intro i kk u hi
      rw [setM_miss h1] at hi
      by_cases hlt : i < es.length
      · rw [List.getElem?_append_left hlt] at hi
        obtain ⟨e, e1, e2, e3⟩ := hm i kk u hi
        exact ⟨e, by rw [Array.toList_push, List.getElem?_append_left (by omega)]; exact e1, e2, e3⟩
      · rw [List.getElem?_append_right (by omega)] at hi
        have hi0 : i - es.length = 0 := by
          have := (List.getElem?_eq_some_iff.1 hi).1
          simp at this; omega
        rw [hi0] at hi
        simp only [List.getElem?_cons_zero, Option.some.injEq, Prod.mk.injEq] at hi
        obtain ⟨rfl, rfl⟩ := hi
        refine ⟨{ key := .string ⟨k.toArray⟩, val := vv, born := c }, ?_, rfl, hv⟩
        rw [Array.toList_push, List.getElem?_append_right (by omega), show i - ms.toList.length = 0 by omega]; rfl
  · subst hkk
    have hset : setM k v es = es.set i (k, v) := setM_hit h6 h7
    have hil : i < ms.size := by have := (List.getElem?_eq_some_iff.1 h3).1; simpa using this
    have hme : ms[i]? = some e := by rw [← Array.getElem?_toList]; exact h3
    refine ⟨ms.modify i fun e => { e with key := .string ⟨k.toArray⟩, val := vv }, c, ?_, ?_, ?_⟩
    · have hstay : (Instr.keyThatStays (((ms[i]?).map (·.key)).getD (.string ⟨k.toArray⟩)) (.string ⟨k.toArray⟩)).run P w = .ok (.string ⟨k.toArray⟩) w := by
        rw [hme]
        have hbb : ((⟨k.toArray⟩ : ByteArray) == ⟨k.toArray⟩) = true := by rw [beq_toListBytes]; exact beq_self_eq_true _
        simp [Instr.keyThatStays, h4, Instr.sameBits, hbb]
      simp only [Instr.mapUpdate, Sem.run_bind, run_und ht, Result.andThen_ok, hg, checkKey_str hkt, h2, hstay]
      simp [setObj, Sem.run, hb, putO]
    · rw [hset]; simp; simpa using hl
    · intro j kk' u' hj
      rw [hset] at hj
      by_cases hij : i = j
      · subst hij
        have hlt : i < es.length := by have := (List.getElem?_eq_some_iff.1 h6).1; exact this
        rw [List.getElem?_set_self hlt] at hj
        simp only [Option.some.injEq, Prod.mk.injEq] at hj
        obtain ⟨rfl, rfl⟩ := hj
        refine ⟨{ e with key := .string ⟨k.toArray⟩, val := vv }, ?_, rfl, hv⟩
        rw [Array.getElem?_toList, Array.getElem?_modify, if_pos rfl, hme]; rfl
      · rw [List.getElem?_set_ne hij] at hj
        obtain ⟨e', e1, e2, e3⟩ := hm j kk' u' hj
        refine ⟨e', ?_, e2, e3⟩
        rw [Array.getElem?_toList, Array.getElem?_modify, if_neg hij, ← Array.getElem?_toList]; exact e1

set_option maxHeartbeats 2000000 in
theorem eop_sound (s : Sim g st loc w) {cfg : Cfg} {ρ : Operand → SV} {ρc : Operand → Value} (o : Oper) (hρ : ∀ x, x ∈ o.op.operands → SRel g w loc (ρ x) (ρc x)) {K : SV → List (Option (List TV)) → St → Prop}
    (h : eop cfg P o.dst o.type o.op ρ loc st K) : Done P (execOp ρc o) w (Left g w loc K) := by
  obtain ⟨dst, op, type, pos, after, guard⟩ := o
  simp only at hρ h
  unfold eop at h
  split at h
  · -- alloc
    rename_i t
    split at h
    · rename_i cells hz
      obtain ⟨z, hrun, rfl⟩ := run_zeroT hz w
      refine done_v (u := .pointer (some ⟨w.heap.size, 0, none⟩)) (w' := w.alloc (.cells z.cells t)) ?_ (alloc_gives s t (relL_ofV1 g w z.cells.toList) h)
      simp [Instr.alloc, hrun, newVar, newRow]
    · exact h.elim
  · -- box
    rename_i t x
    have hx := (hρ x (by simp [Op.operands])).tv
    have hgo : ∀ cells, cellsO (ρ x).tv = some cells → allocK t (locIx cfg.loc dst) cells loc st K → Done P (execOp ρc ⟨dst, .box t x, type, pos, after, guard⟩) w (Left g w loc K) := by
      intro cells hc h
      refine done_v (u := .pointer (some ⟨w.heap.size, 0, none⟩)) (w' := w.alloc (.cells (ρc x).cells t)) ?_ (alloc_gives s t (cellsO_rel hx hc) h)
      simp [Instr.box, newVar, newRow]
    split at h
    · split at h
      · rename_i cells hc
        exact hgo cells (by rw [hc]; rfl) h
      · exact h.elim
    · rw [need_iff] at h
      exact hgo _ (cellsO_one h.1) h.2
    · exact h.elim
  · -- buildSlice
    rename_i t len parts
    split at h
    · rename_i e he
      split at h
      · rename_i sz z hsz hz
        rw [need_iff] at h
        obtain ⟨hchk, h⟩ := h
        simp only [Bool.and_eq_true] at hchk
        obtain ⟨h1, h2, h3⟩ := hchk
        have h1' := Nat.le_of_ble_eq_true h1
        have h2' := Nat.eq_of_beq_eq_true h2
        have h3' := Nat.le_of_ble_eq_true h3
        split at h
        · rename_i cells hfillS
          rw [need_iff] at h
          obtain ⟨hones, h⟩ := h
          have hfill := fillS_old _ _ _ _ _ hones hfillS
          obtain ⟨zv, hzrun, rfl⟩ := run_zeroT hz w
          have hzs : zv.cells.size = sz := by simpa using h2'
          have hp := pRel_of (g := g) (w := w) (loc := loc) (ρ := ρ) (ρc := ρc) parts.toList (fun p hp => hρ p.2 (by
            simp only [Op.operands, List.mem_toArray, List.mem_map]; exact ⟨p, hp, rfl⟩))
          have hzr := zrep_rel (g := g) (w := w) zv (len * sz) (.inl (by omega))
          obtain ⟨us, hus, hru⟩ := fill_sound _ _ _ _ _ _ hp hzr hfill
          have hlen : cells.length = len * sz := by rw [length_fillT _ _ _ _ hfill]; simp [zrep]
          refine done_v (u := .slice (some ⟨w.heap.size, 0, none⟩) len len) (w' := w.alloc (.cells us e)) ?_ (full_gives s e hru hlen h)
          have hne : ¬ (len * sz > 2 ^ 24) := by simp only [Nat.reducePow]; omega
          simp only [Instr.buildSlice, Sem.run_bind, run_und (elem_und he), Result.andThen_ok, run_sizeT hsz, hne, if_false]
          rw [show (parts.map fun (x : Nat × Operand) => match x with | (i, x) => (i, ρc x)) = parts.map fun x => (x.1, ρc x.2) from rfl]
          by_cases h0 : len * sz = 0
          · have hfc : Instr.fill (fun i => some (i * sz, sz)) ((Array.range (len * sz)).map ((#[] : Array Value)[· % (#[] : Array Value).size]!)) (parts.map fun x => (x.1, ρc x.2)).toList = some us := by
              have e0 : ∀ f : Nat → Value, (Array.range 0).map f = #[] := fun f => by simp
              rw [← hus, Array.toList_map, h0, e0, e0]
            rw [if_pos h0]
            simp only [Sem.run_bind, Sem.run_pure, Result.andThen_ok, hfc]
            simp [newRow]
          · have hfc : Instr.fill (fun i => some (i * sz, sz)) ((Array.range (len * sz)).map (zv.cells[· % zv.cells.size]!)) (parts.map fun x => (x.1, ρc x.2)).toList = some us := by
              rw [← hus, Array.toList_map]
            rw [if_neg h0]
            simp only [Sem.run_bind, Sem.run_pure, hzrun, Result.andThen_ok, hfc]
            simp [newRow]
        · exact h.elim
      · exact h.elim
    · exact h.elim
  · -- build
    rename_i t parts
    split at h
    · rename_i z fs hz hu
      split at h
      · rename_i cells hfillS
        rw [need_iff, need_iff] at h
        obtain ⟨hall, hones, h⟩ := h
        have hfill := fillS_old _ _ _ _ _ hones hfillS
        obtain ⟨zv, hzrun, rfl⟩ := run_zeroT hz w
        have hp := pRel_of (g := g) (w := w) (loc := loc) (ρ := ρ) (ρc := ρc) parts.toList (fun p hp => hρ p.2 (by
          simp only [Op.operands, List.mem_toArray, List.mem_map]; exact ⟨p, hp, rfl⟩))
        obtain ⟨us, hus, hru⟩ := fill_sound _ _ _ _ _ _ hp (relL_ofV1 g w zv.cells.toList) hfill
        have hplaces : (fs.mapM (fun (f : Field) => (do pure (f.offset, ← sizeOf f.type) : Sem (Nat × Nat))) : Sem (Array (Nat × Nat))).run P w = .ok (fs.map fun (f : Field) => (f.offset, (sizeT P f.type).getD 0)) w := by
          have hl : ∀ l : List Field, (l.all fun (f : Field) => (sizeT P f.type).isSome) = true → (l.mapM (fun (f : Field) => (do pure (f.offset, ← sizeOf f.type) : Sem (Nat × Nat))) : Sem (List (Nat × Nat))).run P w = .ok (l.map fun (f : Field) => (f.offset, (sizeT P f.type).getD 0)) w := by
            intro l
            induction l with
            | nil => intro _; rfl
            | cons f l ih =>
              intro ha
              simp only [List.all_cons, Bool.and_eq_true] at ha
              obtain ⟨n, hn⟩ := Option.isSome_iff_exists.1 ha.1
              simp only [List.mapM_cons, Sem.run_bind, run_sizeT hn, Result.andThen_ok, Sem.run_pure, ih ha.2, List.map_cons, hn, Option.getD_some]
          rw [← Array.toArray_toList (xs := fs)]
          rw [List.mapM_toArray]
          simp only [Sem.run_map, hl fs.toList hall, Result.andThen_ok, List.map_toArray]
        have hf : placeF P fs = ((fs.map fun (f : Field) => (f.offset, (sizeT P f.type).getD 0))[·]?) := by
          funext i
          simp only [Array.getElem?_map, placeF]
          cases hfi : fs[i]? with
          | none => rfl
          | some f =>
            have := List.all_eq_true.1 hall f (by rw [Array.mem_toList_iff]; exact Array.mem_of_getElem? hfi)
            obtain ⟨n, hn⟩ := Option.isSome_iff_exists.1 this
            simp [hn]
        rw [hf] at hus
        refine done_v (u := .agg us) (w' := w) ?_ ⟨_, _, _, g, h, s, ?_, Ext.refl _ _, LocKeep.refl _ _⟩
        · simp only [Instr.build, Sem.run_bind, hzrun, Result.andThen_ok, run_und hu, hplaces]
          rw [show (parts.map fun (x : Nat × Operand) => match x with | (i, x) => (i, ρc x)).toList = parts.toList.map fun x => (x.1, ρc x.2) from by simp]
          rw [hus]
          rfl
        · have := Rel.agg (g := g) (w := w) cells us.toList hru.1 hru.2
          simp only [Array.toArray_toList] at this
          exact this
      · exact h.elim
    · exact h.elim
  · -- store
    rename_i t a x
    have hgo : ∀ xs d, cellsO (ρ x).tv = some xs → P.underlying t = some d → xs.length = P.cellsOf t → xs.all oneT = true → (stK st loc (ρ a) xs fun loc' st' => K (.t .undef) loc' st') → Done P (execOp ρc ⟨dst, .store t a x, type, pos, after, guard⟩) w (Left g w loc K) := by
      intro xs d hxs hd h1 h2 h
      obtain ⟨w', loc', st', hrun, hk, s', e', hkeep⟩ := store_gives (P := P) hd s (hρ a (by simp [Op.operands])) (hρ x (by simp [Op.operands])).tv hxs h1 h2 h
      have : Left g w loc K Go.undef w' := ⟨_, loc', st', g, hk, s', Rel.undef, e', fun i y hi => ⟨rfl, hkeep i y hi⟩⟩
      simpa [Done, execOp, hrun] using this
    have hund : ∀ b, aggK P t = some b → ∃ d, P.underlying t = some d := fun b hb => (run_aggK hb w).2
    split at h
    · rename_i hag
      obtain ⟨d, hd⟩ := hund _ hag
      split at h
      · rename_i xs hxs
        rw [need_iff, need_iff] at h
        exact hgo xs d (by rw [hxs]; rfl) hd (Nat.eq_of_beq_eq_true h.1) h.2.1 h.2.2
      · exact h.elim
    · rename_i hag
      obtain ⟨d, hd⟩ := hund _ hag
      rw [need_iff, need_iff] at h
      exact hgo _ d (cellsO_one (by simpa using h.2.1)) hd (Nat.eq_of_beq_eq_true h.1) h.2.1 h.2.2
    · exact h.elim
  · -- call
    rename_i f args ts
    unfold callK at h
    split at h
    · rename_i fid caps hf
      have hfv := (hρ f (by simp [Op.operands, Call.operands])).tv
      rw [hf] at hfv
      generalize hq : ρc f = q at hfv
      cases hfv with
      | func _ _ vs hl hr =>
        have hargs : RelL g w (args.toList.map (fun x => (ρ x).tv) ++ caps) (args.toList.map ρc ++ vs) := by
          refine RelL.append ⟨by simp, fun i hi => ?_⟩ ⟨hl, hr⟩
          have hi' : i < args.toList.length := by simpa using hi
          simp only [List.getElem_map, List.getD_eq_getElem?_getD, List.getElem?_map, List.getElem?_eq_getElem hi', Option.map_some, Option.getD_some]
          exact (hρ _ (by simp only [Op.operands, Call.operands, Array.mem_append]; right; exact Array.mem_toList_iff.1 (List.getElem_mem hi'))).tv
        have hc := call_gives s hargs h
        have hrun : (execOp ρc ⟨dst, .call { callee := .value f, args := args, argTypes := ts }, type, pos, after, guard⟩).run P w = (callFunc fid (args.toList.map ρc ++ vs).toArray).run P w := by
          simp only [execOp, resolve, Sem.run_bind, hq, Deferred.ofValue, Sem.run_pure, Result.andThen_ok, invoke]
          rw [show (#[] ++ args.map ρc ++ vs.toArray) = (args.toList.map ρc ++ vs).toArray from Array.ext' (by simp)]
        refine Done.congr hrun (hc.mono ?_)
        rintro v w' ⟨sv, loc', st', g', ⟨r, rfl, rfl, hR⟩, h2, h3, h4, h5⟩
        exact ⟨_, _, st', g', decRet_curry (F := fun v st' => K (.t v) loc' st') (k := fun p => p st') hR, h2, h3, h4, h5⟩
    · exact h.elim
  · -- makeMap
    rename_i t r
    have hnew : K (.t (.map st.nb)) loc (st.push (.map []) none) → Left g w loc K (.map (some w.heap.size)) (w.alloc (.map #[] 0)) := by
      intro hK
      obtain ⟨s1, e1, fr⟩ := s.alloc (.map #[] 0)
      have ho : ORel g (w.alloc (.map #[] 0)) w.heap.size (.map []) := ⟨#[], 0, heap_alloc_at _ _, rfl, fun i k v hi => by simp at hi⟩
      obtain ⟨s2, e2, hbk⟩ := s1.push fr (by simp) ho (T := none) (fun t ht => by cases ht)
      refine ⟨_, _, _, _, hK, s2, ?_, e1.trans e2, fun i x hi => ⟨rfl, x, hi⟩⟩
      have := Rel.map (g := g.push w.heap.size) (w := w.alloc (.map #[] 0)) st.nb (by simp only [Ghost.push, s.nb]; omega)
      rw [hbk] at this
      exact this
    split at h
    · rename_i kt e ht hr
      have hrn : r = none := by cases r <;> simp at hr ⊢
      subst hrn
      refine done_v (u := .map (some w.heap.size)) (w' := w.alloc (.map #[] 0)) ?_ (hnew h)
      simp [Instr.makeMap]
    · rename_i kt e k n ht hr
      obtain ⟨x, hx, hxe⟩ := Option.map_eq_some_iff.1 hr
      subst hx
      have hxr := (hρ x (by simp [Op.operands])).tv
      rw [hxe] at hxr
      have hxc : ρc x = .int k n := by generalize ρc x = q at hxr; cases hxr; rfl
      refine done_v (u := .map (some w.heap.size)) (w' := w.alloc (.map #[] 0)) ?_ (hnew h)
      simp [Instr.makeMap, hxc, run_und ht, asInt, asIntOf]
    · exact h.elim
  · -- mapUpdate
    rename_i t m k v
    split at h
    · rename_i kt e key ht hk
      split at h
      · rename_i hkt
        rw [need_iff] at h
        obtain ⟨hone, h⟩ := h
        unfold muK at h
        split at h <;> first | exact h.elim | skip
        rename_i b hm
        obtain ⟨es, hes, hK⟩ := h
        have hmr := (hρ m (by simp [Op.operands])).tv
        have hkr := (hρ k (by simp [Op.operands])).tv
        have hvr := (hρ v (by simp [Op.operands])).tv
        rw [hm] at hmr
        rw [hk] at hkr
        have hkc : ρc k = .string ⟨key.toArray⟩ := by generalize ρc k = q at hkr; cases hkr; rfl
        generalize hq : ρc m = q at hmr
        cases hmr with
        | map _ hlt =>
          have hlt' : b < st.nb := by rw [← s.nb]; exact hlt
          have ob := s.obj (.box b) hlt'
          simp only [objOf, hes, Ghost.at] at ob
          obtain ⟨ms, c, hb, hl, hmm⟩ := ob
          obtain ⟨ms', c', hrun, hl', hmm'⟩ := mapUpdate_run (P := P) ht hkt hb hl hmm hvr
          have hput := s.putKey (st' := st.put b (.map (setM key (ρ v).tv es))) (loc' := loc) (w' := putO w (g.bk b) (.map ms' c')) (.box b) hlt' rfl rfl rfl rfl rfl (fun k d => by cases k <;> exact d)
            (fun k _ hne => by
              cases k with
              | box i => have : i ≠ b := fun h => hne (by rw [h]); simp [objOf, St.put, this]
              | loc i => rfl) (by simp [putO]) (fun k hk => heap_putObj _ _ _ _ hk) (below_putObj s.below (s.lo (.box b) hlt').1 _)
            (fun e => by
              simp only [objOf, St.put, if_true, Ghost.at]
              refine ⟨ms', c', ?_, hl', fun i k v hi => ?_⟩
              · simp only [putO]
                have := (Array.getElem?_eq_some_iff.1 hb).1
                simp [this]
              · obtain ⟨e', h1, h2, h3⟩ := hmm' i k v hi
                exact ⟨e', h1, h2, h3.ext e⟩)
            (fun T hT => by obtain ⟨c2, fz, h2⟩ := hT; simp only [Ghost.at] at h2; rw [hb] at h2; cases h2)
          have : Left g w loc K Go.undef (putO w (g.bk b) (.map ms' c')) := ⟨_, loc, _, g, hK, hput.1, Rel.undef, hput.2, fun i y hi => ⟨rfl, y, hi⟩⟩
          simpa [Done, execOp, hq, hkc, hrun] using this
      · exact h.elim
    · exact h.elim
  · -- unsafeString
    rename_i args ts
    split at h
    · rename_i p n pt it hargs hts
      have ha : args = #[p, n] := by rw [← Array.toArray_toList (xs := args), hargs]
      have hta : ts = #[pt, it] := by rw [← Array.toArray_toList (xs := ts), hts]
      subst ha hta
      have hp := (hρ p (by simp [Op.operands, Call.operands])).tv
      have hn := (hρ n (by simp [Op.operands, Call.operands])).tv
      split at h
      · rename_i u hu
        split at h <;> first | exact h.elim | skip
        rename_i m hc hne
        unfold usK at h
        split at h
        · rename_i hpe
          obtain ⟨rfl, hK⟩ := h
          rw [hpe] at hp
          rw [hne] at hn
          have hpc : ρc p = .pointer none := by generalize ρc p = q at hp; cases hp; rfl
          have hnc : ρc n = .int .i64 0 := by generalize ρc n = q at hn; cases hn; rfl
          have hr := Lib.run_unsafeString_none (P := P) w pt it type none
          have : Left g w loc K (.string .empty) w := ⟨_, loc, st, g, hK, s, Rel.str [], Ext.refl _ _, LocKeep.refl _ _⟩
          simpa [Done, execOp, resolve, invoke, Go.builtin, hpc, hnc, hr] using this
        · rename_i id k xs hpe
          obtain ⟨⟨hmk, hk63, hlive, hty⟩, h⟩ := h
          obtain ⟨l, hl, hK⟩ := optK_iff.1 h
          rw [hpe] at hp
          rw [hne] at hn
          have hnc : ρc n = .int .i64 m := by generalize ρc n = q at hn; cases hn; rfl
          generalize hq : ρc p = q at hp
          cases hp with
          | sptr _ a n' cap hcap hrel =>
            cases hrel with
            | list _ _ _ _ b o _ us hxl hnc' hcell hr htip =>
              have hid : id < st.nt := s.nt ▸ htip.1
              obtain ⟨r0, hr0⟩ := Option.ne_none_iff_exists'.1 (s.own id hid hlive)
              have hreq := htip.2 r0 hr0
              subst hreq
              obtain ⟨cc, fz, hrow⟩ := s.spTy id _ _ _ u hr0 hty
              obtain ⟨s2, e2⟩ := s.freezeTip hr0 o k
              simp only at hrow
              obtain ⟨ns, rfl, rfl⟩ := asBytes_ints hl
              have hxl' : ns.length = k := by simpa using hxl
              have hcells : ∀ j x, ns[j]? = some x → w.cell? ((⟨b, o, none⟩ : Addr).add j) = some (.int .u8 x) := fun j x hj => by
                have hjl : j < ns.length := (List.getElem?_eq_some_iff.1 hj).1
                rw [plain_add, (hcell j (by simpa using hjl)).2]
                have := hr j (by simpa using hjl)
                simp only [List.getElem_map] at this
                rw [(List.getElem?_eq_some_iff.1 hj).2] at this
                rw [this.int_inv]
              have : Left g w loc K (.string ⟨(ns.map fun n => UInt8.ofNat n.toNat).toArray⟩) (w.freeze ⟨b, o, none⟩ k) := ⟨_, loc, _, _, hK, s2, Rel.str _, e2, fun i x hi => ⟨rfl, x, hi⟩⟩
              by_cases h0 : ns = []
              · subst h0
                simp only [List.length_nil] at hxl'
                subst hxl'
                have hm0 : m = 0 := by simpa using hmk
                subst hm0
                have hrun := Lib.run_unsafeString_none (P := P) w pt it type (some ⟨b, o, none⟩)
                have hf : w.freeze ⟨b, o, none⟩ 0 = w := by simp [World.freeze]
                rw [hf] at this
                have this' : Left g w loc K (.string .empty) w := this
                simpa [Done, execOp, resolve, invoke, Go.builtin, hq, hnc, hrun] using this'
              · have hrun := run_unsafeString_off (P := P) (w := w) pt it type u hu (of_decide_eq_true hc) b o cc fz hrow ns h0 (by omega) hcells
                rw [hxl'] at hrun
                subst hmk
                simpa [Done, execOp, resolve, invoke, Go.builtin, hq, hnc, hrun] using this
        · exact h.elim
      · exact h.elim
    · exact h.elim
  · -- append
    rename_i args ts
    split at h
    · rename_i a x t u hargs hts
      have ha : args = #[a, x] := by rw [← Array.toArray_toList (xs := args), hargs]
      have hta : ts = #[t, u] := by rw [← Array.toArray_toList (xs := ts), hts]
      subst ha hta
      split at h
      · rename_i e he
        split at h
        · rename_i i z hi hz
          rw [need_iff] at h
          obtain ⟨hchk, h⟩ := h
          simp only [Bool.and_eq_true] at hchk
          obtain ⟨h1, h2, h3, h4⟩ := hchk
          obtain ⟨du, hdu, hcase⟩ := isStr_cases h1
          obtain ⟨zv, hzv, rfl⟩ := zeroT_info hz hi
          rw [optK_iff] at h
          obtain ⟨⟨k, ys⟩, hsrc, h⟩ := h
          rw [need_iff] at h
          have hzs : zv.cells.size = i.size := by have := Nat.eq_of_beq_eq_true h2; simpa using this
          obtain ⟨r, w', hrun, hL⟩ := append_gives (P := P) (ty := type) s (elem_und he) hdu hcase hi hzv hzs (Nat.le_of_ble_eq_true h3) (Nat.le_of_ble_eq_true h4) (hρ a (by simp [Op.operands, Call.operands])).tv (hρ x (by simp [Op.operands, Call.operands])).tv hsrc h.1 h.2
          simpa [Done, execOp, resolve, invoke, Go.builtin, hrun] using hL
        · exact h.elim
      · exact h.elim
    · exact h.elim
  · -- convert
    rename_i sT d x
    split at h
    · rename_i e l hs he hl
      split at h
      · rename_i hu8
        have hx := (hρ x (by simp [Op.operands])).tv
        rw [hl] at hx
        have hxc : ρc x = .string ⟨l.toArray⟩ := by generalize ρc x = q at hx; cases hx; rfl
        obtain ⟨sd, ed⟩ := s.drew
        have hge := grownCap_ge w l.length 0 e
        have hsz : ((l.map fun b => Value.int .u8 (b.toNat : Int)).toArray ++ Array.replicate (grownCap w l.length 0 e - l.length) (Value.int .u8 0)).size = grownCap w l.length 0 e * 1 := by simp; omega
        have hrl : RelL g w.drew (bytesT l) (l.map fun b => Value.int .u8 (b.toNat : Int)) := by
          refine ⟨by simp [bytesT], fun i hi => ?_⟩
          have hi' : i < l.length := by simpa [bytesT] using hi
          simp only [bytesT, List.getElem_map, List.getD_eq_getElem?_getD, List.getElem?_map, List.getElem?_eq_getElem hi', Option.map_some, Option.getD_some]
          exact Rel.int _ _
        have hfr := fresh_gives (sz := 1) (n := l.length) (cap := grownCap w l.length 0 e) (cells := bytesT l) (vs := (l.map fun b => Value.int .u8 (b.toNat : Int)).toArray ++ Array.replicate (grownCap w l.length 0 e - l.length) (Value.int .u8 0)) sd e
          (grownCap w l.length 0 e, grownCap w l.length 0 e + 1) (by
            have : ((l.map fun b => Value.int .u8 (b.toNat : Int)).toArray ++ Array.replicate (grownCap w l.length 0 e - l.length) (Value.int .u8 0)).toList.take (bytesT l).length = l.map fun b => Value.int .u8 (b.toNat : Int) := by
              simp only [Array.toList_append, List.toList_toArray]
              rw [hrl.1]; exact List.take_left
            rw [this]; exact hrl) (by simp [bytesT]) hge hsz (fun o ho => by simp only; omega) (fun t ht => by cases ht; rfl) (K := K) h
        obtain ⟨sv, l', st', g', k1, k2, k3, k4, k5⟩ := hfr
        refine done_v (u := .slice (some ⟨w.heap.size, 0, none⟩) l.length (grownCap w l.length 0 e)) ?_ ⟨sv, l', st', g', k1, k2, k3, ed.trans k4, k5⟩
        rw [hxc]
        simp only [Go.convert, Sem.run_bind, run_und hs, run_und (elem_und he), run_und hu8, Result.andThen_ok]
        have hch : (choose (.appendCap l.length 0 e)).run P w = .ok (grownCap w l.length 0 e) w.drew := rfl
        have hel : ((ByteArray.mk l.toArray).data.map fun b => Value.int .u8 (b.toNat : Int)) = (l.map fun b => Value.int .u8 (b.toNat : Int)).toArray := by simp
        simp only [Conv.stringToBytes, Sem.run_bind, hch, Result.andThen_ok, hel, sizeOfStr, newRow, run_newObj, Sem.run_pure, markStringish, run_shape, World.alloc_eq]
        have hshape : (w.drew.alloc (.cells ((l.map fun b => Value.int .u8 (b.toNat : Int)).toArray ++ Array.replicate (grownCap w l.length 0 e - l.length) (Value.int .u8 0)) e)).shape? w.heap.size = some (e, grownCap w l.length 0 e) := by
          unfold World.shape?
          rw [show w.heap.size = w.drew.heap.size from rfl, heap_alloc_at]
          simp; omega
        have hshape' := hshape
        rw [show w.heap.size = w.drew.heap.size from rfl] at hshape'
        rw [hshape']
        simp only [run_freeze, Result.andThen_ok]
        have hfreeze : (w.drew.alloc (.cells ((l.map fun b => Value.int .u8 (b.toNat : Int)).toArray ++ Array.replicate (grownCap w l.length 0 e - l.length) (Value.int .u8 0)) e)).freeze ⟨w.drew.heap.size, grownCap w l.length 0 e, none⟩ 1 =
            w.drew.alloc (.cells ((l.map fun b => Value.int .u8 (b.toNat : Int)).toArray ++ Array.replicate (grownCap w l.length 0 e - l.length) (Value.int .u8 0)) e (grownCap w l.length 0 e, grownCap w l.length 0 e + 1)) := by
          exact freeze_alloc w.drew _ e _
        rw [hfreeze]
        rfl
      · exact h.elim
    · rename_i hs he
      split at h
      · rename_i u hd
        split at h
        · exact h.elim
        · rename_i n hn
          unfold unsK at h
          split at h <;> first | exact h.elim | skip
          rename_i b off hl
          obtain ⟨⟨rfl, hbt, l, hl', hll⟩, hK⟩ := h
          have hx := (hρ x (by simp [Op.operands])).tv
          rw [hl] at hx
          obtain ⟨hb, hxc⟩ := hx.box_inv'
          have hb' : b < st.nb := by rw [← s.nb]; exact hb
          obtain ⟨c, fz, hrow⟩ := s.bTy b u hb' hbt
          have ob := s.obj (.box b) hb'
          simp only [objOf, hl', Ghost.at] at ob
          obtain ⟨cs, ⟨T, lo, hi, hh, _⟩, hrl⟩ := ob
          rw [hrow] at hh
          simp only [Option.some.injEq, Obj.cells.injEq] at hh
          obtain ⟨rfl, rfl, _⟩ := hh
          have hrun := conv_ofUnsafe hs hd (by omega) hrow (by have := hrl.1; simp at this ⊢; omega)
          refine done_v (w' := w) (by rw [hxc]; exact hrun) ⟨_, loc, st, g, hK, s, Rel.box b 0 hb, Ext.refl _ _, LocKeep.refl _ _⟩
      · exact h.elim
    · exact h.elim
  · -- makeSlice
    rename_i t lo co
    split at h
    · rename_i e k1 n k2 m he hn hm
      split at h
      · rename_i i z hi hz
        rw [need_iff] at h
        obtain ⟨hchk, ⟨h0, hnm, hby⟩, h⟩ := h
        simp only [Bool.and_eq_true] at hchk
        obtain ⟨h1, h2, h3⟩ := hchk
        have h2' := Nat.le_of_ble_eq_true h2
        have h3' := Nat.le_of_ble_eq_true h3
        obtain ⟨zv, hzv, rfl⟩ := zeroT_info hz hi
        have hzs : zv.cells.size = i.size := by have := Nat.eq_of_beq_eq_true h1; simpa using this
        have hlo := (hρ lo (by simp [Op.operands])).tv
        have hco := (hρ co (by simp [Op.operands])).tv
        rw [hn] at hlo
        rw [hm] at hco
        have hloc : ρc lo = .int k1 n := by generalize ρc lo = q at hlo; cases hlo; rfl
        have hcoc : ρc co = .int k2 m := by generalize ρc co = q at hco; cases hco; rfl
        have hmle : m.toNat ≤ 140737488355328 := Nat.le_trans (Nat.le_mul_of_pos_right _ (by omega)) hby
        have hwn : IntKind.i64.wrap n = n := by unfold IntKind.wrap; simp only [IntKind.signed, IntKind.bits]; simp; omega
        have hwm : IntKind.i64.wrap m = m := by unfold IntKind.wrap; simp only [IntKind.signed, IntKind.bits]; simp; omega
        have hbyI : ¬ ((i.bytes : Int) * m > 2 ^ 48) := by
          have : ((m.toNat * i.bytes : Nat) : Int) ≤ 140737488355328 := by omega
          rw [Int.natCast_mul, Int.toNat_of_nonneg (by omega), Int.mul_comm] at this
          simp only [Int.reducePow]; omega
        have hrun : (Instr.makeSlice t (.int k1 n) (.int k2 m)).run P w = .ok (.slice (some ⟨w.heap.size, 0, none⟩) n.toNat m.toNat) (w.alloc (.cells ((Array.range (m.toNat * i.size)).map (zv.cells[· % zv.cells.size]!)) e)) := by
          have c1 : (decide (m < 0) || decide ((i.bytes : Int) * m > 2 ^ 48)) = false := by simp only [Bool.or_eq_false_iff, decide_eq_false_iff_not]; exact ⟨by omega, hbyI⟩
          have c2 : ((decide (m < 0) || decide ((i.bytes : Int) * m > 2 ^ 48)) || decide (n < 0) || decide (n > m)) = false := by
            rw [c1]; simp; omega
          simp only [Instr.makeSlice, Sem.run_bind, run_und (elem_und he), Result.andThen_ok, asInt, asIntOf, Sem.run_pure, run_info hi, hwn, hwm, c2, Bool.false_eq_true, if_false, run_askRoom, sizeOf]
          by_cases hz0 : m.toNat * i.size = 0
          · have e0 : ∀ f : Nat → Value, (Array.range 0).map f = #[] := fun f => by simp
            simp only [hz0, if_true, Sem.run_pure, Sem.run_bind, Result.andThen_ok, e0]
            simp [newRow]
          · have hzv' : (zeroValue e).run P w = .ok zv w := by simp [zeroValue, typeInfo, hi, hzv]
            simp only [hz0, if_false, Sem.run_pure, Sem.run_bind, Result.andThen_ok, hzv']
            simp [newRow]
        have hzr : ∀ q, RelL g w (zrep (zv.cells.toList.map ofV1) q) ((Array.range q).map (zv.cells[· % zv.cells.size]!)).toList := fun q => zrep_rel zv q (.inl (by omega))
        refine done_v (u := .slice (some ⟨w.heap.size, 0, none⟩) n.toNat m.toNat) (w' := w.alloc (.cells ((Array.range (m.toNat * i.size)).map (zv.cells[· % zv.cells.size]!)) e)) (by rw [hloc, hcoc]; exact hrun) ?_
        split at h
        · have hal := alloc_gives (ix := none) (cells := zrep (zv.cells.toList.map ofV1) (m.toNat * i.size)) s e (hzr _) (K := fun sv loc' st' => sv = .t (.box st.nb 0) ∧ loc' = loc ∧ st' = st.push (.cells (zrep (zv.cells.toList.map ofV1) (m.toNat * i.size))) (some e)) ⟨rfl, rfl, rfl⟩
          obtain ⟨sv, loc', st', g', ⟨rfl, rfl, rfl⟩, k2, k3, k4, k5⟩ := hal
          refine ⟨_, _, _, g', h, k2, ?_, k4, k5⟩
          have k3' : Rel g' _ (.box st.nb 0) _ := k3
          obtain ⟨hb, heq⟩ := k3'.box_inv
          have := Rel.ms (g := g') (w := w.alloc (.cells ((Array.range (m.toNat * i.size)).map (zv.cells[· % zv.cells.size]!)) e)) i.size st.nb 0 n.toNat m.toNat hb (by omega)
          simp only [Value.pointer.injEq, Option.some.injEq, Addr.mk.injEq] at heq
          rw [← heq.1] at this
          exact this
        · refine fresh_gives s e (0, 0) ?_ (by simp [zrep]) (by omega) (by simp) (fun o _ => by simp) (fun t ht => by cases ht; rfl) h
          have hle : n.toNat * i.size ≤ m.toNat * i.size := Nat.mul_le_mul_right _ (by omega)
          have := hzr (n.toNat * i.size)
          have e1 : ((Array.range (m.toNat * i.size)).map (zv.cells[· % zv.cells.size]!)).toList.take (zrep (zv.cells.toList.map ofV1) (n.toNat * i.size)).length = ((Array.range (n.toNat * i.size)).map (zv.cells[· % zv.cells.size]!)).toList := by
            simp only [zrep, List.length_map, List.length_range, Array.toList_map, Array.toList_range]
            rw [← List.map_take, List.take_range, Nat.min_eq_left hle]
          rw [e1]; exact this
      · exact h.elim
    · exact h.elim
  · exact h.elim

end
end Go.TVF
