/- What 'eop' says is what the model does. -/
import Derived.Test.YtphnhocpknhpgaaTvJ
set_option linter.unusedVariables false
set_option linter.unusedSimpArgs false
namespace Go.TVF
open Go.RowKit (Below)

/-- An operation is carried out, to its end. -/
def Done (P : Program) (s : Sem Next) (w : World) (R : Value → World → Prop) : Prop :=
  match s.run P w with
  | .ok (.value v) w' => R v w'
  | .ok .skip w' => R Go.undef w'
  | .ok (.enter f args) w' => Calls P f args w' fun e w'' => ∃ v, e = .returned v ∧ R v w''
  | _ => False

section
variable {P : Program} {g : Ghost} {st : St} {loc : List (Option (List TV))} {w : World}

theorem done_v {s : Sem Value} {R : Value → World → Prop} {u : Value} {w' : World} (h : s.run P w = .ok u w') (hR : R u w') : Done P (do pure (Next.value (← s))) w R := by
  simp [Done, h]
  exact hR

theorem length_fillT (place : Nat → Option (Nat × Nat)) : ∀ (parts : List (Nat × TV)) (cells out : List TV), fillT place cells parts = some out → out.length = cells.length
  | [], cells, out, h => by simp only [fillT, Option.some.injEq] at h; rw [h]
  | (i, v) :: rest, cells, out, h => by
    simp only [fillT] at h
    split at h
    · split at h
      · rw [length_fillT place rest _ out h, length_setAll]
      · cases h
    · cases h

theorem pRel_of {ρ : Operand → SV} {ρc : Operand → Value} : ∀ (parts : List (Nat × Operand)), (∀ p ∈ parts, SRel g w loc (ρ p.2) (ρc p.2)) → PRel g w (parts.map fun p => (p.1, (ρ p.2).tv)) (parts.map fun p => (p.1, ρc p.2))
  | [], _ => trivial
  | p :: ps, h => ⟨rfl, (h p (by simp)).tv, pRel_of ps fun q hq => h q (by simp [hq])⟩

theorem zrep_rel (z : Value) (n : Nat) (hz : 1 ≤ z.cells.size ∨ n = 0) : RelL g w (zrep (z.cells.toList.map ofV1) n) ((Array.range n).map (z.cells[· % z.cells.size]!)).toList := by
  refine ⟨by simp [zrep], fun i hi => ?_⟩
  have hin : i < n := by simpa [zrep] using hi
  have hm : i % z.cells.size < z.cells.size := Nat.mod_lt _ (by rcases hz with h | h <;> omega)
  simp only [zrep, List.getElem_map, List.getElem_range, List.length_map, Array.length_toList, List.getD_eq_getElem?_getD, List.getElem?_map, Array.toList_map, Array.toList_range, List.getElem?_range hin, Option.map_some, Option.getD_some]
  rw [List.getElem?_eq_getElem (by simpa using hm)]
  simp only [Option.map_some, Option.getD_some]
  rw [getElem!_pos z.cells _ hm]
  simp only [Array.getElem_toList]
  exact rel_ofV1 g w _

theorem Rel.box_inv {b o : Nat} {u : Value} (h : Rel g w (.box b o) u) : b < g.nb ∧ u = .pointer (some ⟨g.bk b, o, none⟩) := by cases h; exact ⟨‹_›, rfl⟩

theorem freeze_alloc (w : World) (c : Array Value) (T : TypeId) (n : Nat) : (w.alloc (.cells c T)).freeze ⟨w.heap.size, n, none⟩ 1 = w.alloc (.cells c T (n, n + 1)) := by
  have hh : ((w.heap.push (.cells c T)).modify w.heap.size fun
      | .cells c elem (lo, hi) => .cells c elem (if lo == hi then (n, n + 1) else (min lo n, max hi (n + 1)))
      | o => o) = w.heap.push (.cells c T (n, n + 1)) := by
    apply Array.ext
    · simp
    · intro i h1 h2
      simp only [Array.getElem_modify, Array.getElem_push]
      by_cases hi : i < w.heap.size
      · have : w.heap.size ≠ i := by omega
        simp [hi, this]
      · have hsz : i < w.heap.size + 1 := by simpa using h2
        have : w.heap.size = i := by omega
        subst this
        simp
  simp only [World.freeze, World.alloc]
  rw [if_neg (by omega)]
  congr 1

theorem run_info {t : TypeId} {i : TypeInfo} (h : P.info? t = some i) (w : World) : (typeInfo t).run P w = .ok i w := by simp [typeInfo, h]

theorem elem_und {t e : TypeId} (h : elemOfSl P t = some e) : P.underlying t = some (.slice e) := by
  unfold elemOfSl at h
  split at h
  · rename_i e' hu; simp only [Option.some.injEq] at h; subst h; exact hu
  · cases h

theorem zeroT_info {t : TypeId} {z : List TV} (h : zeroT P t = some z) {i : TypeInfo} (hi : P.info? t = some i) : ∃ v, i.zero = some v ∧ z = v.cells.toList.map ofV1 := by
  unfold zeroT at h
  rw [hi] at h
  simp only at h
  split at h
  · rename_i v hv; simp only [Option.some.injEq] at h; exact ⟨v, hv, h.symm⟩
  · cases h

theorem isStr_cases {d : Option TypeDesc} (h : isStr d = true) : ∃ du, d = some du ∧ ((∃ e', du = .slice e') ∨ du = .string) := by
  cases d with
  | none => simp [isStr] at h
  | some du => cases du <;> simp [isStr] at h <;> exact ⟨_, rfl, by simp⟩

set_option maxHeartbeats 2000000 in
theorem eop_sound (s : Sim g st loc w) {cfg : Cfg} {ρ : Operand → SV} {ρc : Operand → Value} (o : Oper) (hρ : ∀ x, x ∈ o.op.operands → SRel g w loc (ρ x) (ρc x)) {K : SV → List (Option (List TV)) → St → Prop}
    (h : eop cfg P o.dst o.type o.op ρ loc st K) : Done P (execOp ρc o) w (Left g w loc K) := by
  obtain ⟨dst, op, type, pos, after, guard⟩ := o
  simp only at hρ h
  unfold eop at h
  split at h
  · -- alloc
    rename_i t
    split at h
    · rename_i cells hz
      obtain ⟨z, hrun, rfl⟩ := run_zeroT hz w
      refine done_v (u := .pointer (some ⟨w.heap.size, 0, none⟩)) (w' := w.alloc (.cells z.cells t)) ?_ (alloc_gives s t (relL_ofV1 g w z.cells.toList) h)
      simp [Instr.alloc, hrun, newVar, newRow]
    · exact h.elim
  · -- box
    rename_i t x
    split at h
    · rename_i cells hc
      have hx := (hρ x (by simp [Op.operands])).tv
      refine done_v (u := .pointer (some ⟨w.heap.size, 0, none⟩)) (w' := w.alloc (.cells (ρc x).cells t)) ?_ (alloc_gives s t (cellsO_rel hx hc) h)
      simp [Instr.box, newVar, newRow]
    · exact h.elim
  · -- buildSlice
    rename_i t len parts
    split at h
    · rename_i e he
      split at h
      · rename_i sz z hsz hz
        rw [need_iff] at h
        obtain ⟨hchk, h⟩ := h
        simp only [Bool.and_eq_true] at hchk
        obtain ⟨h1, h2, h3⟩ := hchk
        have h1' := Nat.le_of_ble_eq_true h1
        have h2' := Nat.eq_of_beq_eq_true h2
        have h3' := Nat.le_of_ble_eq_true h3
        split at h
        · rename_i cells hfill
          obtain ⟨zv, hzrun, rfl⟩ := run_zeroT hz w
          have hzs : zv.cells.size = sz := by simpa using h2'
          have hp := pRel_of (g := g) (w := w) (loc := loc) (ρ := ρ) (ρc := ρc) parts.toList (fun p hp => hρ p.2 (by
            simp only [Op.operands, List.mem_toArray, List.mem_map]; exact ⟨p, hp, rfl⟩))
          have hzr := zrep_rel (g := g) (w := w) zv (len * sz) (.inl (by omega))
          obtain ⟨us, hus, hru⟩ := fill_sound _ _ _ _ _ _ hp hzr hfill
          have hlen : cells.length = len * sz := by rw [length_fillT _ _ _ _ hfill]; simp [zrep]
          refine done_v (u := .slice (some ⟨w.heap.size, 0, none⟩) len len) (w' := w.alloc (.cells us e)) ?_ (full_gives s e hru hlen h)
          have hne : ¬ (len * sz > 2 ^ 24) := by simp only [Nat.reducePow]; omega
          simp only [Instr.buildSlice, Sem.run_bind, run_und (elem_und he), Result.andThen_ok, run_sizeT hsz, hne, if_false]
          rw [show (parts.map fun (x : Nat × Operand) => match x with | (i, x) => (i, ρc x)) = parts.map fun x => (x.1, ρc x.2) from rfl]
          by_cases h0 : len * sz = 0
          · have hfc : Instr.fill (fun i => some (i * sz, sz)) ((Array.range (len * sz)).map ((#[] : Array Value)[· % (#[] : Array Value).size]!)) (parts.map fun x => (x.1, ρc x.2)).toList = some us := by
              have e0 : ∀ f : Nat → Value, (Array.range 0).map f = #[] := fun f => by simp
              rw [← hus, Array.toList_map, h0, e0, e0]
            rw [if_pos h0]
            simp only [Sem.run_bind, Sem.run_pure, Result.andThen_ok, hfc]
            simp [newRow]
          · have hfc : Instr.fill (fun i => some (i * sz, sz)) ((Array.range (len * sz)).map (zv.cells[· % zv.cells.size]!)) (parts.map fun x => (x.1, ρc x.2)).toList = some us := by
              rw [← hus, Array.toList_map]
            rw [if_neg h0]
            simp only [Sem.run_bind, Sem.run_pure, hzrun, Result.andThen_ok, hfc]
            simp [newRow]
        · exact h.elim
      · exact h.elim
    · exact h.elim
  · -- build
    rename_i t parts
    split at h
    · rename_i z fs hz hu
      split at h
      · rename_i cells hfill
        rw [need_iff] at h
        obtain ⟨hall, h⟩ := h
        obtain ⟨zv, hzrun, rfl⟩ := run_zeroT hz w
        have hp := pRel_of (g := g) (w := w) (loc := loc) (ρ := ρ) (ρc := ρc) parts.toList (fun p hp => hρ p.2 (by
          simp only [Op.operands, List.mem_toArray, List.mem_map]; exact ⟨p, hp, rfl⟩))
        obtain ⟨us, hus, hru⟩ := fill_sound _ _ _ _ _ _ hp (relL_ofV1 g w zv.cells.toList) hfill
        have hplaces : (fs.mapM (fun (f : Field) => (do pure (f.offset, ← sizeOf f.type) : Sem (Nat × Nat))) : Sem (Array (Nat × Nat))).run P w = .ok (fs.map fun (f : Field) => (f.offset, (sizeT P f.type).getD 0)) w := by
          have hl : ∀ l : List Field, (l.all fun (f : Field) => (sizeT P f.type).isSome) = true → (l.mapM (fun (f : Field) => (do pure (f.offset, ← sizeOf f.type) : Sem (Nat × Nat))) : Sem (List (Nat × Nat))).run P w = .ok (l.map fun (f : Field) => (f.offset, (sizeT P f.type).getD 0)) w := by
            intro l
            induction l with
            | nil => intro _; rfl
            | cons f l ih =>
              intro ha
              simp only [List.all_cons, Bool.and_eq_true] at ha
              obtain ⟨n, hn⟩ := Option.isSome_iff_exists.1 ha.1
              simp only [List.mapM_cons, Sem.run_bind, run_sizeT hn, Result.andThen_ok, Sem.run_pure, ih ha.2, List.map_cons, hn, Option.getD_some]
          rw [← Array.toArray_toList (xs := fs)]
          rw [List.mapM_toArray]
          simp only [Sem.run_map, hl fs.toList hall, Result.andThen_ok, List.map_toArray]
        have hf : placeF P fs = ((fs.map fun (f : Field) => (f.offset, (sizeT P f.type).getD 0))[·]?) := by
          funext i
          simp only [Array.getElem?_map, placeF]
          cases hfi : fs[i]? with
          | none => rfl
          | some f =>
            have := List.all_eq_true.1 hall f (by rw [Array.mem_toList_iff]; exact Array.mem_of_getElem? hfi)
            obtain ⟨n, hn⟩ := Option.isSome_iff_exists.1 this
            simp [hn]
        rw [hf] at hus
        refine done_v (u := .agg us) (w' := w) ?_ ⟨_, _, _, g, h, s, ?_, Ext.refl _ _, LocKeep.refl _ _⟩
        · simp only [Instr.build, Sem.run_bind, hzrun, Result.andThen_ok, run_und hu, hplaces]
          rw [show (parts.map fun (x : Nat × Operand) => match x with | (i, x) => (i, ρc x)).toList = parts.toList.map fun x => (x.1, ρc x.2) from by simp]
          rw [hus]
          rfl
        · have := Rel.agg (g := g) (w := w) cells us.toList hru.1 hru.2
          simp only [Array.toArray_toList] at this
          exact this
      · exact h.elim
    · exact h.elim
  · -- store
    rename_i t a x
    split at h
    · rename_i xs d hxs hd
      rw [need_iff, need_iff] at h
      obtain ⟨h1, h2, h⟩ := h
      obtain ⟨w', loc', st', hrun, hk, s', e', hkeep⟩ := store_gives (P := P) hd s (hρ a (by simp [Op.operands])) (hρ x (by simp [Op.operands])).tv hxs (Nat.eq_of_beq_eq_true h1) h2 h
      have : Left g w loc K Go.undef w' := ⟨_, loc', st', g, hk, s', Rel.undef, e', fun i y hi => ⟨rfl, hkeep i y hi⟩⟩
      simpa [Done, execOp, hrun] using this
    · exact h.elim
  · -- call
    rename_i f args ts
    unfold callK at h
    split at h
    · rename_i fid caps hf
      have hfv := (hρ f (by simp [Op.operands, Call.operands])).tv
      rw [hf] at hfv
      generalize hq : ρc f = q at hfv
      cases hfv with
      | func _ _ vs hl hr =>
        have hargs : RelL g w (args.toList.map (fun x => (ρ x).tv) ++ caps) (args.toList.map ρc ++ vs) := by
          refine RelL.append ⟨by simp, fun i hi => ?_⟩ ⟨hl, hr⟩
          have hi' : i < args.toList.length := by simpa using hi
          simp only [List.getElem_map, List.getD_eq_getElem?_getD, List.getElem?_map, List.getElem?_eq_getElem hi', Option.map_some, Option.getD_some]
          exact (hρ _ (by simp only [Op.operands, Call.operands, Array.mem_append]; right; exact Array.mem_toList_iff.1 (List.getElem_mem hi'))).tv
        have hc := call_gives s hargs h
        have hrun : (execOp ρc ⟨dst, .call { callee := .value f, args := args, argTypes := ts }, type, pos, after, guard⟩).run P w = .ok (.enter fid (args.toList.map ρc ++ vs).toArray) w := by
          simp only [execOp, resolve, Sem.run_bind, hq, Deferred.ofValue, Sem.run_pure, Result.andThen_ok, invoke]
          rw [show (#[] ++ args.map ρc ++ vs.toArray) = (args.toList.map ρc ++ vs).toArray from Array.ext' (by simp)]
          exact h.1 _ _
        simp only [Done, hrun]
        refine hc.mono ?_
        rintro e w' ⟨v, rfl, sv, loc', st', g', ⟨r, rfl, rfl, hR⟩, h2, h3, h4, h5⟩
        exact ⟨v, rfl, _, _, st', g', decRet_curry (F := fun v st' => K (.t v) loc' st') (k := fun p => p st') hR, h2, h3, h4, h5⟩
    · exact h.elim
  · -- append
    rename_i args ts
    split at h
    · rename_i a x t u hargs hts
      have ha : args = #[a, x] := by rw [← Array.toArray_toList (xs := args), hargs]
      have hta : ts = #[t, u] := by rw [← Array.toArray_toList (xs := ts), hts]
      subst ha hta
      split at h
      · rename_i e he
        split at h
        · rename_i i z hi hz
          rw [need_iff] at h
          obtain ⟨hchk, h⟩ := h
          simp only [Bool.and_eq_true] at hchk
          obtain ⟨h1, h2, h3, h4⟩ := hchk
          obtain ⟨du, hdu, hcase⟩ := isStr_cases h1
          obtain ⟨zv, hzv, rfl⟩ := zeroT_info hz hi
          rw [optK_iff] at h
          obtain ⟨⟨k, ys⟩, hsrc, h⟩ := h
          rw [need_iff] at h
          have hzs : zv.cells.size = i.size := by have := Nat.eq_of_beq_eq_true h2; simpa using this
          obtain ⟨r, w', hrun, hL⟩ := append_gives (P := P) (ty := type) s (elem_und he) hdu hcase hi hzv hzs (Nat.le_of_ble_eq_true h3) (Nat.le_of_ble_eq_true h4) (hρ a (by simp [Op.operands, Call.operands])).tv (hρ x (by simp [Op.operands, Call.operands])).tv hsrc h.1 h.2
          simpa [Done, execOp, resolve, invoke, Go.builtin, hrun] using hL
        · exact h.elim
      · exact h.elim
    · exact h.elim
  · -- convert
    rename_i sT d x
    split at h
    · rename_i e l hs he hl
      split at h
      · rename_i hu8
        have hx := (hρ x (by simp [Op.operands])).tv
        rw [hl] at hx
        have hxc : ρc x = .string ⟨l.toArray⟩ := by generalize ρc x = q at hx; cases hx; rfl
        obtain ⟨sd, ed⟩ := s.drew
        have hge := grownCap_ge w l.length 0 e
        have hsz : ((l.map fun b => Value.int .u8 (b.toNat : Int)).toArray ++ Array.replicate (grownCap w l.length 0 e - l.length) (Value.int .u8 0)).size = grownCap w l.length 0 e * 1 := by simp; omega
        have hrl : RelL g w.drew (bytesT l) (l.map fun b => Value.int .u8 (b.toNat : Int)) := by
          refine ⟨by simp [bytesT], fun i hi => ?_⟩
          have hi' : i < l.length := by simpa [bytesT] using hi
          simp only [bytesT, List.getElem_map, List.getD_eq_getElem?_getD, List.getElem?_map, List.getElem?_eq_getElem hi', Option.map_some, Option.getD_some]
          exact Rel.int _ _
        have hfr := fresh_gives (sz := 1) (n := l.length) (cap := grownCap w l.length 0 e) (cells := bytesT l) (vs := (l.map fun b => Value.int .u8 (b.toNat : Int)).toArray ++ Array.replicate (grownCap w l.length 0 e - l.length) (Value.int .u8 0)) sd e
          (grownCap w l.length 0 e, grownCap w l.length 0 e + 1) (by
            have : ((l.map fun b => Value.int .u8 (b.toNat : Int)).toArray ++ Array.replicate (grownCap w l.length 0 e - l.length) (Value.int .u8 0)).toList.take (bytesT l).length = l.map fun b => Value.int .u8 (b.toNat : Int) := by
              simp only [Array.toList_append, List.toList_toArray]
              rw [hrl.1]; exact List.take_left
            rw [this]; exact hrl) (by simp [bytesT]) hge hsz (fun o ho => by simp only; omega) (K := K) h
        obtain ⟨sv, l', st', g', k1, k2, k3, k4, k5⟩ := hfr
        refine done_v (u := .slice (some ⟨w.heap.size, 0, none⟩) l.length (grownCap w l.length 0 e)) ?_ ⟨sv, l', st', g', k1, k2, k3, ed.trans k4, k5⟩
        rw [hxc]
        simp only [Go.convert, Sem.run_bind, run_und hs, run_und (elem_und he), run_und hu8, Result.andThen_ok]
        have hch : (choose (.appendCap l.length 0 e)).run P w = .ok (grownCap w l.length 0 e) w.drew := rfl
        have hel : ((ByteArray.mk l.toArray).data.map fun b => Value.int .u8 (b.toNat : Int)) = (l.map fun b => Value.int .u8 (b.toNat : Int)).toArray := by simp
        simp only [Conv.stringToBytes, Sem.run_bind, hch, Result.andThen_ok, hel, sizeOfStr, newRow, run_newObj, Sem.run_pure, markStringish, run_shape, World.alloc_eq]
        have hshape : (w.drew.alloc (.cells ((l.map fun b => Value.int .u8 (b.toNat : Int)).toArray ++ Array.replicate (grownCap w l.length 0 e - l.length) (Value.int .u8 0)) e)).shape? w.heap.size = some (e, grownCap w l.length 0 e) := by
          unfold World.shape?
          rw [show w.heap.size = w.drew.heap.size from rfl, heap_alloc_at]
          simp; omega
        have hshape' := hshape
        rw [show w.heap.size = w.drew.heap.size from rfl] at hshape'
        rw [hshape']
        simp only [run_freeze, Result.andThen_ok]
        have hfreeze : (w.drew.alloc (.cells ((l.map fun b => Value.int .u8 (b.toNat : Int)).toArray ++ Array.replicate (grownCap w l.length 0 e - l.length) (Value.int .u8 0)) e)).freeze ⟨w.drew.heap.size, grownCap w l.length 0 e, none⟩ 1 =
            w.drew.alloc (.cells ((l.map fun b => Value.int .u8 (b.toNat : Int)).toArray ++ Array.replicate (grownCap w l.length 0 e - l.length) (Value.int .u8 0)) e (grownCap w l.length 0 e, grownCap w l.length 0 e + 1)) := by
          exact freeze_alloc w.drew _ e _
        rw [hfreeze]
        rfl
      · exact h.elim
    · exact h.elim
  · -- makeSlice
    rename_i t lo co
    split at h
    · rename_i e k1 n k2 m he hn hm
      split at h
      · rename_i i z hi hz
        rw [need_iff] at h
        obtain ⟨hchk, ⟨h0, hnm, hby⟩, h⟩ := h
        simp only [Bool.and_eq_true] at hchk
        obtain ⟨h1, h2, h3⟩ := hchk
        have h2' := Nat.le_of_ble_eq_true h2
        have h3' := Nat.le_of_ble_eq_true h3
        obtain ⟨zv, hzv, rfl⟩ := zeroT_info hz hi
        have hzs : zv.cells.size = i.size := by have := Nat.eq_of_beq_eq_true h1; simpa using this
        have hlo := (hρ lo (by simp [Op.operands])).tv
        have hco := (hρ co (by simp [Op.operands])).tv
        rw [hn] at hlo
        rw [hm] at hco
        have hloc : ρc lo = .int k1 n := by generalize ρc lo = q at hlo; cases hlo; rfl
        have hcoc : ρc co = .int k2 m := by generalize ρc co = q at hco; cases hco; rfl
        have hmle : m.toNat ≤ 140737488355328 := Nat.le_trans (Nat.le_mul_of_pos_right _ (by omega)) hby
        have hwn : IntKind.i64.wrap n = n := by unfold IntKind.wrap; simp only [IntKind.signed, IntKind.bits]; simp; omega
        have hwm : IntKind.i64.wrap m = m := by unfold IntKind.wrap; simp only [IntKind.signed, IntKind.bits]; simp; omega
        have hbyI : ¬ ((i.bytes : Int) * m > 2 ^ 48) := by
          have : ((m.toNat * i.bytes : Nat) : Int) ≤ 140737488355328 := by omega
          rw [Int.natCast_mul, Int.toNat_of_nonneg (by omega), Int.mul_comm] at this
          simp only [Int.reducePow]; omega
        have hrun : (Instr.makeSlice t (.int k1 n) (.int k2 m)).run P w = .ok (.slice (some ⟨w.heap.size, 0, none⟩) n.toNat m.toNat) (w.alloc (.cells ((Array.range (m.toNat * i.size)).map (zv.cells[· % zv.cells.size]!)) e)) := by
          have c1 : (decide (m < 0) || decide ((i.bytes : Int) * m > 2 ^ 48)) = false := by simp only [Bool.or_eq_false_iff, decide_eq_false_iff_not]; exact ⟨by omega, hbyI⟩
          have c2 : ((decide (m < 0) || decide ((i.bytes : Int) * m > 2 ^ 48)) || decide (n < 0) || decide (n > m)) = false := by
            rw [c1]; simp; omega
          simp only [Instr.makeSlice, Sem.run_bind, run_und (elem_und he), Result.andThen_ok, asInt, asIntOf, Sem.run_pure, run_info hi, hwn, hwm, c2, Bool.false_eq_true, if_false, run_askRoom, sizeOf]
          by_cases hz0 : m.toNat * i.size = 0
          · have e0 : ∀ f : Nat → Value, (Array.range 0).map f = #[] := fun f => by simp
            simp only [hz0, if_true, Sem.run_pure, Sem.run_bind, Result.andThen_ok, e0]
            simp [newRow]
          · have hzv' : (zeroValue e).run P w = .ok zv w := by simp [zeroValue, typeInfo, hi, hzv]
            simp only [hz0, if_false, Sem.run_pure, Sem.run_bind, Result.andThen_ok, hzv']
            simp [newRow]
        have hzr : ∀ q, RelL g w (zrep (zv.cells.toList.map ofV1) q) ((Array.range q).map (zv.cells[· % zv.cells.size]!)).toList := fun q => zrep_rel zv q (.inl (by omega))
        refine done_v (u := .slice (some ⟨w.heap.size, 0, none⟩) n.toNat m.toNat) (w' := w.alloc (.cells ((Array.range (m.toNat * i.size)).map (zv.cells[· % zv.cells.size]!)) e)) (by rw [hloc, hcoc]; exact hrun) ?_
        split at h
        · have hal := alloc_gives (ix := none) (cells := zrep (zv.cells.toList.map ofV1) (m.toNat * i.size)) s e (hzr _) (K := fun sv loc' st' => sv = .t (.box st.nb 0) ∧ loc' = loc ∧ st' = st.push (.cells (zrep (zv.cells.toList.map ofV1) (m.toNat * i.size)))) ⟨rfl, rfl, rfl⟩
          obtain ⟨sv, loc', st', g', ⟨rfl, rfl, rfl⟩, k2, k3, k4, k5⟩ := hal
          refine ⟨_, _, _, g', h, k2, ?_, k4, k5⟩
          have k3' : Rel g' _ (.box st.nb 0) _ := k3
          obtain ⟨hb, heq⟩ := k3'.box_inv
          have := Rel.ms (g := g') (w := w.alloc (.cells ((Array.range (m.toNat * i.size)).map (zv.cells[· % zv.cells.size]!)) e)) i.size st.nb 0 n.toNat m.toNat hb (by omega)
          simp only [Value.pointer.injEq, Option.some.injEq, Addr.mk.injEq] at heq
          rw [← heq.1] at this
          exact this
        · refine fresh_gives s e (0, 0) ?_ (by simp [zrep]) (by omega) (by simp) (fun o _ => by simp) h
          have hle : n.toNat * i.size ≤ m.toNat * i.size := Nat.mul_le_mul_right _ (by omega)
          have := hzr (n.toNat * i.size)
          have e1 : ((Array.range (m.toNat * i.size)).map (zv.cells[· % zv.cells.size]!)).toList.take (zrep (zv.cells.toList.map ofV1) (n.toNat * i.size)).length = ((Array.range (n.toNat * i.size)).map (zv.cells[· % zv.cells.size]!)).toList := by
            simp only [zrep, List.length_map, List.length_range, Array.toList_map, Array.toList_range]
            rw [← List.map_take, List.take_range, Nat.min_eq_left hle]
          rw [e1]; exact this
      · exact h.elim
    · exact h.elim
  · exact h.elim

end
end Go.TVF
