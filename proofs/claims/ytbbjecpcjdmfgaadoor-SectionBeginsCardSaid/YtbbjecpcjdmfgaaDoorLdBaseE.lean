/- What the laws of this seat share: the world in which the two tables lie; values that came in, with their measure. -/
import Derived.Test.YtbbjecpcjdmfgaaDoorSaE
import Derived.Test.YtbbjecpcjdmfgaaDoorSaE
import Derived.Test.YtbbjecpcjdmfgaaDoorSaE
import Derived.Test.YtbbjecpcjdmfgaaDoorRows
import Derived.WalkKit
import Derived.ProofKit
import Derived.OpenShut
import Derived.ShutString
import Derived.ChangeOld
import Derived.Below
import Derived.Deep.DeepHandedRow
import Derived.Deep.DeepWitnessRowRef
import Derived.Lib.LaidIn
import Derived.Lib.LaidU8
import Derived.Lib.LaidU8T
import Derived.Shelf.Vars
namespace Go.Proofs.YtbbjecpcjdmfgaaDoor.lawBase
open Go.ChangeShapes Go.WideShapes Go.ChangeAt Go.RowKit Go.Lib
set_option linter.unusedVariables false
set_option linter.unusedSimpArgs false

theorem own : ownKnob Tryd.prog.godebug = none := by kernel_rfl
theorem laidOut : laidOutB Tryd.prog = true := by kernel_rfl

/-- The settled world with the two tables laid. -/
noncomputable def laidWorld (os : Os) : World :=
  let w0 := World.settled Tryd.prog os
  let put (h : Array Obj) (g : Nat) (cs : Array Value) : Array Obj := h.modify g fun
    | .cells _ t frozen => .cells cs t frozen
    | o => o
  let h1 := put w0.heap 0 (Lib.firstTab.map fun z => Value.int .u8 z).toArray
  let h2 := put h1 1 ((List.range 16).flatMap fun i => [Value.int .u8 (Lib.accLo i), Value.int .u8 (Lib.accHi i)]).toArray
  { w0 with heap := h2 }

theorem piece (os : Os) (args : Array Value) : LaidIn Tryd.prog ((laidWorld os).forCall (fun _ _ => 0) ⟨#[], args, []⟩).memory [("unicode/utf8.acceptRanges", Lib.acceptData), ("unicode/utf8.first", Lib.firstData)] [1, 0] :=
  LaidIn.of_run [1, 0] 8 (by kernel_rfl) (by kernel_rfl) (by kernel_rfl) (by kernel_rfl)

theorem one_le {H : Type} (d : DataW H) : 1 ≤ Rows.uptoBulk d := by
  cases d with
  | lit l => cases l <;> simp [Rows.uptoBulk]
  | nil => simp [Rows.uptoBulk]
  | ptr d => simp [Rows.uptoBulk]
  | slice elems spare => simp [Rows.uptoBulk]
  | agg parts => simp [Rows.uptoBulk]
  | iface t d => simp [Rows.uptoBulk]
  | map entries => simp [Rows.uptoBulk]
  | held h => simp [Rows.uptoBulk]
theorem all_eq {H : Type} : ∀ l : List (DataW H), Rows.uptoBulkAll l = (l.map Rows.uptoBulk).sum
  | [] => rfl
  | d :: r => by simp only [Rows.uptoBulkAll, List.map_cons, List.sum_cons, all_eq r]
theorem blk {H : Type} : TVF.Blk (Rows.uptoBulk (H := H)) where
  one := one_le
  str b := by simp [Rows.uptoBulk]
  sl e s := by simp only [Rows.uptoBulk, all_eq]; omega
  agg p := by simp only [Rows.uptoBulk, all_eq]; omega
theorem glob {W W' : World} (h : Lib.Utf8Tabs 0 1 W) (b : Below W.heap.size W W') : Lib.Utf8Tabs 0 1 W' := by
  have hlt : ∀ (k o : Nat) v, W.cell? ⟨k, o, none⟩ = some v → k < W.heap.size := fun k o v hc => by
    apply Decidable.byContradiction
    intro hn
    have : W.heap[k]? = none := Array.getElem?_eq_none (by omega)
    simp [World.cell?, this] at hc
  have l0 := hlt 0 0 _ (h.1 0 (by decide))
  have l1 := hlt 1 0 _ (h.2 0 (by decide)).1
  refine ⟨fun c hc => ?_, fun i hi => ⟨?_, ?_⟩⟩
  · rw [b.cell (by exact l0)]; exact h.1 c hc
  · rw [b.cell (by exact l1)]; exact (h.2 i hi).1
  · rw [b.cell (by exact l1)]; exact (h.2 i hi).2

theorem tabs {W : World} (hL : laidMet Tryd.prog [("unicode/utf8.acceptRanges", Lib.acceptData), ("unicode/utf8.first", Lib.firstData)] W) : Lib.Utf8Tabs 0 1 W :=
  utf8Tabs_of_readsT (U8Types.of196 Tryd.laysValid) ⟨by kernel_rfl, by kernel_rfl, by kernel_rfl, by kernel_rfl, by kernel_rfl, by kernel_rfl, by kernel_rfl⟩ (Lib.laidMet.reads hL (.tail _ (.head _))) (Lib.laidMet.reads hL (.head _))
end Go.Proofs.YtbbjecpcjdmfgaaDoor.lawBase
namespace Go.TVF
open Go Go.Proofs
section
variable {H : Type} {enc : TypeId × Value → H} {w : World} {base b0 : Nat} {held : Bool}
set_option maxRecDepth 100000 in
theorem op_V : ∀ n, OpQ (YtbbjecpcjdmfgaaDoor.Rows.uptoBulk (H := H)) enc Tryd.prog w base held n 13 valQ 37 := by
  intro n
  induction n using Nat.strongRecOn with
  | _ n ih =>
    have hb := YtbbjecpcjdmfgaaDoor.lawBase.blk (H := H)
    have kI : ∀ m, OpQ (YtbbjecpcjdmfgaaDoor.Rows.uptoBulk (H := H)) enc Tryd.prog w base held m 1 (cellQ (.int .i64)) 3 := fun m => opq_cell hb (c := .int .i64) Tryd.underlying3 (by kernel_rfl)
    have kB : ∀ m, OpQ (YtbbjecpcjdmfgaaDoor.Rows.uptoBulk (H := H)) enc Tryd.prog w base held m 1 (cellQ .bool) 4 := fun m => opq_cell hb (c := .bool) Tryd.underlying4 (by kernel_rfl)
    have kU : ∀ m, OpQ (YtbbjecpcjdmfgaaDoor.Rows.uptoBulk (H := H)) enc Tryd.prog w base held m 1 (cellQ (.int .u8)) 5 := fun m => opq_cell hb (c := .int .u8) Tryd.underlying5 (by kernel_rfl)
    have kS : ∀ m, OpQ (YtbbjecpcjdmfgaaDoor.Rows.uptoBulk (H := H)) enc Tryd.prog w base held m 1 strQ 9 := fun m => opq_str hb Tryd.underlying9 (by kernel_rfl)
    have kD : ∀ m, OpQ (YtbbjecpcjdmfgaaDoor.Rows.uptoBulk (H := H)) enc Tryd.prog w base held m 3 (inQ decQs) 30 := fun m => opq_struct (Ss := decQs) hb Tryd.underlying30 (by kernel_rfl) rfl fun k hk => ⟨rfl, kB k, rfl, kS k, rfl, kI k, trivial⟩
    have kT : ∀ m, OpQ (YtbbjecpcjdmfgaaDoor.Rows.uptoBulk (H := H)) enc Tryd.prog w base held m 4 (inQ timeQs) 32 := fun m => opq_struct (Ss := timeQs) hb Tryd.underlying32 (by kernel_rfl) rfl fun k hk => ⟨rfl, kI k, rfl, kI k, rfl, kI k, rfl, kI k, trivial⟩
    have kF : ∀ m, m < n → OpQ (YtbbjecpcjdmfgaaDoor.Rows.uptoBulk (H := H)) enc Tryd.prog w base held m 14 fldQ 50 := fun m hm => by
      have h := opq_struct (enc := enc) (w := w) (base := base) (held := held) (n := m) (c := 14) (Ss := fldQs) hb Tryd.underlying50 (by kernel_rfl) rfl (fun k hk => ⟨rfl, kS k, rfl, ih k (by omega), trivial⟩)
      exact ⟨h.1, fun vs x hx => by
        obtain ⟨tv, h1, h2, h3⟩ := h.2 vs x hx
        exact ⟨tv, h1, h2, each_field h3⟩⟩
    have h := opq_struct (enc := enc) (w := w) (base := base) (held := held) (n := n) (c := 13) (Ss := valQs) hb Tryd.underlying37 (by kernel_rfl) rfl (fun m hm =>
      ⟨rfl, kI m, rfl, kB m, rfl, kD m, rfl, kT m, rfl, kS m, rfl, opq_slice hb Tryd.underlying33 (by kernel_rfl) (by decide) (fun m' hm' => kU m'), rfl, opq_slice hb Tryd.underlying34 (by kernel_rfl) (by decide) (fun m' hm' => ih m' (by omega)), rfl, opq_slice hb Tryd.underlying35 (by kernel_rfl) (by decide) (fun m' hm' => kF m' (by omega)), trivial⟩)
    exact ⟨h.1, fun vs x hx => by
      obtain ⟨tv, h1, h2, h3⟩ := h.2 vs x hx
      exact ⟨tv, h1, h2, each_value h3⟩⟩
set_option maxRecDepth 100000 in
theorem open_T37 {v : Value} {d : DataW H} {p : List MemPlace} (hval : Value.okWide Tryd.prog w .any b0 37 v) (h : DataW.Trod enc Tryd.prog w base (fun _ => true) held 37 v d p) :
    ∃ tv, Rel (Ghost.start w) w tv v ∧ IsValU tv := open_valU Tryd.underlying37 op_V hval h
end
section
variable {H : Type} {enc : TypeId × Value → H} {w : World} {base b0 : Nat} {held : Bool}
set_option maxRecDepth 100000 in
theorem open_T22 {v : Value} {d : DataW H} {p : List MemPlace} (hval : Value.okWide Tryd.prog w .any b0 22 v) (h : DataW.Trod enc Tryd.prog w base (fun _ => true) held 22 v d p) :
    ∃ tv, Rel (Ghost.start w) w tv v ∧ IsAsgs tv :=
  have hb := YtbbjecpcjdmfgaaDoor.lawBase.blk (H := H)
  open_asgs (bk := YtbbjecpcjdmfgaaDoor.Rows.uptoBulk (H := H)) Tryd.underlying22 (fun n => opq_slice hb Tryd.underlying22 (by kernel_rfl) (by decide) fun m hm =>
    opq_struct (Ss := asgQs) hb Tryd.underlying39 (by kernel_rfl) rfl fun m hm => ⟨rfl, opq_cell hb (c := .bool) Tryd.underlying4 (by kernel_rfl), rfl, opq_cell hb (c := .bool) Tryd.underlying4 (by kernel_rfl), rfl, opq_slice hb Tryd.underlying28 (by kernel_rfl) (by decide) (fun m' hm' => opq_str hb Tryd.underlying9 (by kernel_rfl)), rfl, op_V m, trivial⟩) hval h
end
theorem lsbegins_okF {t0 : TV} {n : Int} {K : Bool → St → Prop} (h0 : IsAsgs t0) (hw : (Lit.int .u8 n).wf = true) (hk : ∀ st', K true st') : CallT PR fn_datakitlaw25_SectionBegins [t0, .int .u8 n] [.one .bool] St.zero K := by
  obtain ⟨l, xs, h1, h2⟩ := h0
  exact lsbegins_ok h1 h2 hw hk
end Go.TVF
