/- What the laws of this seat share: the world in which the two tables lie; values that came in, with their measure. -/
import Derived.Test.YtahjbepjlconkaaGreatDoorZqH
import Derived.Test.YtahjbepjlconkaaGreatDoorZqH
import Derived.Test.YtahjbepjlconkaaGreatDoorRows
import Derived.WalkKit
import Derived.ProofKit
import Derived.OpenShut
import Derived.ShutString
import Derived.ChangeOld
import Derived.Below
import Derived.Deep.DeepHandedRow
import Derived.Deep.DeepWitnessRowRef
import Derived.Lib.LaidIn
import Derived.Lib.LaidU8
import Derived.Lib.LaidU8T
import Derived.Shelf.Vars
namespace Go.Proofs.YtahjbepjlconkaaGreatDoor.lawBase
open Go.ChangeShapes Go.WideShapes Go.ChangeAt Go.RowKit Go.Lib
set_option linter.unusedVariables false
set_option linter.unusedSimpArgs false

theorem own : ownKnob Tryz.prog.godebug = none := by kernel_rfl
theorem laidOut : laidOutB Tryz.prog = true := by kernel_rfl

/-- The settled world with the two tables laid. -/
noncomputable def laidWorld (os : Os) : World :=
  let w0 := World.settled Tryz.prog os
  let put (h : Array Obj) (g : Nat) (cs : Array Value) : Array Obj := h.modify g fun
    | .cells _ t frozen => .cells cs t frozen
    | o => o
  let h1 := put w0.heap 0 (Lib.firstTab.map fun z => Value.int .u8 z).toArray
  let h2 := put h1 1 ((List.range 16).flatMap fun i => [Value.int .u8 (Lib.accLo i), Value.int .u8 (Lib.accHi i)]).toArray
  { w0 with heap := h2 }

theorem piece (os : Os) (args : Array Value) : LaidIn Tryz.prog ((laidWorld os).forCall (fun _ _ => 0) ⟨#[], args, []⟩).memory [("unicode/utf8.acceptRanges", Lib.acceptData), ("unicode/utf8.first", Lib.firstData)] [1, 0] :=
  LaidIn.of_run [1, 0] 8 (by kernel_rfl) (by kernel_rfl) (by kernel_rfl) (by kernel_rfl)

theorem one_le {H : Type} (d : DataW H) : 1 ≤ Rows.uptoBulk d := by
  cases d with
  | lit l => cases l <;> simp [Rows.uptoBulk]
  | nil => simp [Rows.uptoBulk]
  | ptr d => simp [Rows.uptoBulk]
  | slice elems spare => simp [Rows.uptoBulk]
  | agg parts => simp [Rows.uptoBulk]
  | iface t d => simp [Rows.uptoBulk]
  | map entries => simp [Rows.uptoBulk]
  | held h => simp [Rows.uptoBulk]
theorem all_eq {H : Type} : ∀ l : List (DataW H), Rows.uptoBulkAll l = (l.map Rows.uptoBulk).sum
  | [] => rfl
  | d :: r => by simp only [Rows.uptoBulkAll, List.map_cons, List.sum_cons, all_eq r]
theorem blk {H : Type} : TVF.Blk (Rows.uptoBulk (H := H)) where
  one := one_le
  str b := by simp [Rows.uptoBulk]
  sl e s := by simp only [Rows.uptoBulk, all_eq]; omega
  agg p := by simp only [Rows.uptoBulk, all_eq]; omega
theorem glob {W W' : World} (h : Lib.Utf8Tabs 0 1 W) (b : Below W.heap.size W W') : Lib.Utf8Tabs 0 1 W' := by
  have hlt : ∀ (k o : Nat) v, W.cell? ⟨k, o, none⟩ = some v → k < W.heap.size := fun k o v hc => by
    apply Decidable.byContradiction
    intro hn
    have : W.heap[k]? = none := Array.getElem?_eq_none (by omega)
    simp [World.cell?, this] at hc
  have l0 := hlt 0 0 _ (h.1 0 (by decide))
  have l1 := hlt 1 0 _ (h.2 0 (by decide)).1
  refine ⟨fun c hc => ?_, fun i hi => ⟨?_, ?_⟩⟩
  · rw [b.cell (by exact l0)]; exact h.1 c hc
  · rw [b.cell (by exact l1)]; exact (h.2 i hi).1
  · rw [b.cell (by exact l1)]; exact (h.2 i hi).2

theorem tabs {W : World} (hL : laidMet Tryz.prog [("unicode/utf8.acceptRanges", Lib.acceptData), ("unicode/utf8.first", Lib.firstData)] W) : Lib.Utf8Tabs 0 1 W :=
  utf8Tabs_of_readsT (U8Types.of196 Tryz.laysValid) ⟨by kernel_rfl, by kernel_rfl, by kernel_rfl, by kernel_rfl, by kernel_rfl, by kernel_rfl, by kernel_rfl⟩ (Lib.laidMet.reads hL (.tail _ (.head _))) (Lib.laidMet.reads hL (.head _))
end Go.Proofs.YtahjbepjlconkaaGreatDoor.lawBase
namespace Go.TVF
open Go Go.Proofs
theorem ltlimits_okF {s : List UInt8} {K : Bool → St → Prop} (hk : ∀ st', K true st') : CallT PR fn_datakitlaw26_TableLimits [.str s] [.one .bool] St.zero K := ltlimits_ok hk
end Go.TVF
