/- What the laws of this seat share: the world in which the two tables lie; values that came in, with their measure. -/
import Derived.Test.YtpfhcnpnngjpnaaGreatDoorHcF
import Derived.Test.YtpfhcnpnngjpnaaGreatDoorHcF
import Derived.Test.YtpfhcnpnngjpnaaGreatDoorHcF
import Derived.Test.YtpfhcnpnngjpnaaGreatDoorRows
import Derived.WalkKit
import Derived.ProofKit
import Derived.OpenShut
import Derived.ShutString
import Derived.ChangeOld
import Derived.Below
import Derived.Deep.DeepHandedRow
import Derived.Deep.DeepWitnessRowRef
import Derived.Lib.LaidIn
import Derived.Lib.LaidU8
import Derived.Shelf.Vars
namespace Go.Proofs.YtpfhcnpnngjpnaaGreatDoor.lawBase
open Go.ChangeShapes Go.WideShapes Go.ChangeAt Go.RowKit Go.Lib
set_option linter.unusedVariables false
set_option linter.unusedSimpArgs false

theorem own : ownKnob Tryz.prog.godebug = none := by kernel_rfl
theorem laidOut : laidOutB Tryz.prog = true := by kernel_rfl

/-- The settled world with the two tables laid. -/
noncomputable def laidWorld (os : Os) : World :=
  let w0 := World.settled Tryz.prog os
  let put (h : Array Obj) (g : Nat) (cs : Array Value) : Array Obj := h.modify g fun
    | .cells _ t frozen => .cells cs t frozen
    | o => o
  let h1 := put w0.heap 1 (Lib.firstTab.map fun z => Value.int .u8 z).toArray
  let h2 := put h1 2 ((List.range 16).flatMap fun i => [Value.int .u8 (Lib.accLo i), Value.int .u8 (Lib.accHi i)]).toArray
  { w0 with heap := h2 }

theorem piece (os : Os) (args : Array Value) : LaidIn Tryz.prog ((laidWorld os).forCall (fun _ _ => 0) ⟨#[], args, []⟩).memory [("unicode/utf8.acceptRanges", Lib.acceptData), ("unicode/utf8.first", Lib.firstData)] [2, 1] :=
  LaidIn.of_run [2, 1] 8 (by kernel_rfl) (by kernel_rfl) (by kernel_rfl) (by kernel_rfl)

theorem one_le {H : Type} (d : DataW H) : 1 ≤ Rows.uptoBulk d := by
  cases d with
  | lit l => cases l <;> simp [Rows.uptoBulk]
  | nil => simp [Rows.uptoBulk]
  | ptr d => simp [Rows.uptoBulk]
  | slice elems spare => simp [Rows.uptoBulk]
  | agg parts => simp [Rows.uptoBulk]
  | iface t d => simp [Rows.uptoBulk]
  | map entries => simp [Rows.uptoBulk]
  | held h => simp [Rows.uptoBulk]
theorem all_eq {H : Type} : ∀ l : List (DataW H), Rows.uptoBulkAll l = (l.map Rows.uptoBulk).sum
  | [] => rfl
  | d :: r => by simp only [Rows.uptoBulkAll, List.map_cons, List.sum_cons, all_eq r]
theorem blk {H : Type} : TVF.Blk (Rows.uptoBulk (H := H)) where
  one := one_le
  str b := by simp [Rows.uptoBulk]
  sl e s := by simp only [Rows.uptoBulk, all_eq]; omega
  agg p := by simp only [Rows.uptoBulk, all_eq]; omega
theorem glob {W W' : World} (h : TVF.GlobOK W) (b : Below W.heap.size W W') : TVF.GlobOK W' := by
  obtain ⟨h1, m, h2⟩ := h
  refine ⟨h1, m, ?_⟩
  have hlt : 0 < W.heap.size := by
    apply Decidable.byContradiction
    intro hn
    have : W.heap[0]? = none := Array.getElem?_eq_none (by omega)
    simp [World.cell?, this] at h2
  rw [b.cell (by exact hlt)]; exact h2

theorem most {W : World} (hsh : W.ShapedOpen Tryz.prog) : ∃ m, W.cell? ⟨0, 0, none⟩ = some (.int .i64 m) :=
  cell_of_shapedOpen_int (P := Tryz.prog) (g := 0) (t := 3) (zero := #[.int .i64 0]) hsh (of_decide_eq_true (by kernel_rfl)) (by kernel_rfl) rfl (by kernel_rfl) (by kernel_rfl) Tryz.underlying3
theorem globOK {W : World} (hsh : W.ShapedOpen Tryz.prog) : TVF.GlobOK W := ⟨trivial, most hsh⟩
end Go.Proofs.YtpfhcnpnngjpnaaGreatDoor.lawBase
namespace Go.TVF
open Go Go.Proofs
section
variable {H : Type} {enc : TypeId × Value → H} {w : World} {base b0 : Nat} {held : Bool}
set_option maxRecDepth 100000 in
theorem op_V : ∀ n, OpQ (YtpfhcnpnngjpnaaGreatDoor.Rows.uptoBulk (H := H)) enc Tryz.prog w base held n 13 valQ 63 := by
  intro n
  induction n using Nat.strongRecOn with
  | _ n ih =>
    have hb := YtpfhcnpnngjpnaaGreatDoor.lawBase.blk (H := H)
    have kI : ∀ m, OpQ (YtpfhcnpnngjpnaaGreatDoor.Rows.uptoBulk (H := H)) enc Tryz.prog w base held m 1 (cellQ (.int .i64)) 3 := fun m => opq_cell hb (c := .int .i64) Tryz.underlying3 (by kernel_rfl)
    have kB : ∀ m, OpQ (YtpfhcnpnngjpnaaGreatDoor.Rows.uptoBulk (H := H)) enc Tryz.prog w base held m 1 (cellQ .bool) 4 := fun m => opq_cell hb (c := .bool) Tryz.underlying4 (by kernel_rfl)
    have kU : ∀ m, OpQ (YtpfhcnpnngjpnaaGreatDoor.Rows.uptoBulk (H := H)) enc Tryz.prog w base held m 1 (cellQ (.int .u8)) 5 := fun m => opq_cell hb (c := .int .u8) Tryz.underlying5 (by kernel_rfl)
    have kS : ∀ m, OpQ (YtpfhcnpnngjpnaaGreatDoor.Rows.uptoBulk (H := H)) enc Tryz.prog w base held m 1 strQ 9 := fun m => opq_str hb Tryz.underlying9 (by kernel_rfl)
    have kD : ∀ m, OpQ (YtpfhcnpnngjpnaaGreatDoor.Rows.uptoBulk (H := H)) enc Tryz.prog w base held m 3 (inQ decQs) 56 := fun m => opq_struct (Ss := decQs) hb Tryz.underlying56 (by kernel_rfl) rfl fun k hk => ⟨rfl, kB k, rfl, kS k, rfl, kI k, trivial⟩
    have kT : ∀ m, OpQ (YtpfhcnpnngjpnaaGreatDoor.Rows.uptoBulk (H := H)) enc Tryz.prog w base held m 4 (inQ timeQs) 58 := fun m => opq_struct (Ss := timeQs) hb Tryz.underlying58 (by kernel_rfl) rfl fun k hk => ⟨rfl, kI k, rfl, kI k, rfl, kI k, rfl, kI k, trivial⟩
    have kF : ∀ m, m < n → OpQ (YtpfhcnpnngjpnaaGreatDoor.Rows.uptoBulk (H := H)) enc Tryz.prog w base held m 14 fldQ 136 := fun m hm => by
      have h := opq_struct (enc := enc) (w := w) (base := base) (held := held) (n := m) (c := 14) (Ss := fldQs) hb Tryz.underlying136 (by kernel_rfl) rfl (fun k hk => ⟨rfl, kS k, rfl, ih k (by omega), trivial⟩)
      exact ⟨h.1, fun vs x hx => by
        obtain ⟨tv, h1, h2, h3⟩ := h.2 vs x hx
        exact ⟨tv, h1, h2, each_field h3⟩⟩
    have h := opq_struct (enc := enc) (w := w) (base := base) (held := held) (n := n) (c := 13) (Ss := valQs) hb Tryz.underlying63 (by kernel_rfl) rfl (fun m hm =>
      ⟨rfl, kI m, rfl, kB m, rfl, kD m, rfl, kT m, rfl, kS m, rfl, opq_slice hb Tryz.underlying59 (by kernel_rfl) (by decide) (fun m' hm' => kU m'), rfl, opq_slice hb Tryz.underlying60 (by kernel_rfl) (by decide) (fun m' hm' => ih m' (by omega)), rfl, opq_slice hb Tryz.underlying61 (by kernel_rfl) (by decide) (fun m' hm' => kF m' (by omega)), trivial⟩)
    exact ⟨h.1, fun vs x hx => by
      obtain ⟨tv, h1, h2, h3⟩ := h.2 vs x hx
      exact ⟨tv, h1, h2, each_value h3⟩⟩
set_option maxRecDepth 100000 in
theorem open_T63 {v : Value} {d : DataW H} {p : List MemPlace} (hval : Value.okWide Tryz.prog w .any b0 63 v) (h : DataW.Trod enc Tryz.prog w base (fun _ => true) held 63 v d p) :
    ∃ tv, Rel (Ghost.start w) w tv v ∧ IsValU tv := open_valU Tryz.underlying63 op_V hval h
end
/-- A struct that came in by value, its cells flat. -/
theorem open_agg {H : Type} {enc : TypeId × Value → H} {P : Program} {w : World} {base b0 : Nat} {sp : Nat → Bool} {held : Bool} {cs : List CTy} {t : TypeId} {fs : Array Field} {v : Value} {d : DataW H} {p : List MemPlace}
    (ht : P.underlying t = some (.struct fs)) (hf : FieldsTy P cs fs.toList 0) (hc : P.cellsOf t = cs.length) (hval : Value.okWide P w .any b0 t v) (h : DataW.Trod enc P w base sp held t v d p) :
    ∃ tv, Rel (Ghost.start w) w (.agg tv) v ∧ flatIs cs tv := by
  simp only [Value.okWide, ht] at hval
  obtain ⟨vs, rfl, _, _⟩ := hval
  obtain ⟨n, hn⟩ := h
  obtain ⟨tv, hr, hfl⟩ := opens_struct (enc := enc) (w := w) (base := base) (sp := sp) (held := held) ht hf hc (Ghost.start w) n _ _ hn
  have := Rel.agg tv vs.toList hr.1 hr.2
  rw [Array.toArray_toList] at this
  exact ⟨tv, this, hfl⟩
set_option maxRecDepth 100000 in
theorem open_T24 {H : Type} {enc : TypeId × Value → H} {w : World} {base b0 : Nat} {sp : Nat → Bool} {held : Bool} {v : Value} {d : DataW H} {p : List MemPlace} (hval : Value.okWide Tryz.prog w .any b0 24 v) (h : DataW.Trod enc Tryz.prog w base sp held 24 v d p) :
    ∃ tv, Rel (Ghost.start w) w (.agg tv) v ∧ flatIs [.int .u8, .int .u8, .bool, .bool] tv :=
  open_agg Tryz.underlying24 ⟨rfl, by kernel_rfl, Tryz.underlying5, rfl, by kernel_rfl, Tryz.underlying5, rfl, by kernel_rfl, Tryz.underlying4, rfl, by kernel_rfl, Tryz.underlying4, trivial⟩ (by kernel_rfl) hval h
section
variable {H : Type} {enc : TypeId × Value → H} {w : World} {base b0 : Nat} {held : Bool}
set_option maxRecDepth 100000 in
theorem open_T22 {v : Value} {d : DataW H} {p : List MemPlace} (hval : Value.okWide Tryz.prog w .any b0 22 v) (h : DataW.Trod enc Tryz.prog w base (fun _ => true) held 22 v d p) (hw : ∀ k, k ∈ d.weights Tryz.prog 22 → k ≤ reachBytes) :
    ∃ tv, Rel (Ghost.start w) w tv v ∧ IsStrsB tv := open_strs Tryz.underlying22 Tryz.underlying9 (by kernel_rfl) (by kernel_rfl) hval h hw
set_option maxRecDepth 100000 in
theorem op_T26 {m : Nat} : OpQ Go.Proofs.YtpfhcnpnngjpnaaGreatDoor.Rows.uptoBulk enc Tryz.prog w base held m 5 (fun k tv => ∃ k', k' + 1 ≤ k ∧ EachQ [(1, cellQ (.int .i64)), (1, cellQ (.int .i64)), (1, cellQ (.int .i64)), (1, cellQ (.int .i64)), (1, cellQ (.int .i64))] k' tv) 26 :=
  opq_struct Go.Proofs.YtpfhcnpnngjpnaaGreatDoor.lawBase.blk Tryz.underlying26 (by kernel_rfl) rfl fun m hm =>
    have k3 : OpQ Go.Proofs.YtpfhcnpnngjpnaaGreatDoor.Rows.uptoBulk enc Tryz.prog w base held m 1 (cellQ (.int .i64)) 3 := opq_cell Go.Proofs.YtpfhcnpnngjpnaaGreatDoor.lawBase.blk Tryz.underlying3 (by kernel_rfl)
    ⟨rfl, k3, rfl, k3, rfl, k3, rfl, k3, rfl, k3, trivial⟩
set_option maxRecDepth 100000 in
theorem open_T28 {v : Value} {d : DataW H} {p : List MemPlace} (hval : Value.okWide Tryz.prog w .any b0 28 v) (h : DataW.Trod enc Tryz.prog w base (fun _ => true) held 28 v d p) :
    ∃ tv, Rel (Ghost.start w) w tv v ∧ IsBnd tv :=
  open_bnd Tryz.underlying28 (fun n => opq_struct (Ss := bndQ) Go.Proofs.YtpfhcnpnngjpnaaGreatDoor.lawBase.blk Tryz.underlying28 (by kernel_rfl) rfl fun m hm => ⟨rfl, op_T26, rfl, opq_cell Go.Proofs.YtpfhcnpnngjpnaaGreatDoor.lawBase.blk Tryz.underlying3 (by kernel_rfl), trivial⟩) hval h
end
end Go.TVF
