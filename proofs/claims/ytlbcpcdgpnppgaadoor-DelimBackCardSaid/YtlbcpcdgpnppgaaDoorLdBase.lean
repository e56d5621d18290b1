/- What the laws of this seat share: the world in which the two tables lie, and what they hold there. -/
import Derived.Test.YtlbcpcdgpnppgaaDoorDgG
import Derived.Test.YtlbcpcdgpnppgaaDoorDgG
import Derived.Test.YtlbcpcdgpnppgaaDoorRows
import Derived.WalkKit
import Derived.ProofKit
import Derived.OpenShut
import Derived.ShutString
import Derived.ChangeOld
import Derived.Below
import Derived.Deep.DeepHandedRow
import Derived.Deep.DeepWitnessRowRef
import Derived.Lib.LaidIn
import Derived.Lib.LaidU8
import Derived.Shelf.Vars
namespace Go.Proofs.YtlbcpcdgpnppgaaDoor.lawBase
open Go.ChangeShapes Go.WideShapes Go.ChangeAt Go.RowKit Go.Lib
set_option linter.unusedVariables false

theorem own : ownKnob Tryd.prog.godebug = none := by kernel_rfl
theorem laidOut : laidOutB Tryd.prog = true := by kernel_rfl

/-- The settled world with the two tables laid. -/
noncomputable def laidWorld (os : Os) : World :=
  let w0 := World.settled Tryd.prog os
  let put (h : Array Obj) (g : Nat) (cs : Array Value) : Array Obj := h.modify g fun
    | .cells _ t frozen => .cells cs t frozen
    | o => o
  let h1 := put w0.heap 0 (Lib.firstTab.map fun z => Value.int .u8 z).toArray
  let h2 := put h1 1 ((List.range 16).flatMap fun i => [Value.int .u8 (Lib.accLo i), Value.int .u8 (Lib.accHi i)]).toArray
  { w0 with heap := h2 }

theorem piece (os : Os) (args : Array Value) : LaidIn Tryd.prog ((laidWorld os).forCall (fun _ _ => 0) ⟨#[], args, []⟩).memory [("unicode/utf8.acceptRanges", Lib.acceptData), ("unicode/utf8.first", Lib.firstData)] [1, 0] :=
  LaidIn.of_run [1, 0] 8 (by kernel_rfl) (by kernel_rfl) (by kernel_rfl) (by kernel_rfl)

theorem glob1 {W W' : World} (h : Lib.Utf8Tabs 0 1 W) (b : Below W.heap.size W W') : Lib.Utf8Tabs 0 1 W' := by
  have hlt : ∀ (k o : Nat) v, W.cell? ⟨k, o, none⟩ = some v → k < W.heap.size := fun k o v hc => by
    apply Decidable.byContradiction
    intro hn
    have : W.heap[k]? = none := Array.getElem?_eq_none (by omega)
    simp [World.cell?, this] at hc
  have l0 := hlt 0 0 _ (h.1 0 (by decide))
  have l1 := hlt 1 0 _ (h.2 0 (by decide)).1
  refine ⟨fun c hc => ?_, fun i hi => ⟨?_, ?_⟩⟩
  · rw [b.cell (by exact l0)]; exact h.1 c hc
  · rw [b.cell (by exact l1)]; exact (h.2 i hi).1
  · rw [b.cell (by exact l1)]; exact (h.2 i hi).2

theorem glob {W W' : World} (h : TVF.GlobOK W) (b : Below W.heap.size W W') : TVF.GlobOK W' := by
  obtain ⟨h1, m, h2⟩ := h
  refine ⟨glob1 h1 b, m, ?_⟩
  have hlt : 2 < W.heap.size := by
    apply Decidable.byContradiction
    intro hn
    have : W.heap[2]? = none := Array.getElem?_eq_none (by omega)
    simp [World.cell?, this] at h2
  rw [b.cell (by exact hlt)]; exact h2

theorem most {W : World} (hsh : W.ShapedOpen Tryd.prog) : ∃ m, W.cell? ⟨2, 0, none⟩ = some (.int .i64 m) :=
  cell_of_shapedOpen_int (P := Tryd.prog) (g := 2) (t := 3) (zero := #[.int .i64 0]) hsh (of_decide_eq_true (by kernel_rfl)) (by kernel_rfl) rfl (by kernel_rfl) (by kernel_rfl) Tryd.underlying3

theorem tabs {W : World} (hL : laidMet Tryd.prog [("unicode/utf8.acceptRanges", Lib.acceptData), ("unicode/utf8.first", Lib.firstData)] W) : Lib.Utf8Tabs 0 1 W :=
  utf8Tabs_of_reads (ρ := Tryd.lays260_ren) { Tryd.lays260 with } ⟨by kernel_rfl, by kernel_rfl, by kernel_rfl, by kernel_rfl, by kernel_rfl, by kernel_rfl, by kernel_rfl⟩ (Lib.laidMet.reads hL (.tail _ (.head _))) (Lib.laidMet.reads hL (.head _))
theorem globOK {W : World} (hL : laidMet Tryd.prog [("unicode/utf8.acceptRanges", Lib.acceptData), ("unicode/utf8.first", Lib.firstData)] W) (hsh : W.ShapedOpen Tryd.prog) : TVF.GlobOK W := ⟨tabs hL, most hsh⟩
end Go.Proofs.YtlbcpcdgpnppgaaDoor.lawBase
namespace Go.TVF
open Go Go.Proofs
/-- A struct that came in by value, its cells flat. -/
theorem open_agg {H : Type} {enc : TypeId × Value → H} {P : Program} {w : World} {base b0 : Nat} {sp : Nat → Bool} {held : Bool} {cs : List CTy} {t : TypeId} {fs : Array Field} {v : Value} {d : DataW H} {p : List MemPlace}
    (ht : P.underlying t = some (.struct fs)) (hf : FieldsTy P cs fs.toList 0) (hc : P.cellsOf t = cs.length) (hval : Value.okWide P w .any b0 t v) (h : DataW.Trod enc P w base sp held t v d p) :
    ∃ tv, Rel (Ghost.start w) w (.agg tv) v ∧ flatIs cs tv := by
  simp only [Value.okWide, ht] at hval
  obtain ⟨vs, rfl, _, _⟩ := hval
  obtain ⟨n, hn⟩ := h
  obtain ⟨tv, hr, hfl⟩ := opens_struct (enc := enc) (w := w) (base := base) (sp := sp) (held := held) ht hf hc (Ghost.start w) n _ _ hn
  have := Rel.agg tv vs.toList hr.1 hr.2
  rw [Array.toArray_toList] at this
  exact ⟨tv, this, hfl⟩
set_option maxRecDepth 100000 in
theorem open_T46 {H : Type} {enc : TypeId × Value → H} {w : World} {base b0 : Nat} {sp : Nat → Bool} {held : Bool} {v : Value} {d : DataW H} {p : List MemPlace} (hval : Value.okWide Tryd.prog w .any b0 46 v) (h : DataW.Trod enc Tryd.prog w base sp held 46 v d p) :
    ∃ tv, Rel (Ghost.start w) w (.agg tv) v ∧ flatIs [.int .u8, .int .u8, .bool, .bool] tv :=
  open_agg Tryd.underlying46 ⟨rfl, by kernel_rfl, Tryd.underlying5, rfl, by kernel_rfl, Tryd.underlying5, rfl, by kernel_rfl, Tryd.underlying4, rfl, by kernel_rfl, Tryd.underlying4, trivial⟩ (by kernel_rfl) hval h
set_option maxRecDepth 100000 in
theorem open_T53 {H : Type} {enc : TypeId × Value → H} {w : World} {base b0 : Nat} {sp : Nat → Bool} {held : Bool} {v : Value} {d : DataW H} {p : List MemPlace} (hval : Value.okWide Tryd.prog w .any b0 53 v) (h : DataW.Trod enc Tryd.prog w base sp held 53 v d p) :
    ∃ tv, Rel (Ghost.start w) w (.agg tv) v ∧ flatIs [.int .i64, .int .i64, .int .i64, .int .i64, .int .i64] tv :=
  open_agg Tryd.underlying53 ⟨rfl, by kernel_rfl, Tryd.underlying3, rfl, by kernel_rfl, Tryd.underlying3, rfl, by kernel_rfl, Tryd.underlying3, rfl, by kernel_rfl, Tryd.underlying3, rfl, by kernel_rfl, Tryd.underlying3, trivial⟩ (by kernel_rfl) hval h
theorem lparses_okF {s : List UInt8} {t1 t2 : List TV} {st : St} {K : Bool → St → Prop} (h1 : flatIs [.int .u8, .int .u8, .bool, .bool] t1) (h2 : flatIs [.int .i64, .int .i64, .int .i64, .int .i64, .int .i64] t2) (hk : ∀ st', StExt st st' → K true st') :
    CallT PR fn_datakitlaw27_DelimParses [.str s, .agg t1, .agg t2] [.one .bool] st K := by
  obtain ⟨a, _, rfl, _, q, _, rfl, _, hd, _, rfl, ty, _, rfl, rfl⟩ := h1
  obtain ⟨l0, _, rfl, _, l1, _, rfl, _, l2, _, rfl, _, l3, _, rfl, _, l4, _, rfl, _, rfl⟩ := h2
  exact lparses_ok hk
theorem llossless_okF {s : List UInt8} {t1 : List TV} {st : St} {K : Bool → St → Prop} (h1 : flatIs [.int .u8, .int .u8, .bool, .bool] t1) (hk : ∀ st', StExt st st' → K true st') :
    CallT PR fn_datakitlaw27_DelimLossless [.str s, .agg t1] [.one .bool] st K := by
  obtain ⟨a, _, rfl, _, q, _, rfl, _, hd, _, rfl, ty, _, rfl, rfl⟩ := h1
  exact llossless_ok hk
theorem llimits_okF {s : List UInt8} {t1 : List TV} {C : Int} {st : St} {K : Bool → St → Prop} (h1 : flatIs [.int .u8, .int .u8, .bool, .bool] t1) (hC : (Lit.int .u8 C).wf = true) (hk : ∀ st', StExt st st' → K true st') :
    CallT PR fn_datakitlaw27_DelimLimits [.str s, .agg t1, .int .u8 C] [.one .bool] st K := by
  obtain ⟨a, _, rfl, _, q, _, rfl, _, hd, _, rfl, ty, _, rfl, rfl⟩ := h1
  exact llimits_ok hC hk
theorem lsniffs_okF {s : List UInt8} {st : St} {K : Bool → St → Prop} (hk : ∀ st', StExt st st' → K true st') :
    CallT PR fn_datakitlaw27_DelimSniffs [.str s] [.one .bool] st K := lsniffs_ok hk
section
variable {H : Type} {enc : TypeId × Value → H} {w : World} {base b0 : Nat} {held : Bool}
set_option maxRecDepth 100000 in
theorem op_T49 : ∀ n, Op enc Tryd.prog w base held n 5 (fun tv => ∃ nd, NdC nd tv) 49 := by
  intro n
  induction n using Nat.strongRecOn with
  | _ n ih =>
    have k3 : ∀ m, Op enc Tryd.prog w base held m 1 (flatIs [.int .i64]) 3 := fun m => op_cell (c := .int .i64) Tryd.underlying3 (by kernel_rfl)
    have k9 : ∀ m, Op enc Tryd.prog w base held m 1 (flatIs [.str]) 9 := fun m => op_cell (c := .str) Tryd.underlying9 (by kernel_rfl)
    have h := op_struct (enc := enc) (w := w) (base := base) (held := held) (n := n) (c := 5) (Ss := nodeS) Tryd.underlying49 (by kernel_rfl) rfl (fun m hm =>
      ⟨rfl, k3 m, rfl, k9 m, rfl, k9 m, rfl, op_slice (c := 5) Tryd.underlying47 (by kernel_rfl) (by decide) (fun m' hm' => ih m' (by omega)), rfl, k9 m, trivial⟩)
    exact ⟨h.1, fun vs x hx => by
      obtain ⟨tv, h1, h2, h3⟩ := h.2 vs x hx
      exact ⟨tv, h1, h2, each_node h3⟩⟩
set_option maxRecDepth 100000 in
theorem open_T49 {v : Value} {d : DataW H} {p : List MemPlace} (hval : Value.okWide Tryd.prog w .any b0 49 v) (h : DataW.Trod enc Tryd.prog w base (fun _ => true) held 49 v d p) :
    ∃ tv, Rel (Ghost.start w) w tv v ∧ IsNode tv := open_node Tryd.underlying49 op_T49 hval h
set_option maxRecDepth 100000 in
theorem open_T56 {v : Value} {d : DataW H} {p : List MemPlace} (hval : Value.okWide Tryd.prog w .any b0 56 v) (h : DataW.Trod enc Tryd.prog w base (fun _ => true) held 56 v d p) :
    ∃ tv, Rel (Ghost.start w) w tv v ∧ IsGrid tv :=
  open_grid Tryd.underlying56 (fun n => op_slice (c := 1) Tryd.underlying56 (by kernel_rfl) (by decide) fun m _ => op_slice (c := 1) Tryd.underlying61 (by kernel_rfl) (by decide) fun k _ => op_cell (c := .str) Tryd.underlying9 (by kernel_rfl)) hval h
end
theorem lrecords_okF {t0 : TV} {t1 : List TV} {st : St} {K : Bool → St → Prop} (h0 : IsNode t0) (h1 : flatIs [.int .u8, .int .u8, .bool, .bool] t1) (hk : ∀ st', StExt st st' → K true st') :
    CallT PR fn_datakitlaw27_DelimRecords [t0, .agg t1] [.one .bool] st K := by
  obtain ⟨n, cs, rfl, hn⟩ := h0
  obtain ⟨a, _, rfl, _, q, _, rfl, _, hd, _, rfl, ty, _, rfl, rfl⟩ := h1
  exact lrecords_ok hn hk
theorem ltexts_okF {s : List UInt8} {t0 : TV} {t1 : List TV} {st : St} {K : Bool → St → Prop} (h0 : IsGrid t0) (h1 : flatIs [.int .u8, .int .u8, .bool, .bool] t1) (hk : ∀ st', StExt st st' → K true st') :
    CallT PR fn_datakitlaw27_DelimTexts [.str s, t0, .agg t1] [.one .bool] st K := by
  obtain ⟨rows, hv⟩ := h0
  obtain ⟨a, _, rfl, _, q, _, rfl, _, hd, _, rfl, ty, _, rfl, rfl⟩ := h1
  exact ltexts_ok hv hk
theorem lback_okF {s : List UInt8} {t0 : TV} {t1 : List TV} {st : St} {K : Bool → St → Prop} (h0 : IsGrid t0) (h1 : flatIs [.int .u8, .int .u8, .bool, .bool] t1) (hk : ∀ st', StExt st st' → K true st') :
    CallT PR fn_datakitlaw27_DelimBack [.str s, t0, .agg t1] [.one .bool] st K := by
  obtain ⟨rows, hv⟩ := h0
  obtain ⟨a, _, rfl, _, q, _, rfl, _, hd, _, rfl, ty, _, rfl, rfl⟩ := h1
  exact lback_ok hv hk
end Go.TVF
