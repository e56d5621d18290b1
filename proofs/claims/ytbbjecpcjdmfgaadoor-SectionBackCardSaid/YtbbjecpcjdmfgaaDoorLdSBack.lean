/- The law SectionBack holds for every input; no condition. -/
import Derived.Test.YtbbjecpcjdmfgaaDoorLdBaseK
import Derived.Test.YtbbjecpcjdmfgaaDoorTie
import Derived.Test.YtbbjecpcjdmfgaaDoorCards
import Derived.SevenTiedAt
namespace Go.Proofs.YtbbjecpcjdmfgaaDoor.lawSectionBack
open Go.ChangeShapes Go.WideShapes Go.ChangeAt Go.RowKit Go.Lib
open Go.ChangeMaps (open_string shut_string)
set_option linter.unusedVariables false
set_option linter.unusedSimpArgs false

theorem laid_eq : Rows.sectionBackRow.laid = [("unicode/utf8.acceptRanges", Lib.acceptData), ("unicode/utf8.first", Lib.firstData)] := by kernel_rfl
theorem laid_met (os : Os) (args : Array Value) : laidMet Tryd.prog Rows.sectionBackRow.laid ((lawBase.laidWorld os).forCall (fun _ _ => 0) ⟨#[], args, []⟩).memory := by
  rw [laid_eq]
  exact (lawBase.piece os args).met

abbrev wArgs : Array Value := #[.agg #[.int .i64 0, .bool false, .bool false, .string ⟨#[]⟩, .int .i64 0, .int .i64 0, .int .i64 0, .int .i64 0, .int .i64 0, .string ⟨#[]⟩, .slice none 0 0, .slice none 0 0, .slice none 0 0]]
theorem witness_row (os : Os) {H : Type} (enc : TypeId × Value → H) :
    (OpenSpec.ofChange Rows.sectionBackSpec).preRow enc Tryd.prog Tryd.f4 Rows.sectionBackRow.domain false Rows.sectionBackRow.laid ((lawBase.laidWorld os).forCall (fun _ _ => 0) ⟨#[], wArgs, []⟩).memory wArgs := by
  have hw : (DataW.whole enc Tryd.prog ((lawBase.laidWorld os).forCall (fun _ _ => 0) ⟨#[], wArgs, []⟩).memory Tryd.f4.params.toList (OpenSpec.ofChange Rows.sectionBackSpec).vars false wArgs.toList 8).map (fun x => (x.1, x.2.1)) =
      some ([.agg [.lit (.int .i64 0), .lit (.bool false), .agg [.lit (.bool false), .lit (.string []), .lit (.int .i64 0)], .agg [.lit (.int .i64 0), .lit (.int .i64 0), .lit (.int .i64 0), .lit (.int .i64 0)], .lit (.string []), .nil, .nil, .nil]], []) := by kernel_rfl
  obtain ⟨⟨x1, x2, x3⟩, hx, hx1⟩ := Option.map_eq_some_iff.1 hw
  simp only [Prod.mk.injEq] at hx1
  obtain ⟨rfl, rfl⟩ := hx1
  exact OpenSpec.preRow_of_cond 8 hx (by kernel_rfl) (fun k hk => by cases hk) (by kernel_rfl) (laid_met os _)

theorem walk (v0 : Value) (t0 : TVF.TV) (w : World) (hU : Lib.Utf8Tabs 0 1 w) (r0 : TVF.Rel (TVF.Ghost.start w) w t0 v0) (s0 : TVF.IsValU t0) : Calls Tryd.prog 4 #[v0] w fun e w' => e = .returned (.bool true) ∧ Below w.heap.size w w' :=
  TVF.calls_law (fun _ _ => by kernel_rfl) (@TVF.lsback_okF t0 _ s0 fun _ => rfl) w (fun w' b => lawBase.glob hU b) [_] (.cons r0 (.nil _ _))

set_option maxRecDepth 100000 in
set_option maxHeartbeats 2000000 in
theorem lifted (os : Os) (started : os.Started) (H : Type) (enc : TypeId × Value → H) (F : Stop.Interp) :
    ReturnsInHanded {} Tryd.checked os 4 .any ((OpenSpec.ofChange Rows.sectionBackSpec).preRow enc Tryd.prog Tryd.f4 Rows.sectionBackRow.domain false Rows.sectionBackRow.laid) (((OpenSpec.ofChange Rows.sectionBackSpec).at F).post enc Tryd.prog Tryd.f4 false true false false) := by
  refine returnsInHanded_of_row (C := Tryd.checked) (s := OpenSpec.ofChange Rows.sectionBackSpec) lawBase.own started (by kernel_rfl) Tryd.func4
    (witness_row_atRef (enc := enc) (C := Tryd.checked) false (lawBase.laidWorld os) wArgs rfl (by kernel_rfl) (by kernel_rfl) (by kernel_rfl) (witness_row os enc)) ?_
  intro W base args ds gs before hval0 hW hcnd0 _ _ hL hsh _
  have hval : ∀ (j : Nat) t v, Tryd.f4.params[j]? = some t → args[j]? = some v → Value.okWide Tryd.prog W .any base t v := hval0
  have hW' := hW
  obtain ⟨p, q, hA0, hV, rfl, hfz, hnd⟩ := hW
  have hA : DataW.TrodAll enc Tryd.prog W 0 (fun _ => true) true Tryd.f4.params.toList args.toList ds p := hA0
  rw [Tryd.params4] at hA hval
  obtain ⟨v0, vs0, d0, ds0, p0, q0, hargs, rfl, rfl, h0, r0⟩ := trodAll_cons hA
  obtain ⟨rfl, rfl, rfl⟩ := trodAll_nil r0
  obtain rfl : args = #[v0] := by cases args; simp_all
  obtain ⟨rfl, rfl⟩ := trodVars_none hV
  have k0 := h0
  have lt0 : ∀ x ∈ p0, x.block < W.heap.size := by obtain ⟨m, hm⟩ := k0; exact DataW.trod_lt m _ _ _ hm
  obtain ⟨t0, r100, s0⟩ := TVF.open_T37 (hval 0 37 v0 rfl rfl) h0
  clear hA0 hval0
  rw [laid_eq] at hL
  have hU : Lib.Utf8Tabs 0 1 W := lawBase.tabs hL
  refine (walk v0 t0 W hU r100 s0).mono fun e W' ⟨he, bel⟩ => ?_
  subst he
  exact ⟨_, rfl, _, _, _, [], _, [], hW', trodAll_mk1 (shut_bool Tryd.underlying4 _), (trodAll_cons_mk (Below.trod lawBase.laidOut (by kernel_rfl) (of_decide_eq_true (by kernel_rfl)) k0 bel lt0) trodAll_mk0), rfl, bel.frame _, fun h => by cases h⟩

theorem cl1 : (Rows.sectionBackRow.inPlace == Tryd.pinned.checked.prog.inPlace 4) = true := by kernel_rfl
theorem cl2 : (Rows.sectionBackRow.unfollowed == Tryd.pinned.checked.prog.unfollowed 4) = true := by kernel_rfl
theorem cl3 : (Rows.sectionBackRow.recurses == Tryd.pinned.checked.prog.recurses 4) = true := by kernel_rfl
theorem cl4 : (Rows.sectionBackRow.named == Tryd.pinned.checked.prog.varsNamed 4) = true := by kernel_rfl
theorem closed : joinedFacts Tryd.pinned.checked.prog 4 Tryd.f4 (OpenSpec.ofChange Rows.sectionBackSpec).bare Rows.sectionBackRow = true := by
  rw [joinedFacts, cl1, cl2, cl3, cl4]; kernel_rfl
theorem named_fn : Tryd.pinned.checked.prog.funcNamed Rows.sectionBackRow.func = some 4 := by kernel_rfl
theorem inst : (Tryd.f4).isInstance Tryd.pinned.checked.prog Rows.sectionBackRow.origin Rows.sectionBackRow.targs := of_decide_eq_true (by kernel_rfl)
theorem over : Rows.sectionBackRow.holds Tryd.pinned (OpenSpec.ofChange Rows.sectionBackSpec) :=
  OpenClaim.holds_of_cond 4 Tryd.f4 rfl rfl rfl rfl rfl rfl rfl ⟨rfl, rfl, rfl, rfl, rfl⟩ rfl rfl rfl rfl rfl named_fn Tryd.func4 closed
    inst (by unfold Func.isWrapper; rw [if_neg (of_decide_eq_false (by kernel_rfl))]; exact ⟨rfl, rfl⟩)
    (fun os started H enc _ F0 => by rw [OpenClaim.pre_eq_preRow]; exact lifted os started H enc F0)
theorem wf : Rows.sectionBackRow.wfByText (OpenSpec.ofChange Rows.sectionBackSpec) = true := by kernel_rfl
theorem main_is : Tryd.pinned.checked.prog.mainIs = some (true, "d15930ccad92f690d5d045b2a21961806a15bad10497ead5e241b69a101f8d76".toList) := by kernel_rfl
theorem goes : false = Rows.sectionBackRow.goesBy Tryd.pinned.checked.prog := by kernel_rfl
theorem looks : false = Tryd.pinned.checked.prog.looks [] := by kernel_rfl
end Go.Proofs.YtbbjecpcjdmfgaaDoor.lawSectionBack
namespace Go.Proofs.YtbbjecpcjdmfgaaDoor
theorem SectionBackCard_holds : Rows.SectionBackCardSaid :=
  Claim7.holds_tied_plain_at .later [] [.data, .pinned] true (true, "d15930ccad92f690d5d045b2a21961806a15bad10497ead5e241b69a101f8d76") false
    lawSectionBack.over (fun _ h => by cases h) lawSectionBack.wf (fun _ h => by cases h) sectionBack_row_tie rfl ⟨rfl, rfl⟩ lawSectionBack.main_is rfl
    (fun f fn hf hfn => by
      obtain rfl : f = 4 := Option.some.inj ((show Tryd.prog.funcNamed "datakit/datakitlaw25.SectionBack" = some 4 by kernel_rfl).symm.trans hf) |>.symm
      obtain rfl : fn = Tryd.f4 := (Option.some.inj (Tryd.func4.symm.trans hfn)).symm
      exact ⟨lawSectionBack.looks, fun j t ht => by
        rw [Tryd.params4] at ht
        rcases j with _ | j
        · obtain rfl : t = 37 := by simpa using ht.symm
          exact (show Tryd.prog.wantsStandIn 37 = false by kernel_rfl)
        · simp at ht⟩)
    lawSectionBack.goes
end Go.Proofs.YtbbjecpcjdmfgaaDoor
