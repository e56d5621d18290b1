/- The law SectionWhere holds for every input; no condition. -/
import Derived.Test.YtbbjecpcjdmfgaaGreatDoorLdBaseW
import Derived.Test.YtbbjecpcjdmfgaaGreatDoorTie
import Derived.Test.YtbbjecpcjdmfgaaGreatDoorCards
import Derived.SevenTiedAt
namespace Go.Proofs.YtbbjecpcjdmfgaaGreatDoor.lawSectionWhere
open Go.ChangeShapes Go.WideShapes Go.ChangeAt Go.RowKit Go.Lib
open Go.ChangeMaps (open_string shut_string)
set_option linter.unusedVariables false
set_option linter.unusedSimpArgs false

theorem laid_eq : Rows.sectionWhereRow.laid = [("unicode/utf8.acceptRanges", Lib.acceptData), ("unicode/utf8.first", Lib.firstData)] := by kernel_rfl
theorem laid_met (os : Os) (args : Array Value) : laidMet Tryz.prog Rows.sectionWhereRow.laid ((lawBase.laidWorld os).forCall (fun _ _ => 0) ⟨#[], args, []⟩).memory := by
  rw [laid_eq]
  exact (lawBase.piece os args).met

abbrev wArgs : Array Value := #[.slice none 0 0, .slice none 0 0]
theorem witness_row (os : Os) {H : Type} (enc : TypeId × Value → H) :
    (OpenSpec.ofChange Rows.sectionWhereSpec).preRow enc Tryz.prog Tryz.f5 Rows.sectionWhereRow.domain false Rows.sectionWhereRow.laid ((lawBase.laidWorld os).forCall (fun _ _ => 0) ⟨#[], wArgs, []⟩).memory wArgs := by
  have hw : (DataW.whole enc Tryz.prog ((lawBase.laidWorld os).forCall (fun _ _ => 0) ⟨#[], wArgs, []⟩).memory Tryz.f5.params.toList (OpenSpec.ofChange Rows.sectionWhereSpec).vars false wArgs.toList 8).map (fun x => (x.1, x.2.1)) =
      some ([.nil, .nil], []) := by kernel_rfl
  obtain ⟨⟨x1, x2, x3⟩, hx, hx1⟩ := Option.map_eq_some_iff.1 hw
  simp only [Prod.mk.injEq] at hx1
  obtain ⟨rfl, rfl⟩ := hx1
  exact OpenSpec.preRow_of_cond 8 hx (by kernel_rfl) (fun k hk => by cases hk) (by kernel_rfl) (laid_met os _)

theorem walk (v0 : Value) (t0 : TVF.TV) (v1 : Value) (t1 : TVF.TV) (w : World) (hU : Lib.Utf8Tabs 0 1 w) (r0 : TVF.Rel (TVF.Ghost.start w) w t0 v0) (s0 : TVF.IsAsgs t0) (r1 : TVF.Rel (TVF.Ghost.start w) w t1 v1) (s1 : TVF.IsSteps t1) : Calls Tryz.prog 5 #[v0, v1] w fun e w' => e = .returned (.bool true) ∧ Below w.heap.size w w' :=
  TVF.calls_law (fun _ _ => by kernel_rfl) (@TVF.lswhere_okF t0 t1 _ s0 s1 fun _ => rfl) w (fun w' b => lawBase.glob hU b) [_, _] (.cons r0 (.cons r1 (.nil _ _)))

set_option maxRecDepth 100000 in
set_option maxHeartbeats 2000000 in
theorem lifted (os : Os) (started : os.Started) (H : Type) (enc : TypeId × Value → H) (F : Stop.Interp) :
    ReturnsInHanded {} Tryz.checked os 5 .any ((OpenSpec.ofChange Rows.sectionWhereSpec).preRow enc Tryz.prog Tryz.f5 Rows.sectionWhereRow.domain false Rows.sectionWhereRow.laid) (((OpenSpec.ofChange Rows.sectionWhereSpec).at F).post enc Tryz.prog Tryz.f5 false true false false) := by
  refine returnsInHanded_of_row (C := Tryz.checked) (s := OpenSpec.ofChange Rows.sectionWhereSpec) lawBase.own started (by kernel_rfl) Tryz.func5
    (witness_row_atRef (enc := enc) (C := Tryz.checked) false (lawBase.laidWorld os) wArgs rfl (by kernel_rfl) (by kernel_rfl) (by kernel_rfl) (witness_row os enc)) ?_
  intro W base args ds gs before hval0 hW hcnd0 _ _ hL hsh _
  have hval : ∀ (j : Nat) t v, Tryz.f5.params[j]? = some t → args[j]? = some v → Value.okWide Tryz.prog W .any base t v := hval0
  have hW' := hW
  obtain ⟨p, q, hA0, hV, rfl, hfz, hnd⟩ := hW
  have hA : DataW.TrodAll enc Tryz.prog W 0 (fun _ => true) true Tryz.f5.params.toList args.toList ds p := hA0
  rw [Tryz.params5] at hA hval
  obtain ⟨v0, vs0, d0, ds0, p0, q0, hargs, rfl, rfl, h0, r0⟩ := trodAll_cons hA
  obtain ⟨v1, vs1, d1, ds1, p1, q1, rfl, rfl, rfl, h1, r1⟩ := trodAll_cons r0
  obtain ⟨rfl, rfl, rfl⟩ := trodAll_nil r1
  obtain rfl : args = #[v0, v1] := by cases args; simp_all
  obtain ⟨rfl, rfl⟩ := trodVars_none hV
  have k0 := h0
  have lt0 : ∀ x ∈ p0, x.block < W.heap.size := by obtain ⟨m, hm⟩ := k0; exact DataW.trod_lt m _ _ _ hm
  obtain ⟨t0, r100, s0⟩ := TVF.open_T22 (hval 0 22 v0 rfl rfl) h0
  have k1 := h1
  have lt1 : ∀ x ∈ p1, x.block < W.heap.size := by obtain ⟨m, hm⟩ := k1; exact DataW.trod_lt m _ _ _ hm
  obtain ⟨t1, r101, s1⟩ := TVF.open_T50 (hval 1 50 v1 rfl rfl) h1
  clear hA0 hval0
  rw [laid_eq] at hL
  have hU : Lib.Utf8Tabs 0 1 W := lawBase.tabs hL
  refine (walk v0 t0 v1 t1 W hU r100 s0 r101 s1).mono fun e W' ⟨he, bel⟩ => ?_
  subst he
  exact ⟨_, rfl, _, _, _, [], _, [], hW', trodAll_mk1 (shut_bool Tryz.underlying4 _), (trodAll_cons_mk (Below.trod lawBase.laidOut (by kernel_rfl) (of_decide_eq_true (by kernel_rfl)) k0 bel lt0) (trodAll_cons_mk (Below.trod lawBase.laidOut (by kernel_rfl) (of_decide_eq_true (by kernel_rfl)) k1 bel lt1) trodAll_mk0)), rfl, bel.frame _, fun h => by cases h⟩

theorem cl1 : (Rows.sectionWhereRow.inPlace == Tryz.pinned.checked.prog.inPlace 5) = true := by kernel_rfl
theorem cl2 : (Rows.sectionWhereRow.unfollowed == Tryz.pinned.checked.prog.unfollowed 5) = true := by kernel_rfl
theorem cl3 : (Rows.sectionWhereRow.recurses == Tryz.pinned.checked.prog.recurses 5) = true := by kernel_rfl
theorem cl4 : (Rows.sectionWhereRow.named == Tryz.pinned.checked.prog.varsNamed 5) = true := by kernel_rfl
theorem closed : joinedFacts Tryz.pinned.checked.prog 5 Tryz.f5 (OpenSpec.ofChange Rows.sectionWhereSpec).bare Rows.sectionWhereRow = true := by
  rw [joinedFacts, cl1, cl2, cl3, cl4]; kernel_rfl
theorem named_fn : Tryz.pinned.checked.prog.funcNamed Rows.sectionWhereRow.func = some 5 := by kernel_rfl
theorem inst : (Tryz.f5).isInstance Tryz.pinned.checked.prog Rows.sectionWhereRow.origin Rows.sectionWhereRow.targs := of_decide_eq_true (by kernel_rfl)
theorem over : Rows.sectionWhereRow.holds Tryz.pinned (OpenSpec.ofChange Rows.sectionWhereSpec) :=
  OpenClaim.holds_of_cond 5 Tryz.f5 rfl rfl rfl rfl rfl rfl rfl ⟨rfl, rfl, rfl, rfl, rfl⟩ rfl rfl rfl rfl rfl named_fn Tryz.func5 closed
    inst (by unfold Func.isWrapper; rw [if_neg (of_decide_eq_false (by kernel_rfl))]; exact ⟨rfl, rfl⟩)
    (fun os started H enc _ F0 => by rw [OpenClaim.pre_eq_preRow]; exact lifted os started H enc F0)
theorem wf : Rows.sectionWhereRow.wfByText (OpenSpec.ofChange Rows.sectionWhereSpec) = true := by kernel_rfl
theorem main_is : Tryz.pinned.checked.prog.mainIs = some (true, "69dfd2e63f23d93d63a201faf82b02438b7070a18e6797dabe332420033a58dd".toList) := by kernel_rfl
theorem goes : false = Rows.sectionWhereRow.goesBy Tryz.pinned.checked.prog := by kernel_rfl
theorem looks : false = Tryz.pinned.checked.prog.looks [] := by kernel_rfl
end Go.Proofs.YtbbjecpcjdmfgaaGreatDoor.lawSectionWhere
namespace Go.Proofs.YtbbjecpcjdmfgaaGreatDoor
theorem SectionWhereCard_holds : Rows.SectionWhereCardSaid :=
  Claim7.holds_tied_plain_at .later [] [.data, .pinned] true (true, "69dfd2e63f23d93d63a201faf82b02438b7070a18e6797dabe332420033a58dd") false
    lawSectionWhere.over (fun _ h => by cases h) lawSectionWhere.wf (fun _ h => by cases h) sectionWhere_row_tie rfl ⟨rfl, rfl⟩ lawSectionWhere.main_is rfl
    (fun f fn hf hfn => by
      obtain rfl : f = 5 := Option.some.inj ((show Tryz.prog.funcNamed "datakit/datakitlaw25.SectionWhere" = some 5 by kernel_rfl).symm.trans hf) |>.symm
      obtain rfl : fn = Tryz.f5 := (Option.some.inj (Tryz.func5.symm.trans hfn)).symm
      exact ⟨lawSectionWhere.looks, fun j t ht => by
        rw [Tryz.params5] at ht
        rcases j with _ | _ | j
        · obtain rfl : t = 22 := by simpa using ht.symm
          exact (show Tryz.prog.wantsStandIn 22 = false by kernel_rfl)
        · obtain rfl : t = 50 := by simpa using ht.symm
          exact (show Tryz.prog.wantsStandIn 50 = false by kernel_rfl)
        · simp at ht⟩)
    lawSectionWhere.goes
end Go.Proofs.YtbbjecpcjdmfgaaGreatDoor
