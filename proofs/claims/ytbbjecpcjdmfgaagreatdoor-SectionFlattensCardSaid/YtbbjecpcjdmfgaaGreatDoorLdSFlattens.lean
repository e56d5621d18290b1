/- The law SectionFlattens holds for every input; no condition. -/
import Derived.Test.YtbbjecpcjdmfgaaGreatDoorLdBaseF
import Derived.Test.YtbbjecpcjdmfgaaGreatDoorTie
import Derived.Test.YtbbjecpcjdmfgaaGreatDoorCards
import Derived.SevenTiedAt
namespace Go.Proofs.YtbbjecpcjdmfgaaGreatDoor.lawSectionFlattens
open Go.ChangeShapes Go.WideShapes Go.ChangeAt Go.RowKit Go.Lib
open Go.ChangeMaps (open_string shut_string)
set_option linter.unusedVariables false
set_option linter.unusedSimpArgs false

theorem laid_eq : Rows.sectionFlattensRow.laid = [("unicode/utf8.acceptRanges", Lib.acceptData), ("unicode/utf8.first", Lib.firstData)] := by kernel_rfl
theorem laid_met (os : Os) (args : Array Value) : laidMet Tryz.prog Rows.sectionFlattensRow.laid ((lawBase.laidWorld os).forCall (fun _ _ => 0) ⟨#[], args, []⟩).memory := by
  rw [laid_eq]
  exact (lawBase.piece os args).met

abbrev wArgs : Array Value := #[.agg #[.int .i64 0, .bool false, .bool false, .string ⟨#[]⟩, .int .i64 0, .int .i64 0, .int .i64 0, .int .i64 0, .int .i64 0, .string ⟨#[]⟩, .slice none 0 0, .slice none 0 0, .slice none 0 0]]
theorem witness_row (os : Os) {H : Type} (enc : TypeId × Value → H) :
    (OpenSpec.ofChange Rows.sectionFlattensSpec).preRow enc Tryz.prog Tryz.f4 Rows.sectionFlattensRow.domain false Rows.sectionFlattensRow.laid ((lawBase.laidWorld os).forCall (fun _ _ => 0) ⟨#[], wArgs, []⟩).memory wArgs := by
  have hw : (DataW.whole enc Tryz.prog ((lawBase.laidWorld os).forCall (fun _ _ => 0) ⟨#[], wArgs, []⟩).memory Tryz.f4.params.toList (OpenSpec.ofChange Rows.sectionFlattensSpec).vars false wArgs.toList 8).map (fun x => (x.1, x.2.1)) =
      some ([.agg [.lit (.int .i64 0), .lit (.bool false), .agg [.lit (.bool false), .lit (.string []), .lit (.int .i64 0)], .agg [.lit (.int .i64 0), .lit (.int .i64 0), .lit (.int .i64 0), .lit (.int .i64 0)], .lit (.string []), .nil, .nil, .nil]], []) := by kernel_rfl
  obtain ⟨⟨x1, x2, x3⟩, hx, hx1⟩ := Option.map_eq_some_iff.1 hw
  simp only [Prod.mk.injEq] at hx1
  obtain ⟨rfl, rfl⟩ := hx1
  exact OpenSpec.preRow_of_cond 8 hx (by kernel_rfl) (fun k hk => by cases hk) (by kernel_rfl) (laid_met os _)

theorem walk (v0 : Value) (t0 : TVF.TV) (w : World) (hU : Lib.Utf8Tabs 0 1 w) (r0 : TVF.Rel (TVF.Ghost.start w) w t0 v0) (s0 : TVF.IsValU t0) : Calls Tryz.prog 4 #[v0] w fun e w' => e = .returned (.bool true) ∧ Below w.heap.size w w' :=
  TVF.calls_law (fun _ _ => by kernel_rfl) (@TVF.lsflattens_okF t0 _ s0 fun _ => rfl) w (fun w' b => lawBase.glob hU b) [_] (.cons r0 (.nil _ _))

set_option maxRecDepth 100000 in
set_option maxHeartbeats 2000000 in
theorem lifted (os : Os) (started : os.Started) (H : Type) (enc : TypeId × Value → H) (F : Stop.Interp) :
    ReturnsInHanded {} Tryz.checked os 4 .any ((OpenSpec.ofChange Rows.sectionFlattensSpec).preRow enc Tryz.prog Tryz.f4 Rows.sectionFlattensRow.domain false Rows.sectionFlattensRow.laid) (((OpenSpec.ofChange Rows.sectionFlattensSpec).at F).post enc Tryz.prog Tryz.f4 false true false false) := by
  refine returnsInHanded_of_row (C := Tryz.checked) (s := OpenSpec.ofChange Rows.sectionFlattensSpec) lawBase.own started (by kernel_rfl) Tryz.func4
    (witness_row_atRef (enc := enc) (C := Tryz.checked) false (lawBase.laidWorld os) wArgs rfl (by kernel_rfl) (by kernel_rfl) (by kernel_rfl) (witness_row os enc)) ?_
  intro W base args ds gs before hval0 hW hcnd0 _ _ hL hsh _
  have hval : ∀ (j : Nat) t v, Tryz.f4.params[j]? = some t → args[j]? = some v → Value.okWide Tryz.prog W .any base t v := hval0
  have hW' := hW
  obtain ⟨p, q, hA0, hV, rfl, hfz, hnd⟩ := hW
  have hA : DataW.TrodAll enc Tryz.prog W 0 (fun _ => true) true Tryz.f4.params.toList args.toList ds p := hA0
  rw [Tryz.params4] at hA hval
  obtain ⟨v0, vs0, d0, ds0, p0, q0, hargs, rfl, rfl, h0, r0⟩ := trodAll_cons hA
  obtain ⟨rfl, rfl, rfl⟩ := trodAll_nil r0
  obtain rfl : args = #[v0] := by cases args; simp_all
  obtain ⟨rfl, rfl⟩ := trodVars_none hV
  have k0 := h0
  have lt0 : ∀ x ∈ p0, x.block < W.heap.size := by obtain ⟨m, hm⟩ := k0; exact DataW.trod_lt m _ _ _ hm
  obtain ⟨t0, r100, s0⟩ := TVF.open_T33 (hval 0 33 v0 rfl rfl) h0
  clear hA0 hval0
  rw [laid_eq] at hL
  have hU : Lib.Utf8Tabs 0 1 W := lawBase.tabs hL
  refine (walk v0 t0 W hU r100 s0).mono fun e W' ⟨he, bel⟩ => ?_
  subst he
  exact ⟨_, rfl, _, _, _, [], _, [], hW', trodAll_mk1 (shut_bool Tryz.underlying4 _), (trodAll_cons_mk (Below.trod lawBase.laidOut (by kernel_rfl) (of_decide_eq_true (by kernel_rfl)) k0 bel lt0) trodAll_mk0), rfl, bel.frame _, fun h => by cases h⟩

theorem cl1 : (Rows.sectionFlattensRow.inPlace == Tryz.pinned.checked.prog.inPlace 4) = true := by kernel_rfl
theorem cl2 : (Rows.sectionFlattensRow.unfollowed == Tryz.pinned.checked.prog.unfollowed 4) = true := by kernel_rfl
theorem cl3 : (Rows.sectionFlattensRow.recurses == Tryz.pinned.checked.prog.recurses 4) = true := by kernel_rfl
theorem cl4 : (Rows.sectionFlattensRow.named == Tryz.pinned.checked.prog.varsNamed 4) = true := by kernel_rfl
theorem closed : joinedFacts Tryz.pinned.checked.prog 4 Tryz.f4 (OpenSpec.ofChange Rows.sectionFlattensSpec).bare Rows.sectionFlattensRow = true := by
  rw [joinedFacts, cl1, cl2, cl3, cl4]; kernel_rfl
theorem named_fn : Tryz.pinned.checked.prog.funcNamed Rows.sectionFlattensRow.func = some 4 := by kernel_rfl
theorem inst : (Tryz.f4).isInstance Tryz.pinned.checked.prog Rows.sectionFlattensRow.origin Rows.sectionFlattensRow.targs := of_decide_eq_true (by kernel_rfl)
theorem over : Rows.sectionFlattensRow.holds Tryz.pinned (OpenSpec.ofChange Rows.sectionFlattensSpec) :=
  OpenClaim.holds_of_cond 4 Tryz.f4 rfl rfl rfl rfl rfl rfl rfl ⟨rfl, rfl, rfl, rfl, rfl⟩ rfl rfl rfl rfl rfl named_fn Tryz.func4 closed
    inst (by unfold Func.isWrapper; rw [if_neg (of_decide_eq_false (by kernel_rfl))]; exact ⟨rfl, rfl⟩)
    (fun os started H enc _ F0 => by rw [OpenClaim.pre_eq_preRow]; exact lifted os started H enc F0)
theorem wf : Rows.sectionFlattensRow.wfByText (OpenSpec.ofChange Rows.sectionFlattensSpec) = true := by kernel_rfl
theorem main_is : Tryz.pinned.checked.prog.mainIs = some (true, "69dfd2e63f23d93d63a201faf82b02438b7070a18e6797dabe332420033a58dd".toList) := by kernel_rfl
theorem goes : false = Rows.sectionFlattensRow.goesBy Tryz.pinned.checked.prog := by kernel_rfl
theorem looks : false = Tryz.pinned.checked.prog.looks [] := by kernel_rfl
end Go.Proofs.YtbbjecpcjdmfgaaGreatDoor.lawSectionFlattens
namespace Go.Proofs.YtbbjecpcjdmfgaaGreatDoor
theorem SectionFlattensCard_holds : Rows.SectionFlattensCardSaid :=
  Claim7.holds_tied_plain_at .later [] [.data, .pinned] true (true, "69dfd2e63f23d93d63a201faf82b02438b7070a18e6797dabe332420033a58dd") false
    lawSectionFlattens.over (fun _ h => by cases h) lawSectionFlattens.wf (fun _ h => by cases h) sectionFlattens_row_tie rfl ⟨rfl, rfl⟩ lawSectionFlattens.main_is rfl
    (fun f fn hf hfn => by
      obtain rfl : f = 4 := Option.some.inj ((show Tryz.prog.funcNamed "datakit/datakitlaw25.SectionFlattens" = some 4 by kernel_rfl).symm.trans hf) |>.symm
      obtain rfl : fn = Tryz.f4 := (Option.some.inj (Tryz.func4.symm.trans hfn)).symm
      exact ⟨lawSectionFlattens.looks, fun j t ht => by
        rw [Tryz.params4] at ht
        rcases j with _ | j
        · obtain rfl : t = 33 := by simpa using ht.symm
          exact (show Tryz.prog.wantsStandIn 33 = false by kernel_rfl)
        · simp at ht⟩)
    lawSectionFlattens.goes
end Go.Proofs.YtbbjecpcjdmfgaaGreatDoor
