/- The law SectionBegins holds for every input; no condition. -/
import Derived.Test.YtbbjecpcjdmfgaaDoorLdBaseE
import Derived.Test.YtbbjecpcjdmfgaaDoorTie
import Derived.Test.YtbbjecpcjdmfgaaDoorCards
import Derived.SevenTiedAt
namespace Go.Proofs.YtbbjecpcjdmfgaaDoor.lawSectionBegins
open Go.ChangeShapes Go.WideShapes Go.ChangeAt Go.RowKit Go.Lib
open Go.ChangeMaps (open_string shut_string)
set_option linter.unusedVariables false
set_option linter.unusedSimpArgs false

theorem laid_eq : Rows.sectionBeginsRow.laid = [("unicode/utf8.acceptRanges", Lib.acceptData), ("unicode/utf8.first", Lib.firstData)] := by kernel_rfl
theorem laid_met (os : Os) (args : Array Value) : laidMet Tryd.prog Rows.sectionBeginsRow.laid ((lawBase.laidWorld os).forCall (fun _ _ => 0) ⟨#[], args, []⟩).memory := by
  rw [laid_eq]
  exact (lawBase.piece os args).met

abbrev wArgs : Array Value := #[.slice none 0 0, .int .u8 0]
theorem witness_row (os : Os) {H : Type} (enc : TypeId × Value → H) :
    (OpenSpec.ofChange Rows.sectionBeginsSpec).preRow enc Tryd.prog Tryd.f3 Rows.sectionBeginsRow.domain false Rows.sectionBeginsRow.laid ((lawBase.laidWorld os).forCall (fun _ _ => 0) ⟨#[], wArgs, []⟩).memory wArgs := by
  have hw : (DataW.whole enc Tryd.prog ((lawBase.laidWorld os).forCall (fun _ _ => 0) ⟨#[], wArgs, []⟩).memory Tryd.f3.params.toList (OpenSpec.ofChange Rows.sectionBeginsSpec).vars false wArgs.toList 8).map (fun x => (x.1, x.2.1)) =
      some ([.nil, .lit (.int .u8 0)], []) := by kernel_rfl
  obtain ⟨⟨x1, x2, x3⟩, hx, hx1⟩ := Option.map_eq_some_iff.1 hw
  simp only [Prod.mk.injEq] at hx1
  obtain ⟨rfl, rfl⟩ := hx1
  exact OpenSpec.preRow_of_cond 8 hx (by kernel_rfl) (fun k hk => by cases hk) (by kernel_rfl) (laid_met os _)

theorem walk (v0 : Value) (t0 : TVF.TV) (a1 : Int) (w : World) (hU : Lib.Utf8Tabs 0 1 w) (r0 : TVF.Rel (TVF.Ghost.start w) w t0 v0) (s0 : TVF.IsAsgs t0) (w1 : (Lit.int .u8 a1).wf = true) : Calls Tryd.prog 3 #[v0, .int .u8 a1] w fun e w' => e = .returned (.bool true) ∧ Below w.heap.size w w' :=
  TVF.calls_law (fun _ _ => by kernel_rfl) (@TVF.lsbegins_okF t0 a1 _ s0 w1 fun _ => rfl) w (fun w' b => lawBase.glob hU b) [_, _] (.cons r0 (.cons (.int _ _) (.nil _ _)))

set_option maxRecDepth 100000 in
set_option maxHeartbeats 2000000 in
theorem lifted (os : Os) (started : os.Started) (H : Type) (enc : TypeId × Value → H) (F : Stop.Interp) :
    ReturnsInHanded {} Tryd.checked os 3 .any ((OpenSpec.ofChange Rows.sectionBeginsSpec).preRow enc Tryd.prog Tryd.f3 Rows.sectionBeginsRow.domain false Rows.sectionBeginsRow.laid) (((OpenSpec.ofChange Rows.sectionBeginsSpec).at F).post enc Tryd.prog Tryd.f3 false true false false) := by
  refine returnsInHanded_of_row (C := Tryd.checked) (s := OpenSpec.ofChange Rows.sectionBeginsSpec) lawBase.own started (by kernel_rfl) Tryd.func3
    (witness_row_atRef (enc := enc) (C := Tryd.checked) false (lawBase.laidWorld os) wArgs rfl (by kernel_rfl) (by kernel_rfl) (by kernel_rfl) (witness_row os enc)) ?_
  intro W base args ds gs before hval0 hW hcnd0 _ _ hL hsh _
  have hval : ∀ (j : Nat) t v, Tryd.f3.params[j]? = some t → args[j]? = some v → Value.okWide Tryd.prog W .any base t v := hval0
  have hW' := hW
  obtain ⟨p, q, hA0, hV, rfl, hfz, hnd⟩ := hW
  have hA : DataW.TrodAll enc Tryd.prog W 0 (fun _ => true) true Tryd.f3.params.toList args.toList ds p := hA0
  rw [Tryd.params3] at hA hval
  obtain ⟨v0, vs0, d0, ds0, p0, q0, hargs, rfl, rfl, h0, r0⟩ := trodAll_cons hA
  obtain ⟨v1, vs1, d1, ds1, p1, q1, rfl, rfl, rfl, h1, r1⟩ := trodAll_cons r0
  obtain ⟨rfl, rfl, rfl⟩ := trodAll_nil r1
  obtain rfl : args = #[v0, v1] := by cases args; simp_all
  obtain ⟨rfl, rfl⟩ := trodVars_none hV
  have k0 := h0
  have lt0 : ∀ x ∈ p0, x.block < W.heap.size := by obtain ⟨m, hm⟩ := k0; exact DataW.trod_lt m _ _ _ hm
  obtain ⟨t0, r100, s0⟩ := TVF.open_T22 (hval 0 22 v0 rfl rfl) h0
  obtain ⟨a1, rfl, rfl, rfl, w1⟩ := open_int Tryd.underlying5 (hval 1 5 v1 rfl rfl) h1
  clear hA0 hval0
  rw [laid_eq] at hL
  have hU : Lib.Utf8Tabs 0 1 W := lawBase.tabs hL
  refine (walk v0 t0 a1 W hU r100 s0 w1).mono fun e W' ⟨he, bel⟩ => ?_
  subst he
  exact ⟨_, rfl, _, _, _, [], _, [], hW', trodAll_mk1 (shut_bool Tryd.underlying4 _), (trodAll_cons_mk (Below.trod lawBase.laidOut (by kernel_rfl) (of_decide_eq_true (by kernel_rfl)) k0 bel lt0) (trodAll_cons_mk (shut_int Tryd.underlying5 w1) trodAll_mk0)), rfl, bel.frame _, fun h => by cases h⟩

theorem cl1 : (Rows.sectionBeginsRow.inPlace == Tryd.pinned.checked.prog.inPlace 3) = true := by kernel_rfl
theorem cl2 : (Rows.sectionBeginsRow.unfollowed == Tryd.pinned.checked.prog.unfollowed 3) = true := by kernel_rfl
theorem cl3 : (Rows.sectionBeginsRow.recurses == Tryd.pinned.checked.prog.recurses 3) = true := by kernel_rfl
theorem cl4 : (Rows.sectionBeginsRow.named == Tryd.pinned.checked.prog.varsNamed 3) = true := by kernel_rfl
theorem closed : joinedFacts Tryd.pinned.checked.prog 3 Tryd.f3 (OpenSpec.ofChange Rows.sectionBeginsSpec).bare Rows.sectionBeginsRow = true := by
  rw [joinedFacts, cl1, cl2, cl3, cl4]; kernel_rfl
theorem named_fn : Tryd.pinned.checked.prog.funcNamed Rows.sectionBeginsRow.func = some 3 := by kernel_rfl
theorem inst : (Tryd.f3).isInstance Tryd.pinned.checked.prog Rows.sectionBeginsRow.origin Rows.sectionBeginsRow.targs := of_decide_eq_true (by kernel_rfl)
theorem over : Rows.sectionBeginsRow.holds Tryd.pinned (OpenSpec.ofChange Rows.sectionBeginsSpec) :=
  OpenClaim.holds_of_cond 3 Tryd.f3 rfl rfl rfl rfl rfl rfl rfl ⟨rfl, rfl, rfl, rfl, rfl⟩ rfl rfl rfl rfl rfl named_fn Tryd.func3 closed
    inst (by unfold Func.isWrapper; rw [if_neg (of_decide_eq_false (by kernel_rfl))]; exact ⟨rfl, rfl⟩)
    (fun os started H enc _ F0 => by rw [OpenClaim.pre_eq_preRow]; exact lifted os started H enc F0)
theorem wf : Rows.sectionBeginsRow.wfByText (OpenSpec.ofChange Rows.sectionBeginsSpec) = true := by kernel_rfl
theorem main_is : Tryd.pinned.checked.prog.mainIs = some (true, "d15930ccad92f690d5d045b2a21961806a15bad10497ead5e241b69a101f8d76".toList) := by kernel_rfl
theorem goes : false = Rows.sectionBeginsRow.goesBy Tryd.pinned.checked.prog := by kernel_rfl
theorem looks : false = Tryd.pinned.checked.prog.looks [] := by kernel_rfl
end Go.Proofs.YtbbjecpcjdmfgaaDoor.lawSectionBegins
namespace Go.Proofs.YtbbjecpcjdmfgaaDoor
theorem SectionBeginsCard_holds : Rows.SectionBeginsCardSaid :=
  Claim7.holds_tied_plain_at .later [] [.data, .pinned] true (true, "d15930ccad92f690d5d045b2a21961806a15bad10497ead5e241b69a101f8d76") false
    lawSectionBegins.over (fun _ h => by cases h) lawSectionBegins.wf (fun _ h => by cases h) sectionBegins_row_tie rfl ⟨rfl, rfl⟩ lawSectionBegins.main_is rfl
    (fun f fn hf hfn => by
      obtain rfl : f = 3 := Option.some.inj ((show Tryd.prog.funcNamed "datakit/datakitlaw25.SectionBegins" = some 3 by kernel_rfl).symm.trans hf) |>.symm
      obtain rfl : fn = Tryd.f3 := (Option.some.inj (Tryd.func3.symm.trans hfn)).symm
      exact ⟨lawSectionBegins.looks, fun j t ht => by
        rw [Tryd.params3] at ht
        rcases j with _ | _ | j
        · obtain rfl : t = 22 := by simpa using ht.symm
          exact (show Tryd.prog.wantsStandIn 22 = false by kernel_rfl)
        · obtain rfl : t = 5 := by simpa using ht.symm
          exact (show Tryd.prog.wantsStandIn 5 = false by kernel_rfl)
        · simp at ht⟩)
    lawSectionBegins.goes
end Go.Proofs.YtbbjecpcjdmfgaaDoor
