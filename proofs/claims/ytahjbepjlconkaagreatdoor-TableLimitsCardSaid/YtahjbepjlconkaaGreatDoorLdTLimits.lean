/- The law TableLimits holds for every input; no condition. -/
import Derived.Test.YtahjbepjlconkaaGreatDoorLdBaseM
import Derived.Test.YtahjbepjlconkaaGreatDoorTie
import Derived.Test.YtahjbepjlconkaaGreatDoorCards
import Derived.SevenTiedAt
namespace Go.Proofs.YtahjbepjlconkaaGreatDoor.lawTableLimits
open Go.ChangeShapes Go.WideShapes Go.ChangeAt Go.RowKit Go.Lib
open Go.ChangeMaps (open_string shut_string)
set_option linter.unusedVariables false
set_option linter.unusedSimpArgs false

theorem laid_eq : Rows.tableLimitsRow.laid = [("unicode/utf8.acceptRanges", Lib.acceptData), ("unicode/utf8.first", Lib.firstData)] := by kernel_rfl
theorem laid_met (os : Os) (args : Array Value) : laidMet Tryz.prog Rows.tableLimitsRow.laid ((lawBase.laidWorld os).forCall (fun _ _ => 0) ⟨#[], args, []⟩).memory := by
  rw [laid_eq]
  exact (lawBase.piece os args).met

abbrev wArgs : Array Value := #[.string ⟨#[]⟩]
theorem witness_row (os : Os) {H : Type} (enc : TypeId × Value → H) :
    (OpenSpec.ofChange Rows.tableLimitsSpec).preRow enc Tryz.prog Tryz.f5 Rows.tableLimitsRow.domain false Rows.tableLimitsRow.laid ((lawBase.laidWorld os).forCall (fun _ _ => 0) ⟨#[], wArgs, []⟩).memory wArgs := by
  have hw : (DataW.whole enc Tryz.prog ((lawBase.laidWorld os).forCall (fun _ _ => 0) ⟨#[], wArgs, []⟩).memory Tryz.f5.params.toList (OpenSpec.ofChange Rows.tableLimitsSpec).vars false wArgs.toList 8).map (fun x => (x.1, x.2.1)) =
      some ([.lit (.string [])], []) := by kernel_rfl
  obtain ⟨⟨x1, x2, x3⟩, hx, hx1⟩ := Option.map_eq_some_iff.1 hw
  simp only [Prod.mk.injEq] at hx1
  obtain ⟨rfl, rfl⟩ := hx1
  exact OpenSpec.preRow_of_cond 8 hx (by kernel_rfl) (fun k hk => by cases hk) (by kernel_rfl) (laid_met os _)

theorem walk (a0 : ByteArray) (w : World) (hU : Lib.Utf8Tabs 0 1 w)  : Calls Tryz.prog 5 #[.string a0] w fun e w' => e = .returned (.bool true) ∧ Below w.heap.size w w' :=
  TVF.calls_law (fun _ _ => by kernel_rfl) (@TVF.ltlimits_okF a0.data.toList _  fun _ => rfl) w (fun w' b => lawBase.glob hU b) [_] (.cons (TVF.rel_string _ _ a0) (.nil _ _))

set_option maxRecDepth 100000 in
set_option maxHeartbeats 2000000 in
theorem lifted (os : Os) (started : os.Started) (H : Type) (enc : TypeId × Value → H) (F : Stop.Interp) :
    ReturnsInHanded {} Tryz.checked os 5 .any ((OpenSpec.ofChange Rows.tableLimitsSpec).preRow enc Tryz.prog Tryz.f5 Rows.tableLimitsRow.domain false Rows.tableLimitsRow.laid) (((OpenSpec.ofChange Rows.tableLimitsSpec).at F).post enc Tryz.prog Tryz.f5 false true false false) := by
  refine returnsInHanded_of_row (C := Tryz.checked) (s := OpenSpec.ofChange Rows.tableLimitsSpec) lawBase.own started (by kernel_rfl) Tryz.func5
    (witness_row_atRef (enc := enc) (C := Tryz.checked) false (lawBase.laidWorld os) wArgs rfl (by kernel_rfl) (by kernel_rfl) (by kernel_rfl) (witness_row os enc)) ?_
  intro W base args ds gs before hval0 hW hcnd0 _ _ hL hsh _
  have hval : ∀ (j : Nat) t v, Tryz.f5.params[j]? = some t → args[j]? = some v → Value.okWide Tryz.prog W .any base t v := hval0
  have hW' := hW
  obtain ⟨p, q, hA0, hV, rfl, hfz, hnd⟩ := hW
  have hA : DataW.TrodAll enc Tryz.prog W 0 (fun _ => true) true Tryz.f5.params.toList args.toList ds p := hA0
  rw [Tryz.params5] at hA hval
  obtain ⟨v0, vs0, d0, ds0, p0, q0, hargs, rfl, rfl, h0, r0⟩ := trodAll_cons hA
  obtain ⟨rfl, rfl, rfl⟩ := trodAll_nil r0
  obtain rfl : args = #[v0] := by cases args; simp_all
  obtain ⟨rfl, rfl⟩ := trodVars_none hV
  obtain ⟨a0, rfl, rfl, rfl, w0⟩ := open_string Tryz.underlying9 (hval 0 9 v0 rfl rfl) h0
  clear hA0 hval0
  rw [laid_eq] at hL
  have hU : Lib.Utf8Tabs 0 1 W := lawBase.tabs hL
  refine (walk a0 W hU ).mono fun e W' ⟨he, bel⟩ => ?_
  subst he
  exact ⟨_, rfl, _, _, _, [], _, [], hW', trodAll_mk1 (shut_bool Tryz.underlying4 _), (trodAll_cons_mk (shut_string Tryz.underlying9 w0) trodAll_mk0), rfl, bel.frame _, fun h => by cases h⟩

theorem cl1 : (Rows.tableLimitsRow.inPlace == Tryz.pinned.checked.prog.inPlace 5) = true := by kernel_rfl
theorem cl2 : (Rows.tableLimitsRow.unfollowed == Tryz.pinned.checked.prog.unfollowed 5) = true := by kernel_rfl
theorem cl3 : (Rows.tableLimitsRow.recurses == Tryz.pinned.checked.prog.recurses 5) = true := by kernel_rfl
theorem cl4 : (Rows.tableLimitsRow.named == Tryz.pinned.checked.prog.varsNamed 5) = true := by kernel_rfl
theorem closed : joinedFacts Tryz.pinned.checked.prog 5 Tryz.f5 (OpenSpec.ofChange Rows.tableLimitsSpec).bare Rows.tableLimitsRow = true := by
  rw [joinedFacts, cl1, cl2, cl3, cl4]; kernel_rfl
theorem named_fn : Tryz.pinned.checked.prog.funcNamed Rows.tableLimitsRow.func = some 5 := by kernel_rfl
theorem inst : (Tryz.f5).isInstance Tryz.pinned.checked.prog Rows.tableLimitsRow.origin Rows.tableLimitsRow.targs := of_decide_eq_true (by kernel_rfl)
theorem over : Rows.tableLimitsRow.holds Tryz.pinned (OpenSpec.ofChange Rows.tableLimitsSpec) :=
  OpenClaim.holds_of_cond 5 Tryz.f5 rfl rfl rfl rfl rfl rfl rfl ⟨rfl, rfl, rfl, rfl, rfl⟩ rfl rfl rfl rfl rfl named_fn Tryz.func5 closed
    inst (by unfold Func.isWrapper; rw [if_neg (of_decide_eq_false (by kernel_rfl))]; exact ⟨rfl, rfl⟩)
    (fun os started H enc _ F0 => by rw [OpenClaim.pre_eq_preRow]; exact lifted os started H enc F0)
theorem wf : Rows.tableLimitsRow.wfByText (OpenSpec.ofChange Rows.tableLimitsSpec) = true := by kernel_rfl
theorem main_is : Tryz.pinned.checked.prog.mainIs = some (true, "aa6bb6aad852921d87484d68c2e6282d291e1f28e3baa43d9d5959ccca60f763".toList) := by kernel_rfl
theorem goes : false = Rows.tableLimitsRow.goesBy Tryz.pinned.checked.prog := by kernel_rfl
theorem looks : true = Tryz.pinned.checked.prog.looks [] := by kernel_rfl
end Go.Proofs.YtahjbepjlconkaaGreatDoor.lawTableLimits
namespace Go.Proofs.YtahjbepjlconkaaGreatDoor
theorem TableLimitsCard_holds : Rows.TableLimitsCardSaid :=
  Claim7.holds_tied_plain_at .later [] [.data, .pinned] true (true, "aa6bb6aad852921d87484d68c2e6282d291e1f28e3baa43d9d5959ccca60f763") true
    lawTableLimits.over (fun _ h => by cases h) lawTableLimits.wf (fun _ h => by cases h) tableLimits_row_tie rfl ⟨rfl, rfl⟩ lawTableLimits.main_is rfl
    (fun f fn hf hfn => by
      obtain rfl : f = 5 := Option.some.inj ((show Tryz.prog.funcNamed "datakit/datakitlaw26.TableLimits" = some 5 by kernel_rfl).symm.trans hf) |>.symm
      obtain rfl : fn = Tryz.f5 := (Option.some.inj (Tryz.func5.symm.trans hfn)).symm
      exact ⟨lawTableLimits.looks, fun j t ht => by
        rw [Tryz.params5] at ht
        rcases j with _ | j
        · obtain rfl : t = 9 := by simpa using ht.symm
          exact (show Tryz.prog.wantsStandIn 9 = false by kernel_rfl)
        · simp at ht⟩)
    lawTableLimits.goes
end Go.Proofs.YtahjbepjlconkaaGreatDoor
