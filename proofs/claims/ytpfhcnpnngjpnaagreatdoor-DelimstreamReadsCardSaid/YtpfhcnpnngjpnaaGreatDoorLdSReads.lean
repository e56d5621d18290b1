/- The law DelimstreamReads holds for every input; no condition. -/
import Derived.Test.YtpfhcnpnngjpnaaGreatDoorLdBaseS
import Derived.Test.YtpfhcnpnngjpnaaGreatDoorTie
import Derived.Test.YtpfhcnpnngjpnaaGreatDoorCards
import Derived.SevenTiedAt
namespace Go.Proofs.YtpfhcnpnngjpnaaGreatDoor.lawDelimstreamReads
open Go.ChangeShapes Go.WideShapes Go.ChangeAt Go.RowKit Go.Lib
open Go.ChangeMaps (open_string shut_string)
set_option linter.unusedVariables false
set_option linter.unusedSimpArgs false

theorem laid_eq : Rows.delimstreamReadsRow.laid = [("unicode/utf8.acceptRanges", Lib.acceptData), ("unicode/utf8.first", Lib.firstData)] := by kernel_rfl
theorem laid_met (os : Os) (args : Array Value) : laidMet Tryz.prog Rows.delimstreamReadsRow.laid ((lawBase.laidWorld os).forCall (fun _ _ => 0) ⟨#[], args, []⟩).memory := by
  rw [laid_eq]
  exact (lawBase.piece os args).met

abbrev wArgs : Array Value := #[.slice none 0 0, .agg #[.int .u8 0, .int .u8 0, .bool false, .bool false], .agg #[.int .i64 0, .int .i64 0, .int .i64 0, .int .i64 0, .int .i64 0, .int .i64 0]]
theorem witness_row (os : Os) {H : Type} (enc : TypeId × Value → H) :
    (OpenSpec.ofChange Rows.delimstreamReadsSpec).preRow enc Tryz.prog Tryz.f3 Rows.delimstreamReadsRow.domain false Rows.delimstreamReadsRow.laid ((lawBase.laidWorld os).forCall (fun _ _ => 0) ⟨#[], wArgs, []⟩).memory wArgs := by
  have hw : (DataW.whole enc Tryz.prog ((lawBase.laidWorld os).forCall (fun _ _ => 0) ⟨#[], wArgs, []⟩).memory Tryz.f3.params.toList (OpenSpec.ofChange Rows.delimstreamReadsSpec).vars false wArgs.toList 8).map (fun x => (x.1, x.2.1)) =
      some ([.nil, .agg [.lit (.int .u8 0), .lit (.int .u8 0), .lit (.bool false), .lit (.bool false)], .agg [.agg [.lit (.int .i64 0), .lit (.int .i64 0), .lit (.int .i64 0), .lit (.int .i64 0), .lit (.int .i64 0)], .lit (.int .i64 0)]], []) := by kernel_rfl
  obtain ⟨⟨x1, x2, x3⟩, hx, hx1⟩ := Option.map_eq_some_iff.1 hw
  simp only [Prod.mk.injEq] at hx1
  obtain ⟨rfl, rfl⟩ := hx1
  exact OpenSpec.preRow_of_cond 8 hx (by kernel_rfl) (fun k hk => by cases hk) (by kernel_rfl) (laid_met os _)

theorem walk (v0 : Value) (t0 : TVF.TV) (v1 : Value) (t1 : List TVF.TV) (v2 : Value) (t2 : TVF.TV) (w : World) (hU : TVF.GlobOK w) (r0 : TVF.Rel (TVF.Ghost.start w) w t0 v0) (s0 : TVF.IsStrsB t0) (r1 : TVF.Rel (TVF.Ghost.start w) w (.agg t1) v1) (s1 : TVF.flatIs [.int .u8, .int .u8, .bool, .bool] t1) (r2 : TVF.Rel (TVF.Ghost.start w) w t2 v2) (s2 : TVF.IsBnd t2) : Calls Tryz.prog 3 #[v0, v1, v2] w fun e w' => e = .returned (.bool true) ∧ Below w.heap.size w w' :=
  TVF.calls_law (fun _ _ => by kernel_rfl) (@TVF.lreadsS_okF t0 t1 t2 _ s0 s1 s2 fun _ => rfl) w (fun w' b => lawBase.glob hU b) [_, _, _] (.cons r0 (.cons r1 (.cons r2 (.nil _ _))))

set_option maxRecDepth 100000 in
set_option maxHeartbeats 2000000 in
theorem lifted (os : Os) (started : os.Started) (H : Type) (enc : TypeId × Value → H) (F : Stop.Interp) :
    ReturnsInHanded {} Tryz.checked os 3 .any ((OpenSpec.ofChange Rows.delimstreamReadsSpec).preRow enc Tryz.prog Tryz.f3 Rows.delimstreamReadsRow.domain false Rows.delimstreamReadsRow.laid) (((OpenSpec.ofChange Rows.delimstreamReadsSpec).at F).post enc Tryz.prog Tryz.f3 false true false false) := by
  refine returnsInHanded_of_row (C := Tryz.checked) (s := OpenSpec.ofChange Rows.delimstreamReadsSpec) lawBase.own started (by kernel_rfl) Tryz.func3
    (witness_row_atRef (enc := enc) (C := Tryz.checked) false (lawBase.laidWorld os) wArgs rfl (by kernel_rfl) (by kernel_rfl) (by kernel_rfl) (witness_row os enc)) ?_
  intro W base args ds gs before hval0 hW hcnd0 _ hsz hL hsh _
  have hval : ∀ (j : Nat) t v, Tryz.f3.params[j]? = some t → args[j]? = some v → Value.okWide Tryz.prog W .any base t v := hval0
  have hW' := hW
  obtain ⟨p, q, hA0, hV, rfl, hfz, hnd⟩ := hW
  have hA : DataW.TrodAll enc Tryz.prog W 0 (fun _ => true) true Tryz.f3.params.toList args.toList ds p := hA0
  rw [Tryz.params3] at hA hval
  obtain ⟨v0, vs0, d0, ds0, p0, q0, hargs, rfl, rfl, h0, r0⟩ := trodAll_cons hA
  obtain ⟨v1, vs1, d1, ds1, p1, q1, rfl, rfl, rfl, h1, r1⟩ := trodAll_cons r0
  obtain ⟨v2, vs2, d2, ds2, p2, q2, rfl, rfl, rfl, h2, r2⟩ := trodAll_cons r1
  obtain ⟨rfl, rfl, rfl⟩ := trodAll_nil r2
  obtain rfl : args = #[v0, v1, v2] := by cases args; simp_all
  obtain ⟨rfl, rfl⟩ := trodVars_none hV
  have k0 := h0
  have lt0 : ∀ x ∈ p0, x.block < W.heap.size := by obtain ⟨m, hm⟩ := k0; exact DataW.trod_lt m _ _ _ hm
  have b0 : ∀ k, k ∈ d0.weights Tryz.prog 22 → k ≤ reachBytes := fun k hk => of_decide_eq_true (List.all_eq_true.1 hsz k (DataW.weights_mem_each (j := 0) (t := 22) (d := d0) (by rw [Tryz.params3]; rfl) rfl k hk))
  obtain ⟨t0, r100, s0⟩ := TVF.open_T22 (hval 0 22 v0 rfl rfl) h0 b0
  have k1 := h1
  have lt1 : ∀ x ∈ p1, x.block < W.heap.size := by obtain ⟨m, hm⟩ := k1; exact DataW.trod_lt m _ _ _ hm
  obtain ⟨t1, r101, s1⟩ := TVF.open_T24 (hval 1 24 v1 rfl rfl) h1
  have k2 := h2
  have lt2 : ∀ x ∈ p2, x.block < W.heap.size := by obtain ⟨m, hm⟩ := k2; exact DataW.trod_lt m _ _ _ hm
  obtain ⟨t2, r102, s2⟩ := TVF.open_T28 (hval 2 28 v2 rfl rfl) h2
  clear hA0 hval0
  rw [laid_eq] at hL
  have hU : TVF.GlobOK W := lawBase.globOK hsh
  refine (walk v0 t0 v1 t1 v2 t2 W hU r100 s0 r101 s1 r102 s2).mono fun e W' ⟨he, bel⟩ => ?_
  subst he
  exact ⟨_, rfl, _, _, _, [], _, [], hW', trodAll_mk1 (shut_bool Tryz.underlying4 _), (trodAll_cons_mk (Below.trod lawBase.laidOut (by kernel_rfl) (of_decide_eq_true (by kernel_rfl)) k0 bel lt0) (trodAll_cons_mk (Below.trod lawBase.laidOut (by kernel_rfl) (of_decide_eq_true (by kernel_rfl)) k1 bel lt1) (trodAll_cons_mk (Below.trod lawBase.laidOut (by kernel_rfl) (of_decide_eq_true (by kernel_rfl)) k2 bel lt2) trodAll_mk0))), rfl, bel.frame _, fun h => by cases h⟩

theorem cl1 : (Rows.delimstreamReadsRow.inPlace == Tryz.pinned.checked.prog.inPlace 3) = true := by kernel_rfl
theorem cl2 : (Rows.delimstreamReadsRow.unfollowed == Tryz.pinned.checked.prog.unfollowed 3) = true := by kernel_rfl
theorem cl3 : (Rows.delimstreamReadsRow.recurses == Tryz.pinned.checked.prog.recurses 3) = true := by kernel_rfl
theorem cl4 : (Rows.delimstreamReadsRow.named == Tryz.pinned.checked.prog.varsNamed 3) = true := by kernel_rfl
theorem closed : joinedFacts Tryz.pinned.checked.prog 3 Tryz.f3 (OpenSpec.ofChange Rows.delimstreamReadsSpec).bare Rows.delimstreamReadsRow = true := by
  rw [joinedFacts, cl1, cl2, cl3, cl4]; kernel_rfl
theorem named_fn : Tryz.pinned.checked.prog.funcNamed Rows.delimstreamReadsRow.func = some 3 := by kernel_rfl
theorem inst : (Tryz.f3).isInstance Tryz.pinned.checked.prog Rows.delimstreamReadsRow.origin Rows.delimstreamReadsRow.targs := of_decide_eq_true (by kernel_rfl)
theorem over : Rows.delimstreamReadsRow.holds Tryz.pinned (OpenSpec.ofChange Rows.delimstreamReadsSpec) :=
  OpenClaim.holds_of_cond 3 Tryz.f3 rfl rfl rfl rfl rfl rfl rfl ⟨rfl, rfl, rfl, rfl, rfl⟩ rfl rfl rfl rfl rfl named_fn Tryz.func3 closed
    inst (by unfold Func.isWrapper; rw [if_neg (of_decide_eq_false (by kernel_rfl))]; exact ⟨rfl, rfl⟩)
    (fun os started H enc _ F0 => by rw [OpenClaim.pre_eq_preRow]; exact lifted os started H enc F0)
theorem wf : Rows.delimstreamReadsRow.wfByText (OpenSpec.ofChange Rows.delimstreamReadsSpec) = true := by kernel_rfl
theorem main_is : Tryz.pinned.checked.prog.mainIs = some (true, "b42e1eeadf448e6f424dc1760dc62a9848c1869bcdce38b15caf858df2801eaf".toList) := by kernel_rfl
theorem goes : false = Rows.delimstreamReadsRow.goesBy Tryz.pinned.checked.prog := by kernel_rfl
theorem looks : false = Tryz.pinned.checked.prog.looks [] := by kernel_rfl
end Go.Proofs.YtpfhcnpnngjpnaaGreatDoor.lawDelimstreamReads
namespace Go.Proofs.YtpfhcnpnngjpnaaGreatDoor
theorem DelimstreamReadsCard_holds : Rows.DelimstreamReadsCardSaid :=
  Claim7.holds_tied_plain_at .later [] [.data, .pinned] true (true, "b42e1eeadf448e6f424dc1760dc62a9848c1869bcdce38b15caf858df2801eaf") false
    lawDelimstreamReads.over (fun _ h => by cases h) lawDelimstreamReads.wf (fun _ h => by cases h) delimstreamReads_row_tie rfl ⟨rfl, rfl⟩ lawDelimstreamReads.main_is rfl
    (fun f fn hf hfn => by
      obtain rfl : f = 3 := Option.some.inj ((show Tryz.prog.funcNamed "datakit/datakitlaw33.DelimstreamReads" = some 3 by kernel_rfl).symm.trans hf) |>.symm
      obtain rfl : fn = Tryz.f3 := (Option.some.inj (Tryz.func3.symm.trans hfn)).symm
      exact ⟨lawDelimstreamReads.looks, fun j t ht => by
        rw [Tryz.params3] at ht
        rcases j with _ | _ | _ | j
        · obtain rfl : t = 22 := by simpa using ht.symm
          exact (show Tryz.prog.wantsStandIn 22 = false by kernel_rfl)
        · obtain rfl : t = 24 := by simpa using ht.symm
          exact (show Tryz.prog.wantsStandIn 24 = false by kernel_rfl)
        · obtain rfl : t = 28 := by simpa using ht.symm
          exact (show Tryz.prog.wantsStandIn 28 = false by kernel_rfl)
        · simp at ht⟩)
    lawDelimstreamReads.goes
end Go.Proofs.YtpfhcnpnngjpnaaGreatDoor
