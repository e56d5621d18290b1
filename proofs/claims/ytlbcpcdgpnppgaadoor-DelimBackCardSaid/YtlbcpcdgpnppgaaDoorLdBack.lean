/- The law DelimBack holds for every input; no condition. -/
import Derived.Test.YtlbcpcdgpnppgaaDoorLdBase
import Derived.Test.YtlbcpcdgpnppgaaDoorTie
import Derived.Test.YtlbcpcdgpnppgaaDoorCards
import Derived.SevenTiedAt
namespace Go.Proofs.YtlbcpcdgpnppgaaDoor.lawDelimBack
open Go.ChangeShapes Go.WideShapes Go.ChangeAt Go.RowKit Go.Lib
open Go.ChangeMaps (open_string shut_string)
set_option linter.unusedVariables false
set_option linter.unusedSimpArgs false

theorem laid_eq : Rows.delimBackRow.laid = [("unicode/utf8.acceptRanges", Lib.acceptData), ("unicode/utf8.first", Lib.firstData)] := by kernel_rfl
theorem laid_met (os : Os) (args : Array Value) : laidMet Tryd.prog Rows.delimBackRow.laid ((lawBase.laidWorld os).forCall (fun _ _ => 0) ⟨#[], args, []⟩).memory := by
  rw [laid_eq]
  exact (lawBase.piece os args).met

abbrev wArgs : Array Value := #[.string ⟨#[]⟩, .slice none 0 0, .agg #[.int .u8 0, .int .u8 0, .bool false, .bool false]]
theorem witness_row (os : Os) {H : Type} (enc : TypeId × Value → H) :
    (OpenSpec.ofChange Rows.delimBackSpec).preRow enc Tryd.prog Tryd.f14 Rows.delimBackRow.domain false Rows.delimBackRow.laid ((lawBase.laidWorld os).forCall (fun _ _ => 0) ⟨#[], wArgs, []⟩).memory wArgs := by
  have hw : (DataW.whole enc Tryd.prog ((lawBase.laidWorld os).forCall (fun _ _ => 0) ⟨#[], wArgs, []⟩).memory Tryd.f14.params.toList (OpenSpec.ofChange Rows.delimBackSpec).vars false wArgs.toList 8).map (fun x => (x.1, x.2.1)) =
      some ([.lit (.string []), .nil, .agg [.lit (.int .u8 0), .lit (.int .u8 0), .lit (.bool false), .lit (.bool false)]], []) := by kernel_rfl
  obtain ⟨⟨x1, x2, x3⟩, hx, hx1⟩ := Option.map_eq_some_iff.1 hw
  simp only [Prod.mk.injEq] at hx1
  obtain ⟨rfl, rfl⟩ := hx1
  exact OpenSpec.preRow_of_cond 8 hx (by kernel_rfl) (fun k hk => by cases hk) (by kernel_rfl) (laid_met os _)

theorem walk (a0 : ByteArray) (v1 : Value) (t1 : TVF.TV) (v2 : Value) (t2 : List TVF.TV) (w : World) (hU : TVF.GlobOK w) (r1 : TVF.Rel (TVF.Ghost.start w) w t1 v1) (s1 : TVF.IsGrid t1) (r2 : TVF.Rel (TVF.Ghost.start w) w (.agg t2) v2) (s2 : TVF.flatIs [.int .u8, .int .u8, .bool, .bool] t2) : Calls Tryd.prog 14 #[.string a0, v1, v2] w fun e w' => e = .returned (.bool true) ∧ Below w.heap.size w w' :=
  TVF.calls_law (fun _ _ => by kernel_rfl) (@TVF.lback_okF a0.data.toList t1 t2 _ _ s1 s2 fun _ _ => rfl) w (fun w' b => lawBase.glob hU b) [_, _, _] (.cons (TVF.rel_string _ _ a0) (.cons r1 (.cons r2 (.nil _ _))))

set_option maxRecDepth 100000 in
set_option maxHeartbeats 2000000 in
theorem lifted (os : Os) (started : os.Started) (H : Type) (enc : TypeId × Value → H) (F : Stop.Interp) :
    ReturnsInHanded {} Tryd.checked os 14 .any ((OpenSpec.ofChange Rows.delimBackSpec).preRow enc Tryd.prog Tryd.f14 Rows.delimBackRow.domain false Rows.delimBackRow.laid) (((OpenSpec.ofChange Rows.delimBackSpec).at F).post enc Tryd.prog Tryd.f14 false true false false) := by
  refine returnsInHanded_of_row (C := Tryd.checked) (s := OpenSpec.ofChange Rows.delimBackSpec) lawBase.own started (by kernel_rfl) Tryd.func14
    (witness_row_atRef (enc := enc) (C := Tryd.checked) false (lawBase.laidWorld os) wArgs rfl (by kernel_rfl) (by kernel_rfl) (by kernel_rfl) (witness_row os enc)) ?_
  intro W base args ds gs before hval0 hW hcnd0 _ _ hL hsh _
  have hval : ∀ (j : Nat) t v, Tryd.f14.params[j]? = some t → args[j]? = some v → Value.okWide Tryd.prog W .any base t v := hval0
  have hW' := hW
  obtain ⟨p, q, hA0, hV, rfl, hfz, hnd⟩ := hW
  have hA : DataW.TrodAll enc Tryd.prog W 0 (fun _ => true) true Tryd.f14.params.toList args.toList ds p := hA0
  rw [Tryd.params14] at hA hval
  obtain ⟨v0, vs0, d0, ds0, p0, q0, hargs, rfl, rfl, h0, r0⟩ := trodAll_cons hA
  obtain ⟨v1, vs1, d1, ds1, p1, q1, rfl, rfl, rfl, h1, r1⟩ := trodAll_cons r0
  obtain ⟨v2, vs2, d2, ds2, p2, q2, rfl, rfl, rfl, h2, r2⟩ := trodAll_cons r1
  obtain ⟨rfl, rfl, rfl⟩ := trodAll_nil r2
  obtain rfl : args = #[v0, v1, v2] := by cases args; simp_all
  obtain ⟨rfl, rfl⟩ := trodVars_none hV
  obtain ⟨a0, rfl, rfl, rfl, w0⟩ := open_string Tryd.underlying9 (hval 0 9 v0 rfl rfl) h0
  have k1 := h1
  have lt1 : ∀ x ∈ p1, x.block < W.heap.size := by obtain ⟨m, hm⟩ := k1; exact DataW.trod_lt m _ _ _ hm
  obtain ⟨t1, r101, s1⟩ := TVF.open_T56 (hval 1 56 v1 rfl rfl) h1
  have k2 := h2
  have lt2 : ∀ x ∈ p2, x.block < W.heap.size := by obtain ⟨m, hm⟩ := k2; exact DataW.trod_lt m _ _ _ hm
  obtain ⟨t2, r102, s2⟩ := TVF.open_T46 (hval 2 46 v2 rfl rfl) h2
  clear hA0 hval0
  rw [laid_eq] at hL
  have hU : TVF.GlobOK W := lawBase.globOK hL hsh
  refine (walk a0 v1 t1 v2 t2 W hU r101 s1 r102 s2).mono fun e W' ⟨he, bel⟩ => ?_
  subst he
  exact ⟨_, rfl, _, _, _, [], _, [], hW', trodAll_mk1 (shut_bool Tryd.underlying4 _), (trodAll_cons_mk (shut_string Tryd.underlying9 w0) (trodAll_cons_mk (Below.trod lawBase.laidOut (by kernel_rfl) (of_decide_eq_true (by kernel_rfl)) k1 bel lt1) (trodAll_cons_mk (Below.trod lawBase.laidOut (by kernel_rfl) (of_decide_eq_true (by kernel_rfl)) k2 bel lt2) trodAll_mk0))), rfl, bel.frame _, fun h => by cases h⟩

theorem over : Rows.delimBackRow.holds Tryd.pinned (OpenSpec.ofChange Rows.delimBackSpec) :=
  OpenClaim.holds_of_cond 14 Tryd.f14 rfl rfl rfl rfl rfl rfl rfl ⟨rfl, rfl, rfl, rfl, rfl⟩ rfl rfl rfl rfl rfl (by kernel_rfl) Tryd.func14 (by kernel_rfl)
    (of_decide_eq_true (by kernel_rfl)) (by unfold Func.isWrapper; rw [if_neg (of_decide_eq_false (by kernel_rfl))]; exact ⟨rfl, rfl⟩)
    (fun os started H enc _ F0 => by rw [OpenClaim.pre_eq_preRow]; exact lifted os started H enc F0)
end Go.Proofs.YtlbcpcdgpnppgaaDoor.lawDelimBack
namespace Go.Proofs.YtlbcpcdgpnppgaaDoor
theorem DelimBackCard_holds : Rows.DelimBackCardSaid :=
  Claim7.holds_tied_plain_at .later [] [.data, .pinned] true (true, "05786d2a3715472c9c9f2183c5799be02b05e75bf8ff1c2aeeecf5ce1a402ae4") false
    lawDelimBack.over (fun _ h => by cases h) (by kernel_rfl) (fun _ h => by cases h) delimBack_row_tie rfl ⟨rfl, rfl⟩ (by kernel_rfl) rfl
    (fun f fn hf hfn => by
      obtain rfl : f = 14 := Option.some.inj ((show Tryd.prog.funcNamed "datakit/datakitlaw27.DelimBack" = some 14 by kernel_rfl).symm.trans hf) |>.symm
      obtain rfl : fn = Tryd.f14 := (Option.some.inj (Tryd.func14.symm.trans hfn)).symm
      exact ⟨by kernel_rfl, fun j t ht => by
        rw [Tryd.params14] at ht
        rcases j with _ | _ | _ | j
        · obtain rfl : t = 9 := by simpa using ht.symm
          exact (show Tryd.prog.wantsStandIn 9 = false by kernel_rfl)
        · obtain rfl : t = 56 := by simpa using ht.symm
          exact (show Tryd.prog.wantsStandIn 56 = false by kernel_rfl)
        · obtain rfl : t = 46 := by simpa using ht.symm
          exact (show Tryd.prog.wantsStandIn 46 = false by kernel_rfl)
        · simp at ht⟩)
    (by kernel_rfl)
end Go.Proofs.YtlbcpcdgpnppgaaDoor
