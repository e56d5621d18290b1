/- What the laws below rest on: a framework for Go programs, and contracts of the functions that they reach. -/
import Derived.Test.YteghkkhlgjiaiaaGreatDoorDeE
section
namespace Go.TVF
open Go Go.Proofs
set_option linter.unusedVariables false
set_option linter.unusedSimpArgs false
theorem Check_ok {v : Vl} (hN : v.sz ≤ 2000000) {st0 st : St} {cs : List TV} {K : Int → St → Prop} (h : VlR st0 v cs) (hke : Keeps st0 st) (hk : ∀ st', StExt st st' → K (checkV v : Nat) st') :
    CallT PR fn_value_Check [.agg cs] [.one (.int .i64)] st K := by
  have h0 := h
  cases v with
  | mk s l f =>
  unfold VlR at h0
  obtain ⟨ub, ul, uf, xl, xf, rfl, _⟩ := h0
  have he : StExt st (st.push (.cells [.int .i64 0]) (some 3)) := (StExt.refl st).push _ _
  refine vc_value_Check _ _ _ _ _ _ _ _ _ _ _ _ _ st K ⟨[.int .i64 0], by simp [St.push], by simp, ?_⟩
  obtain ⟨st1, hst1⟩ : ∃ st1, st1 = (st.push (.cells [.int .i64 0]) (some 3)).put st.nb (.cells (setAll [.int .i64 0] 0 [.int .i64 0])) := ⟨_, rfl⟩
  rw [← hst1]
  have e1 : StExt st st1 := by rw [hst1]; exact StX.ext he (StX.put (S := fun i => i = st.nb) rfl _) (fun i hi => by rw [hi]; exact Nat.le_refl _)
  have hb1 : st1.box st.nb = .cells [.int .i64 ((0 : Nat) : Int)] := by rw [hst1]; simp [St.put, setAll]
  exact check_ok 2000000 _ hN (by omega) (d := 1) h (hke.trans e1.keeps) hke.1 (by rw [hst1]; simp [St.put, St.push]) hb1 (by omega) rfl (by omega) fun st2 m e2 hb2 _ => hk st2 (StX.ext e1 e2 (fun i hi => by rw [hi]; exact Nat.le_refl _))
theorem one_ok {s : Sc} {l : List Vl} {f : List Fd} (hN : (Vl.mk s l f).sz ≤ 2000000) {st0 st : St} {ub ul uf : TV} {K : Int → St → Prop} (h : VlR st0 (.mk s l f) (cellsV s ub ul uf)) (hke : Keeps st0 st) (hk : ∀ st', StExt st st' → K (oneE s l f : Nat) st') :
    CallT PR fn_datakitref07_one [.agg (cellsV s ub ul uf)] [.one (.int .i64)] st K := by
  have hsz : (Vl.mk s l f).sz = 1 + s.bytes.length + s.text.length + s.dg.length + vsSz l + fsSz f := by unfold Vl.sz; rfl
  unfold VlR at h
  obtain ⟨ub', ul', uf', xl, xf, hcs, h1, h2, h3, h4, h5⟩ := h
  simp only [cellsV, List.cons.injEq, and_true, true_and] at hcs
  obtain ⟨rfl, rfl, rfl⟩ := hcs
  refine vc_datakitref07_one _ _ _ _ _ _ _ _ _ _ _ _ _ st K (own_ok h1.isSl h2.isSl h4.isSl h1.lenS h2.lenS h4.lenS ?_)
  have kk : ∀ (c : Nat) (st' : St), oneE s l f = c → StExt st st' → K (c : Int) st' := fun c st' hc e => by rw [← hc]; exact hk st' e
  by_cases ho : OwnOk s l f
  case neg => exact BIf_bool (fun _ => kk 6 st (by unfold oneE; rw [if_neg ho]) (StExt.refl _)) fun h => by rw [decide_eq_false ho] at h; cases h
  refine BIf_bool (fun h => by rw [decide_eq_true ho] at h; cases h) fun _ => rDec_ok (by omega) ?_
  by_cases hq : DecOk s.neg s.dg s.ex
  case neg => exact BIf_bool (fun _ => kk 2 st (by unfold oneE; rw [if_pos ho, if_neg hq]) (StExt.refl _)) fun h => by rw [decide_eq_false hq] at h; cases h
  refine BIf_bool (fun h => by rw [decide_eq_true hq] at h; cases h) fun _ => ?_
  have rest : (s.kind = 3 → TimeOk s.tk s.td s.tn s.tz) → CallT PR fn_datakitref03_Valid [.str s.text] [.one (.bool)] st (fun (b4 : Bool) (st4 : St) => BIf (!b4) (K 5 st4) (BIf (decide (65536 < (s.text.length : Int))) (K 10 st4) (need (isSl ub) (BIf (decide (65536 < (lenS ub : Int))) (K 10 st4) (
      CallT PR fn_datakitref07_Keys [uf] [.one (.int .i64)] st4 fun (n1 : Int) (st5 : St) => K n1 st5))))) := by
    intro hq2
    refine rvalid_ok (by omega) fun st1 e1 => ?_
    by_cases hu : U8 s.text
    case neg => exact BIf_bool (fun _ => kk 5 st1 (by unfold oneE; rw [if_pos ho, if_pos hq, if_pos hq2, if_neg hu]) e1) fun h => absurd (by unfold U8; simpa using h) hu
    have h6 : oneE s l f = if 65536 < s.text.length then 10 else if 65536 < s.bytes.length then 10 else keysE [] f := by unfold oneE; rw [if_pos ho, if_pos hq, if_pos hq2, if_pos hu]
    refine BIf_bool (fun h => absurd hu (by unfold U8; simpa using h)) fun _ => BIf_intro (fun g5 => ?_) fun g5 => need_intro h1.isSl (BIf_intro (fun g6 => ?_) fun g6 => ?_)
    · exact kk 10 st1 (by rw [h6, if_pos (by omega)]) e1
    · rw [h1.lenS] at g6
      exact kk 10 st1 (by rw [h6, if_neg (by omega), if_pos (by omega)]) e1
    · rw [h1.lenS] at g6
      exact Keys_ok (hke.trans e1.keeps) h4 h5 (by omega) fun st2 e2 => kk _ st2 (by rw [h6, if_neg (by omega), if_neg (by omega)]) (e1.trans e2)
  refine BIf_intro (fun g3 => rTime_ok ?_) fun g3 => rest fun h => absurd h g3
  by_cases hq2 : TimeOk s.tk s.td s.tn s.tz
  · exact BIf_bool (fun h => by rw [decide_eq_true hq2] at h; cases h) fun _ => rest fun _ => hq2
  · exact BIf_bool (fun _ => kk 2 st (by unfold oneE; rw [if_pos ho, if_pos hq, if_neg fun h => hq2 (h g3)]) (StExt.refl _)) fun h => by rw [decide_eq_false hq2] at h; cases h
/-- The values directly in a value. -/
def kidsV (s : Sc) (l : List Vl) (f : List Fd) : List Vl := if s.kind = 7 then f.map Fd.val else l
theorem chkFs_map (d : Nat) : ∀ (f : List Fd) (n : Nat), chkFs d n f = chkVs d n (f.map Fd.val)
  | [], n => by simp [chkFs, chkVs]
  | .mk k v :: r, n => by
    rw [chkFs_cons, List.map_cons, chkVs_cons]
    have : (fun m => chkFs d m r) = fun m => chkVs d m (r.map Fd.val) := funext fun m => chkFs_map d r m
    rw [this]; rfl
theorem thenE_id (x : Nat × Nat) : thenE x (fun m => (m, 0)) = x := by
  unfold thenE; split
  · rename_i h; exact Prod.ext rfl h.symm
  · rfl
theorem chkV_kids {d n : Nat} {s : Sc} {l : List Vl} {f : List Fd} (ho : OwnOk s l f) : (thenE (chkVs (d + 1) (n + 1) l) fun m => chkFs (d + 1) m f) = chkVs (d + 1) (n + 1) (kidsV s l f) := by
  unfold kidsV
  by_cases h7 : s.kind = 7
  · rw [if_pos h7, ho.ls (by omega), chkVs, thenE_ok rfl, chkFs_map]
  · rw [if_neg h7, ho.fs h7]
    simp only [chkFs]
    exact thenE_id _
mutual
theorem chkV_le : ∀ (v : Vl) (d n : Nat), n ≤ 65536 → (chkV d n v).2 = 0 → (chkV d n v).1 ≤ 65536
  | .mk s l f, d, n, hn, h => by
    unfold chkV at h ⊢
    split at h
    · cases h
    · rename_i g1
      rw [if_neg g1]
      split at h
      · cases h
      · rename_i g2
        rw [if_neg g2]
        split at h
        · rename_i h1; exact absurd h h1
        · rename_i g3
          rw [if_neg g3]
          obtain ⟨h2, h3⟩ := thenE_zero h
          rw [thenE_ok h2]
          exact chkFs_le f _ _ (chkVs_le l _ _ (by omega) h2) h3
theorem chkVs_le : ∀ (l : List Vl) (d n : Nat), n ≤ 65536 → (chkVs d n l).2 = 0 → (chkVs d n l).1 ≤ 65536
  | [], d, n, hn, _ => by unfold chkVs; exact hn
  | v :: r, d, n, hn, h => by
    unfold chkVs at h ⊢
    obtain ⟨h2, h3⟩ := thenE_zero h
    rw [thenE_ok h2]
    exact chkVs_le r _ _ (chkV_le v _ _ hn h2) h3
theorem chkD_le : ∀ (x : Fd) (d n : Nat), n ≤ 65536 → (chkD d n x).2 = 0 → (chkD d n x).1 ≤ 65536
  | .mk k v, d, n, hn, h => by unfold chkD at h ⊢; exact chkV_le v _ _ hn h
theorem chkFs_le : ∀ (l : List Fd) (d n : Nat), n ≤ 65536 → (chkFs d n l).2 = 0 → (chkFs d n l).1 ≤ 65536
  | [], d, n, hn, _ => by unfold chkFs; exact hn
  | x :: r, d, n, hn, h => by
    unfold chkFs at h ⊢
    obtain ⟨h2, h3⟩ := thenE_zero h
    rw [thenE_ok h2]
    exact chkFs_le r _ _ (chkD_le x _ _ hn h2) h3
end
theorem VsR.snoc {st : St} {v : Vl} {cv : List TV} : ∀ {l : List Vl} {xs : List TV}, VsR st l xs → VlR st v cv → VsR st (l ++ [v]) (xs ++ cv)
  | [], xs, h, hv => by
    unfold VsR at h
    subst h
    show VsR st [v] _
    unfold VsR
    exact ⟨cv, [], by simp, hv, by unfold VsR; rfl⟩
  | w :: r, xs, h, hv => by
    unfold VsR at h
    obtain ⟨a, b, rfl, h1, h2⟩ := h
    show VsR st (w :: (r ++ [v])) _
    unfold VsR
    exact ⟨a, b ++ cv, by simp, h1, VsR.snoc h2 hv⟩
theorem kids_ok {s : Sc} {l : List Vl} {f : List Fd} (hN : (Vl.mk s l f).sz ≤ 2000000) {st0 st : St} {ub ul uf : TV} {K : TV → St → Prop} (h : VlR st0 (.mk s l f) (cellsV s ub ul uf)) (hke : Keeps st0 st)
    (hk : ∀ u xl st', StExt st st' → SlR st' 13 u (kidsV s l f).length xl → VsR st' (kidsV s l f) xl → K u st') : CallT PR fn_datakitref07_Kids [.agg (cellsV s ub ul uf)] [.one .tv] st K := by
  have hsz : (Vl.mk s l f).sz = 1 + s.bytes.length + s.text.length + s.dg.length + vsSz l + fsSz f := by unfold Vl.sz; rfl
  have hfl := fsSz_len f
  unfold VlR at h
  obtain ⟨ub', ul', uf', xl, xf, hcs, h1, h2, h3, h4, h5⟩ := h
  simp only [cellsV, List.cons.injEq, and_true, true_and] at hcs
  obtain ⟨rfl, rfl, rfl⟩ := hcs
  refine vc_datakitref07_Kids _ _ _ _ _ _ _ _ _ _ _ _ _ st K (BIf_intro (fun g => ?_) fun g => ?_)
  · have e : kidsV s l f = l := by unfold kidsV; rw [if_neg g]
    rw [e] at hk
    exact hk ul xl st (StExt.refl _) (h2.keep hke) (VsR.keep hke h3)
  · have e : kidsV s l f = f.map Fd.val := by unfold kidsV; rw [if_pos (by omega)]
    rw [e, List.length_map] at hk
    refine ⟨fun o i kd bo ng dg ex tk td tn tz tx u1 u2 u3 st' => uf = u3 ∧ ∃ (k : Nat) (xs : List TV), i = k ∧ k ≤ f.length ∧ StExt st st' ∧ Own st.nt 13 st' o k xs ∧ VsR st ((f.take k).map Fd.val) xs, fun _ i _ _ _ _ _ _ _ _ _ _ _ _ _ _ => (f.length - i).toNat,
      ⟨rfl, 0, [], rfl, Nat.zero_le _, StExt.refl _, Own.nil _ _ _, by simp only [List.take_zero, List.map_nil]; unfold VsR; rfl⟩, ?_⟩
    rintro o _ kd bo ng dg ex tk td tn tz tx u1 u2 _ st1 ⟨rfl, k, xs, rfl, hkf, e1, ho, hv⟩
    refine need_intro h4.isSl (BIf_intro (fun g2 => ?_) fun g2 => ?_)
    · rw [h4.lenS] at g2
      refine val14 (hke.trans e1.keeps) h4 h5 rfl (by omega) fun key s' l' f' ub1 ul1 uf1 gw hw on => need_intro on ?_
      refine appK_own e1 rfl ho (by omega) (fun h => by cases h) fun v2 st2 e2 _ ho2 => ?_
      rw [wrap64 _ (by omega) (by omega)]
      refine ⟨⟨rfl, k + 1, _, by omega, by omega, e2, ho2, ?_⟩, by dsimp only; omega⟩
      rw [take_snoc gw, List.map_append]
      exact VsR.snoc hv (VlR.keep hke hw)
    · rw [h4.lenS] at g2
      have hkk : k = f.length := by omega
      subst hkk
      rw [List.take_length] at hv
      exact hk o xs st1 e1 (.of_rd ho.rd) (VsR.keep e1.keeps hv)
theorem kids_sz {s : Sc} {l : List Vl} {f : List Fd} {k : Nat} {w : Vl} (h : (kidsV s l f)[k]? = some w) : w.sz + 1 ≤ (Vl.mk s l f).sz := by
  have hsz : (Vl.mk s l f).sz = 1 + s.bytes.length + s.text.length + s.dg.length + vsSz l + fsSz f := by unfold Vl.sz; rfl
  unfold kidsV at h
  split at h
  · rw [List.getElem?_map] at h
    obtain ⟨d, hd, rfl⟩ := Option.map_eq_some_iff.1 h
    have := fsSz_get hd
    cases d; unfold Fd.sz at this; simp only [Fd.val]; omega
  · have := vsSz_get h; omega
theorem kids_len {s : Sc} {l : List Vl} {f : List Fd} : (kidsV s l f).length ≤ (Vl.mk s l f).sz := by
  have hsz : (Vl.mk s l f).sz = 1 + s.bytes.length + s.text.length + s.dg.length + vsSz l + fsSz f := by unfold Vl.sz; rfl
  have := vsSz_len l
  have := fsSz_len f
  unfold kidsV; split
  · rw [List.length_map]; omega
  · omega
theorem look_ok : ∀ (N : Nat) (v : Vl), v.sz ≤ N → N ≤ 2000000 → ∀ {st0 st : St} {cs : List TV} {d n : Nat} {D : Int} {K : Int → Int → St → Prop}, VlR st0 v cs → Keeps st0 st → n ≤ 65536 → D = (d : Int) → d ≤ 100 →
    (∀ st', StExt st st' → K ((chkV d n v).1 : Nat) ((chkV d n v).2 : Nat) st') → CallT PR fn_datakitref07_look [.agg cs, .int .i64 D, .int .i64 (n : Nat)] [.one (.int .i64), .one (.int .i64)] st K := by
  intro N
  induction N with
  | zero => intro v h; have := v.sz_pos; omega
  | succ N ih =>
  intro v hN hN2 st0 st cs d n D K h hke hn hD hd hk
  subst hD
  cases v with
  | mk s l f =>
  have hcs : ∃ ub ul uf, cs = cellsV s ub ul uf := by
    have h0 := h
    unfold VlR at h0
    obtain ⟨ub, ul, uf, xl, xf, rfl, _⟩ := h0
    exact ⟨ub, ul, uf, rfl⟩
  obtain ⟨ub, ul, uf, rfl⟩ := hcs
  have kk : ∀ (x : Nat × Nat) (st' : St), chkV d n (.mk s l f) = x → StExt st st' → K (x.1 : Nat) (x.2 : Nat) st' := fun x st' hx e => by rw [← hx]; exact hk st' e
  refine vc_datakitref07_look _ _ _ _ _ _ _ _ _ _ _ _ _ (d : Int) (n : Int) st K (BIf_intro (fun g => ?_) fun g => BIf_intro (fun g2 => ?_) fun g2 => ?_)
  · exact kk (n, 9) st (by unfold chkV; rw [if_pos (by omega)]) (StExt.refl _)
  · exact kk (n, 10) st (by unfold chkV; rw [if_neg (by omega), if_pos (by omega)]) (StExt.refl _)
  have hg1 : ¬ 48 < d := by omega
  have hg2 : ¬ 65536 ≤ n := by omega
  refine one_ok (l := l) (f := f) (by omega) h hke fun st1 e1 => BIf_intro (fun g3 => ?_) fun g3 => ?_
  · exact kk (n, oneE s l f) st1 (chkV_one hg1 hg2 (by omega)) e1
  have hone : oneE s l f = 0 := by omega
  have ho : OwnOk s l f := (oneE_zero.1 hone).own
  have hC : chkV d n (.mk s l f) = chkVs (d + 1) (n + 1) (kidsV s l f) := by rw [chkV_eq hg1 hg2 hone, chkV_kids ho]
  refine kids_ok (l := l) (f := f) (by omega) h (hke.trans e1.keeps) fun u xl st2 e2 hu hv => ?_
  have e12 := e1.trans e2
  have hlen := kids_len (s := s) (l := l) (f := f)
  rw [wrap64 ((n : Int) + 1) (by omega) (by omega)]
  refine ⟨fun c i dp u' st' => u = u' ∧ dp = (d : Int) ∧ ∃ k m : Nat, i = k ∧ k ≤ (kidsV s l f).length ∧ c = (m : Int) ∧ m ≤ 65536 ∧ StExt st2 st' ∧ chkVs (d + 1) (n + 1) (kidsV s l f) = chkVs (d + 1) m ((kidsV s l f).drop k), fun _ i _ _ _ => ((kidsV s l f).length - i).toNat,
    ⟨rfl, rfl, 0, n + 1, rfl, Nat.zero_le _, by omega, by omega, StExt.refl _, rfl⟩, ?_⟩
  rintro _ _ _ _ st3 ⟨rfl, rfl, k, m, rfl, hkl, rfl, hm, e3, hE⟩
  refine need_intro hu.isSl (BIf_intro (fun g4 => ?_) fun g4 => ?_)
  · rw [hu.lenS] at g4
    refine el13 e3.keeps hu hv rfl (by omega) fun s' l' f' ub1 ul1 uf1 gw hw on => ?_
    have hwsz := kids_sz gw
    rw [drop_get gw, chkVs_cons] at hE
    rw [wrap64 _ (by omega) (by omega)]
    refine ih _ (by omega) (by omega) (d := d + 1) hw e3.keeps hm (by omega) (by omega) fun st4 e4 => ?_
    refine BIf_intro (fun g5 => ?_) fun g5 => ?_
    · have hne : (chkV (d + 1) m (.mk s' l' f')).2 ≠ 0 := by omega
      rw [thenE_err hne] at hE
      exact kk _ st4 (by rw [hC, hE]) (e12.trans (e3.trans e4))
    · have hz : (chkV (d + 1) m (.mk s' l' f')).2 = 0 := by omega
      rw [thenE_ok hz] at hE
      rw [wrap64 _ (by omega) (by omega)]
      exact ⟨⟨rfl, rfl, k + 1, _, by omega, by omega, rfl, chkV_le _ _ _ hm hz, e3.trans e4, hE⟩, by dsimp only; omega⟩
  · rw [hu.lenS] at g4
    have hkk : k = (kidsV s l f).length := by omega
    subst hkk
    rw [List.drop_length, chkVs] at hE
    exact kk (m, 0) st3 (by rw [hC, hE]) (e12.trans e3)
theorem rCheck_ok {v : Vl} (hN : v.sz ≤ 2000000) {st0 st : St} {cs : List TV} {K : Int → St → Prop} (h : VlR st0 v cs) (hke : Keeps st0 st) (hk : ∀ st', StExt st st' → K (checkV v : Nat) st') :
    CallT PR fn_datakitref07_Check [.agg cs] [.one (.int .i64)] st K := by
  have h0 := h
  cases v with
  | mk s l f =>
  unfold VlR at h0
  obtain ⟨ub, ul, uf, xl, xf, rfl, _⟩ := h0
  exact vc_datakitref07_Check _ _ _ _ _ _ _ _ _ _ _ _ _ st K (look_ok 2000000 _ hN (by omega) (d := 1) (n := 0) h hke (by omega) rfl (by omega) hk)
end Go.TVF
end

section
namespace Go.TVF
open Go Go.Proofs
set_option linter.unusedVariables false
set_option linter.unusedSimpArgs false
theorem VlR.cells {st : St} {s : Sc} {l : List Vl} {f : List Fd} {cs : List TV} (h : VlR st (.mk s l f) cs) : ∃ ub ul uf xl xf, cs = cellsV s ub ul uf ∧ SlR st 1 ub s.bytes.length (bytesT s.bytes) ∧ SlR st 13 ul l.length xl ∧ VsR st l xl ∧ SlR st 14 uf f.length xf ∧ FsR st f xf := by
  unfold VlR at h
  obtain ⟨ub, ul, uf, xl, xf, rfl, h⟩ := h
  exact ⟨ub, ul, uf, xl, xf, rfl, h⟩
theorem szs (s : Sc) (l : List Vl) (f : List Fd) : (Vl.mk s l f).sz = 1 + s.bytes.length + s.text.length + s.dg.length + vsSz l + fsSz f := by unfold Vl.sz; rfl
theorem szd (k : List UInt8) (v : Vl) : (Fd.mk k v).sz = k.length + v.sz := by unfold Fd.sz; rfl
theorem room_ok : ∀ (N : Nat) (v : Vl), v.sz ≤ N → N ≤ 2000000 → ∀ {st0 st : St} {cs : List TV} {L D : Int} {K : Int → St → Prop}, VlR st0 v cs → Keeps st0 st → (∀ r, K r st) → CallT PR fn_datakitref07_room [.agg cs, .int .i64 L, .int .i64 D] [.one (.int .i64)] st K := by
  intro N
  induction N with
  | zero => intro v h; have := v.sz_pos; omega
  | succ N ih =>
  intro v hN hN2 st0 st cs L D K h hke hk
  cases v with
  | mk s l f =>
  have hsz := szs s l f
  have hll := vsSz_len l
  have hfl := fsSz_len f
  obtain ⟨ub, ul, uf, xl, xf, rfl, h1, h2, h3, h4, h5⟩ := h.cells
  have fields : ∀ (X : Int) (I1 : Int → Int → Int → Int → Bool → Bool → List UInt8 → Int → Int → Int → Int → Int → List UInt8 → TV → TV → TV → St → Prop), True := fun _ _ => trivial
  refine vc_datakitref07_room _ _ _ _ _ _ _ _ _ _ _ _ _ L D st K (BIf_intro (fun _ => hk _) fun _ => need_intro h2.isSl (BIf_intro (fun _ => hk _) fun _ => need_intro h4.isSl (BIf_intro (fun _ => hk _) fun _ => ?_)))
  refine ⟨fun le i dp kd bo ng dg ex tk td tn tz tx u1 u2 u3 st' => ul = u2 ∧ uf = u3 ∧ st = st' ∧ ∃ k : Nat, i = k ∧ k ≤ l.length, fun _ i _ _ _ _ _ _ _ _ _ _ _ _ _ _ _ => (l.length - i).toNat, ⟨rfl, rfl, rfl, 0, rfl, Nat.zero_le _⟩, ?_⟩
  rintro le _ dp kd bo ng dg ex tk td tn tz tx u1 _ _ _ ⟨rfl, rfl, rfl, k, rfl, hkl⟩
  refine need_intro h2.isSl (BIf_intro (fun g => BIf_intro (fun _ => ?_) fun _ => ?_) fun _ => ?_)
  · rw [h2.lenS] at g
    refine el13 hke h2 h3 rfl (by omega) fun s' l' f' ub1 ul1 uf1 gw hw on => ?_
    have hwsz := vsSz_get gw
    rw [wrap64 ((k : Int) + 1) (by omega) (by omega)]
    exact ih _ (by omega) (by omega) hw hke fun r => ⟨⟨rfl, rfl, rfl, k + 1, by omega, by omega⟩, by dsimp only; omega⟩
  all_goals
    refine ⟨fun le i dp kd bo ng dg ex tk td tn tz tx u1 u2 u3 st' => uf = u3 ∧ st = st' ∧ ∃ k : Nat, i = k ∧ k ≤ f.length, fun _ i _ _ _ _ _ _ _ _ _ _ _ _ _ _ _ => (f.length - i).toNat, ⟨rfl, rfl, 0, rfl, Nat.zero_le _⟩, ?_⟩
    rintro le _ dp kd bo ng dg ex tk td tn tz tx u1 u2 _ _ ⟨rfl, rfl, k, rfl, hkl⟩
    refine need_intro h4.isSl (BIf_intro (fun g => BIf_intro (fun _ => ?_) fun _ => hk _) fun _ => hk _)
    rw [h4.lenS] at g
    refine val14 hke h4 h5 rfl (by omega) fun key s' l' f' ub1 ul1 uf1 gw hw on => ?_
    have hwsz := fsSz_get gw
    have hwk := szd key (.mk s' l' f')
    rw [wrap64 ((k : Int) + 1) (by omega) (by omega)]
    exact ih (.mk s' l' f') (by omega) (by omega) hw hke fun r => ⟨⟨rfl, rfl, k + 1, by omega, by omega⟩, by dsimp only; omega⟩
theorem Small_ok {v : Vl} (hN : v.sz ≤ 2000000) {st0 st : St} {cs : List TV} {L D : Int} {K : Bool → St → Prop} (h : VlR st0 v cs) (hke : Keeps st0 st) (hk : ∀ b, K b st) : CallT PR fn_datakitref07_Small [.agg cs, .int .i64 L, .int .i64 D] [.one .bool] st K := by
  cases v with
  | mk s l f =>
  have h0 := h
  obtain ⟨ub, ul, uf, xl, xf, rfl, _⟩ := h.cells
  exact vc_datakitref07_Small _ _ _ _ _ _ _ _ _ _ _ _ _ L D st K (room_ok 2000000 _ hN (by omega) h0 hke fun r => hk _)
theorem keyLd {st0 st : St} {uf : TV} {xf : List TV} {l : List Fd} (hke : Keeps st0 st) (h2 : SlR st0 14 uf l.length xf) (h3 : FsR st0 l xf) {k : Nat} {d : Fd} (hd : l[k]? = some d) : ldCell st [] (.t (fldT (ixT 14 uf k) 0)) 0 = some (.str d.key) := by
  obtain ⟨hk, _⟩ := List.getElem?_eq_some_iff.1 hd
  obtain ⟨cw, hw, hcw, hcl⟩ := h3.get hd
  have hx : xf[k * 14 + 0]? = some (.str d.key) := by
    cases d with
    | mk key w =>
      unfold FdR at hw
      obtain ⟨cs, rfl, _⟩ := hw
      have := congrArg (fun z => z[0]?) hcw
      simpa [Fd.key] using this
  exact (h2.keep hke).ldf h3.len hk (by omega) hx
end Go.TVF
end

section
namespace Go.TVF
open Go Go.Proofs
set_option linter.unusedVariables false
set_option linter.unusedSimpArgs false
mutual
theorem chkV_cnt : ∀ (v : Vl) (d n : Nat), (chkV d n v).2 = 0 → (chkV d n v).1 = n + v.cnt
  | .mk s l f, d, n, h => by
    unfold chkV at h ⊢
    unfold Vl.cnt
    split at h
    · cases h
    · rename_i g1
      rw [if_neg g1]
      split at h
      · cases h
      · rename_i g2
        rw [if_neg g2]
        split at h
        · rename_i h1; exact absurd h h1
        · rename_i g3
          rw [if_neg g3]
          obtain ⟨h2, h3⟩ := thenE_zero h
          rw [thenE_ok h2, chkFs_cnt f _ _ h3, chkVs_cnt l _ _ h2]; omega
theorem chkVs_cnt : ∀ (l : List Vl) (d n : Nat), (chkVs d n l).2 = 0 → (chkVs d n l).1 = n + vsCnt l
  | [], d, n, _ => by unfold chkVs vsCnt; rfl
  | v :: r, d, n, h => by
    unfold chkVs at h ⊢
    unfold vsCnt
    obtain ⟨h2, h3⟩ := thenE_zero h
    rw [thenE_ok h2, chkVs_cnt r _ _ h3, chkV_cnt v _ _ h2]; omega
theorem chkD_cnt : ∀ (x : Fd) (d n : Nat), (chkD d n x).2 = 0 → (chkD d n x).1 = n + x.cnt
  | .mk k v, d, n, h => by unfold chkD at h ⊢; unfold Fd.cnt; exact chkV_cnt v _ _ h
theorem chkFs_cnt : ∀ (l : List Fd) (d n : Nat), (chkFs d n l).2 = 0 → (chkFs d n l).1 = n + fsCnt l
  | [], d, n, _ => by unfold chkFs fsCnt; rfl
  | x :: r, d, n, h => by
    unfold chkFs at h ⊢
    unfold fsCnt
    obtain ⟨h2, h3⟩ := thenE_zero h
    rw [thenE_ok h2, chkFs_cnt r _ _ h3, chkD_cnt x _ _ h2]; omega
end
theorem check_cnt {v : Vl} (h : checkV v = 0) : v.cnt ≤ 65536 := by
  have h1 := chkV_cnt v 1 0 h
  have h2 := chkV_le v 1 0 (by omega) h
  omega
theorem check_valid {v : Vl} (h : checkV v = 0) : Valid v := chkV_ok v 1 0 h
theorem fsSz_perm {f g : List Fd} (p : f.Perm g) : fsSz f = fsSz g := by
  induction p with
  | nil => rfl
  | cons x _ ih => unfold fsSz; rw [ih]
  | swap x y l => unfold fsSz; simp only [fsSz]; omega
  | trans _ _ h1 h2 => rw [h1, h2]
mutual
theorem sortV_sz : ∀ v : Vl, (sortV v).sz = v.sz
  | .mk s l f => by
    unfold sortV
    rw [szs, szs, sortVs_sz l, fsSz_perm (sortFd_perm _), sortFs_sz f]
theorem sortVs_sz : ∀ l : List Vl, vsSz (sortVs l) = vsSz l
  | [] => by unfold sortVs; rfl
  | v :: r => by unfold sortVs vsSz; rw [sortV_sz v, sortVs_sz r]
theorem sortD_sz : ∀ d : Fd, (sortD d).sz = d.sz
  | .mk k v => by unfold sortD; rw [szd, szd, sortV_sz v]
theorem sortFs_sz : ∀ f : List Fd, fsSz (sortFs f) = fsSz f
  | [] => by unfold sortFs; rfl
  | d :: r => by unfold sortFs fsSz; rw [sortD_sz d, sortFs_sz r]
end
theorem RdB.len {u : TV} {l : List UInt8} (h : RdB u l) : lenS u = l.length := Rd.lenS h
end Go.TVF
end

section
namespace Go.TVF
open Go Go.Proofs
set_option linter.unusedVariables false
set_option linter.unusedSimpArgs false
theorem take_eq_snoc {α : Type} {l m : List α} {k : Nat} {x y : α} (h : l.take k = m.take k) (hx : l[k]? = some x) (hy : m[k]? = some y) (e : x = y) : l.take (k + 1) = m.take (k + 1) := by
  rw [take_snoc hx, take_snoc hy, h, e]
theorem sc_eq {s t : Sc} (h1 : s.kind = t.kind) (h2 : s.b = t.b) (h3 : s.neg = t.neg) (h4 : s.dg = t.dg) (h5 : s.ex = t.ex) (h6 : s.tk = t.tk) (h7 : s.td = t.td) (h8 : s.tn = t.tn) (h9 : s.tz = t.tz) (h10 : s.text = t.text) (h11 : s.bytes = t.bytes) : s = t := by
  cases s; cases t; simp_all
theorem Same_ok : ∀ (N : Nat) (v w : Vl), v.sz ≤ N → w.sz ≤ 2000000 → N ≤ 2000000 → ∀ {st0 st : St} {cs ds : List TV} {K : Bool → St → Prop}, VlR st0 v cs → VlR st0 w ds → Keeps st0 st → (∀ r, (r = true ↔ v = w) → K r st) →
    CallT PR fn_datakitref07_Same [.agg cs, .agg ds] [.one .bool] st K := by
  intro N
  induction N with
  | zero => intro v w h; have := v.sz_pos; omega
  | succ N ih =>
  intro v w hN hW hN2 st0 st cs ds K h h' hke hk
  cases v with
  | mk s l f =>
  cases w with
  | mk t m g =>
  have hsz := szs s l f
  have hll := vsSz_len l
  have hfl := fsSz_len f
  have hsz' := szs t m g
  have hll' := vsSz_len m
  have hfl' := fsSz_len g
  obtain ⟨ub, ul, uf, xl, xf, rfl, h1, h2, h3, h4, h5⟩ := h.cells
  obtain ⟨wb, wl, wf, yl, yf, rfl, k1, k2, k3, k4, k5⟩ := h'.cells
  have no : (Vl.mk s l f ≠ Vl.mk t m g) → K false st := fun hne => hk false ⟨fun h => (by cases h), fun h => absurd h hne⟩
  have inj : Vl.mk s l f = Vl.mk t m g ↔ s = t ∧ l = m ∧ f = g := by simp
  refine vc_datakitref07_Same _ _ _ _ _ _ _ _ _ _ _ _ _ _ _ _ _ _ _ _ _ _ _ _ _ _ st K ?_
  refine BIf_intro (fun e => no fun h => e (by rw [(inj.1 h).1])) fun e1 => BIf_bool (fun e => no fun h => ?_) fun e2 => BIf_bool (fun e => no fun h => ?_) fun e3 => BIf_bool (fun e => no fun h => ?_) fun e4 => BIf_intro (fun e => no fun h => e (by rw [(inj.1 h).1])) fun e5 => ?_
  · rw [(inj.1 h).1] at e; simp at e
  · rw [(inj.1 h).1] at e; simp at e
  · rw [(inj.1 h).1] at e; simp at e
  refine optK_intro (x := .str s.bytes) (by rw [(h1.keep hke).toBytes]; rfl) (decT_str (optK_intro (x := TV.str t.bytes) (by rw [(k1.keep hke).toBytes]; rfl) (decT_str ?_)))
  refine BIf_intro (fun e => no fun h => e (by rw [(inj.1 h).1])) fun e6 => ?_
  have hst : s = t := by
    simp only [Bool.not_eq_false', Bool.and_eq_true, beq_iff_eq, decide_eq_true_eq, and_true] at e2 e3 e4
    exact sc_eq (Decidable.not_not.1 e1) e2 e3.1 e3.2.1 e3.2.2 e4.1 e4.2.1 e4.2.2.1 e4.2.2.2 (Decidable.not_not.1 e5) (Decidable.not_not.1 e6)
  subst hst
  refine need_intro h2.isSl (need_intro k2.isSl ?_)
  rw [h2.lenS, k2.lenS]
  refine BIf_intro (fun e => no fun h => e (by rw [(inj.1 h).2.1])) fun e7 => need_intro h4.isSl (need_intro k4.isSl ?_)
  rw [h4.lenS, k4.lenS]
  refine BIf_intro (fun e => no fun h => e (by rw [(inj.1 h).2.2])) fun e8 => ?_
  have ell : l.length = m.length := by omega
  have efl : f.length = g.length := by omega
  refine ⟨fun i a1 a2 a3 a4 a5 a6 a7 a8 a9 a10 a11 a12 a13 b1 b2 b3 b4 b5 b6 b7 b8 b9 b10 b11 b12 b13 st' => ul = a12 ∧ uf = a13 ∧ wl = b12 ∧ wf = b13 ∧ st = st' ∧ ∃ k : Nat, i = k ∧ k ≤ l.length ∧ l.take k = m.take k, fun i _ _ _ _ _ _ _ _ _ _ _ _ _ _ _ _ _ _ _ _ _ _ _ _ _ _ _ => (l.length - i).toNat,
    ⟨rfl, rfl, rfl, rfl, rfl, 0, rfl, Nat.zero_le _, rfl⟩, ?_⟩
  rintro _ a1 a2 a3 a4 a5 a6 a7 a8 a9 a10 a11 _ _ b1 b2 b3 b4 b5 b6 b7 b8 b9 b10 b11 _ _ _ ⟨rfl, rfl, rfl, rfl, rfl, k, rfl, hkl, hE⟩
  refine need_intro h2.isSl (BIf_intro (fun q => ?_) fun q => ?_)
  · rw [h2.lenS] at q
    refine el13 hke h2 h3 rfl (by omega) fun s1 l1 f1 ub1 ul1 uf1 gw hw on => el13 hke k2 k3 rfl (by omega) fun s2 l2 f2 ub2 ul2 uf2 gw2 hw2 on2 => ?_
    have hwsz := vsSz_get gw
    have hwsz2 := vsSz_get gw2
    refine ih _ (.mk s2 l2 f2) (by omega) (by omega) (by omega) hw hw2 hke fun r hr => BIf_bool (fun hb => no fun h => ?_) fun hb => ?_
    · rw [(inj.1 h).2.1, gw2] at gw
      rw [hr.2 (Option.some.inj gw).symm] at hb; cases hb
    · rw [wrap64 _ (by omega) (by omega)]
      exact ⟨⟨rfl, rfl, rfl, rfl, rfl, k + 1, by omega, by omega, take_eq_snoc hE gw gw2 (hr.1 (by simpa using hb))⟩, by dsimp only; omega⟩
  · rw [h2.lenS] at q
    have hlm : l = m := by
      have : k = l.length := by omega
      rw [this, List.take_length, ell, List.take_length] at hE; exact hE
    subst hlm
    refine ⟨fun i a1 a2 a3 a4 a5 a6 a7 a8 a9 a10 a11 a12 a13 b1 b2 b3 b4 b5 b6 b7 b8 b9 b10 b11 b12 b13 st' => uf = a13 ∧ wf = b13 ∧ st = st' ∧ ∃ k : Nat, i = k ∧ k ≤ f.length ∧ f.take k = g.take k, fun i _ _ _ _ _ _ _ _ _ _ _ _ _ _ _ _ _ _ _ _ _ _ _ _ _ _ _ => (f.length - i).toNat,
      ⟨rfl, rfl, rfl, 0, rfl, Nat.zero_le _, rfl⟩, ?_⟩
    rintro _ a1 a2 a3 a4 a5 a6 a7 a8 a9 a10 a11 a12 _ b1 b2 b3 b4 b5 b6 b7 b8 b9 b10 b11 b12 _ _ ⟨rfl, rfl, rfl, k, rfl, hkl, hF⟩
    refine need_intro h4.isSl (BIf_intro (fun q => ?_) fun q => ?_)
    · rw [h4.lenS] at q
      have gd : f[k]? = some f[k] := List.getElem?_eq_getElem (by omega)
      have gd2 : g[k]? = some g[k] := List.getElem?_eq_getElem (by omega)
      generalize f[k] = d at gd
      generalize g[k] = d2 at gd2
      refine key14 hke h4 h5 rfl gd (key14 hke k4 k5 rfl gd2 (BIf_intro (fun e => ?_) fun e => ?_))
      · refine ⟨keyLd hke k4 k5 gd2, keyLd hke h4 h5 gd, no fun h => e ?_⟩
        rw [(inj.1 h).2.2, gd2] at gd
        rw [Option.some.inj gd]
      · refine val14 hke h4 h5 rfl (by omega) fun key1 s1 l1 f1 ub1 ul1 uf1 gw hw on => val14 hke k4 k5 rfl (by omega) fun key2 s2 l2 f2 ub2 ul2 uf2 gw2 hw2 on2 => ?_
        have hwsz := fsSz_get gw
        have hwsz2 := fsSz_get gw2
        have hwk := szd key1 (.mk s1 l1 f1)
        have hwk2 := szd key2 (.mk s2 l2 f2)
        refine ih (.mk s1 l1 f1) (.mk s2 l2 f2) (by omega) (by omega) (by omega) hw hw2 hke fun r hr => ⟨keyLd hke k4 k5 gd2, keyLd hke h4 h5 gd, BIf_bool (fun hb => no fun h => ?_) fun hb => ?_⟩
        · rw [(inj.1 h).2.2, gw2] at gw
          have := Option.some.inj gw
          simp only [Fd.mk.injEq] at this
          rw [hr.2 this.2.symm] at hb; cases hb
        · rw [wrap64 _ (by omega) (by omega)]
          refine ⟨⟨rfl, rfl, rfl, k + 1, by omega, by omega, take_eq_snoc hF gw gw2 ?_⟩, by dsimp only; omega⟩
          rw [gd] at gw
          rw [gd2] at gw2
          have q1 := Option.some.inj gw
          have q2 := Option.some.inj gw2
          subst q1 q2
          have := hr.1 (by simpa using hb)
          simp only [Fd.key, Decidable.not_not] at e
          rw [e, this]
    · rw [h4.lenS] at q
      have hfg : f = g := by
        have : k = f.length := by omega
        rw [this, List.take_length, efl, List.take_length] at hF; exact hF
      exact hk true ⟨fun _ => by rw [hfg], fun _ => rfl⟩
end Go.TVF
end

section
namespace Go.TVF
open Go Go.Proofs
set_option linter.unusedVariables false
abbrev decQs : List (Nat × (Nat → List TV → Prop)) := [(1, cellQ .bool), (1, strQ), (1, cellQ (.int .i64))]
abbrev timeQs : List (Nat × (Nat → List TV → Prop)) := [(1, cellQ (.int .i64)), (1, cellQ (.int .i64)), (1, cellQ (.int .i64)), (1, cellQ (.int .i64))]
def valQ (k : Nat) (tv : List TV) : Prop := ∃ v : Vl, VlR St.zero v tv ∧ v.sz ≤ k
def fldQ (k : Nat) (tv : List TV) : Prop := ∃ d : Fd, FdR St.zero d tv ∧ d.sz ≤ k
abbrev sliceQ (c : Nat) (S : Nat → List TV → Prop) (k : Nat) (tv : List TV) : Prop := ∃ v, tv = [v] ∧ SlQ c S k v
abbrev inQ (Ss : List (Nat × (Nat → List TV → Prop))) (k : Nat) (tv : List TV) : Prop := ∃ k', k' + 1 ≤ k ∧ EachQ Ss k' tv
abbrev valQs : List (Nat × (Nat → List TV → Prop)) := [(1, cellQ (.int .i64)), (1, cellQ .bool), (3, inQ decQs), (4, inQ timeQs), (1, strQ), (1, sliceQ 1 (cellQ (.int .u8))), (1, sliceQ 13 valQ), (1, sliceQ 14 fldQ)]
abbrev fldQs : List (Nat × (Nat → List TV → Prop)) := [(1, strQ), (13, valQ)]
theorem SlQ.bytes {k : Nat} {v : TV} (h : SlQ 1 (cellQ (.int .u8)) k v) : ∃ l : List UInt8, SlR St.zero 1 v l.length (bytesT l) ∧ l.length ≤ k := by
  rcases h with rfl | ⟨ps, rfl, h, hk⟩
  · exact ⟨[], .inl (.inl ⟨rfl, rfl, rfl⟩), Nat.zero_le _⟩
  · have : ∃ l : List UInt8, l.length = ps.length ∧ (ps.map (·.1)).flatten = bytesT l ∧ l.length ≤ (ps.map (·.2)).sum := by
      clear hk
      induction ps with
      | nil => exact ⟨[], rfl, rfl, Nat.zero_le _⟩
      | cons p r ih =>
        obtain ⟨l, h1, h2, h3⟩ := ih (fun q hq => h q (.tail _ hq))
        obtain ⟨hl, ⟨n, ys, hp, hw, rfl⟩, h1k⟩ := h p (.head _)
        have hn : 0 ≤ n ∧ n ≤ 255 := by simpa [Lit.wf, IntKind.min, IntKind.max, IntKind.signed, IntKind.bits] using hw
        refine ⟨n.toNat.toUInt8 :: l, by simp [h1], ?_, by simp only [List.length_cons, List.map_cons, List.sum_cons]; omega⟩
        rw [List.map_cons, List.flatten_cons, hp, h2]
        simp only [bytesT, List.map_cons, byteT, List.cons_append, List.nil_append, List.cons.injEq, and_true, TV.int.injEq, true_and]
        have := natB_lt n.toNat (by omega)
        omega
    obtain ⟨l, h1, h2, h3⟩ := this
    exact ⟨l, .inl (.inr ⟨.non, by rw [h1, h2]⟩), by omega⟩
theorem SlQ.vals {k : Nat} {v : TV} (h : SlQ 13 valQ k v) : ∃ l xl, SlR St.zero 13 v l.length xl ∧ VsR St.zero l xl ∧ vsSz l ≤ k := by
  rcases h with rfl | ⟨ps, rfl, h, hk⟩
  · exact ⟨[], [], .inl (.inl ⟨rfl, rfl, rfl⟩), by unfold VsR; rfl, by unfold vsSz; exact Nat.zero_le _⟩
  · have : ∃ l : List Vl, l.length = ps.length ∧ VsR St.zero l (ps.map (·.1)).flatten ∧ vsSz l ≤ (ps.map (·.2)).sum := by
      clear hk
      induction ps with
      | nil => exact ⟨[], rfl, by unfold VsR; rfl, by unfold vsSz; exact Nat.zero_le _⟩
      | cons p r ih =>
        obtain ⟨l, h1, h2, h3⟩ := ih (fun q hq => h q (.tail _ hq))
        obtain ⟨hl, v, hv, hz⟩ := h p (.head _)
        exact ⟨v :: l, by simp [h1], by unfold VsR; exact ⟨_, _, by simp, hv, h2⟩, by unfold vsSz; simp only [List.map_cons, List.sum_cons]; omega⟩
    obtain ⟨l, h1, h2, h3⟩ := this
    exact ⟨l, _, .inl (.inr ⟨.non, by rw [h1]⟩), h2, by omega⟩
theorem SlQ.flds {k : Nat} {v : TV} (h : SlQ 14 fldQ k v) : ∃ l xl, SlR St.zero 14 v l.length xl ∧ FsR St.zero l xl ∧ fsSz l ≤ k := by
  rcases h with rfl | ⟨ps, rfl, h, hk⟩
  · exact ⟨[], [], .inl (.inl ⟨rfl, rfl, rfl⟩), by unfold FsR; rfl, by unfold fsSz; exact Nat.zero_le _⟩
  · have : ∃ l : List Fd, l.length = ps.length ∧ FsR St.zero l (ps.map (·.1)).flatten ∧ fsSz l ≤ (ps.map (·.2)).sum := by
      clear hk
      induction ps with
      | nil => exact ⟨[], rfl, by unfold FsR; rfl, by unfold fsSz; exact Nat.zero_le _⟩
      | cons p r ih =>
        obtain ⟨l, h1, h2, h3⟩ := ih (fun q hq => h q (.tail _ hq))
        obtain ⟨hl, v, hv, hz⟩ := h p (.head _)
        exact ⟨v :: l, by simp [h1], by unfold FsR; exact ⟨_, _, by simp, hv, h2⟩, by unfold fsSz; simp only [List.map_cons, List.sum_cons]; omega⟩
    obtain ⟨l, h1, h2, h3⟩ := this
    exact ⟨l, _, .inl (.inr ⟨.non, by rw [h1]⟩), h2, by omega⟩
theorem cellQ_int {kd : IntKind} {k : Nat} {tv : List TV} (h : cellQ (.int kd) k tv) : ∃ n, tv = [.int kd n] := by
  obtain ⟨⟨n, ys, rfl, _, rfl⟩, _⟩ := h; exact ⟨n, rfl⟩
theorem cellQ_bool {k : Nat} {tv : List TV} (h : cellQ .bool k tv) : ∃ b, tv = [.bool b] := by
  obtain ⟨⟨n, ys, rfl, rfl⟩, _⟩ := h; exact ⟨n, rfl⟩
theorem each_field {k : Nat} {tv : List TV} (h : inQ fldQs k tv) : fldQ k tv := by
  obtain ⟨k0, hk0, _, _, k1, k2, rfl, _, ⟨key, rfl, _, hkey⟩, ⟨_, _, k3, k4, rfl, _, ⟨v, hv, hz⟩, rfl, h2⟩, h1⟩ := h
  refine ⟨.mk key v, by unfold FdR; exact ⟨_, by simp, hv⟩, by unfold Fd.sz; omega⟩
theorem each_value {k : Nat} {tv : List TV} (h : inQ valQs k tv) : valQ k tv := by
  obtain ⟨k0, hk0, _, _, a1, r1, rfl, _, q1, ⟨_, _, a2, r2, rfl, _, q2, ⟨_, _, a3, r3, rfl, _, q3, ⟨_, _, a4, r4, rfl, _, q4, ⟨_, _, a5, r5, rfl, _, q5, ⟨_, _, a6, r6, rfl, _, q6, ⟨_, _, a7, r7, rfl, _, q7, ⟨_, _, a8, r8, rfl, _, q8, rfl, h8⟩, h7⟩, h6⟩, h5⟩, h4⟩, h3⟩, h2⟩, h1⟩ := h
  obtain ⟨kd, rfl⟩ := cellQ_int q1
  obtain ⟨bo, rfl⟩ := cellQ_bool q2
  obtain ⟨d0, hd0, _, _, d1, d2, rfl, _, p1, ⟨_, _, d3, d4, rfl, _, ⟨dg, rfl, _, hdg⟩, ⟨_, _, d5, d6, rfl, _, p3, rfl, g3⟩, g2⟩, g1⟩ := q3
  obtain ⟨ng, rfl⟩ := cellQ_bool p1
  obtain ⟨ex, rfl⟩ := cellQ_int p3
  obtain ⟨_, _, _, _, _, _, rfl, _, t1, ⟨_, _, _, _, rfl, _, t2, ⟨_, _, _, _, rfl, _, t3, ⟨_, _, _, _, rfl, _, t4, rfl, _⟩, _⟩, _⟩, _⟩ := q4
  obtain ⟨tk, rfl⟩ := cellQ_int t1
  obtain ⟨td, rfl⟩ := cellQ_int t2
  obtain ⟨tn, rfl⟩ := cellQ_int t3
  obtain ⟨tz, rfl⟩ := cellQ_int t4
  obtain ⟨tx, rfl, _, htx⟩ := q5
  obtain ⟨ub, rfl, q6⟩ := q6
  obtain ⟨ul, rfl, q7⟩ := q7
  obtain ⟨uf, rfl, q8⟩ := q8
  obtain ⟨bs, hb, hbl⟩ := q6.bytes
  obtain ⟨l, xl, hl, hlv, hlz⟩ := q7.vals
  obtain ⟨f, xf, hf, hfv, hfz⟩ := q8.flds
  refine ⟨.mk ⟨kd, bo, ng, dg, ex, tk, td, tn, tz, tx, bs⟩ l f, ?_, by rw [szs]; simp only; omega⟩
  unfold VlR
  exact ⟨ub, ul, uf, xl, xf, by simp, hb, hl, hlv, hf, hfv⟩
/-- A value that came in, not too great. -/
def IsVal (t : TV) : Prop := ∃ v cs, t = .agg cs ∧ VlR St.zero v cs ∧ v.sz ≤ 1048576
section
variable {H : Type} {enc : TypeId × Value → H} {P : Program} {w : World} {base b0 : Nat} {held : Bool} {bk : DataW H → Nat}
theorem open_val {t : TypeId} {fs : Array Field} {v : Value} {d : DataW H} {p : List MemPlace} (ht : P.underlying t = some (.struct fs)) (hop : ∀ n, OpQ bk enc P w base held n 13 valQ t)
    (hval : Value.okWide P w .any b0 t v) (h : DataW.Trod enc P w base (fun _ => true) held t v d p) (hk : bk d ≤ 1048576) : ∃ tv, Rel (Ghost.start w) w tv v ∧ IsVal tv := by
  simp only [Value.okWide, ht] at hval
  obtain ⟨vs, rfl, _, _⟩ := hval
  obtain ⟨n, hn⟩ := h
  obtain ⟨cs, hr, _, vl, hv, hz⟩ := (hop n).2 _ _ hn
  have := Rel.agg cs vs.toList hr.1 hr.2
  rw [Array.toArray_toList] at this
  exact ⟨_, this, vl, cs, rfl, hv, Nat.le_trans hz hk⟩
end
end Go.TVF
end

section
namespace Go.TVF
open Go Go.Proofs
set_option linter.unusedVariables false
set_option linter.unusedSimpArgs false
def kidsP (l : List Vl) (f : List Fd) : List Vl := l ++ f.map Fd.val
mutual
def depV : Vl → Nat
  | .mk _ l f => 1 + max (depVs l) (depFs f)
def depVs : List Vl → Nat
  | [] => 0
  | v :: r => max (depV v) (depVs r)
def depD : Fd → Nat
  | .mk _ v => depV v
def depFs : List Fd → Nat
  | [] => 0
  | d :: r => max (depD d) (depFs r)
end
theorem depVs_app : ∀ l m : List Vl, depVs (l ++ m) = max (depVs l) (depVs m)
  | [], m => by simp [depVs]
  | v :: r, m => by simp only [List.cons_append, depVs, depVs_app r m]; omega
theorem depFs_map : ∀ f : List Fd, depFs f = depVs (f.map Fd.val)
  | [] => rfl
  | .mk k v :: r => by simp only [List.map_cons, depVs, depFs, depFs_map r, depD, Fd.val]
theorem vsCnt_app : ∀ l m : List Vl, vsCnt (l ++ m) = vsCnt l + vsCnt m
  | [], m => by simp [vsCnt]
  | v :: r, m => by simp only [List.cons_append, vsCnt, vsCnt_app r m]; omega
theorem fsCnt_map : ∀ f : List Fd, fsCnt f = vsCnt (f.map Fd.val)
  | [] => rfl
  | .mk k v :: r => by simp only [List.map_cons, vsCnt, fsCnt, fsCnt_map r, Fd.cnt, Fd.val]
theorem cnt_kids (s : Sc) (l : List Vl) (f : List Fd) : (Vl.mk s l f).cnt = 1 + vsCnt (kidsP l f) := by
  unfold kidsP Vl.cnt
  rw [vsCnt_app, ← fsCnt_map]; omega
theorem dep_kids (s : Sc) (l : List Vl) (f : List Fd) : depV (Vl.mk s l f) = 1 + depVs (kidsP l f) := by
  unfold kidsP depV
  rw [depVs_app, ← depFs_map]
theorem kids_own {s : Sc} {l : List Vl} {f : List Fd} (ho : OwnOk s l f) : kidsV s l f = kidsP l f := by
  unfold kidsV kidsP
  by_cases h7 : s.kind = 7
  · rw [if_pos h7, ho.ls (by omega)]; rfl
  · rw [if_neg h7, ho.fs h7]; simp
mutual
theorem dep_cnt : ∀ v : Vl, depV v ≤ v.cnt
  | .mk s l f => by
    unfold depV Vl.cnt
    have := deps_cnt l
    have := depf_cnt f
    omega
theorem deps_cnt : ∀ l : List Vl, depVs l ≤ vsCnt l
  | [] => by unfold depVs; exact Nat.zero_le _
  | v :: r => by
    unfold depVs vsCnt
    have := dep_cnt v
    have := deps_cnt r
    omega
theorem depd_cnt : ∀ d : Fd, depD d ≤ d.cnt
  | .mk k v => by unfold depD Fd.cnt; exact dep_cnt v
theorem depf_cnt : ∀ l : List Fd, depFs l ≤ fsCnt l
  | [] => by unfold depFs; exact Nat.zero_le _
  | d :: r => by
    unfold depFs fsCnt
    have := depd_cnt d
    have := depf_cnt r
    omega
end
theorem VsR.all_one {st : St} : ∀ {l : List Vl} {xs : List TV}, VsR st l xs → List.all xs oneT = true
  | [], xs, h => by unfold VsR at h; subst h; rfl
  | .mk s l f :: r, xs, h => by
    unfold VsR at h
    obtain ⟨a, b, rfl, h1, h2⟩ := h
    obtain ⟨ub, ul, uf, xl, xf, rfl, q1, q2, _, q4, _⟩ := h1.cells
    rw [List.all_append, VsR.all_one h2, Bool.and_true]
    exact one13 q1.one q2.one q4.one
theorem VsR.app {st : St} : ∀ {l m : List Vl} {xs ys : List TV}, VsR st l xs → VsR st m ys → VsR st (l ++ m) (xs ++ ys)
  | [], m, xs, ys, h, hm => by unfold VsR at h; subst h; exact hm
  | v :: r, m, xs, ys, h, hm => by
    unfold VsR at h
    obtain ⟨a, b, rfl, h1, h2⟩ := h
    show VsR st (v :: (r ++ m)) _
    unfold VsR
    exact ⟨a, b ++ ys, by simp, h1, VsR.app h2 hm⟩
theorem cloneV_ok {st0 st : St} {u : TV} {l : List Vl} {xl : List TV} (hke : Keeps st0 st) (h : SlR st0 13 u l.length xl) (hv : VsR st0 l xl) (hl : l.length ≤ 2000000) {K : TV → St → Prop} (hk : ∀ v st', StExt st st' → Own st.nt 13 st' v l.length xl → K v st') :
    CallT PR fn_slices_Clone___api_Value_api_Value_ [u] [.one .tv] st K := by
  have hxl := hv.len
  refine vc_slices_Clone___api_Value_api_Value_ _ st K (need_intro h.isSl ?_)
  cases hq : isNilT u with
  | true =>
    show K .nilSlice st
    have h0 : l = [] := by
      rcases h with (⟨rfl, h1, _⟩ | ⟨tip, rfl⟩) | ⟨b, off, cap, m, rfl, _⟩
      · exact List.eq_nil_of_length_eq_zero h1
      · cases hq
      · cases hq
    subst h0
    have hx0 : xl = [] := List.eq_nil_of_length_eq_zero (by simpa using hxl)
    subst hx0
    exact hk _ st (StExt.refl _) (Own.nil _ _ _)
  | false =>
    refine optK_intro ((h.keep hke).src hxl) (need_intro hv.all_one ?_)
    refine appK_own (StExt.refl st) rfl (Own.full st.nt 13 st 0 []) (by simp only; omega) (fun h0 => ?_) fun v1 st1 e1 _ ho => ?_
    · simp only at h0
      exact List.eq_nil_of_length_eq_zero (by rw [hxl, h0, Nat.zero_mul])
    · rw [List.nil_append, Nat.zero_add] at ho
      exact hk v1 st1 e1 ho
theorem pkids_ok {s : Sc} {l : List Vl} {f : List Fd} (hN : (Vl.mk s l f).sz ≤ 2000000) {st0 st : St} {ub ul uf : TV} {K : TV → St → Prop} (h : VlR st0 (.mk s l f) (cellsV s ub ul uf)) (hke : Keeps st0 st)
    (hk : ∀ u xl st', StExt st st' → SlR st' 13 u (kidsP l f).length xl → VsR st' (kidsP l f) xl → K u st') : CallT PR fn_value_kids [.agg (cellsV s ub ul uf)] [.one .tv] st K := by
  have hsz := szs s l f
  have hll := vsSz_len l
  have hfl := fsSz_len f
  obtain ⟨ub', ul', uf', xl, xf, hcs, h1, h2, h3, h4, h5⟩ := h.cells
  simp only [cellsV, List.cons.injEq, and_true, true_and] at hcs
  obtain ⟨rfl, rfl, rfl⟩ := hcs
  have hxl := h3.len
  refine vc_value_kids _ _ _ _ _ _ _ _ _ _ _ _ _ st K (cloneV_ok hke h2 h3 (by omega) fun v1 st1 e1 ho1 => need_intro h4.isSl ?_)
  refine ⟨fun o i u n st' => uf = u ∧ n = (f.length : Int) ∧ ∃ (k : Nat) (xs : List TV), i = k ∧ k ≤ f.length ∧ StExt st st' ∧ Own st.nt 13 st' o (l.length + k) (xl ++ xs) ∧ VsR st0 ((f.take k).map Fd.val) xs, fun _ i _ _ _ => (f.length - i).toNat,
    ⟨rfl, by rw [h4.lenS], 0, [], rfl, Nat.zero_le _, e1, by simpa using ho1, by simp only [List.take_zero, List.map_nil]; unfold VsR; rfl⟩, ?_⟩
  rintro o _ _ _ st2 ⟨rfl, rfl, k, xs, rfl, hkf, e2, ho, hv⟩
  refine BIf_intro (fun g2 => ?_) fun g2 => ?_
  · refine el14 (hke.trans e2.keeps) h4 h5 rfl (by omega) fun key s' l' f' ub1 ul1 uf1 gw hw on => need_intro on ?_
    have on2 : List.all (cellsV s' ub1 ul1 uf1) oneT = true := by
      rw [List.all_cons] at on; exact (Bool.and_eq_true_iff.1 on).2
    refine need_intro on2 (appK_own e2 rfl ho (by omega) (fun h => by cases h) fun v2 st3 e3 _ ho2 => ?_)
    rw [wrap64 _ (by omega) (by omega)]
    refine ⟨⟨rfl, rfl, k + 1, xs ++ cellsV s' ub1 ul1 uf1, by omega, by omega, e3, by simpa [cellsV, Nat.add_assoc] using ho2, ?_⟩, by dsimp only; omega⟩
    rw [take_snoc gw, List.map_append]
    exact VsR.snoc hv hw
  · have hkk : k = f.length := by omega
    subst hkk
    rw [List.take_length] at hv
    have hke2 := hke.trans e2.keeps
    refine hk o (xl ++ xs) st2 e2 ?_ (VsR.keep hke2 (VsR.app h3 hv))
    unfold kidsP
    rw [List.length_append, List.length_map]
    exact .of_rd ho.rd
theorem vsCnt_take {l : List Vl} {k : Nat} {w : Vl} (h : l[k]? = some w) : vsCnt (l.take (k + 1)) = vsCnt (l.take k) + w.cnt := by
  rw [take_snoc h, vsCnt_app]; simp [vsCnt]
theorem depVs_take {l : List Vl} {k : Nat} {w : Vl} (h : l[k]? = some w) : depVs (l.take (k + 1)) = max (depVs (l.take k)) (depV w) := by
  rw [take_snoc h, depVs_app]; simp [depVs]
theorem vsCnt_take_le (l : List Vl) (k : Nat) : vsCnt (l.take k) ≤ vsCnt l := by
  have := vsCnt_app (l.take k) (l.drop k)
  rw [List.take_append_drop] at this; omega
theorem vsCnt_len (l : List Vl) : l.length ≤ vsCnt l := by
  induction l with
  | nil => exact Nat.zero_le _
  | cons v r ih => unfold vsCnt; have := v.cnt_pos; simp only [List.length_cons]; omega
theorem depVs_take_le (l : List Vl) (k : Nat) : depVs (l.take k) ≤ depVs l := by
  have := depVs_app (l.take k) (l.drop k)
  rw [List.take_append_drop] at this; omega
mutual
theorem cnt_sz : ∀ v : Vl, v.cnt ≤ v.sz
  | .mk s l f => by
    have := cnts_sz l
    have := cntf_sz f
    unfold Vl.cnt; rw [szs]; omega
theorem cnts_sz : ∀ l : List Vl, vsCnt l ≤ vsSz l
  | [] => by unfold vsCnt; exact Nat.zero_le _
  | v :: r => by
    unfold vsCnt vsSz
    have := cnt_sz v
    have := cnts_sz r
    omega
theorem cntd_sz : ∀ d : Fd, d.cnt ≤ d.sz
  | .mk k v => by unfold Fd.cnt Fd.sz; have := cnt_sz v; omega
theorem cntf_sz : ∀ l : List Fd, fsCnt l ≤ fsSz l
  | [] => by unfold fsCnt; exact Nat.zero_le _
  | d :: r => by
    unfold fsCnt fsSz
    have := cntd_sz d
    have := cntf_sz r
    omega
end
theorem kidsP_sz {s : Sc} {l : List Vl} {f : List Fd} {k : Nat} {w : Vl} (h : (kidsP l f)[k]? = some w) : w.sz + 1 ≤ (Vl.mk s l f).sz := by
  have hsz := szs s l f
  rcases List.mem_append.1 (mem_of_get h) with h | h
  · have := vsSz_mem h; omega
  · obtain ⟨d, hd, rfl⟩ := List.mem_map.1 h
    have := fsSz_mem hd
    cases d; rw [szd] at this; simp only [Fd.val]; omega
theorem size_ok : ∀ (N : Nat) (v : Vl), v.sz ≤ N → N ≤ 2000000 → ∀ {st0 st : St} {cs : List TV} {L : Int} {K : Int → St → Prop}, VlR st0 v cs → Keeps st0 st → (v.cnt : Int) ≤ L → L ≤ 100000000 → (∀ st', StExt st st' → K (v.cnt : Nat) st') →
    CallT PR fn_value_size [.agg cs, .int .i64 L] [.one (.int .i64)] st K := by
  intro N
  induction N with
  | zero => intro v h; have := v.sz_pos; omega
  | succ N ih =>
  intro v hN hN2 st0 st cs L K h hke hL hL2 hk
  cases v with
  | mk s l f =>
  have h0 := h
  obtain ⟨ub, ul, uf, xl, xf, rfl, _⟩ := h.cells
  have hC := cnt_kids s l f
  have hcs := cnt_sz (.mk s l f)
  have hpos := (Vl.mk s l f).cnt_pos
  have hlen := vsCnt_len (kidsP l f)
  refine vc_value_size _ _ _ _ _ _ _ _ _ _ _ _ _ L st K (BIf_intro (fun g => by omega) fun _ => pkids_ok (by omega) h0 hke fun u xl st1 e1 hu hv => need_intro hu.isSl ?_)
  refine ⟨fun n i le u' m st' => u = u' ∧ le = L ∧ m = ((kidsP l f).length : Int) ∧ ∃ k : Nat, i = k ∧ k ≤ (kidsP l f).length ∧ n = ((1 + vsCnt ((kidsP l f).take k) : Nat) : Int) ∧ StExt st1 st', fun _ i _ _ _ _ => ((kidsP l f).length - i).toNat,
    ⟨rfl, rfl, by rw [hu.lenS], 0, rfl, Nat.zero_le _, rfl, StExt.refl _⟩, ?_⟩
  rintro _ _ _ _ _ st2 ⟨rfl, rfl, rfl, k, rfl, hkl, rfl, e2⟩
  have htk := vsCnt_take_le (kidsP l f) k
  refine BIf_intro (fun g => ?_) fun g => ?_
  · refine el13 e2.keeps hu hv rfl (by omega) fun s' l' f' ub1 ul1 uf1 gw hw on => need_intro on ?_
    have hwsz := kidsP_sz (s := s) gw
    have hwc := vsCnt_take gw
    have htk2 := vsCnt_take_le (kidsP l f) (k + 1)
    rw [wrap64 (_ - 1) (by omega) (by omega)]
    refine ih _ (by omega) (by omega) hw e2.keeps (by omega) (by omega) fun st3 e3 => ?_
    rw [wrap64 _ (by omega) (by omega), wrap64 _ (by omega) (by omega)]
    exact ⟨⟨rfl, rfl, rfl, k + 1, by omega, by omega, by omega, e2.trans e3⟩, by dsimp only; omega⟩
  · have hkk : k = (kidsP l f).length := by omega
    rw [hkk, List.take_length, ← hC]
    exact hk st2 (e1.trans e2)
theorem Size_ok {v : Vl} (hN : v.sz ≤ 2000000) (hC : v.cnt ≤ 65536) {st0 st : St} {cs : List TV} {K : Int → St → Prop} (h : VlR st0 v cs) (hke : Keeps st0 st) (hk : ∀ st', StExt st st' → K (v.cnt : Nat) st') : CallT PR fn_value_Size [.agg cs] [.one (.int .i64)] st K := by
  cases v with
  | mk s l f =>
  have h0 := h
  obtain ⟨ub, ul, uf, xl, xf, rfl, _⟩ := h.cells
  exact vc_value_Size _ _ _ _ _ _ _ _ _ _ _ _ _ st K (size_ok 2000000 _ hN (by omega) h0 hke (by omega) (by omega) hk)
theorem deep_ok : ∀ (N : Nat) (v : Vl), v.sz ≤ N → N ≤ 2000000 → ∀ {st0 st : St} {cs : List TV} {L : Int} {K : Int → St → Prop}, VlR st0 v cs → Keeps st0 st → (v.cnt : Int) ≤ L → L ≤ 100000000 → (∀ st', StExt st st' → K (depV v : Nat) st') →
    CallT PR fn_value_deep [.agg cs, .int .i64 L] [.one (.int .i64)] st K := by
  intro N
  induction N with
  | zero => intro v h; have := v.sz_pos; omega
  | succ N ih =>
  intro v hN hN2 st0 st cs L K h hke hL hL2 hk
  cases v with
  | mk s l f =>
  have h0 := h
  obtain ⟨ub, ul, uf, xl, xf, rfl, _⟩ := h.cells
  have hC := cnt_kids s l f
  have hD := dep_kids s l f
  have hcs := cnt_sz (.mk s l f)
  have hpos := (Vl.mk s l f).cnt_pos
  have hlen := vsCnt_len (kidsP l f)
  have hdc := deps_cnt (kidsP l f)
  refine vc_value_deep _ _ _ _ _ _ _ _ _ _ _ _ _ L st K (BIf_intro (fun g => ?_) fun _ => pkids_ok (by omega) h0 hke fun u xl st1 e1 hu hv => need_intro hu.isSl ?_)
  · have := hk st (StExt.refl _)
    rw [show depV (.mk s l f) = 1 by omega] at this; exact this
  refine ⟨fun n i le u' m st' => u = u' ∧ le = L ∧ m = ((kidsP l f).length : Int) ∧ ∃ k : Nat, i = k ∧ k ≤ (kidsP l f).length ∧ n = ((1 + depVs ((kidsP l f).take k) : Nat) : Int) ∧ StExt st1 st', fun _ i _ _ _ _ => ((kidsP l f).length - i).toNat,
    ⟨rfl, rfl, by rw [hu.lenS], 0, rfl, Nat.zero_le _, rfl, StExt.refl _⟩, ?_⟩
  rintro _ _ _ _ _ st2 ⟨rfl, rfl, rfl, k, rfl, hkl, rfl, e2⟩
  have htk := depVs_take_le (kidsP l f) k
  refine BIf_intro (fun g => ?_) fun g => ?_
  · refine el13 e2.keeps hu hv rfl (by omega) fun s' l' f' ub1 ul1 uf1 gw hw on => need_intro on ?_
    have hwsz := kidsP_sz (s := s) gw
    have hwc := vsCnt_take gw
    have hwd := depVs_take gw
    have htk2 := depVs_take_le (kidsP l f) (k + 1)
    have htk3 := vsCnt_take_le (kidsP l f) (k + 1)
    rw [wrap64 (_ - 1) (by omega) (by omega)]
    refine ih _ (by omega) (by omega) hw e2.keeps (by omega) (by omega) fun st3 e3 => ?_
    rw [wrap64 _ (by omega) (by omega), wrap64 _ (by omega) (by omega)]
    exact ⟨⟨rfl, rfl, rfl, k + 1, by omega, by omega, by rw [hwd]; omega, e2.trans e3⟩, by dsimp only; omega⟩
  · have hkk : k = (kidsP l f).length := by omega
    rw [hkk, List.take_length, ← hD]
    exact hk st2 (e1.trans e2)
theorem Depth_ok {v : Vl} (hN : v.sz ≤ 2000000) (hC : v.cnt ≤ 65536) {st0 st : St} {cs : List TV} {K : Int → St → Prop} (h : VlR st0 v cs) (hke : Keeps st0 st) (hk : ∀ st', StExt st st' → K (depV v : Nat) st') : CallT PR fn_value_Depth [.agg cs] [.one (.int .i64)] st K := by
  cases v with
  | mk s l f =>
  have h0 := h
  obtain ⟨ub, ul, uf, xl, xf, rfl, _⟩ := h.cells
  exact vc_value_Depth _ _ _ _ _ _ _ _ _ _ _ _ _ st K (deep_ok 2000000 _ hN (by omega) h0 hke (by omega) (by omega) hk)
theorem valid_kid {s : Sc} {l : List Vl} {f : List Fd} (h : Valid (.mk s l f)) {k : Nat} {w : Vl} (hw : (kidsV s l f)[k]? = some w) : Valid w := by
  unfold Valid at h
  obtain ⟨_, h2, h3⟩ := h
  have hv : ∀ {l : List Vl}, Valids l → ∀ v, v ∈ l → Valid v := by
    intro l
    induction l with
    | nil => intro _ v h; cases h
    | cons a r ih =>
      intro h v hv
      unfold Valids at h
      rcases List.mem_cons.1 hv with rfl | hv
      · exact h.1
      · exact ih h.2 v hv
  have hf : ∀ {l : List Fd}, Validf l → ∀ d, d ∈ l → Valid d.val := by
    intro l
    induction l with
    | nil => intro _ v h; cases h
    | cons a r ih =>
      intro h v hv
      unfold Validf at h
      rcases List.mem_cons.1 hv with rfl | hv
      · cases v; have := h.1; unfold ValidD at this; exact this
      · exact ih h.2 v hv
  unfold kidsV at hw
  split at hw
  · obtain ⟨d, hd, rfl⟩ := List.mem_map.1 (mem_of_get hw)
    exact hf h3 d hd
  · exact hv h2 _ (mem_of_get hw)
theorem rSize_ok : ∀ (N : Nat) (v : Vl), v.sz ≤ N → N ≤ 2000000 → Valid v → ∀ {st0 st : St} {cs : List TV} {K : Int → St → Prop}, VlR st0 v cs → Keeps st0 st → (∀ st', StExt st st' → K (v.cnt : Nat) st') →
    CallT PR fn_datakitref07_Size [.agg cs] [.one (.int .i64)] st K := by
  intro N
  induction N with
  | zero => intro v h; have := v.sz_pos; omega
  | succ N ih =>
  intro v hN hN2 hV st0 st cs K h hke hk
  cases v with
  | mk s l f =>
  have h0 := h
  have hV0 := hV
  unfold Valid at hV
  have ho := kids_own hV.1.own
  obtain ⟨ub, ul, uf, xl, xf, rfl, _⟩ := h.cells
  have hC := cnt_kids s l f
  rw [← ho] at hC
  have hcs := cnt_sz (.mk s l f)
  have hlen := vsCnt_len (kidsV s l f)
  refine vc_datakitref07_Size _ _ _ _ _ _ _ _ _ _ _ _ _ st K (kids_ok (l := l) (f := f) (by omega) h0 hke fun u xl st1 e1 hu hv => ?_)
  refine ⟨fun n i u' st' => u = u' ∧ ∃ k : Nat, i = k ∧ k ≤ (kidsV s l f).length ∧ n = ((1 + vsCnt ((kidsV s l f).take k) : Nat) : Int) ∧ StExt st1 st', fun _ i _ _ => ((kidsV s l f).length - i).toNat,
    ⟨rfl, 0, rfl, Nat.zero_le _, rfl, StExt.refl _⟩, ?_⟩
  rintro _ _ _ st2 ⟨rfl, k, rfl, hkl, rfl, e2⟩
  have htk := vsCnt_take_le (kidsV s l f) k
  refine need_intro hu.isSl (BIf_intro (fun g => ?_) fun g => ?_)
  · rw [hu.lenS] at g
    refine el13 e2.keeps hu hv rfl (by omega) fun s' l' f' ub1 ul1 uf1 gw hw on => ?_
    have hwsz := kids_sz gw
    have hwc := vsCnt_take gw
    have htk2 := vsCnt_take_le (kidsV s l f) (k + 1)
    refine ih _ (by omega) (by omega) (valid_kid hV0 gw) hw e2.keeps fun st3 e3 => ?_
    rw [wrap64 _ (by omega) (by omega), wrap64 _ (by omega) (by omega)]
    exact ⟨⟨rfl, k + 1, by omega, by omega, by omega, e2.trans e3⟩, by dsimp only; omega⟩
  · rw [hu.lenS] at g
    have hkk : k = (kidsV s l f).length := by omega
    rw [hkk, List.take_length, ← hC]
    exact hk st2 (e1.trans e2)
theorem rDepth_ok : ∀ (N : Nat) (v : Vl), v.sz ≤ N → N ≤ 2000000 → Valid v → ∀ {st0 st : St} {cs : List TV} {K : Int → St → Prop}, VlR st0 v cs → Keeps st0 st → (∀ st', StExt st st' → K (depV v : Nat) st') →
    CallT PR fn_datakitref07_Depth [.agg cs] [.one (.int .i64)] st K := by
  intro N
  induction N with
  | zero => intro v h; have := v.sz_pos; omega
  | succ N ih =>
  intro v hN hN2 hV st0 st cs K h hke hk
  cases v with
  | mk s l f =>
  have h0 := h
  have hV0 := hV
  unfold Valid at hV
  have ho := kids_own hV.1.own
  obtain ⟨ub, ul, uf, xl, xf, rfl, _⟩ := h.cells
  have hD := dep_kids s l f
  have hC := cnt_kids s l f
  rw [← ho] at hD hC
  have hcs := cnt_sz (.mk s l f)
  have hlen := vsCnt_len (kidsV s l f)
  have hdc := deps_cnt (kidsV s l f)
  refine vc_datakitref07_Depth _ _ _ _ _ _ _ _ _ _ _ _ _ st K (kids_ok (l := l) (f := f) (by omega) h0 hke fun u xl st1 e1 hu hv => ?_)
  refine ⟨fun n i u' st' => u = u' ∧ ∃ k : Nat, i = k ∧ k ≤ (kidsV s l f).length ∧ n = ((depVs ((kidsV s l f).take k) : Nat) : Int) ∧ StExt st1 st', fun _ i _ _ => ((kidsV s l f).length - i).toNat,
    ⟨rfl, 0, rfl, Nat.zero_le _, rfl, StExt.refl _⟩, ?_⟩
  rintro _ _ _ st2 ⟨rfl, k, rfl, hkl, rfl, e2⟩
  have htk := depVs_take_le (kidsV s l f) k
  refine need_intro hu.isSl (BIf_intro (fun g => ?_) fun g => ?_)
  · rw [hu.lenS] at g
    refine el13 e2.keeps hu hv rfl (by omega) fun s' l' f' ub1 ul1 uf1 gw hw on => ?_
    have hwsz := kids_sz gw
    have hwd := depVs_take gw
    have htk2 := depVs_take_le (kidsV s l f) (k + 1)
    refine ih _ (by omega) (by omega) (valid_kid hV0 gw) hw e2.keeps fun st3 e3 => ?_
    rw [wrap64 _ (by omega) (by omega)]
    exact BIf_intro (fun g2 => ⟨⟨rfl, k + 1, by omega, by omega, by rw [hwd]; omega, e2.trans e3⟩, by dsimp only; omega⟩) fun g2 => ⟨⟨rfl, k + 1, by omega, by omega, by rw [hwd]; omega, e2.trans e3⟩, by dsimp only; omega⟩
  · rw [hu.lenS] at g
    have hkk : k = (kidsV s l f).length := by omega
    rw [hkk, List.take_length, wrap64 _ (by omega) (by omega), show ((depVs (kidsV s l f) : Nat) : Int) + 1 = ((depV (.mk s l f) : Nat) : Int) by omega]
    exact hk st2 (e1.trans e2)
theorem truth_ok {s : Sc} {l : List Vl} {f : List Fd} {ub ul uf : TV} (h0 : 0 ≤ s.kind) {st : St} {K : Bool → St → Prop} (hk : K (decide (1 < s.kind) || (decide (s.kind = 1) && s.b)) st) : CallT PR fn_value_Truth [.agg (cellsV s ub ul uf)] [.one .bool] st K := by
  refine vc_value_Truth _ _ _ _ _ _ _ _ _ _ _ _ _ st K (BIf_intro (fun g => BIf_intro (fun g2 => ?_) fun g2 => ?_) fun g => ?_)
  · exact K_eq (by rw [decide_eq_true (show 1 < s.kind by omega)]; rfl) hk
  · exact K_eq (by rw [decide_eq_false (show ¬ 1 < s.kind by omega), decide_eq_true (show s.kind = 1 by omega)]; simp) hk
  · exact K_eq (by rw [decide_eq_false (show ¬ 1 < s.kind by omega), decide_eq_false (show ¬ s.kind = 1 by omega)]; rfl) hk
theorem rtruth_ok {s : Sc} {l : List Vl} {f : List Fd} {ub ul uf : TV} {st : St} {K : Bool → St → Prop} (hk : K (decide (1 < s.kind) || (decide (s.kind = 1) && s.b)) st) : CallT PR fn_datakitref07_Truth [.agg (cellsV s ub ul uf)] [.one .bool] st K := by
  refine vc_datakitref07_Truth _ _ _ _ _ _ _ _ _ _ _ _ _ st K (BIf_intro (fun g => ?_) fun g => BIf_intro (fun g2 => ?_) fun g2 => ?_)
  · exact K_eq (by rw [decide_eq_true g]; rfl) hk
  · exact K_eq (by rw [decide_eq_false g, decide_eq_true g2]; simp) hk
  · exact K_eq (by rw [decide_eq_false g, decide_eq_false g2]; rfl) hk
theorem scalarV_ok {s : Sc} {l : List Vl} {f : List Fd} {ub ul uf : TV} (h0 : 0 ≤ s.kind) {st : St} {K : Bool → St → Prop} (hk : K (decide (s.kind < 6)) st) : CallT PR fn_value_Scalar [.agg (cellsV s ub ul uf)] [.one .bool] st K :=
  vc_value_Scalar _ _ _ _ _ _ _ _ _ _ _ _ _ st K (BIf_intro (fun _ => hk) fun g => by omega)
theorem rscalarV_ok {s : Sc} {l : List Vl} {f : List Fd} {ub ul uf : TV} {st : St} {K : Bool → St → Prop} (hk : K (decide (s.kind < 6)) st) : CallT PR fn_datakitref07_Scalar [.agg (cellsV s ub ul uf)] [.one .bool] st K :=
  vc_datakitref07_Scalar _ _ _ _ _ _ _ _ _ _ _ _ _ st K hk
end Go.TVF
end

section
namespace Go.TVF
open Go Go.Proofs
set_option linter.unusedVariables false
set_option linter.unusedSimpArgs false
def sgn (x y : Int) : Int := if x < y then -1 else if y < x then 1 else 0
def thenC (x y : Int) : Int := if x ≠ 0 then x else y
abbrev lexC := Lib.compareBytes
theorem lexC_eq (a b : List UInt8) : lexC a b = if Op.bytesLess a b then -1 else if a = b then 0 else 1 := by
  induction a generalizing b with
  | nil => cases b <;> simp [lexC, Lib.compareBytes, Op.bytesLess]
  | cons x a ih =>
    cases b with
    | nil => simp [lexC, Lib.compareBytes, Op.bytesLess]
    | cons y b =>
      unfold lexC Lib.compareBytes Op.bytesLess
      by_cases h1 : x < y
      · simp [h1]
      · by_cases h2 : y < x
        · have hne : x ≠ y := fun e => by subst e; exact UInt8.lt_irrefl _ h2
          simp [h1, h2, hne]
        · have he : x = y := UInt8.le_antisymm (UInt8.not_lt.1 h2) (UInt8.not_lt.1 h1)
          subst he
          simp [h1, ih b]
theorem intC_ok {x y : Int} {st : St} {K : Int → St → Prop} (hk : K (sgn x y) st) : CallT PR fn_cmp_Compare_int_ [.int .i64 x, .int .i64 y] [.one (.int .i64)] st K := by
  unfold sgn at hk
  refine vc_cmp_Compare_int_ _ _ st K (vc_cmp_isNaN_int_ _ st _ (vc_cmp_isNaN_int_ _ st _ (BIf_intro (fun h => absurd rfl h) fun _ => BIf_intro (fun h => absurd rfl h) fun _ => BIf_intro (fun g => ?_) fun g => BIf_intro (fun g2 => ?_) fun g2 => ?_)))
  · rw [if_pos g] at hk; exact hk
  · rw [if_neg g, if_pos g2] at hk; exact hk
  · rw [if_neg g, if_neg g2] at hk; exact hk
theorem byteC_ok {x y : Int} {st : St} {K : Int → St → Prop} (hk : K (sgn x y) st) : CallT PR fn_cmp_Compare_byte_ [.int .u8 x, .int .u8 y] [.one (.int .i64)] st K := by
  unfold sgn at hk
  refine vc_cmp_Compare_byte_ _ _ st K (vc_cmp_isNaN_byte_ _ st _ (vc_cmp_isNaN_byte_ _ st _ (BIf_intro (fun h => absurd rfl h) fun _ => BIf_intro (fun h => absurd rfl h) fun _ => BIf_intro (fun g => ?_) fun g => BIf_intro (fun g2 => ?_) fun g2 => ?_)))
  · rw [if_pos g] at hk; exact hk
  · rw [if_neg g, if_pos g2] at hk; exact hk
  · rw [if_neg g, if_neg g2] at hk; exact hk
theorem rsgn_ok {x y : Int} {st : St} {K : Int → St → Prop} (hk : K (sgn x y) st) : CallT PR fn_datakitref05_sign [.int .i64 x, .int .i64 y] [.one (.int .i64)] st K := by
  unfold sgn at hk
  refine vc_datakitref05_sign _ _ st K (BIf_intro (fun g => ?_) fun g => BIf_intro (fun g2 => ?_) fun g2 => ?_)
  · rw [if_pos g] at hk; exact hk
  · rw [if_neg g, if_pos g2] at hk; exact hk
  · rw [if_neg g, if_neg g2] at hk; exact hk
theorem sign_ok {x y z : Int} (hz : z = x - y) {st : St} {K : Int → St → Prop} (hk : K (sgn x y) st) : CallT PR fn_datakitref07_sign [.int .i64 z] [.one (.int .i64)] st K := by
  unfold sgn at hk
  refine vc_datakitref07_sign _ st K (BIf_intro (fun g => ?_) fun g => BIf_intro (fun g2 => ?_) fun g2 => ?_)
  · rw [if_pos (by omega)] at hk; exact hk
  · rw [if_neg (by omega), if_pos (by omega)] at hk; exact hk
  · rw [if_neg (by omega), if_neg (by omega)] at hk; exact hk
theorem rtext_ok {a b : List UInt8} {st : St} {K : Int → St → Prop} (hk : K (lexC a b) st) : CallT PR fn_datakitref07_text [.str a, .str b] [.one (.int .i64)] st K := by
  rw [lexC_eq] at hk
  refine vc_datakitref07_text _ _ st K (BIf_bool (fun g => ?_) fun g => BIf_bool (fun g2 => ?_) fun g2 => ?_)
  · rw [if_pos g] at hk; exact hk
  · rw [if_neg (by rw [g]; simp)] at hk
    simp only [g, Bool.false_or, Bool.not_eq_true', decide_eq_false_iff_not] at g2
    rw [if_neg g2] at hk; exact hk
  · rw [if_neg (by rw [g]; simp)] at hk
    simp only [g, Bool.false_or, Bool.not_eq_false', decide_eq_true_eq] at g2
    rw [if_pos g2] at hk; exact hk
theorem flag_ok {b : Bool} {st : St} {K : Int → St → Prop} (hk : K (if b then 1 else 0) st) : CallT PR fn_value_flag [.bool b] [.one (.int .i64)] st K :=
  vc_value_flag _ st K (by cases b <;> exact hk)
theorem rflag_ok {b : Bool} {st : St} {K : Int → St → Prop} (hk : K (if b then 1 else 0) st) : CallT PR fn_datakitref07_truth [.bool b] [.one (.int .i64)] st K :=
  vc_datakitref07_truth _ st K (by cases b <;> exact hk)
theorem SlR.ldb {st : St} {u : TV} {l : List UInt8} {k : Nat} (h : SlR st 1 u l.length (bytesT l)) (hk : k < l.length) : ldCell st [] (.t (ixT 1 u k)) 0 = some (byteT l[k]) := by
  have := h.ldc (by rw [length_bytesT]; omega) hk
  rw [List.drop_eq_getElem_cons (by rw [length_bytesT]; omega)] at this
  simp only [ldCells, List.take_succ_cons, List.take_zero] at this
  cases hq : ldCell st [] (.t (ixT 1 u k)) 0 with
  | none => rw [hq] at this; cases this
  | some y =>
    rw [hq] at this
    simp only [Option.map_some, Option.some.injEq, List.cons.injEq, and_true] at this
    rw [this]; simp [bytesT]
theorem lex_step {a b : List UInt8} {k : Nat} (ha : k < a.length) (hb : k < b.length) : lexC (a.drop k) (b.drop k) = thenC (sgn (a[k].toNat : Int) (b[k].toNat : Int)) (lexC (a.drop (k + 1)) (b.drop (k + 1))) := by
  rw [List.drop_eq_getElem_cons ha, List.drop_eq_getElem_cons hb]
  unfold lexC
  rw [Lib.compareBytes]
  unfold thenC sgn
  have e1 : (a[k] < b[k]) ↔ (a[k].toNat : Int) < (b[k].toNat : Int) := by rw [UInt8.lt_iff_toNat_lt]; omega
  have e2 : (b[k] < a[k]) ↔ (b[k].toNat : Int) < (a[k].toNat : Int) := by rw [UInt8.lt_iff_toNat_lt]; omega
  by_cases h1 : a[k] < b[k]
  · rw [if_pos h1, if_pos (e1.1 h1)]; rfl
  · rw [if_neg h1, if_neg (fun h => h1 (e1.2 h))]
    by_cases h2 : b[k] < a[k]
    · rw [if_pos h2, if_pos (e2.1 h2)]; rfl
    · rw [if_neg h2, if_neg (fun h => h2 (e2.2 h))]; simp
theorem bytesC_ok {a b : List UInt8} {u v : TV} {st : St} {K : Int → St → Prop} (ha : SlR st 1 u a.length (bytesT a)) (hb : SlR st 1 v b.length (bytesT b)) (hl : a.length ≤ 2000000) (hm : b.length ≤ 2000000) (hk : K (lexC a b) st) :
    CallT PR fn_slices_Compare___byte_byte_ [u, v] [.one (.int .i64)] st K := by
  refine vc_slices_Compare___byte_byte_ _ _ st K (need_intro ha.isSl ⟨fun i u1 v1 u2 n st' => u = u1 ∧ v = v1 ∧ u = u2 ∧ n = (a.length : Int) ∧ st = st' ∧ ∃ k : Nat, i = k ∧ k ≤ a.length ∧ k ≤ b.length ∧ lexC a b = lexC (a.drop k) (b.drop k), fun i _ _ _ _ _ => (a.length - i).toNat,
    ⟨rfl, rfl, rfl, by rw [ha.lenS], rfl, 0, rfl, Nat.zero_le _, Nat.zero_le _, rfl⟩, ?_⟩)
  rintro _ _ _ _ _ _ ⟨rfl, rfl, rfl, rfl, rfl, k, rfl, hka, hkb, hE⟩
  refine BIf_intro (fun g => ?_) fun g => need_intro ha.isSl (need_intro hb.isSl ?_)
  · rw [ha.lenZ, hb.lenZ, Int.toNat_natCast]
    refine ⟨⟨by omega, by omega⟩, optK_intro (ha.ldb (by omega)) (decT_int (need_intro hb.isSl ?_))⟩
    rw [hb.lenS]
    refine BIf_intro (fun g2 => ?_) fun g2 => ⟨⟨by omega, by omega⟩, optK_intro (hb.ldb (by omega)) (decT_int (byteC_ok ?_))⟩
    · have hkk : k = b.length := by omega
      have h1 : lexC a b = 1 := by
        rw [hE, hkk, List.drop_length, List.drop_eq_getElem_cons (by omega)]; rfl
      rw [h1] at hk; exact hk
    · have hs := lex_step (a := a) (b := b) (k := k) (by omega) (by omega)
      refine BIf_intro (fun g3 => ?_) fun g3 => ?_
      · rw [hE, hs] at hk
        unfold thenC at hk
        rw [if_pos g3] at hk; exact hk
      · rw [wrap64 _ (by omega) (by omega)]
        refine ⟨⟨rfl, rfl, rfl, rfl, rfl, k + 1, by omega, by omega, by omega, ?_⟩, by dsimp only; omega⟩
        rw [hE, hs]
        unfold thenC
        rw [if_neg g3]
  · rw [ha.lenS, hb.lenS]
    have hkk : k = a.length := by omega
    refine BIf_intro (fun g2 => ?_) fun g2 => ?_
    · have h1 : lexC a b = -1 := by
        rw [hE, hkk, List.drop_length, List.drop_eq_getElem_cons (by omega)]; rfl
      rw [h1] at hk; exact hk
    · have h1 : lexC a b = 0 := by
        rw [hE, hkk, List.drop_length, List.drop_of_length_le (by omega)]; rfl
      rw [h1] at hk; exact hk
def numC (a b : List UInt8) : Int := if a.length < b.length then -1 else if b.length < a.length then 1 else lexC a b
def zs (n : Nat) : List UInt8 := List.replicate n 48
def decS (a : List UInt8) (x : Int) (b : List UInt8) (y : Int) : Int :=
  if a = [] then numC a b else if b = [] then numC a b else if (a.length : Int) + x < b.length + y then -1 else if (b.length : Int) + y < a.length + x then 1 else lexC (a ++ zs (b.length - a.length)) (b ++ zs (a.length - b.length))
def decC (na : Bool) (a : List UInt8) (x : Int) (nb : Bool) (b : List UInt8) (y : Int) : Int :=
  if na then (if nb then decS b y a x else -1) else if nb then 1 else decS a x b y
theorem repeatL_zs : ∀ n, Lib.repeatL [48] n = zs n
  | 0 => rfl
  | n + 1 => by
    show [48] ++ Lib.repeatL [48] n = _
    rw [repeatL_zs n]; rfl
theorem zs_len (n : Nat) : (zs n).length = n := by simp [zs]
theorem repeat_ok {n : Nat} (hn : n ≤ 2000000) {st : St} {K : List UInt8 → St → Prop} (hk : K (zs n) st) : CallT PR fn_strings_Repeat [.str [48], .int .i64 (n : Int)] [.one .str] st K := by
  refine tcalls_enter (fun _ _ => by kernel_rfl) fun g w vargs s hr => ?_
  obtain ⟨v, u, rfl, hv, hu⟩ := relL_two hr
  rw [rel_str_inv hv, rel_int_inv hu]
  refine Calls.mono (Tryz.strings_Repeat ⟨#[48]⟩ n w (by omega) (by simp [ByteArray.size]; omega)) ?_
  rintro e w' ⟨rfl, hb⟩
  obtain ⟨s', e'⟩ := s.world hb.size (s.below.trans (hb.mono s.fits)) hb.block
  refine ⟨_, rfl, .str (zs n), st, g, hk, s', ?_, e'⟩
  have : Lib.repeatL (ByteArray.mk #[48]).data.toList n = zs n := repeatL_zs n
  rw [this]; exact Rel.str _
theorem decNum_ok {a b : List UInt8} {st : St} {K : Int → St → Prop} (hk : K (numC a b) st) : CallT PR fn_decimal_cmp [.str a, .str b] [.one (.int .i64)] st K := by
  unfold numC at hk
  refine vc_decimal_cmp _ _ st K (BIf_intro (fun g => BIf_intro (fun g2 => ?_) fun g2 => ?_) fun g => compare_ok ?_)
  · rw [if_pos (by omega)] at hk; exact hk
  · rw [if_neg (by omega), if_pos (by omega)] at hk; exact hk
  · rw [if_neg (by omega), if_neg (by omega)] at hk; exact hk
theorem rNumC_ok {a b : List UInt8} {st : St} {K : Int → St → Prop} (hk : K (numC a b) st) : CallT PR fn_datakitref01_Cmp [.str a, .str b] [.one (.int .i64)] st K := by
  unfold numC at hk
  rw [lexC_eq] at hk
  refine vc_datakitref01_Cmp _ _ st K (BIf_intro (fun g => ?_) fun g => BIf_intro (fun g2 => BIf_bool (fun g3 => ?_) fun g3 => BIf_intro (fun g4 => ?_) fun g4 => ?_) fun g2 => BIf_intro (fun g4 => ?_) fun g4 => ?_)
  · rw [if_pos (by omega)] at hk; exact hk
  · rw [if_neg (by omega), if_neg (by omega), if_pos g3] at hk; exact hk
  · rw [if_neg (by omega), if_neg (by omega), if_neg (by rw [g3]; simp), if_pos g4] at hk; exact hk
  · rw [if_neg (by omega), if_neg (by omega), if_neg (by rw [g3]; simp), if_neg g4] at hk; exact hk
  · rw [g4] at g2; exact absurd rfl g2
  · rw [if_neg (by omega), if_pos (by omega)] at hk; exact hk
theorem align_num {a b : List UInt8} {x y : Int} (ha : a ≠ []) (hb : b ≠ []) : numC (a ++ zs (x - min x y).toNat) (b ++ zs (y - min x y).toNat) = decS a x b y := by
  unfold numC decS
  rw [if_neg ha, if_neg hb]
  simp only [List.length_append, zs_len]
  by_cases h1 : (a.length : Int) + x < b.length + y
  · rw [if_pos (by omega), if_pos h1]
  · rw [if_neg (by omega), if_neg h1]
    by_cases h2 : (b.length : Int) + y < a.length + x
    · rw [if_pos (by omega), if_pos h2]
    · rw [if_neg (by omega), if_neg h2]
      rw [show (x - min x y).toNat = b.length - a.length by omega, show (y - min x y).toNat = a.length - b.length by omega]
theorem decSize_ok {na nb : Bool} {a b : List UInt8} {x y : Int} (ha : DecOk na a x) (hb : DecOk nb b y) {st : St} {K : Int → St → Prop} (hk : K (decS a x b y) st) :
    CallT PR fn_decimal_size [.agg [.bool na, .str a, .int .i64 x], .agg [.bool nb, .str b, .int .i64 y]] [.one (.int .i64)] st K := by
  have la : a.length ≤ 120 := by by_cases h : a = []; (rw [h]; simp); exact ((decOk_iff h).1 ha).2.1
  have lb : b.length ≤ 120 := by by_cases h : b = []; (rw [h]; simp); exact ((decOk_iff h).1 hb).2.1
  refine vc_decimal_size _ _ _ _ _ _ st K (vc_decimal_align _ _ _ _ _ _ st _ (decValid_ok (by omega) (BIf_bool (fun h => by rw [decide_eq_true ha] at h; cases h) fun _ => decValid_ok (by omega) (BIf_bool (fun h => by rw [decide_eq_true hb] at h; cases h) fun _ => BIf_intro (fun g => ?_) fun g => BIf_intro (fun g2 => ?_) fun g2 => ?_))))
  · refine decNum_ok ?_
    unfold decS at hk
    rw [if_pos g, g] at hk; exact hk
  · refine decNum_ok ?_
    unfold decS at hk
    rw [if_neg g, if_pos g2, g2] at hk; exact hk
  · have ex := ((decOk_iff g).1 ha).2.2.2
    have ey := ((decOk_iff g2).1 hb).2.2.2
    rw [wrap64 _ (by omega) (by omega), wrap64 _ (by omega) (by omega), show x - min x y = (((x - min x y).toNat : Nat) : Int) by omega, show y - min x y = (((y - min x y).toNat : Nat) : Int) by omega]
    refine repeat_ok (by omega) ⟨by rw [zs_len]; omega, repeat_ok (by omega) ⟨by rw [zs_len]; omega, decNum_ok ?_⟩⟩
    rw [align_num g g2]; exact hk
theorem decCmp_ok {na nb : Bool} {a b : List UInt8} {x y : Int} (ha : DecOk na a x) (hb : DecOk nb b y) {st : St} {K : Int → St → Prop} (hk : K (decC na a x nb b y) st) :
    CallT PR fn_decimal_Cmp [.agg [.bool na, .str a, .int .i64 x], .agg [.bool nb, .str b, .int .i64 y]] [.one (.int .i64)] st K := by
  refine vc_decimal_Cmp _ _ _ _ _ _ st K ?_
  unfold decC at hk
  cases na <;> cases nb <;> simp only [BIf]
  · exact decSize_ok ha hb hk
  · exact hk
  · exact hk
  · exact decSize_ok hb ha hk
theorem SlR.of_box {st : St} {b n : Nat} {xs : List TV} (hb : b < st.nb) (h : st.box b = .cells xs) (hl : xs.length = n) : SlR st 1 (.ms 1 b 0 n n) n xs :=
  .inr ⟨b, 0, n, xs, rfl, hb, h, by omega, Nat.le_refl _, by simp [← hl]⟩
theorem bytes_zs (n : Nat) : bytesT (zs n) = List.replicate n (.int .u8 48) := by
  unfold zs bytesT
  rw [List.map_replicate]; rfl
theorem noughts_ok {n : Nat} (hn : n ≤ 2000000) {st : St} {K : List UInt8 → St → Prop} (hk : ∀ st', StExt st st' → K (zs n) st') : CallT PR fn_datakitref01_Noughts [.int .i64 (n : Int)] [.one .str] st K := by
  have e0 : StExt st (st.push (.cells (zrep [.int .u8 0] (Int.toNat (n : Int) * 1))) (some 5)) := (StExt.refl st).push _ _
  refine vc_datakitref01_Noughts _ st K ⟨⟨by omega, by omega, by omega⟩, ?_⟩
  rw [Int.toNat_natCast] at e0 ⊢
  refine ⟨fun i m u st' => (n : Int) = m ∧ .ms 1 st.nb 0 n n = u ∧ ∃ (k : Nat) (xs : List TV), i = k ∧ k ≤ n ∧ StExt st st' ∧ st.nb < st'.nb ∧ st'.box st.nb = .cells xs ∧ xs.length = n ∧ xs.take k = List.replicate k (.int .u8 48), fun i _ _ _ => (n - i).toNat,
    ⟨rfl, rfl, 0, zrep [.int .u8 0] (n * 1), rfl, Nat.zero_le _, e0, by simp [St.push], by simp [St.push], by simp [zrep], rfl⟩, ?_⟩
  rintro _ _ _ st1 ⟨rfl, rfl, k, xs, rfl, hkn, e1, hb, hbx, hxl, htk⟩
  refine BIf_intro (fun g => ?_) fun g => ?_
  · rw [Int.toNat_natCast, wrap64 _ (by omega) (by omega)]
    refine ⟨⟨by omega, by simp only [lenZ, Nat.beq_refl]; omega⟩, ?_⟩
    refine ⟨xs, hbx, by simp only [List.length_cons, List.length_nil]; omega, ?_⟩
    have hset : setAll xs (0 + k * 1) [.int .u8 48] = xs.set k (.int .u8 48) := by simp [setAll]
    refine ⟨⟨rfl, rfl, k + 1, setAll xs (0 + k * 1) [.int .u8 48], by omega, by omega, StX.ext e1 (StX.put (S := fun i => i = st.nb) rfl _) (fun i hi => by rw [hi]; exact Nat.le_refl _), hb, by simp [St.put], by rw [length_setAll]; exact hxl, ?_⟩, by dsimp only; omega⟩
    rw [hset, List.take_set, List.replicate_succ', ← htk]
    rw [List.take_succ_eq_append_getElem (by omega), List.set_append_right _ _ (by simp; omega)]
    simp [show k - min k xs.length = 0 by omega]
  · have hkn2 : k = n := by omega
    subst hkn2
    rw [List.take_of_length_le (by omega)] at htk
    have hsl : SlR st1 1 (.ms 1 st.nb 0 k k) (zs k).length (bytesT (zs k)) := by
      rw [zs_len, bytes_zs, ← htk]
      exact SlR.of_box hb hbx hxl
    exact optK_intro (x := TV.str (zs k)) (by rw [hsl.toBytes]; rfl) (decT_str (hk st1 e1))
theorem rsize_ok {na nb : Bool} {a b : List UInt8} {x y : Int} (ha : DecOk na a x) (hb : DecOk nb b y) {st : St} {K : Int → St → Prop} (hk : ∀ st', StExt st st' → K (decS a x b y) st') :
    CallT PR fn_datakitref02_size [.agg [.bool na, .str a, .int .i64 x], .agg [.bool nb, .str b, .int .i64 y]] [.one (.int .i64)] st K := by
  have la : a.length ≤ 120 := by by_cases h : a = []; (rw [h]; simp); exact ((decOk_iff h).1 ha).2.1
  have lb : b.length ≤ 120 := by by_cases h : b = []; (rw [h]; simp); exact ((decOk_iff h).1 hb).2.1
  have kk : ∀ (c : Int) (st' : St), decS a x b y = c → StExt st st' → K c st' := fun c st' hc e => by rw [← hc]; exact hk st' e
  refine vc_datakitref02_size _ _ _ _ _ _ st K (BIf_intro (fun g => rNumC_ok (kk _ st (by unfold decS; rw [if_pos g]) (StExt.refl _))) fun g => BIf_intro (fun g2 => rNumC_ok (kk _ st (by unfold decS; rw [if_neg g, if_pos g2]) (StExt.refl _))) fun g2 => ?_)
  have ex := ((decOk_iff g).1 ha).2.2.2
  have ey := ((decOk_iff g2).1 hb).2.2.2
  rw [wrap64 ((a.length : Int) + x) (by omega) (by omega), wrap64 ((b.length : Int) + y) (by omega) (by omega)]
  refine BIf_intro (fun g3 => kk _ st (by unfold decS; rw [if_neg g, if_neg g2, if_pos g3]) (StExt.refl _)) fun g3 => BIf_intro (fun g4 => kk _ st (by unfold decS; rw [if_neg g, if_neg g2, if_neg g3, if_pos g4]) (StExt.refl _)) fun g4 => ?_
  have h6 : decS a x b y = lexC (a ++ zs (b.length - a.length)) (b ++ zs (a.length - b.length)) := by unfold decS; rw [if_neg g, if_neg g2, if_neg g3, if_neg g4]
  have h7 : numC (a ++ zs (b.length - a.length)) (b ++ zs (a.length - b.length)) = decS a x b y := by
    unfold numC
    simp only [List.length_append, zs_len]
    rw [if_neg (by omega), if_neg (by omega), h6]
  refine BIf_intro (fun g5 => ?_) fun g5 => ?_
  · rw [wrap64 _ (by omega) (by omega), wrap64 _ (by omega) (by omega), show (b.length : Int) - a.length = ((b.length - a.length : Nat) : Int) by omega, show (b.length : Int) - b.length = ((a.length - b.length : Nat) : Int) by omega]
    refine noughts_ok (by omega) fun st1 e1 => ⟨by rw [zs_len]; omega, noughts_ok (by omega) fun st2 e2 => ⟨by rw [zs_len]; omega, rNumC_ok ?_⟩⟩
    exact kk _ st2 h7.symm (e1.trans e2)
  · rw [wrap64 _ (by omega) (by omega), wrap64 _ (by omega) (by omega), show (a.length : Int) - a.length = ((b.length - a.length : Nat) : Int) by omega, show (a.length : Int) - b.length = ((a.length - b.length : Nat) : Int) by omega]
    refine noughts_ok (by omega) fun st1 e1 => ⟨by rw [zs_len]; omega, noughts_ok (by omega) fun st2 e2 => ⟨by rw [zs_len]; omega, rNumC_ok ?_⟩⟩
    exact kk _ st2 h7.symm (e1.trans e2)
theorem rDecC_ok {na nb : Bool} {a b : List UInt8} {x y : Int} (ha : DecOk na a x) (hb : DecOk nb b y) {st : St} {K : Int → St → Prop} (hk : ∀ st', StExt st st' → K (decC na a x nb b y) st') :
    CallT PR fn_datakitref02_Cmp [.agg [.bool na, .str a, .int .i64 x], .agg [.bool nb, .str b, .int .i64 y]] [.one (.int .i64)] st K := by
  refine vc_datakitref02_Cmp _ _ _ _ _ _ st K ?_
  unfold decC at hk
  cases na <;> cases nb <;> simp only [BIf, Bool.not_true, Bool.not_false]
  · exact rsize_ok ha hb hk
  · exact hk st (StExt.refl _)
  · exact hk st (StExt.refl _)
  · exact rsize_ok hb ha hk
def momD (d n z : Int) : Int := d + (n - z * 60000000000) / 86400000000000
def momN (n z : Int) : Int := (n - z * 60000000000) % 86400000000000
def timC (k d n z k' d' n' z' : Int) : Int := thenC (sgn k k') (thenC (sgn (momD d n z) (momD d' n' z')) (thenC (sgn (momN n z) (momN n' z')) (sgn z z')))
theorem tdiv_neg {n : Int} (h : n < 0) (w : Int) : Int.tdiv n w = -((-n) / w) ∧ Int.tmod n w = -((-n) % w) := by
  constructor
  · have := Int.neg_tdiv (-n) w
    rw [Int.neg_neg] at this
    rw [this, Int.tdiv_eq_ediv_of_nonneg (by omega)]
  · have := Int.neg_tmod (-n) w
    rw [Int.neg_neg] at this
    rw [this, Int.tmod_eq_emod_of_nonneg (by omega)]
theorem moment_ok {k d n z : Int} (h : TimeOk k d n z) {st : St} {K : Int → Int → St → Prop} (hk : K (momD d n z) (momN n z) st) : CallT PR fn_moment_moment [.agg [.int .i64 k, .int .i64 d, .int .i64 n, .int .i64 z]] [.agg [.int .i64, .int .i64]] st K := by
  unfold TimeOk at h
  unfold momD momN at hk
  refine vc_moment_moment _ _ _ _ st K ?_
  rw [wrap64 (z * 60000000000) (by omega) (by omega), wrap64 _ (by omega) (by omega)]
  generalize hm : n - z * 60000000000 = m at hk ⊢
  have hm1 : -1000000000000000 ≤ m ∧ m ≤ 1000000000000000 := by omega
  refine vc_moment_carry _ _ st _ ?_
  by_cases h0 : m < 0
  · obtain ⟨t1, t2⟩ := tdiv_neg h0 86400000000000
    rw [t1, t2]
    refine BIf_intro (fun g => ?_) fun g => ?_
    · have e1 : -(-m / 86400000000000) - 1 = m / 86400000000000 := by omega
      rw [wrap64 (-(-m / 86400000000000)) (by omega) (by omega), e1, wrap64 (m / 86400000000000) (by omega) (by omega), wrap64 (d + m / 86400000000000) (by omega) (by omega), wrap64 (m / 86400000000000 * 86400000000000) (by omega) (by omega), wrap64 (m - m / 86400000000000 * 86400000000000) (by omega) (by omega)]
      rw [show m - m / 86400000000000 * 86400000000000 = m % 86400000000000 by omega]
      exact hk
    · have e1 : -(-m / 86400000000000) = m / 86400000000000 := by omega
      rw [e1, wrap64 (m / 86400000000000) (by omega) (by omega), wrap64 (d + m / 86400000000000) (by omega) (by omega), wrap64 (m / 86400000000000 * 86400000000000) (by omega) (by omega), wrap64 (m - m / 86400000000000 * 86400000000000) (by omega) (by omega)]
      rw [show m - m / 86400000000000 * 86400000000000 = m % 86400000000000 by omega]
      exact hk
  · rw [Int.tdiv_eq_ediv_of_nonneg (by omega), Int.tmod_eq_emod_of_nonneg (by omega)]
    refine BIf_intro (fun g => by omega) fun g => ?_
    rw [wrap64 (m / 86400000000000) (by omega) (by omega), wrap64 (d + m / 86400000000000) (by omega) (by omega), wrap64 (m / 86400000000000 * 86400000000000) (by omega) (by omega), wrap64 (m - m / 86400000000000 * 86400000000000) (by omega) (by omega)]
    rw [show m - m / 86400000000000 * 86400000000000 = m % 86400000000000 by omega]
    exact hk
theorem sgn_self (x : Int) : sgn x x = 0 := by unfold sgn; rw [if_neg (by omega), if_neg (by omega)]
theorem thenC_pos {x y : Int} (h : x ≠ 0) : thenC x y = x := by unfold thenC; rw [if_pos h]
theorem thenC_zero {x y : Int} (h : x = 0) : thenC x y = y := by unfold thenC; rw [if_neg (fun g => g h)]
theorem timeCmp_ok {k d n z k' d' n' z' : Int} (h : TimeOk k d n z) (h' : TimeOk k' d' n' z') {st : St} {K : Int → St → Prop} (hk : K (timC k d n z k' d' n' z') st) :
    CallT PR fn_moment_Cmp [.agg [.int .i64 k, .int .i64 d, .int .i64 n, .int .i64 z], .agg [.int .i64 k', .int .i64 d', .int .i64 n', .int .i64 z']] [.one (.int .i64)] st K := by
  unfold timC at hk
  refine vc_moment_Cmp _ _ _ _ _ _ _ _ st K (BIf_bool (fun g => ?_) fun _ => intC_ok (BIf_intro (fun g => ?_) fun g => moment_ok h (moment_ok h' (vc_moment_compare _ _ _ _ st _ ?_))))
  · simp only [Bool.and_eq_true, decide_eq_true_eq, and_true] at g
    obtain ⟨rfl, rfl, rfl, rfl⟩ := g
    rw [sgn_self, sgn_self, sgn_self, sgn_self] at hk
    exact hk
  · rw [thenC_pos g] at hk; exact hk
  · rw [thenC_zero (Decidable.not_not.1 g)] at hk
    have fin : ∀ r, thenC (sgn (momD d n z) (momD d' n' z')) (sgn (momN n z) (momN n' z')) = r → BIf (decide (r ≠ 0)) (K r st) (CallT PR fn_cmp_Compare_int_ [.int .i64 z, .int .i64 z'] [.one (.int .i64)] st fun (n7 : Int) (st5 : St) => K n7 st5) := by
      intro r hr
      unfold thenC at hk hr
      by_cases g1 : sgn (momD d n z) (momD d' n' z') ≠ 0
      · rw [if_pos g1] at hk hr
        subst hr
        exact BIf_intro (fun _ => hk) fun g3 => absurd g1 g3
      · rw [if_neg g1] at hk hr
        subst hr
        refine BIf_intro (fun g3 => ?_) fun g3 => intC_ok ?_
        · rw [if_pos g3] at hk; exact hk
        · rw [if_neg g3] at hk; exact hk
    refine BIf_bool (fun g2 => ?_) fun _ => intC_ok (BIf_intro (fun g2 => ?_) fun g2 => intC_ok ?_)
    · simp only [Bool.and_eq_true, decide_eq_true_eq, and_true] at g2
      exact fin 0 (by rw [g2.1, g2.2, sgn_self, sgn_self]; rfl)
    · exact fin _ (thenC_pos g2)
    · exact fin _ (thenC_zero (Decidable.not_not.1 g2))
theorem rmoment_ok {k d n z : Int} (h : TimeOk k d n z) {st : St} {K : Int → Int → St → Prop} (hk : K (momD d n z) (momN n z) st) : CallT PR fn_datakitref05_moment [.agg [.int .i64 k, .int .i64 d, .int .i64 n, .int .i64 z]] [.one (.int .i64), .one (.int .i64)] st K := by
  unfold TimeOk at h
  unfold momD momN at hk
  refine vc_datakitref05_moment _ _ _ _ st K ?_
  rw [wrap64 (z * 60000000000) (by omega) (by omega), wrap64 _ (by omega) (by omega)]
  generalize hm : n - z * 60000000000 = m at hk ⊢
  have hm1 : -1000000000000000 ≤ m ∧ m ≤ 1000000000000000 := by omega
  refine vc_datakitref05_split _ _ st _ ⟨fun d1 m1 st' => st = st' ∧ d1 * 86400000000000 + m1 = d * 86400000000000 + m ∧ -1000000000000000 ≤ m1 ∧ m1 ≤ 1000000000000000, fun _ m1 _ => (-m1).toNat, ⟨rfl, rfl, hm1.1, hm1.2⟩, ?_⟩
  rintro d1 m1 _ ⟨rfl, hE, hm2, hm3⟩
  refine BIf_intro (fun g => ?_) fun g => ?_
  · rw [wrap64 (d1 - 1) (by omega) (by omega), wrap64 (m1 + 86400000000000) (by omega) (by omega)]
    exact ⟨⟨rfl, by omega, by omega, by omega⟩, by dsimp only; omega⟩
  · refine ⟨fun d2 m2 st' => st = st' ∧ d2 * 86400000000000 + m2 = d * 86400000000000 + m ∧ 0 ≤ m2 ∧ m2 ≤ 1000000000000000, fun _ m2 _ => m2.toNat, ⟨rfl, hE, by omega, hm3⟩, ?_⟩
    rintro d2 m2 _ ⟨rfl, hE2, hm4, hm5⟩
    refine BIf_intro (fun g2 => ?_) fun g2 => ?_
    · rw [wrap64 (d2 + 1) (by omega) (by omega), wrap64 (m2 - 86400000000000) (by omega) (by omega)]
      exact ⟨⟨rfl, by omega, by omega, by omega⟩, by dsimp only; omega⟩
    · have e1 : d2 = d + m / 86400000000000 := by omega
      have e2 : m2 = m % 86400000000000 := by omega
      rw [e1, e2]; exact hk
theorem rTimC_ok {k d n z k' d' n' z' : Int} (h : TimeOk k d n z) (h' : TimeOk k' d' n' z') {st : St} {K : Int → St → Prop} (hk : K (timC k d n z k' d' n' z') st) :
    CallT PR fn_datakitref05_Cmp [.agg [.int .i64 k, .int .i64 d, .int .i64 n, .int .i64 z], .agg [.int .i64 k', .int .i64 d', .int .i64 n', .int .i64 z']] [.one (.int .i64)] st K := by
  refine vc_datakitref05_Cmp _ _ _ _ _ _ _ _ st K (rmoment_ok h (rmoment_ok h' (rsgn_ok (rsgn_ok (rsgn_ok (rsgn_ok ?_))))))
  unfold timC at hk
  generalize sgn k k' = c1 at hk ⊢
  generalize sgn (momD d n z) (momD d' n' z') = c2 at hk ⊢
  generalize sgn (momN n z) (momN n' z') = c3 at hk ⊢
  generalize sgn z z' = c4 at hk ⊢
  refine ⟨fun i u m st' => .list 1 .full 4 [.int .i64 c1, .int .i64 c2, .int .i64 c3, .int .i64 c4] = u ∧ m = 4 ∧ st = st' ∧ ((i = 0) ∨ (i = 1 ∧ c1 = 0) ∨ (i = 2 ∧ c1 = 0 ∧ c2 = 0) ∨ (i = 3 ∧ c1 = 0 ∧ c2 = 0 ∧ c3 = 0) ∨ (i = 4 ∧ c1 = 0 ∧ c2 = 0 ∧ c3 = 0 ∧ c4 = 0)), fun i _ _ _ => (4 - i).toNat,
    ⟨rfl, rfl, rfl, .inl rfl⟩, ?_⟩
  rintro i _ _ _ ⟨rfl, rfl, rfl, hi⟩
  rcases hi with rfl | ⟨rfl, q1⟩ | ⟨rfl, q1, q2⟩ | ⟨rfl, q1, q2, q3⟩ | ⟨rfl, q1, q2, q3, q4⟩
  · refine BIf_intro (fun _ => ⟨⟨by decide, by simp only [lenZ, Nat.beq_refl]; decide⟩, optK_intro rfl (decT_int (BIf_intro (fun g => ?_) fun g => ?_))⟩) fun g => absurd (by decide) g
    · rw [thenC_pos g] at hk; exact hk
    · exact ⟨⟨rfl, rfl, rfl, .inr (.inl ⟨by decide, Decidable.not_not.1 g⟩)⟩, by dsimp only; decide⟩
  · refine BIf_intro (fun _ => ⟨⟨by decide, by simp only [lenZ, Nat.beq_refl]; decide⟩, optK_intro rfl (decT_int (BIf_intro (fun g => ?_) fun g => ?_))⟩) fun g => absurd (by decide) g
    · rw [thenC_zero q1, thenC_pos g] at hk; exact hk
    · exact ⟨⟨rfl, rfl, rfl, .inr (.inr (.inl ⟨by decide, q1, Decidable.not_not.1 g⟩))⟩, by dsimp only; decide⟩
  · refine BIf_intro (fun _ => ⟨⟨by decide, by simp only [lenZ, Nat.beq_refl]; decide⟩, optK_intro rfl (decT_int (BIf_intro (fun g => ?_) fun g => ?_))⟩) fun g => absurd (by decide) g
    · rw [thenC_zero q1, thenC_zero q2, thenC_pos g] at hk; exact hk
    · exact ⟨⟨rfl, rfl, rfl, .inr (.inr (.inr (.inl ⟨by decide, q1, q2, Decidable.not_not.1 g⟩)))⟩, by dsimp only; decide⟩
  · refine BIf_intro (fun _ => ⟨⟨by decide, by simp only [lenZ, Nat.beq_refl]; decide⟩, optK_intro rfl (decT_int (BIf_intro (fun g => ?_) fun g => ?_))⟩) fun g => absurd (by decide) g
    · rw [thenC_zero q1, thenC_zero q2, thenC_zero q3] at hk; exact hk
    · exact ⟨⟨rfl, rfl, rfl, .inr (.inr (.inr (.inr ⟨by decide, q1, q2, q3, Decidable.not_not.1 g⟩)))⟩, by dsimp only; decide⟩
  · refine BIf_intro (fun g => absurd g (by decide)) fun _ => ?_
    rw [thenC_zero q1, thenC_zero q2, thenC_zero q3, q4] at hk; exact hk
end Go.TVF
end

section
namespace Go.TVF
open Go Go.Proofs
set_option linter.unusedVariables false
set_option linter.unusedSimpArgs false
/-- Lists, element by element, then by their lengths. -/
def cmpL {α : Type} (c : α → α → Int) : List α → List α → Int
  | [], [] => 0
  | [], _ :: _ => -1
  | _ :: _, [] => 1
  | a :: x, b :: y => thenC (c a b) (cmpL c x y)
def keyC (a b : Fd) : Int := lexC a.key b.key
def cmpN : Nat → Vl → Vl → Int
  | 0, _, _ => 0
  | n + 1, .mk s l f, .mk t m g =>
    if s.kind ≠ t.kind then sgn s.kind t.kind else if s.kind = 1 then (if s.b then 1 else 0) - (if t.b then 1 else 0)
    else if s.kind = 2 then decC s.neg s.dg s.ex t.neg t.dg t.ex else if s.kind = 3 then timC s.tk s.td s.tn s.tz t.tk t.td t.tn t.tz
    else if s.kind = 4 then lexC s.text t.text else if s.kind = 5 then lexC s.bytes t.bytes else if s.kind = 6 then cmpL (cmpN n) l m
    else if s.kind = 7 then thenC (cmpL keyC (sortFd f) (sortFd g)) (cmpL (fun a b => cmpN n a.val b.val) (sortFd f) (sortFd g)) else 0
theorem cmpL_end {α : Type} {c : α → α → Int} {l m : List α} {k : Nat} (h : k = l.length ∨ k = m.length) (hl : k ≤ l.length) (hm : k ≤ m.length) : cmpL c (l.drop k) (m.drop k) = sgn (l.length : Int) (m.length : Int) := by
  rcases h with rfl | rfl
  · rw [List.drop_length]
    by_cases e : l.length = m.length
    · rw [e, List.drop_length, sgn_self]; rfl
    · rw [List.drop_eq_getElem_cons (by omega)]
      unfold sgn; rw [if_pos (by omega)]; rfl
  · rw [List.drop_length]
    by_cases e : l.length = m.length
    · rw [← e, List.drop_length, sgn_self]; rfl
    · rw [List.drop_eq_getElem_cons (by omega)]
      unfold sgn; rw [if_neg (by omega), if_pos (by omega)]; rfl
theorem cmpL_step {α : Type} {c : α → α → Int} {l m : List α} {k : Nat} {x y : α} (hx : l[k]? = some x) (hy : m[k]? = some y) : cmpL c (l.drop k) (m.drop k) = thenC (c x y) (cmpL c (l.drop (k + 1)) (m.drop (k + 1))) := by
  rw [drop_get hx, drop_get hy]; rfl
/-- compare over values: what is handed in compares elements as c does. -/
theorem compareV_ok {c : Vl → Vl → Int} {st0 st : St} {u v one : TV} {l m : List Vl} {xl xm : List TV} (hke : Keeps st0 st) (hu : SlR st0 13 u l.length xl) (hl : VsR st0 l xl) (hv : SlR st0 13 v m.length xm) (hm : VsR st0 m xm)
    (hll : l.length ≤ 2000000) (hlm : m.length ≤ 2000000) (hone : ∀ (a b : Vl) (ca cb : List TV) (st1 : St) (K1 : Int → St → Prop), a ∈ l → b ∈ m → VlR st0 a ca → VlR st0 b cb → StExt st st1 → (∀ st2, StExt st1 st2 → K1 (c a b) st2) → callK PR one [.agg ca, .agg cb] [.one (.int .i64)] st1 K1)
    {K : Int → St → Prop} (hk : ∀ st', StExt st st' → K (cmpL c l m) st') : CallT PR fn_value_compare_api_Value_ [u, v, one] [.one (.int .i64)] st K := by
  refine vc_value_compare_api_Value_ _ _ _ st K ⟨fun i u1 v1 o1 st' => u = u1 ∧ v = v1 ∧ one = o1 ∧ ∃ k : Nat, i = k ∧ k ≤ l.length ∧ k ≤ m.length ∧ StExt st st' ∧ cmpL c l m = cmpL c (l.drop k) (m.drop k), fun i _ _ _ _ => (l.length - i).toNat,
    ⟨rfl, rfl, rfl, 0, rfl, Nat.zero_le _, Nat.zero_le _, StExt.refl _, rfl⟩, ?_⟩
  rintro _ _ _ _ st1 ⟨rfl, rfl, rfl, k, rfl, hkl, hkm, e1, hE⟩
  have hke1 := hke.trans e1.keeps
  refine need_intro hu.isSl ?_
  rw [hu.lenS, hv.lenS]
  refine BIf_intro (fun g => need_intro hv.isSl (BIf_intro (fun g2 => ?_) fun g2 => need_intro hu.isSl (need_intro hv.isSl (intC_ok ?_)))) fun g => need_intro hu.isSl (need_intro hv.isSl (intC_ok ?_))
  · refine el13 hke1 hu hl rfl (by omega) fun s1 l1 f1 ub1 ul1 uf1 gw hw on => el13 hke1 hv hm rfl (by omega) fun s2 l2 f2 ub2 ul2 uf2 gw2 hw2 on2 => ?_
    have hs := cmpL_step (c := c) gw gw2
    refine hone _ _ _ _ st1 _ (mem_of_get gw) (mem_of_get gw2) hw hw2 e1 fun st2 e2 => BIf_intro (fun g3 => ?_) fun g3 => ?_
    · rw [hs, thenC_pos g3] at hE
      have := hk st2 (e1.trans e2)
      rw [hE] at this; exact this
    · rw [hs, thenC_zero (Decidable.not_not.1 g3)] at hE
      rw [wrap64 _ (by omega) (by omega)]
      exact ⟨⟨rfl, rfl, rfl, k + 1, by omega, by omega, by omega, e1.trans e2, hE⟩, by dsimp only; omega⟩
  · have := hk st1 e1
    rw [hE, cmpL_end (.inr (by omega)) hkl hkm] at this; exact this
  · have := hk st1 e1
    rw [hE, cmpL_end (.inl (by omega)) hkl hkm] at this; exact this
theorem compareF_ok {c : Fd → Fd → Int} {st0 st : St} {u v one : TV} {l m : List Fd} {xl xm : List TV} (hke : Keeps st0 st) (hu : SlR st0 14 u l.length xl) (hl : FsR st0 l xl) (hv : SlR st0 14 v m.length xm) (hm : FsR st0 m xm)
    (hll : l.length ≤ 2000000) (hlm : m.length ≤ 2000000) (hone : ∀ (a b : Fd) (ca cb : List TV) (st1 : St) (K1 : Int → St → Prop), a ∈ l → b ∈ m → FdR st0 a ca → FdR st0 b cb → StExt st st1 → (∀ st2, StExt st1 st2 → K1 (c a b) st2) → callK PR one [.agg ca, .agg cb] [.one (.int .i64)] st1 K1)
    {K : Int → St → Prop} (hk : ∀ st', StExt st st' → K (cmpL c l m) st') : CallT PR fn_value_compare_api_Field_ [u, v, one] [.one (.int .i64)] st K := by
  refine vc_value_compare_api_Field_ _ _ _ st K ⟨fun i u1 v1 o1 st' => u = u1 ∧ v = v1 ∧ one = o1 ∧ ∃ k : Nat, i = k ∧ k ≤ l.length ∧ k ≤ m.length ∧ StExt st st' ∧ cmpL c l m = cmpL c (l.drop k) (m.drop k), fun i _ _ _ _ => (l.length - i).toNat,
    ⟨rfl, rfl, rfl, 0, rfl, Nat.zero_le _, Nat.zero_le _, StExt.refl _, rfl⟩, ?_⟩
  rintro _ _ _ _ st1 ⟨rfl, rfl, rfl, k, rfl, hkl, hkm, e1, hE⟩
  have hke1 := hke.trans e1.keeps
  refine need_intro hu.isSl ?_
  rw [hu.lenS, hv.lenS]
  refine BIf_intro (fun g => need_intro hv.isSl (BIf_intro (fun g2 => ?_) fun g2 => need_intro hu.isSl (need_intro hv.isSl (intC_ok ?_)))) fun g => need_intro hu.isSl (need_intro hv.isSl (intC_ok ?_))
  · refine el14 hke1 hu hl rfl (by omega) fun k1 s1 l1 f1 ub1 ul1 uf1 gw hw on => el14 hke1 hv hm rfl (by omega) fun k2 s2 l2 f2 ub2 ul2 uf2 gw2 hw2 on2 => ?_
    have hs := cmpL_step (c := c) gw gw2
    refine hone _ _ _ _ st1 _ (mem_of_get gw) (mem_of_get gw2) (by unfold FdR; exact ⟨_, rfl, hw⟩) (by unfold FdR; exact ⟨_, rfl, hw2⟩) e1 fun st2 e2 => BIf_intro (fun g3 => ?_) fun g3 => ?_
    · rw [hs, thenC_pos g3] at hE
      have := hk st2 (e1.trans e2)
      rw [hE] at this; exact this
    · rw [hs, thenC_zero (Decidable.not_not.1 g3)] at hE
      rw [wrap64 _ (by omega) (by omega)]
      exact ⟨⟨rfl, rfl, rfl, k + 1, by omega, by omega, by omega, e1.trans e2, hE⟩, by dsimp only; omega⟩
  · have := hk st1 e1
    rw [hE, cmpL_end (.inr (by omega)) hkl hkm] at this; exact this
  · have := hk st1 e1
    rw [hE, cmpL_end (.inl (by omega)) hkl hkm] at this; exact this
/-- The program's sorted fields, of distinct keys. -/
theorem psorted_ok {s : Sc} {l : List Vl} {f : List Fd} (hN : (Vl.mk s l f).sz ≤ 2000000) (hkn : KeysNd f) {st0 st : St} {ub ul uf : TV} {K : TV → St → Prop} (h : VlR st0 (.mk s l f) (cellsV s ub ul uf)) (hke : Keeps st0 st)
    (hk : ∀ v st' xl, StExt st st' → SlR st' 14 v (sortFd f).length xl → FsR st' (sortFd f) xl → K v st') : CallT PR fn_value_sorted [.agg (cellsV s ub ul uf)] [.one .tv] st K := by
  have hsz := szs s l f
  have hfl := fsSz_len f
  obtain ⟨ub', ul', uf', xl, xf, hcs, h1, h2, h3, h4, h5⟩ := h.cells
  simp only [cellsV, List.cons.injEq, and_true, true_and] at hcs
  obtain ⟨rfl, rfl, rfl⟩ := hcs
  obtain ⟨cks, rfl, hall⟩ := (FsR.keep hke h5).chunks
  refine sorted_okG (α := Fd) (g := id) (R := FdR st) (fun a c hr => hr) hall (s := s) (f := f) (by simp) rfl (h4.keep hke) (by omega) fun v st' la' cks' bs hp hs e ho hR hnd hlo => ?_
  rw [List.map_id] at hs
  have hE : la' = sortFd f := sorted_eq hkn hp hs
  subst hE
  exact hk v st' _ e ho.rd (FsR.keep e.keeps (FsR.of_chunks hR))
end Go.TVF
end

section
namespace Go.TVF
open Go Go.Proofs
set_option linter.unusedVariables false
set_option linter.unusedSimpArgs false
theorem Valids.mem : ∀ {l : List Vl} {v : Vl}, Valids l → v ∈ l → Valid v
  | [], v, _, h => by cases h
  | a :: r, v, hv, h => by
    unfold Valids at hv
    rcases List.mem_cons.1 h with rfl | h
    · exact hv.1
    · exact Valids.mem hv.2 h
theorem Validf.mem : ∀ {l : List Fd} {d : Fd}, Validf l → d ∈ l → Valid d.val
  | [], v, _, h => by cases h
  | a :: r, v, hv, h => by
    unfold Validf at hv
    rcases List.mem_cons.1 h with rfl | h
    · cases v; have := hv.1; unfold ValidD at this; exact this
    · exact Validf.mem hv.2 h
theorem sort_mem {f : List Fd} {d : Fd} (h : d ∈ sortFd f) : d ∈ f := (sortFd_perm f).mem_iff.1 h
theorem FdR.val {st : St} {d : Fd} {cs : List TV} (h : FdR st d cs) : ∃ c, cs = .str d.key :: c ∧ VlR st d.val c := by
  cases d; unfold FdR at h; exact h
theorem order_ok : ∀ (N : Nat) (v w : Vl), v.sz ≤ N → w.sz ≤ 2000000 → N ≤ 2000000 → Valid v → Valid w → ∀ {st0 st : St} {cs ds : List TV} {L : Int} {K : Int → St → Prop}, VlR st0 v cs → VlR st0 w ds → Keeps st0 st → (v.cnt : Int) ≤ L → L ≤ 100000000 →
    (∀ st', StExt st st' → K (cmpN N v w) st') → CallT PR fn_value_order [.agg cs, .agg ds, .int .i64 L] [.one (.int .i64)] st K := by
  intro N
  induction N with
  | zero => intro v w h; have := v.sz_pos; omega
  | succ N ih =>
  intro v w hN hW hN2 hV hV2 st0 st cs ds L K h h' hke hL hL2 hk
  cases v with
  | mk s l f =>
  cases w with
  | mk t m g =>
  have hsz := szs s l f
  have hll := vsSz_len l
  have hfl := fsSz_len f
  have hsz' := szs t m g
  have hll' := vsSz_len m
  have hfl' := fsSz_len g
  have hv0 := hV
  have hw0 := hV2
  unfold Valid at hV hV2
  have hpos := (Vl.mk s l f).cnt_pos
  have hcnt : (Vl.mk s l f).cnt = 1 + vsCnt l + fsCnt f := by unfold Vl.cnt; rfl
  have ha := h
  have hb := h'
  obtain ⟨ub, ul, uf, xl, xf, rfl, h1, h2, h3, h4, h5⟩ := h.cells
  obtain ⟨wb, wl, wf, yl, yf, rfl, k1, k2, k3, k4, k5⟩ := h'.cells
  unfold cmpN at hk
  obtain ⟨st1, hst1⟩ : ∃ st1, st1 = st.push (.cells [.int .i64 L]) (some 3) := ⟨_, rfl⟩
  have e1 : StExt st st1 := hst1 ▸ (StExt.refl st).push _ _
  have hb1 : st1.box st.nb = .cells [.int .i64 L] := by rw [hst1]; simp [St.push]
  have hn1 : st.nb < st1.nb := by rw [hst1]; simp [St.push]
  have hke1 := hke.trans e1.keeps
  have hld : ∀ st', StExt st1 st' → ldCell st' [] (.t (.box st.nb 0)) 0 = some (.int .i64 L) := fun st' e => by simp [ldCell, (e.box st.nb hn1).trans hb1]
  refine vc_value_order _ _ _ _ _ _ _ _ _ _ _ _ _ _ _ _ _ _ _ _ _ _ _ _ _ _ L st K ?_
  rw [← hst1]
  refine BIf_intro (fun e => intC_ok ?_) fun e => optK_intro (hld st1 (StExt.refl _)) (decT_int (BIf_intro (fun g => by omega) fun _ => ?_))
  · have := hk st1 e1
    rw [if_pos e] at this; exact this
  have hkd : s.kind = t.kind := Decidable.not_not.1 e
  rw [if_neg e] at hk
  refine BIf_intro (fun g1 => ?_) fun g1 => ?_
  · rw [if_pos g1] at hk
    refine flag_ok (flag_ok ?_)
    have := hk st1 e1
    rw [wrap64 _ (by cases s.b <;> cases t.b <;> decide) (by cases s.b <;> cases t.b <;> decide)]
    exact this
  rw [if_neg g1] at hk
  refine BIf_intro (fun g2 => ?_) fun g2 => ?_
  · rw [if_pos g2] at hk
    exact decCmp_ok hV.1.dec hV2.1.dec (hk st1 e1)
  rw [if_neg g2] at hk
  refine BIf_intro (fun g3 => ?_) fun g3 => ?_
  · rw [if_pos g3] at hk
    exact timeCmp_ok (hV.1.time g3) (hV2.1.time (by omega)) (hk st1 e1)
  rw [if_neg g3] at hk
  refine BIf_intro (fun g4 => ?_) fun g4 => ?_
  · rw [if_pos g4] at hk
    exact compare_ok (hk st1 e1)
  rw [if_neg g4] at hk
  refine BIf_intro (fun g5 => ?_) fun g5 => ?_
  · rw [if_pos g5] at hk
    exact bytesC_ok (h1.keep hke1) (k1.keep hke1) (by omega) (by omega) (hk st1 e1)
  rw [if_neg g5] at hk
  refine BIf_intro (fun g6 => ?_) fun g6 => ?_
  · rw [if_pos g6] at hk
    refine compareV_ok (c := cmpN N) hke1 h2 h3 k2 k3 (by omega) (by omega) (fun a b ca cb st2 K1 hma hmb hra hrb e2 hK1 => ?_) fun st2 e2 => hk st2 (e1.trans e2)
    obtain ⟨s1, l1, f1⟩ := a
    obtain ⟨s2, l2, f2⟩ := b
    have hsa := vsSz_mem hma
    have hsb := vsSz_mem hmb
    have hca : (Vl.mk s1 l1 f1).cnt ≤ vsCnt l := by
      obtain ⟨i, hi⟩ := List.getElem?_of_mem hma
      exact vsCnt_get hi
    have hra0 := hra
    have hrb0 := hrb
    obtain ⟨_, _, _, _, _, rfl, _⟩ := hra.cells
    obtain ⟨_, _, _, _, _, rfl, _⟩ := hrb.cells
    refine vc_value_order_1 _ _ _ _ _ _ _ _ _ _ _ _ _ _ _ _ _ _ _ _ _ _ _ _ _ _ _ st2 K1 (optK_intro (hld st2 e2) (decT_int ?_))
    rw [wrap64 _ (by omega) (by omega)]
    exact ih _ _ (by omega) (by omega) (by omega) (hV.2.1.mem hma) (hV2.2.1.mem hmb) hra0 hrb0 (hke1.trans e2.keeps) (by omega) (by omega) hK1
  rw [if_neg g6] at hk
  refine BIf_intro (fun g7 => ?_) fun g7 => ?_
  · rw [if_pos g7] at hk
    have kn1 := (keysE_nd _ _ hV.1.keys).1
    have kn2 := (keysE_nd _ _ hV2.1.keys).1
    have el1 := (sortFd_perm f).length_eq
    have el2 := (sortFd_perm g).length_eq
    refine psorted_ok (by omega) kn1 ha hke1 fun v1 st2 x1 e2 hs1 hr1 => ?_
    refine psorted_ok (by omega) kn2 hb (hke1.trans e2.keeps) fun v2 st3 x2 e3 hs2 hr2 => ?_
    have hs1' := hs1.keep e3.keeps
    have hr1' := FsR.keep e3.keeps hr1
    have e13 := (e1.trans e2).trans e3
    have e1_3 := e2.trans e3
    refine compareF_ok (c := keyC) (Keeps.refl st3) hs1' hr1' hs2 hr2 (by omega) (by omega) (fun a b ca cb st4 K1 hma hmb hra hrb e4 hK1 => ?_) fun st4 e4 => ?_
    · obtain ⟨ka, a⟩ := a
      obtain ⟨kb, b⟩ := b
      obtain ⟨s1, l1, f1⟩ := a
      obtain ⟨s2, l2, f2⟩ := b
      obtain ⟨ca', rfl, hra2⟩ := hra.val
      obtain ⟨cb', rfl, hrb2⟩ := hrb.val
      obtain ⟨_, _, _, _, _, rfl, _⟩ := (show VlR st3 (.mk s1 l1 f1) ca' from hra2).cells
      obtain ⟨_, _, _, _, _, rfl, _⟩ := (show VlR st3 (.mk s2 l2 f2) cb' from hrb2).cells
      exact vc_value_order_2 _ _ _ _ _ _ _ _ _ _ _ _ _ _ _ _ _ _ _ _ _ _ _ _ _ _ _ _ st4 K1 (compare_ok (hK1 st4 (StExt.refl _)))
    · refine BIf_intro (fun g8 => ?_) fun g8 => ?_
      · have := hk st4 (e13.trans e4)
        rw [thenC_pos g8] at this; exact this
      · rw [thenC_zero (Decidable.not_not.1 g8)] at hk
        refine compareF_ok (c := fun a b => cmpN N a.val b.val) e4.keeps hs1' hr1' hs2 hr2 (by omega) (by omega) (fun a b ca cb st5 K1 hma hmb hra hrb e5 hK1 => ?_) fun st5 e5 => hk st5 ((e13.trans e4).trans e5)
        have hma := sort_mem hma
        have hmb := sort_mem hmb
        have hsa := fsSz_mem hma
        have hsb := fsSz_mem hmb
        have hva := hV.2.2.mem hma
        have hvb := hV2.2.2.mem hmb
        have hca : a.cnt ≤ fsCnt f := by
          obtain ⟨i, hi⟩ := List.getElem?_of_mem hma
          exact fsCnt_get hi
        obtain ⟨ka, a⟩ := a
        obtain ⟨kb, b⟩ := b
        obtain ⟨s1, l1, f1⟩ := a
        obtain ⟨s2, l2, f2⟩ := b
        have hz1 := szd ka (.mk s1 l1 f1)
        have hz2 := szd kb (.mk s2 l2 f2)
        have hc1 : (Fd.mk ka (.mk s1 l1 f1)).cnt = (Vl.mk s1 l1 f1).cnt := by unfold Fd.cnt; rfl
        obtain ⟨ca', rfl, hra2⟩ := hra.val
        obtain ⟨cb', rfl, hrb2⟩ := hrb.val
        have hra0 : VlR st3 (.mk s1 l1 f1) ca' := hra2
        have hrb0 : VlR st3 (.mk s2 l2 f2) cb' := hrb2
        obtain ⟨_, _, _, _, _, rfl, _⟩ := hra0.cells
        obtain ⟨_, _, _, _, _, rfl, _⟩ := hrb0.cells
        refine vc_value_order_3 _ _ _ _ _ _ _ _ _ _ _ _ _ _ _ _ _ _ _ _ _ _ _ _ _ _ _ _ _ st5 K1 (optK_intro (hld st5 ((e1_3.trans e4).trans e5)) (decT_int ?_))
        rw [wrap64 _ (by omega) (by omega)]
        exact ih (.mk s1 l1 f1) (.mk s2 l2 f2) (by omega) (by omega) (by omega) hva hvb hra0 hrb0 (e4.trans e5).keeps (by omega) (by omega) hK1
  · rw [if_neg g7] at hk
    exact hk st1 e1
theorem Cmp_ok {v w : Vl} (hN : v.sz ≤ 2000000) (hW : w.sz ≤ 2000000) (hV : Valid v) (hV2 : Valid w) (hC : v.cnt ≤ 65536) {st0 st : St} {cs ds : List TV} {K : Int → St → Prop} (h : VlR st0 v cs) (h' : VlR st0 w ds) (hke : Keeps st0 st) (hk : ∀ st', StExt st st' → K (cmpN 2000000 v w) st') :
    CallT PR fn_value_Cmp [.agg cs, .agg ds] [.one (.int .i64)] st K := by
  have ha := h
  have hb := h'
  cases v; cases w
  obtain ⟨_, _, _, _, _, rfl, _⟩ := h.cells
  obtain ⟨_, _, _, _, _, rfl, _⟩ := h'.cells
  exact vc_value_Cmp _ _ _ _ _ _ _ _ _ _ _ _ _ _ _ _ _ _ _ _ _ _ _ _ _ _ st K (order_ok 2000000 _ _ hN hW (by omega) hV hV2 ha hb hke (by omega) (by omega) hk)
theorem rCmp_ok : ∀ (N : Nat) (v w : Vl), v.sz ≤ N → w.sz ≤ 2000000 → N ≤ 2000000 → Valid v → Valid w → ∀ {st0 st : St} {cs ds : List TV} {K : Int → St → Prop}, VlR st0 v cs → VlR st0 w ds → Keeps st0 st →
    (∀ st', StExt st st' → K (cmpN N v w) st') → CallT PR fn_datakitref07_Cmp [.agg cs, .agg ds] [.one (.int .i64)] st K := by
  intro N
  induction N with
  | zero => intro v w h; have := v.sz_pos; omega
  | succ N ih =>
  intro v w hN hW hN2 hV hV2 st0 st cs ds K h h' hke hk
  cases v with
  | mk s l f =>
  cases w with
  | mk t m g =>
  have hsz := szs s l f
  have hll := vsSz_len l
  have hfl := fsSz_len f
  have hsz' := szs t m g
  have hll' := vsSz_len m
  have hfl' := fsSz_len g
  unfold Valid at hV hV2
  obtain ⟨ub, ul, uf, xl, xf, rfl, h1, h2, h3, h4, h5⟩ := h.cells
  obtain ⟨wb, wl, wf, yl, yf, rfl, k1, k2, k3, k4, k5⟩ := h'.cells
  unfold cmpN at hk
  have e0 := StExt.refl st
  have ks := hV.1.own
  have kt := hV2.1.own
  refine vc_datakitref07_Cmp _ _ _ _ _ _ _ _ _ _ _ _ _ _ _ _ _ _ _ _ _ _ _ _ _ _ st K ?_
  have kk1 := ks.k0
  have kk2 := ks.k7
  have kk3 := kt.k0
  have kk4 := kt.k7
  refine BIf_intro (fun e => ?_) fun e => ?_
  · rw [if_pos e] at hk
    exact sign_ok (wrap64 _ (by omega) (by omega)) (hk st e0)
  have hkd : s.kind = t.kind := Decidable.not_not.1 e
  rw [if_neg e] at hk
  refine BIf_intro (fun g1 => ?_) fun g1 => ?_
  · rw [if_pos g1] at hk
    refine rflag_ok (rflag_ok ?_)
    rw [wrap64 _ (by cases s.b <;> cases t.b <;> decide) (by cases s.b <;> cases t.b <;> decide)]
    exact hk st e0
  rw [if_neg g1] at hk
  refine BIf_intro (fun g2 => ?_) fun g2 => ?_
  · rw [if_pos g2] at hk
    exact rDecC_ok hV.1.dec hV2.1.dec hk
  rw [if_neg g2] at hk
  refine BIf_intro (fun g3 => ?_) fun g3 => ?_
  · rw [if_pos g3] at hk
    exact rTimC_ok (hV.1.time g3) (hV2.1.time (by omega)) (hk st e0)
  rw [if_neg g3] at hk
  refine BIf_intro (fun g4 => ?_) fun g4 => ?_
  · rw [if_pos g4] at hk
    exact rtext_ok (hk st e0)
  rw [if_neg g4] at hk
  refine BIf_intro (fun g5 => ?_) fun g5 => ?_
  · rw [if_pos g5] at hk
    exact optK_intro (x := TV.str s.bytes) (by rw [(h1.keep hke).toBytes]; rfl) (decT_str (optK_intro (x := TV.str t.bytes) (by rw [(k1.keep hke).toBytes]; rfl) (decT_str (rtext_ok (hk st e0)))))
  rw [if_neg g5] at hk
  refine BIf_intro (fun g6 => ?_) fun g6 => ?_
  · rw [if_pos g6] at hk
    refine vc_datakitref07_lists _ _ st _ ⟨fun i u1 v1 st' => ul = u1 ∧ wl = v1 ∧ ∃ k : Nat, i = k ∧ k ≤ l.length ∧ k ≤ m.length ∧ StExt st st' ∧ cmpL (cmpN N) l m = cmpL (cmpN N) (l.drop k) (m.drop k), fun i _ _ _ => (l.length - i).toNat,
      ⟨rfl, rfl, 0, rfl, Nat.zero_le _, Nat.zero_le _, StExt.refl _, rfl⟩, ?_⟩
    rintro _ _ _ st1 ⟨rfl, rfl, k, rfl, hkl, hkm, e1, hE⟩
    have hke1 := hke.trans e1.keeps
    refine need_intro h2.isSl ?_
    rw [h2.lenS, k2.lenS]
    refine BIf_intro (fun q => need_intro k2.isSl (BIf_intro (fun q2 => ?_) fun q2 => need_intro h2.isSl (need_intro k2.isSl (sign_ok (wrap64 _ (by omega) (by omega)) ?_)))) fun q => need_intro h2.isSl (need_intro k2.isSl (sign_ok (wrap64 _ (by omega) (by omega)) ?_))
    · refine el13 hke1 h2 h3 rfl (by omega) fun s1 l1 f1 ub1 ul1 uf1 gw hw on => el13 hke1 k2 k3 rfl (by omega) fun s2 l2 f2 ub2 ul2 uf2 gw2 hw2 on2 => ?_
      have hs := cmpL_step (c := cmpN N) gw gw2
      have hz1 := vsSz_get gw
      have hz2 := vsSz_get gw2
      refine ih _ _ (by omega) (by omega) (by omega) (hV.2.1.mem (mem_of_get gw)) (hV2.2.1.mem (mem_of_get gw2)) hw hw2 hke1 fun st2 e2 => BIf_intro (fun g3 => ?_) fun g3 => ?_
      · rw [hs, thenC_pos g3] at hE
        have := hk st2 (e1.trans e2)
        rw [hE] at this; exact this
      · rw [hs, thenC_zero (Decidable.not_not.1 g3)] at hE
        rw [wrap64 _ (by omega) (by omega)]
        exact ⟨⟨rfl, rfl, k + 1, by omega, by omega, by omega, e1.trans e2, hE⟩, by dsimp only; omega⟩
    · have := hk st1 e1
      rw [hE, cmpL_end (.inr (by omega)) hkl hkm] at this; exact this
    · have := hk st1 e1
      rw [hE, cmpL_end (.inl (by omega)) hkl hkm] at this; exact this
  rw [if_neg g6] at hk
  refine BIf_intro (fun g7 => ?_) fun g7 => ?_
  · rw [if_pos g7] at hk
    have el1 := (sortFd_perm f).length_eq
    have el2 := (sortFd_perm g).length_eq
    refine vc_datakitref07_maps _ _ st _ (fields_ok e0 (h4.keep hke) (FsR.keep hke h5) (by omega) fun v1 st1 ck1 e1 ho1 hR1 => fields_ok e1 (k4.keep hke) (FsR.keep hke k5) (by omega) fun v2 st2 ck2 e2 ho2 hR2 => ?_)
    have hr1 := FsR.of_chunks hR1
    have hr2 := FsR.of_chunks hR2
    have hs1 : SlR st 14 v1 (sortFd f).length ck1.flatten := .of_rd ho1.rd
    have hs2 : SlR st 14 v2 (sortFd g).length ck2.flatten := .of_rd ho2.rd
    refine ⟨fun x y st' => v1 = x ∧ v2 = y ∧ StExt st st' ∧ cmpL keyC (sortFd f) (sortFd g) = sgn ((sortFd f).length : Int) ((sortFd g).length : Int), ?_, ?_⟩
    · refine ⟨fun i x y st' => v1 = x ∧ v2 = y ∧ ∃ k : Nat, i = k ∧ k ≤ (sortFd f).length ∧ k ≤ (sortFd g).length ∧ StExt st st' ∧ cmpL keyC (sortFd f) (sortFd g) = cmpL keyC ((sortFd f).drop k) ((sortFd g).drop k), fun i _ _ _ => ((sortFd f).length - i).toNat,
        ⟨rfl, rfl, 0, rfl, Nat.zero_le _, Nat.zero_le _, e2, rfl⟩, ?_⟩
      rintro _ _ _ st3 ⟨rfl, rfl, k, rfl, hkl, hkm, e3, hE⟩
      refine ⟨fun x y i st' => v1 = x ∧ v2 = y ∧ i = (k : Int) ∧ st3 = st' ∧ k < (sortFd f).length ∧ k < (sortFd g).length, ?_, ?_⟩
      · refine need_intro hs1.isSl ?_
        rw [hs1.lenS, hs2.lenS]
        refine BIf_intro (fun q => need_intro hs2.isSl (BIf_intro (fun q2 => ?_) fun q2 => ?_)) fun q => ?_
        · exact ⟨rfl, rfl, rfl, rfl, by omega, by omega⟩
        · exact ⟨rfl, rfl, e3, by rw [hE, cmpL_end (.inr (by omega)) hkl hkm]⟩
        · exact ⟨rfl, rfl, e3, by rw [hE, cmpL_end (.inl (by omega)) hkl hkm]⟩
      · rintro _ _ _ _ ⟨rfl, rfl, rfl, rfl, q1, q2⟩
        have gd : (sortFd f)[k]? = some (sortFd f)[k] := List.getElem?_eq_getElem q1
        have gd2 : (sortFd g)[k]? = some (sortFd g)[k] := List.getElem?_eq_getElem q2
        generalize (sortFd f)[k] = d at gd
        generalize (sortFd g)[k] = d2 at gd2
        have hs := cmpL_step (c := keyC) gd gd2
        refine key14 e3.keeps hs1 hr1 rfl gd (key14 e3.keeps hs2 hr2 rfl gd2 (rtext_ok (BIf_intro (fun g8 => ?_) fun g8 => ?_)))
        · rw [hs, thenC_pos (show keyC d d2 ≠ 0 from g8)] at hE
          have := hk st3 e3
          rw [hE, thenC_pos (show keyC d d2 ≠ 0 from g8)] at this; exact this
        · rw [hs, thenC_zero (show keyC d d2 = 0 from Decidable.not_not.1 g8)] at hE
          rw [wrap64 _ (by omega) (by omega)]
          exact ⟨⟨rfl, rfl, k + 1, by omega, by omega, by omega, e3, hE⟩, by dsimp only; omega⟩
    · rintro _ _ st3 ⟨rfl, rfl, e3, hE⟩
      refine need_intro hs1.isSl (need_intro hs2.isSl ?_)
      rw [hs1.lenS, hs2.lenS]
      refine BIf_intro (fun q => need_intro hs1.isSl (need_intro hs2.isSl (sign_ok (wrap64 _ (by omega) (by omega)) ?_))) fun q => ?_
      · have hne : sgn ((sortFd f).length : Int) ((sortFd g).length : Int) ≠ 0 := by unfold sgn; split <;> (try split) <;> omega
        have := hk st3 e3
        rw [hE, thenC_pos hne] at this; exact this
      · have hlen : (sortFd f).length = (sortFd g).length := by omega
        rw [hE, thenC_zero (by rw [hlen, sgn_self])] at hk
        refine ⟨fun i x y st' => v1 = x ∧ v2 = y ∧ ∃ k : Nat, i = k ∧ k ≤ (sortFd f).length ∧ StExt st st' ∧ cmpL (fun a b => cmpN N a.val b.val) (sortFd f) (sortFd g) = cmpL (fun a b => cmpN N a.val b.val) ((sortFd f).drop k) ((sortFd g).drop k), fun i _ _ _ => ((sortFd f).length - i).toNat,
          ⟨rfl, rfl, 0, rfl, Nat.zero_le _, e3, rfl⟩, ?_⟩
        rintro _ _ _ st4 ⟨rfl, rfl, k, rfl, hkl, e4, hF⟩
        refine need_intro hs1.isSl ?_
        rw [hs1.lenS]
        refine BIf_intro (fun q2 => ?_) fun q2 => ?_
        · refine val14 e4.keeps hs1 hr1 rfl (by omega) fun ka s1 l1 f1 ub1 ul1 uf1 gw hw on => val14 e4.keeps hs2 hr2 rfl (by omega) fun kb s2 l2 f2 ub2 ul2 uf2 gw2 hw2 on2 => ?_
          have hs : cmpL (fun a b => cmpN N a.val b.val) ((sortFd f).drop k) ((sortFd g).drop k) = thenC (cmpN N (.mk s1 l1 f1) (.mk s2 l2 f2)) (cmpL (fun a b => cmpN N a.val b.val) ((sortFd f).drop (k + 1)) ((sortFd g).drop (k + 1))) := cmpL_step (c := fun a b : Fd => cmpN N a.val b.val) gw gw2
          have hma := sort_mem (mem_of_get gw)
          have hmb := sort_mem (mem_of_get gw2)
          have hz1 := fsSz_mem hma
          have hz2 := fsSz_mem hmb
          have hd1 := szd ka (.mk s1 l1 f1)
          have hd2 := szd kb (.mk s2 l2 f2)
          refine ih (.mk s1 l1 f1) (.mk s2 l2 f2) (by omega) (by omega) (by omega) (hV.2.2.mem hma) (hV2.2.2.mem hmb) hw hw2 e4.keeps fun st5 e5 => BIf_intro (fun g8 => ?_) fun g8 => ?_
          · rw [hs, thenC_pos g8] at hF
            have := hk st5 (e4.trans e5)
            rw [hF] at this; exact this
          · rw [hs, thenC_zero (Decidable.not_not.1 g8)] at hF
            rw [wrap64 _ (by omega) (by omega)]
            exact ⟨⟨rfl, rfl, k + 1, by omega, by omega, e4.trans e5, hF⟩, by dsimp only; omega⟩
        · have hkk : k = (sortFd f).length := by omega
          have := hk st4 e4
          rw [hF, cmpL_end (.inl hkk) hkl (by omega), hlen, sgn_self] at this; exact this
  · rw [if_neg g7] at hk
    exact hk st e0
end Go.TVF
end

section
namespace Go.TVF
open Go Go.Proofs
set_option linter.unusedVariables false
set_option linter.unusedSimpArgs false
theorem bytesE_ok {a b : List UInt8} {u v : TV} {st : St} {K : Bool → St → Prop} (ha : SlR st 1 u a.length (bytesT a)) (hb : SlR st 1 v b.length (bytesT b)) (hl : a.length ≤ 2000000) (hm : b.length ≤ 2000000) (hk : ∀ r, (r = true ↔ a = b) → K r st) :
    CallT PR fn_slices_Equal___byte_byte_ [u, v] [.one .bool] st K := by
  have no : a ≠ b → K false st := fun hne => hk false ⟨fun h => (by cases h), fun h => absurd h hne⟩
  refine vc_slices_Equal___byte_byte_ _ _ st K (need_intro ha.isSl (need_intro hb.isSl ?_))
  rw [ha.lenS, hb.lenS]
  refine BIf_intro (fun e => no fun h => e (by rw [h])) fun e => need_intro ha.isSl ⟨fun i u1 v1 n st' => u = u1 ∧ v = v1 ∧ n = (a.length : Int) ∧ st = st' ∧ ∃ k : Nat, i = k ∧ k ≤ a.length ∧ a.take k = b.take k, fun i _ _ _ _ => (a.length - i).toNat,
    ⟨rfl, rfl, rfl, rfl, 0, rfl, Nat.zero_le _, rfl⟩, ?_⟩
  have el : a.length = b.length := by omega
  rintro _ _ _ _ _ ⟨rfl, rfl, rfl, rfl, k, rfl, hka, hE⟩
  refine BIf_intro (fun g => ?_) fun g => ?_
  · rw [ha.lenZ, hb.lenZ, Int.toNat_natCast]
    refine ⟨⟨by omega, by omega⟩, optK_intro (ha.ldb (by omega)) (decT_int ⟨⟨by omega, by omega⟩, optK_intro (hb.ldb (by omega)) (decT_int (BIf_intro (fun g3 => no fun h => ?_) fun g3 => ?_))⟩)⟩
    · subst h; exact g3 rfl
    · rw [wrap64 _ (by omega) (by omega)]
      refine ⟨⟨rfl, rfl, rfl, rfl, k + 1, by omega, by omega, ?_⟩, by dsimp only; omega⟩
      refine take_eq_snoc hE (List.getElem?_eq_getElem (by omega)) (List.getElem?_eq_getElem (by omega)) ?_
      have := Decidable.not_not.1 g3
      exact UInt8.toNat.inj (by omega)
  · have hkk : k = a.length := by omega
    rw [hkk, List.take_length, el, List.take_length] at hE
    exact hk true ⟨fun _ => hE, fun _ => rfl⟩
/-- slices.EqualFunc over values: what is handed in tells whether g agrees. -/
theorem equalV_ok {γ : Type} {g : Vl → γ} {st0 st : St} {u v one : TV} {l m : List Vl} {xl xm : List TV} (hke : Keeps st0 st) (hu : SlR st0 13 u l.length xl) (hl : VsR st0 l xl) (hv : SlR st0 13 v m.length xm) (hm : VsR st0 m xm)
    (hll : l.length ≤ 2000000) (hlm : m.length ≤ 2000000) (hone : ∀ (a b : Vl) (ca cb : List TV) (st1 : St) (K1 : Bool → St → Prop), a ∈ l → b ∈ m → VlR st0 a ca → VlR st0 b cb → StExt st st1 → (∀ r st2, StExt st1 st2 → (r = true ↔ g a = g b) → K1 r st2) → callK PR one [.agg ca, .agg cb] [.one .bool] st1 K1)
    {K : Bool → St → Prop} (hk : ∀ r st', StExt st st' → (r = true ↔ l.map g = m.map g) → K r st') : CallT PR fn_slices_EqualFunc___api_Value___api_Value_api_Value_api_Value_ [u, v, one] [.one .bool] st K := by
  have no : ∀ st', StExt st st' → l.map g ≠ m.map g → K false st' := fun st' e hne => hk false st' e ⟨fun h => (by cases h), fun h => absurd h hne⟩
  refine vc_slices_EqualFunc___api_Value___api_Value_api_Value_api_Value_ _ _ _ st K (need_intro hu.isSl (need_intro hv.isSl ?_))
  rw [hu.lenS, hv.lenS]
  refine BIf_intro (fun e => no st (StExt.refl _) fun h => e (by have := congrArg List.length h; simp only [List.length_map] at this; rw [this])) fun e => need_intro hu.isSl ⟨fun i v1 o1 u1 n st' => v = v1 ∧ one = o1 ∧ u = u1 ∧ n = (l.length : Int) ∧ ∃ k : Nat, i = k ∧ k ≤ l.length ∧ StExt st st' ∧ (l.map g).take k = (m.map g).take k, fun i _ _ _ _ _ => (l.length - i).toNat,
    ⟨rfl, rfl, rfl, rfl, 0, rfl, Nat.zero_le _, StExt.refl _, rfl⟩, ?_⟩
  have el : l.length = m.length := by omega
  rintro _ _ _ _ _ st1 ⟨rfl, rfl, rfl, rfl, k, rfl, hkl, e1, hE⟩
  have hke1 := hke.trans e1.keeps
  refine BIf_intro (fun q => ?_) fun q => ?_
  · refine el13 hke1 hu hl rfl (by omega) fun s1 l1 f1 ub1 ul1 uf1 gw hw on => need_intro on (el13 hke1 hv hm rfl (by omega) fun s2 l2 f2 ub2 ul2 uf2 gw2 hw2 on2 => need_intro on2 ?_)
    refine hone _ _ _ _ st1 _ (mem_of_get gw) (mem_of_get gw2) hw hw2 e1 fun r st2 e2 hr => BIf_bool (fun hb => no st2 (e1.trans e2) fun h => ?_) fun hb => ?_
    · have h1 := congrArg (fun z => z[k]?) h
      simp only [List.getElem?_map, gw, gw2, Option.map_some, Option.some.injEq] at h1
      rw [hr.2 h1] at hb; cases hb
    · rw [wrap64 _ (by omega) (by omega)]
      refine ⟨⟨rfl, rfl, rfl, rfl, k + 1, by omega, by omega, e1.trans e2, ?_⟩, by dsimp only; omega⟩
      exact take_eq_snoc hE (by rw [List.getElem?_map, gw]; rfl) (by rw [List.getElem?_map, gw2]; rfl) (hr.1 (by simpa using hb))
  · refine hk true st1 e1 ⟨fun _ => ?_, fun _ => rfl⟩
    have : k = l.length := by omega
    rw [List.take_of_length_le (by simp; omega), List.take_of_length_le (by simp; omega)] at hE
    exact hE
theorem equalF_ok {γ : Type} {g : Fd → γ} {st0 st : St} {u v one : TV} {l m : List Fd} {xl xm : List TV} (hke : Keeps st0 st) (hu : SlR st0 14 u l.length xl) (hl : FsR st0 l xl) (hv : SlR st0 14 v m.length xm) (hm : FsR st0 m xm)
    (hll : l.length ≤ 2000000) (hlm : m.length ≤ 2000000) (hone : ∀ (a b : Fd) (ca cb : List TV) (st1 : St) (K1 : Bool → St → Prop), a ∈ l → b ∈ m → FdR st0 a ca → FdR st0 b cb → StExt st st1 → (∀ r st2, StExt st1 st2 → (r = true ↔ g a = g b) → K1 r st2) → callK PR one [.agg ca, .agg cb] [.one .bool] st1 K1)
    {K : Bool → St → Prop} (hk : ∀ r st', StExt st st' → (r = true ↔ l.map g = m.map g) → K r st') : CallT PR fn_slices_EqualFunc___api_Field___api_Field_api_Field_api_Field_ [u, v, one] [.one .bool] st K := by
  have no : ∀ st', StExt st st' → l.map g ≠ m.map g → K false st' := fun st' e hne => hk false st' e ⟨fun h => (by cases h), fun h => absurd h hne⟩
  refine vc_slices_EqualFunc___api_Field___api_Field_api_Field_api_Field_ _ _ _ st K (need_intro hu.isSl (need_intro hv.isSl ?_))
  rw [hu.lenS, hv.lenS]
  refine BIf_intro (fun e => no st (StExt.refl _) fun h => e (by have := congrArg List.length h; simp only [List.length_map] at this; rw [this])) fun e => need_intro hu.isSl ⟨fun i v1 o1 u1 n st' => v = v1 ∧ one = o1 ∧ u = u1 ∧ n = (l.length : Int) ∧ ∃ k : Nat, i = k ∧ k ≤ l.length ∧ StExt st st' ∧ (l.map g).take k = (m.map g).take k, fun i _ _ _ _ _ => (l.length - i).toNat,
    ⟨rfl, rfl, rfl, rfl, 0, rfl, Nat.zero_le _, StExt.refl _, rfl⟩, ?_⟩
  have el : l.length = m.length := by omega
  rintro _ _ _ _ _ st1 ⟨rfl, rfl, rfl, rfl, k, rfl, hkl, e1, hE⟩
  have hke1 := hke.trans e1.keeps
  refine BIf_intro (fun q => ?_) fun q => ?_
  · refine el14 hke1 hu hl rfl (by omega) fun k1 s1 l1 f1 ub1 ul1 uf1 gw hw on => need_intro on (el14 hke1 hv hm rfl (by omega) fun k2 s2 l2 f2 ub2 ul2 uf2 gw2 hw2 on2 => need_intro on2 ?_)
    refine hone _ _ _ _ st1 _ (mem_of_get gw) (mem_of_get gw2) (by unfold FdR; exact ⟨_, rfl, hw⟩) (by unfold FdR; exact ⟨_, rfl, hw2⟩) e1 fun r st2 e2 hr => BIf_bool (fun hb => no st2 (e1.trans e2) fun h => ?_) fun hb => ?_
    · have h1 := congrArg (fun z => z[k]?) h
      simp only [List.getElem?_map, gw, gw2, Option.map_some, Option.some.injEq] at h1
      rw [hr.2 h1] at hb; cases hb
    · rw [wrap64 _ (by omega) (by omega)]
      refine ⟨⟨rfl, rfl, rfl, rfl, k + 1, by omega, by omega, e1.trans e2, ?_⟩, by dsimp only; omega⟩
      exact take_eq_snoc hE (by rw [List.getElem?_map, gw]; rfl) (by rw [List.getElem?_map, gw2]; rfl) (hr.1 (by simpa using hb))
  · refine hk true st1 e1 ⟨fun _ => ?_, fun _ => rfl⟩
    have : k = l.length := by omega
    rw [List.take_of_length_le (by simp; omega), List.take_of_length_le (by simp; omega)] at hE
    exact hE
/-- How two values are looked at: as they are, or with sorted fields. -/
def nrm (ex : Bool) (v : Vl) : Vl := if ex then v else sortV v
def nrmD (ex : Bool) : Fd → List UInt8 × Vl
  | .mk k v => (k, nrm ex v)
def flds (ex : Bool) (f : List Fd) : List Fd := if ex then f else sortFd f
theorem nrmD_id (f : List Fd) : ∀ g : List Fd, f.map (nrmD true) = g.map (nrmD true) → f = g := by
  induction f with
  | nil => intro g h; cases g with | nil => rfl | cons b g => simp at h
  | cons a f ih =>
    intro g h
    cases g with
    | nil => simp at h
    | cons b g =>
      simp only [List.map_cons, List.cons.injEq] at h
      rw [ih g h.2]
      cases a; cases b
      have := h.1
      simp only [nrmD, nrm, if_true, Prod.mk.injEq] at this
      rw [this.1, this.2]
theorem nrmD_sort (f : List Fd) : ∀ g : List Fd, f.map (nrmD false) = g.map (nrmD false) ↔ f.map sortD = g.map sortD := by
  induction f with
  | nil => intro g; cases g <;> simp
  | cons a f ih =>
    intro g
    cases g with
    | nil => simp
    | cons b g =>
      simp only [List.map_cons, List.cons.injEq, ih g]
      cases a; cases b
      simp [nrmD, nrm, sortD]
theorem nrm_mk (ex : Bool) (s t : Sc) (l m : List Vl) (f g : List Fd) : nrm ex (.mk s l f) = nrm ex (.mk t m g) ↔ s = t ∧ l.map (nrm ex) = m.map (nrm ex) ∧ (flds ex f).map (nrmD ex) = (flds ex g).map (nrmD ex) := by
  cases ex
  · have e1 : nrm false = sortV := funext fun v => rfl
    rw [e1]
    unfold sortV
    rw [sortVs_map, sortVs_map, sortFs_map, sortFs_map, sortFd_map sortD_key, sortFd_map sortD_key]
    simp only [flds, Bool.false_eq_true, if_false, nrmD_sort, Vl.mk.injEq]
  · have e1 : nrm true = id := funext fun v => rfl
    rw [e1]
    simp only [flds, if_true, List.map_id, id]
    constructor
    · intro h; simp only [Vl.mk.injEq] at h; obtain ⟨rfl, rfl, rfl⟩ := h; exact ⟨rfl, rfl, rfl⟩
    · rintro ⟨rfl, rfl, h⟩; rw [nrmD_id _ _ h]
theorem stB_new {st : St} {o : AObj} {T : Option Nat} {x y : TV} {k : St → Prop} (ho : o = .cells [x]) (hk : ∀ st', StExt st st' → st'.box st.nb = .cells [y] → st.nb < st'.nb → k st') : stB (st.push o T) (.box st.nb 0) [y] k := by
  subst ho
  refine ⟨[x], by simp [St.push], by simp, ?_⟩
  refine hk _ (((StExt.refl st).push _ _).put (Nat.le_refl _) _) (by simp [St.put, setAll]) (by simp [St.put, St.push])
/-- same. -/
theorem psame_ok (ex : Bool) : ∀ (N : Nat) (v w : Vl), v.sz ≤ N → w.sz ≤ 2000000 → N ≤ 2000000 → (ex = false → KNd v ∧ KNd w) → ∀ {st0 st : St} {cs ds : List TV} {L : Int} {K : Bool → St → Prop}, VlR st0 v cs → VlR st0 w ds → Keeps st0 st → (v.cnt : Int) ≤ L → L ≤ 100000000 →
    (∀ r st', StExt st st' → (r = true ↔ nrm ex v = nrm ex w) → K r st') → CallT PR fn_value_same [.agg cs, .agg ds, .bool ex, .int .i64 L] [.one .bool] st K := by
  intro N
  induction N with
  | zero => intro v w h; have := v.sz_pos; omega
  | succ N ih =>
  intro v w hN hW hN2 hV st0 st cs ds L K h h' hke hL hL2 hk
  cases v with
  | mk s l f =>
  cases w with
  | mk t m g =>
  have hsz := szs s l f
  have hll := vsSz_len l
  have hfl := fsSz_len f
  have hsz' := szs t m g
  have hll' := vsSz_len m
  have hfl' := fsSz_len g
  have hpos := (Vl.mk s l f).cnt_pos
  have hcnt : (Vl.mk s l f).cnt = 1 + vsCnt l + fsCnt f := by unfold Vl.cnt; rfl
  have ha := h
  have hb := h'
  obtain ⟨ub, ul, uf, xl, xf, rfl, h1, h2, h3, h4, h5⟩ := h.cells
  obtain ⟨wb, wl, wf, yl, yf, rfl, k1, k2, k3, k4, k5⟩ := h'.cells
  rw [nrm_mk] at hk
  obtain ⟨st1, hst1⟩ : ∃ st1, st1 = (st.push (.cells [.bool ex]) (some 4)).push (.cells [.int .i64 L]) (some 3) := ⟨_, rfl⟩
  have e1 : StExt st st1 := hst1 ▸ ((StExt.refl st).push _ _).push _ _
  have hb1 : st1.box st.nb = .cells [.bool ex] := by rw [hst1]; simp [St.push]
  have hb2 : st1.box (st.nb + 1) = .cells [.int .i64 L] := by rw [hst1]; simp [St.push]
  have hn1 : st.nb + 1 < st1.nb := by rw [hst1]; simp [St.push]
  have hke1 := hke.trans e1.keeps
  have hldx : ∀ st', StExt st1 st' → ldCell st' [] (.t (.box st.nb 0)) 0 = some (.bool ex) := fun st' e => by simp [ldCell, (e.box st.nb (by omega)).trans hb1]
  have hldl : ∀ st', StExt st1 st' → ldCell st' [] (.t (.box (st.nb + 1) 0)) 0 = some (.int .i64 L) := fun st' e => by simp [ldCell, (e.box (st.nb + 1) hn1).trans hb2]
  have no : ∀ st', StExt st1 st' → ¬ (s = t ∧ l.map (nrm ex) = m.map (nrm ex) ∧ (flds ex f).map (nrmD ex) = (flds ex g).map (nrmD ex)) → K false st' := fun st' e hne => hk false st' (e1.trans e) ⟨fun h => (by cases h), fun h => absurd h hne⟩
  refine vc_value_same _ _ _ _ _ _ _ _ _ _ _ _ _ _ _ _ _ _ _ _ _ _ _ _ _ _ ex L st K ?_
  rw [show (st.push (.cells [.bool ex]) (some 4)).nb = st.nb + 1 from rfl, ← hst1]
  have r1 := StExt.refl st1
  refine BIf_intro (fun e => no st1 r1 fun h => e (by rw [h.1])) fun q1 => BIf_bool (fun e => no st1 r1 fun h => ?_) fun q2 => BIf_bool (fun e => no st1 r1 fun h => ?_) fun q3 => BIf_bool (fun e => no st1 r1 fun h => ?_) fun q4 => BIf_intro (fun e => no st1 r1 fun h => e (by rw [h.1])) fun q5 => ?_
  · rw [h.1] at e; simp at e
  · rw [h.1] at e; simp at e
  · rw [h.1] at e; simp at e
  refine bytesE_ok (h1.keep hke1) (k1.keep hke1) (by omega) (by omega) fun r hr => BIf_bool (fun e => no st1 r1 fun h => ?_) fun q6 => ?_
  · rw [hr.2 (by rw [h.1])] at e; cases e
  have hst : s = t := by
    simp only [Bool.not_eq_false', Bool.and_eq_true, beq_iff_eq, decide_eq_true_eq, and_true] at q2 q3 q4
    exact sc_eq (Decidable.not_not.1 q1) q2 q3.1 q3.2.1 q3.2.2 q4.1 q4.2.1 q4.2.2.1 q4.2.2.2 (Decidable.not_not.1 q5) (hr.1 (by simpa using q6))
  subst hst
  refine optK_intro (hldl st1 r1) (decT_int (BIf_intro (fun g => by omega) fun _ => optK_intro (hldx st1 r1) (decT_bool ?_)))
  -- The closure and both comparisons, from fields that are as asked for.
  have rest : ∀ (st2 : St) (v1 v2 : TV) (x1 x2 : List TV), StExt st1 st2 → SlR st2 14 v1 (flds ex f).length x1 → FsR st2 (flds ex f) x1 → SlR st2 14 v2 (flds ex g).length x2 → FsR st2 (flds ex g) x2 →
      stB (st2.push (.cells [.nilFunc]) (some 36)) (.box st2.nb 0) [.func fn_value_same_1 [.box st.nb 0, .box (st.nb + 1) 0]] fun (st4 : St) =>
        optK (ldCell st4 [] (.t (.box st2.nb 0)) 0) fun (v3 : TV) => CallT PR fn_slices_EqualFunc___api_Value___api_Value_api_Value_api_Value_ [ul, wl, v3] [.one (.bool)] st4 fun (b3 : Bool) (st5 : St) =>
          BIf b3 (CallT PR fn_slices_EqualFunc___api_Field___api_Field_api_Field_api_Field_ [v1, v2, (.func fn_value_same_2 [(.box st2.nb 0)])] [.one (.bool)] st5 fun (b4 : Bool) (st6 : St) => K (b4) st6) (K (false) st5) := by
    intro st2 v1 v2 x1 x2 e2 p1 p2 p3 p4
    refine stB_new (x := .nilFunc) rfl fun st4 e4 hbx hnx => ?_
    have hldc : ∀ st', StExt st4 st' → ldCell st' [] (.t (.box st2.nb 0)) 0 = some (.func fn_value_same_1 [.box st.nb 0, .box (st.nb + 1) 0]) := fun st' e => by simp [ldCell, (e.box st2.nb hnx).trans hbx]
    have e14 := e2.trans e4
    have hke4 := hke1.trans e14.keeps
    -- the closure
    have clo : ∀ (a b : Vl) (ca cb : List TV) (st5 : St) (K1 : Bool → St → Prop) (st0' : St), a.sz ≤ N → b.sz ≤ 2000000 → (ex = false → KNd a ∧ KNd b) → (a.cnt : Int) ≤ L - 1 → VlR st0' a ca → VlR st0' b cb → Keeps st0' st5 → StExt st4 st5 → (∀ r st6, StExt st5 st6 → (r = true ↔ nrm ex a = nrm ex b) → K1 r st6) →
        CallT PR fn_value_same_1 ([.agg ca, .agg cb] ++ [.box st.nb 0, .box (st.nb + 1) 0]) [.one .bool] st5 K1 := by
      intro a b ca cb st5 K1 st0' hz1 hz2 hkn hc hra hrb hk5 e5 hK1
      have hra0 := hra
      have hrb0 := hrb
      obtain ⟨s1, l1, f1⟩ := a
      obtain ⟨s2, l2, f2⟩ := b
      obtain ⟨_, _, _, _, _, rfl, _⟩ := hra.cells
      obtain ⟨_, _, _, _, _, rfl, _⟩ := hrb.cells
      refine vc_value_same_1 _ _ _ _ _ _ _ _ _ _ _ _ _ _ _ _ _ _ _ _ _ _ _ _ _ _ _ _ st5 K1 (optK_intro (hldx st5 (e14.trans e5)) (decT_bool (optK_intro (hldl st5 (e14.trans e5)) (decT_int ?_))))
      rw [wrap64 _ (by omega) (by omega)]
      exact ih _ _ hz1 hz2 (by omega) hkn hra0 hrb0 hk5 hc (by omega) hK1
    refine optK_intro (hldc st4 (StExt.refl _)) (equalV_ok (g := nrm ex) hke4 h2 h3 k2 k3 (by omega) (by omega) (fun a b ca cb st5 K1 hma hmb hra hrb e5 hK1 => ?_) fun r st5 e5 hr => ?_)
    · have hsa := vsSz_mem hma
      have hsb := vsSz_mem hmb
      have hca : a.cnt ≤ vsCnt l := by
        obtain ⟨i, hi⟩ := List.getElem?_of_mem hma
        exact vsCnt_get hi
      refine clo a b ca cb st5 K1 st0 (by omega) (by omega) (fun e => ?_) (by omega) hra hrb (hke4.trans e5.keeps) e5 hK1
      have := hV e
      unfold KNd at this
      exact ⟨this.1.1.mem hma, this.2.1.mem hmb⟩
    · refine BIf_bool (fun hb => ?_) fun hb => no st5 (e14.trans e5) fun h => ?_
      · have e25 := e4.trans e5
        refine equalF_ok (g := nrmD ex) e25.keeps p1 p2 p3 p4 ?_ ?_ (fun a b ca cb st6 K1 hma hmb hra hrb e6 hK1 => ?_) fun r2 st6 e6 hr2 => hk r2 st6 (((e1.trans e14).trans e5).trans e6) ⟨fun h => ⟨rfl, hr.1 hb, hr2.1 h⟩, fun h => hr2.2 h.2.2⟩
        · unfold flds; split
          · omega
          · have := (sortFd_perm f).length_eq; omega
        · unfold flds; split
          · omega
          · have := (sortFd_perm g).length_eq; omega
        · have hma' : a ∈ f := by
            unfold flds at hma; split at hma
            · exact hma
            · exact sort_mem hma
          have hmb' : b ∈ g := by
            unfold flds at hmb; split at hmb
            · exact hmb
            · exact sort_mem hmb
          have hsa := fsSz_mem hma'
          have hsb := fsSz_mem hmb'
          have hca : a.cnt ≤ fsCnt f := by
            obtain ⟨i, hi⟩ := List.getElem?_of_mem hma'
            exact fsCnt_get hi
          obtain ⟨ka, a⟩ := a
          obtain ⟨kb, b⟩ := b
          have hz1 := szd ka a
          have hz2 := szd kb b
          have hc1 : (Fd.mk ka a).cnt = a.cnt := by unfold Fd.cnt; rfl
          obtain ⟨ca', rfl, hra2⟩ := hra.val
          obtain ⟨cb', rfl, hrb2⟩ := hrb.val
          have hra0 : VlR st2 a ca' := hra2
          have hrb0 : VlR st2 b cb' := hrb2
          have hcl := clo a b ca' cb' st6 (fun r st7 => K1 r st7) st2 (by omega) (by omega) (fun e => by
            have := hV e
            unfold KNd at this
            have q1 := this.1.2.2.mem hma'
            have q2 := this.2.2.2.mem hmb'
            unfold KNdD at q1 q2
            exact ⟨q1, q2⟩) (by omega) hra0 hrb0 (e25.trans e6).keeps (e5.trans e6)
          obtain ⟨s1, l1, f1⟩ := a
          obtain ⟨s2, l2, f2⟩ := b
          obtain ⟨_, _, _, _, _, rfl, _⟩ := hra0.cells
          obtain ⟨_, _, _, _, _, rfl, _⟩ := hrb0.cells
          refine vc_value_same_2 _ _ _ _ _ _ _ _ _ _ _ _ _ _ _ _ _ _ _ _ _ _ _ _ _ _ _ _ _ st6 K1 (BIf_intro (fun ek => optK_intro (hldc st6 (e5.trans e6)) (hcl fun r st7 e7 hr7 => hK1 r st7 e7 ?_)) fun ek => hK1 false st6 (StExt.refl _) ⟨fun h => (by cases h), fun h => ?_⟩)
          · simp only [nrmD, Prod.mk.injEq]
            exact ⟨fun h => ⟨ek, hr7.1 h⟩, fun h => hr7.2 h.2⟩
          · simp only [nrmD, Prod.mk.injEq] at h
            exact absurd h.1 ek
      · rw [hr.2 h.2.1] at hb; cases hb
  refine BIf_bool (fun hex => ?_) fun hex => ?_
  · have hex' : ex = false := by simpa using hex
    have hkn := hV hex'
    unfold KNd at hkn
    have hfx : ∀ z, flds ex z = sortFd z := fun z => by rw [hex']; rfl
    refine psorted_ok (by omega) hkn.1.2.1 ha hke1 fun v1 st2 x1 e2 hs1 hr1 => ?_
    refine psorted_ok (by omega) hkn.2.2.1 hb (hke1.trans e2.keeps) fun v2 st3 x2 e3 hs2 hr2 => ?_
    exact rest st3 v1 v2 x1 x2 (e2.trans e3) (by rw [hfx]; exact hs1.keep e3.keeps) (by rw [hfx]; exact FsR.keep e3.keeps hr1) (by rw [hfx]; exact hs2) (by rw [hfx]; exact hr2)
  · have hex' : ex = true := by simpa using hex
    have hfx : ∀ z, flds ex z = z := fun z => by rw [hex']; rfl
    exact rest st1 uf wf xf yf r1 (by rw [hfx]; exact h4.keep hke1) (by rw [hfx]; exact FsR.keep hke1 h5) (by rw [hfx]; exact k4.keep hke1) (by rw [hfx]; exact FsR.keep hke1 k5)
theorem pSame_ok {v w : Vl} (hN : v.sz ≤ 2000000) (hW : w.sz ≤ 2000000) (hC : v.cnt ≤ 65536) {st0 st : St} {cs ds : List TV} {K : Bool → St → Prop} (h : VlR st0 v cs) (h' : VlR st0 w ds) (hke : Keeps st0 st) (hk : ∀ r st', StExt st st' → (r = true ↔ v = w) → K r st') :
    CallT PR fn_value_Same [.agg cs, .agg ds] [.one .bool] st K := by
  have ha := h
  have hb := h'
  cases v; cases w
  obtain ⟨_, _, _, _, _, rfl, _⟩ := h.cells
  obtain ⟨_, _, _, _, _, rfl, _⟩ := h'.cells
  exact vc_value_Same _ _ _ _ _ _ _ _ _ _ _ _ _ _ _ _ _ _ _ _ _ _ _ _ _ _ st K (psame_ok true 2000000 _ _ hN hW (by omega) (fun h => by cases h) ha hb hke (by omega) (by omega) hk)
theorem pEqual_ok {v w : Vl} (hN : v.sz ≤ 2000000) (hW : w.sz ≤ 2000000) (hC : v.cnt ≤ 65536) (hV : KNd v) (hV2 : KNd w) {st0 st : St} {cs ds : List TV} {K : Bool → St → Prop} (h : VlR st0 v cs) (h' : VlR st0 w ds) (hke : Keeps st0 st) (hk : ∀ r st', StExt st st' → (r = true ↔ sortV v = sortV w) → K r st') :
    CallT PR fn_value_Equal [.agg cs, .agg ds] [.one .bool] st K := by
  have ha := h
  have hb := h'
  cases v; cases w
  obtain ⟨_, _, _, _, _, rfl, _⟩ := h.cells
  obtain ⟨_, _, _, _, _, rfl, _⟩ := h'.cells
  exact vc_value_Equal _ _ _ _ _ _ _ _ _ _ _ _ _ _ _ _ _ _ _ _ _ _ _ _ _ _ st K (psame_ok false 2000000 _ _ hN hW (by omega) (fun h => ⟨hV, hV2⟩) ha hb hke (by omega) (by omega) hk)
end Go.TVF
end

section
namespace Go.TVF
open Go Go.Proofs
set_option linter.unusedVariables false
set_option linter.unusedSimpArgs false
theorem appK_ownK {T b sz bytes : Nat} {st0 st : St} {v : TV} {n k : Nat} {xs ys : List TV} {K : TV → St → Prop} (e : StExt st0 st) (hb : b = st0.nt) (h : Own b sz st v n xs) (hby : (n + k) * bytes ≤ 140737488355328) (hys : k = 0 → ys = [])
    (hK : ∀ v' st', StExt st0 st' → Keeps st st' → Own b sz st' v' (n + k) (xs ++ ys) → K v' st') : appK T sz bytes v k ys st K := by
  subst hb
  have kk : ∀ st' : St, st'.nb = st.nb → st'.box = st.box → Keeps st st' := fun st' a b => ⟨Nat.le_of_eq a.symm, fun i _ => by rw [b]⟩
  rcases h with ⟨rfl, rfl, rfl⟩ | ⟨tip, rfl, ht⟩
  · simp only [appK]
    cases k with
    | zero => rw [hys rfl] at hK; exact hK _ _ e (kk _ rfl rfl) (.nil _ _ _)
    | succ m =>
      simp only [need_iff]
      refine ⟨by simpa using hby, hK _ _ (e.fresh _) (kk _ rfl rfl) ?_⟩
      simp only [List.nil_append, Nat.zero_add]
      exact Own.fresh _ _ e.nt
  · simp only [appK, Nat.beq_refl]
    refine ⟨hby, ?_⟩
    rcases ht with rfl | ⟨id, rfl, h1, h2, h3⟩
    · cases k with
      | zero => rw [hys rfl] at hK; simp only [List.append_nil] at hK; exact hK _ _ e (kk _ rfl rfl) (Own.full _ _ _ _ _)
      | succ m => exact hK _ _ (e.fresh _) (kk _ rfl rfl) (Own.fresh _ _ e.nt)
    · exact ⟨h3, hK _ _ ((e.retire h1).fresh _) (kk _ rfl rfl) (Own.fresh (st := st.retire id) _ _ e.nt)⟩
theorem FsR.snoc {st : St} {d : Fd} {cd : List TV} {l : List Fd} {xs : List TV} (h : FsR st l xs) (hd : FdR st d cd) : FsR st (l ++ [d]) (xs ++ cd) := by
  obtain ⟨cks, rfl, hall⟩ := h.chunks
  have := FsR.of_chunks (hall.snoc hd)
  simpa using this
theorem sortVs_take {l : List Vl} {k : Nat} {v : Vl} (h : l[k]? = some v) : sortVs (l.take (k + 1)) = sortVs (l.take k) ++ [sortV v] := by
  rw [take_snoc h, sortVs_map, sortVs_map, List.map_append]; rfl
/-- Sorted. -/
theorem rSorted_ok : ∀ (N : Nat) (v : Vl), v.sz ≤ N → N ≤ 2000000 → ∀ {st0 st : St} {cs : List TV} {K : Int → Bool → Bool → List UInt8 → Int → Int → Int → Int → Int → List UInt8 → TV → TV → TV → St → Prop}, VlR st0 v cs → Keeps st0 st →
    (∀ ub ul uf st', VlR st' (sortV v) (cellsV v.sc ub ul uf) → oneT ub = true → oneT ul = true → oneT uf = true → StExt st st' → K v.sc.kind v.sc.b v.sc.neg v.sc.dg v.sc.ex v.sc.tk v.sc.td v.sc.tn v.sc.tz v.sc.text ub ul uf st') →
    CallT PR fn_datakitref07_Sorted [.agg cs] [.agg [.int .i64, .bool, .bool, .str, .int .i64, .int .i64, .int .i64, .int .i64, .int .i64, .str, .tv, .tv, .tv]] st K := by
  intro N
  induction N with
  | zero => intro v h; have := v.sz_pos; omega
  | succ N ih =>
  intro v hN hN2 st0 st cs K h hke hk
  cases v with
  | mk s l f =>
  have hsz := szs s l f
  have hll := vsSz_len l
  have hfl := fsSz_len f
  obtain ⟨ub, ul, uf, xl, xf, rfl, h1, h2, h3, h4, h5⟩ := h.cells
  refine vc_datakitref07_Sorted _ _ _ _ _ _ _ _ _ _ _ _ _ st K (need_intro (one13 h1.one h2.one h4.one) ⟨fun i k1 b1 b2 s1 k2 k3 k4 k5 k6 s2 v1 v2 v3 k7 b3 b4 s3 k8 k9 k10 k11 k12 s4 v4 v5 v6 k13 b5 b6 s5 k14 k15 k16 k17 k18 s6 v7 v8 v9 st' =>
      ul = v2 ∧ uf = v3 ∧ s.kind = k13 ∧ s.b = b5 ∧ s.neg = b6 ∧ s.dg = s5 ∧ s.ex = k14 ∧ s.tk = k15 ∧ s.td = k16 ∧ s.tn = k17 ∧ s.tz = k18 ∧ s.text = s6 ∧ ub = v7 ∧ TV.nilSlice = v9 ∧ ∃ (k : Nat) (xs : List TV), i = k ∧ k ≤ l.length ∧ StExt st st' ∧ Own st.nt 13 st' v8 k xs ∧ VsR st' (sortVs (l.take k)) xs,
    fun i _ _ _ _ _ _ _ _ _ _ _ _ _ _ _ _ _ _ _ _ _ _ _ _ _ _ _ _ _ _ _ _ _ _ _ _ _ _ _ _ => (l.length - i).toNat,
    ⟨rfl, rfl, rfl, rfl, rfl, rfl, rfl, rfl, rfl, rfl, rfl, rfl, rfl, rfl, 0, [], rfl, Nat.zero_le _, StExt.refl _, Own.nil _ _ _, by simp only [List.take_zero]; unfold sortVs VsR; rfl⟩, ?_⟩)
  rintro _ k1 b1 b2 s1 k2 k3 k4 k5 k6 s2 v1 _ _ k7 b3 b4 s3 k8 k9 k10 k11 k12 s4 v4 v5 v6 _ _ _ _ _ _ _ _ _ _ _ v8 _ st1 ⟨rfl, rfl, rfl, rfl, rfl, rfl, rfl, rfl, rfl, rfl, rfl, rfl, rfl, rfl, k, xs, rfl, hkl, e1, ho, hv⟩
  have hke1 := hke.trans e1.keeps
  refine need_intro h2.isSl (BIf_intro (fun g => ?_) fun g => ?_)
  · rw [h2.lenS] at g
    refine el13 hke1 h2 h3 rfl (by omega) fun s1 l1 f1 ub1 ul1 uf1 gw hw on => ?_
    have hwsz := vsSz_get gw
    refine ih (.mk s1 l1 f1) (by omega) (by omega) hw hke1 fun wb wl wf st2 hw2 o1 o2 o3 e2 => need_intro (one13 o1 o2 o3) ?_
    refine appK_ownK (e1.trans e2) rfl (ho.ext e2) (by omega) (fun h => by cases h) fun v9 st3 e3 e3' ho3 => need_intro (by simp [ho3.rd.one]) ?_
    rw [wrap64 _ (by omega) (by omega)]
    refine ⟨⟨rfl, rfl, rfl, rfl, rfl, rfl, rfl, rfl, rfl, rfl, rfl, rfl, rfl, rfl, k + 1, _, by omega, by omega, e3, ho3, ?_⟩, by dsimp only; omega⟩
    rw [sortVs_take gw]
    exact VsR.snoc (VsR.keep (e2.keeps.trans e3') hv) (VlR.keep e3' hw2)
  · rw [h2.lenS] at g
    have hkk : k = l.length := by omega
    subst hkk
    rw [List.take_length] at hv
    have elf := (sortFd_perm f).length_eq
    refine fields_ok (StExt.refl st1) (h4.keep hke1) (FsR.keep hke1 h5) (by omega) fun u st4 cks e4 hof hR => ?_
    have hsl : SlR st1 14 u (sortFd f).length cks.flatten := .of_rd hof.rd
    have hfr := FsR.of_chunks hR
    refine ⟨fun i u1 k7 b3 b4 s3 k8 k9 k10 k11 k12 s4 v4 v5 v6 k13 b5 b6 s5 k14 k15 k16 k17 k18 s6 v7 v1 v2 st' =>
      u = u1 ∧ s.kind = k13 ∧ s.b = b5 ∧ s.neg = b6 ∧ s.dg = s5 ∧ s.ex = k14 ∧ s.tk = k15 ∧ s.td = k16 ∧ s.tn = k17 ∧ s.tz = k18 ∧ s.text = s6 ∧ ub = v7 ∧ v8 = v1 ∧ ∃ (k : Nat) (ys : List TV), i = k ∧ k ≤ (sortFd f).length ∧ StExt st1 st' ∧ Own st1.nt 14 st' v2 k ys ∧ FsR st' (((sortFd f).take k).map sortD) ys,
      fun i _ _ _ _ _ _ _ _ _ _ _ _ _ _ _ _ _ _ _ _ _ _ _ _ _ _ _ _ => ((sortFd f).length - i).toNat,
      ⟨rfl, rfl, rfl, rfl, rfl, rfl, rfl, rfl, rfl, rfl, rfl, rfl, rfl, 0, [], rfl, Nat.zero_le _, e4, Own.nil _ _ _, by simp only [List.take_zero, List.map_nil]; unfold FsR; rfl⟩, ?_⟩
    rintro _ _ k7 b3 b4 s3 k8 k9 k10 k11 k12 s4 v4 v5 v6 _ _ _ _ _ _ _ _ _ _ _ _ w8 st5 ⟨rfl, rfl, rfl, rfl, rfl, rfl, rfl, rfl, rfl, rfl, rfl, rfl, rfl, q, ys, rfl, hql, e5, ho5, hv5⟩
    refine need_intro hsl.isSl (BIf_intro (fun g2 => ?_) fun g2 => ?_)
    · rw [hsl.lenS] at g2
      have gd : (sortFd f)[q]? = some (sortFd f)[q] := List.getElem?_eq_getElem (by omega)
      generalize (sortFd f)[q] = d at gd
      refine key14 e5.keeps hsl hfr rfl gd ?_
      refine val14 e5.keeps hsl hfr rfl (by omega) fun key s1 l1 f1 ub1 ul1 uf1 gw hw on => ?_
      rw [gd] at gw
      have hde := Option.some.inj gw
      subst hde
      have hsa := fsSz_mem (sort_mem (mem_of_get gd))
      have hzd := szd key (.mk s1 l1 f1)
      refine ih (.mk s1 l1 f1) (by omega) (by omega) hw e5.keeps fun wb wl wf st6 hw2 o1 o2 o3 e6 => ⟨keyLd (e5.trans e6).keeps hsl hfr gd, need_intro (one14 o1 o2 o3) ?_⟩
      refine appK_ownK (e5.trans e6) rfl (ho5.ext e6) (by omega) (fun h => by cases h) fun v9 st7 e7 e7' ho7 => need_intro (by simp [ho7.rd.one]) ?_
      rw [wrap64 _ (by omega) (by omega)]
      refine ⟨⟨rfl, rfl, rfl, rfl, rfl, rfl, rfl, rfl, rfl, rfl, rfl, rfl, rfl, q + 1, _, by omega, by omega, e7, ho7, ?_⟩, by dsimp only; omega⟩
      rw [take_snoc gd, List.map_append]
      refine FsR.snoc (FsR.keep (e6.keeps.trans e7') hv5) ?_
      show FdR _ (sortD (.mk key (.mk s1 l1 f1))) _
      unfold sortD FdR
      exact ⟨_, rfl, VlR.keep e7' hw2⟩
    · rw [hsl.lenS] at g2
      have hqq : q = (sortFd f).length := by omega
      subst hqq
      rw [List.take_length] at hv5
      refine need_intro (one13 h1.one ho.rd.one ho5.rd.one) (hk ub v8 w8 st5 ?_ h1.one ho.rd.one ho5.rd.one (e1.trans e5))
      unfold sortV VlR
      rw [sortFs_map, sortFd_map sortD_key]
      refine ⟨ub, v8, w8, xs, ys, rfl, h1.keep (hke1.trans e5.keeps), ?_, VsR.keep e5.keeps hv, ?_, hv5⟩
      · rw [sortVs_map, List.length_map]; exact .of_rd ho.rd
      · rw [List.length_map]; exact .of_rd ho5.rd
theorem rEqual_ok {v w : Vl} (hN : v.sz ≤ 2000000) (hW : w.sz ≤ 2000000) (hsv : (sortV v).sz ≤ 2000000) (hsw : (sortV w).sz ≤ 2000000) {st0 st : St} {cs ds : List TV} {K : Bool → St → Prop} (h : VlR st0 v cs) (h' : VlR st0 w ds) (hke : Keeps st0 st)
    (hk : ∀ r st', StExt st st' → (r = true ↔ sortV v = sortV w) → K r st') : CallT PR fn_datakitref07_Equal [.agg cs, .agg ds] [.one .bool] st K := by
  have ha := h
  have hb := h'
  cases v; cases w
  obtain ⟨_, _, _, _, _, rfl, _⟩ := h.cells
  obtain ⟨_, _, _, _, _, rfl, _⟩ := h'.cells
  refine vc_datakitref07_Equal _ _ _ _ _ _ _ _ _ _ _ _ _ _ _ _ _ _ _ _ _ _ _ _ _ _ st K (rSorted_ok 2000000 _ hN (by omega) ha hke fun wb wl wf st1 hw1 o1 o2 o3 e1 => rSorted_ok 2000000 _ hW (by omega) hb (hke.trans e1.keeps) fun xb xl xf st2 hw2 p1 p2 p3 e2 => ?_)
  exact Same_ok 2000000 _ _ hsv hsw (by omega) (VlR.keep e2.keeps hw1) hw2 (Keeps.refl _) fun r hr => hk r st2 (e1.trans e2) hr
end Go.TVF
end

section
namespace Go.TVF
open Go Go.Proofs
set_option linter.unusedVariables false
set_option linter.unusedSimpArgs false
def scZ : Sc := ⟨0, false, false, [], 0, 0, 0, 0, 0, [], []⟩
def vlZ : Vl := .mk scZ [] []
/-- The first field of a key. -/
def findF (f : List Fd) (key : List UInt8) : Vl × Bool := match f.find? (fun d => decide (d.key = key)) with | some d => (d.val, true) | none => (vlZ, false)
theorem vl_leaf (st : St) (s : Sc) (h : s.bytes = []) : VlR st (.mk s [] []) (cellsV s .nilSlice .nilSlice .nilSlice) := by
  unfold VlR
  refine ⟨_, _, _, [], [], rfl, ?_, .of_rd (.inl ⟨rfl, rfl, rfl⟩), by unfold VsR; rfl, .of_rd (.inl ⟨rfl, rfl, rfl⟩), by unfold FsR; rfl⟩
  rw [h]; exact .of_rd (.inl ⟨rfl, rfl, rfl⟩)
theorem find_hit {f : List Fd} {key : List UInt8} {k : Nat} {d : Fd} (h : f[k]? = some d) (he : d.key = key) (hn : findF f key = findF (f.drop k) key) : findF f key = (d.val, true) := by
  rw [hn, drop_get h]
  unfold findF
  rw [List.find?_cons_of_pos (by simpa using he)]
theorem find_miss {f : List Fd} {key : List UInt8} {k : Nat} {d : Fd} (h : f[k]? = some d) (he : ¬ d.key = key) (hn : findF f key = findF (f.drop k) key) : findF f key = findF (f.drop (k + 1)) key := by
  rw [hn, drop_get h]
  unfold findF
  rw [List.find?_cons_of_neg (by simpa using he)]
/-- value.Field. -/
theorem Field_ok {s : Sc} {l : List Vl} {f : List Fd} (hN : (Vl.mk s l f).sz ≤ 2000000) (hC : (Vl.mk s l f).cnt ≤ 65536) (hfs : s.kind ≠ 7 → f = []) {key : List UInt8} {st0 st : St} {cs : List TV}
    {K : Int → Bool → Bool → List UInt8 → Int → Int → Int → Int → Int → List UInt8 → TV → TV → TV → Bool → St → Prop} (h : VlR st0 (.mk s l f) cs) (hke : Keeps st0 st)
    (hk : ∀ ub ul uf st' w b, findF f key = (w, b) → VlR st' w (cellsV w.sc ub ul uf) → StExt st st' → K w.sc.kind w.sc.b w.sc.neg w.sc.dg w.sc.ex w.sc.tk w.sc.td w.sc.tn w.sc.tz w.sc.text ub ul uf b st') :
    CallT PR fn_value_Field [.agg cs, .str key] [.agg [.int .i64, .bool, .bool, .str, .int .i64, .int .i64, .int .i64, .int .i64, .int .i64, .str, .tv, .tv, .tv], .one .bool] st K := by
  have hsz := szs s l f
  have hfl := fsSz_len f
  have hcnt : (Vl.mk s l f).cnt = 1 + vsCnt l + fsCnt f := by unfold Vl.cnt; rfl
  obtain ⟨ub, ul, uf, xl, xf, rfl, h1, h2, h3, h4, h5⟩ := h.cells
  refine vc_value_Field _ _ _ _ _ _ _ _ _ _ _ _ _ key st K (need_intro h4.isSl ⟨fun i y u n k1 b1 b2 s1 k2 k3 k4 k5 k6 s2 v1 v2 v3 k7 b3 b4 s3 k8 k9 k10 k11 k12 s4 v4 v5 v6 st' => key = y ∧ uf = u ∧ n = (f.length : Int) ∧ s.kind = k1 ∧ st = st' ∧ ∃ k : Nat, i = k ∧ k ≤ f.length ∧ findF f key = findF (f.drop k) key,
    fun i _ _ _ _ _ _ _ _ _ _ _ _ _ _ _ _ _ _ _ _ _ _ _ _ _ _ _ _ _ _ => (f.length - i).toNat, ⟨rfl, rfl, by rw [h4.lenS], rfl, rfl, 0, rfl, Nat.zero_le _, rfl⟩, ?_⟩)
  rintro _ _ _ _ _ b1 b2 s1 k2 k3 k4 k5 k6 s2 v1 v2 v3 k7 b3 b4 s3 k8 k9 k10 k11 k12 s4 v4 v5 v6 _ ⟨rfl, rfl, rfl, rfl, rfl, k, rfl, hkf, hE⟩
  refine BIf_intro (fun g => ?_) fun g => ?_
  · refine el14 hke h4 h5 rfl (by omega) fun k1 s1 l1 f1 ub1 ul1 uf1 gw hw on => need_intro on ?_
    have hcf := fsCnt_get gw
    have hzf := fsSz_get gw
    have hzd := szd k1 (.mk s1 l1 f1)
    have hcd : (Fd.mk k1 (.mk s1 l1 f1)).cnt = (Vl.mk s1 l1 f1).cnt := by unfold Fd.cnt; rfl
    refine BIf_intro (fun g2 => BIf_intro (fun g3 => ?_) fun g3 => ?_) fun g2 => ?_
    · refine copied_ok 2000000 (.mk s1 l1 f1) (by omega) (by omega) (VlR.keep hke hw) (by omega) (by omega) fun ub ul uf st' fp g o1 o2 o3 nd lo e => need_intro (one13 o1 o2 o3) ?_
      exact hk ub ul uf st' (.mk s1 l1 f1) true (find_hit gw g3 hE) g.rd e
    · rw [wrap64 _ (by omega) (by omega)]
      exact ⟨⟨rfl, rfl, rfl, rfl, rfl, k + 1, by omega, by omega, find_miss gw g3 hE⟩, by dsimp only; omega⟩
    · have := hfs g2
      subst this
      simp at g
      omega
  · have hkk : k = f.length := by omega
    rw [hkk, List.drop_length] at hE
    exact hk .nilSlice .nilSlice .nilSlice st vlZ false hE (vl_leaf st scZ rfl) (StExt.refl _)
theorem rField_ok {s : Sc} {l : List Vl} {f : List Fd} (hN : (Vl.mk s l f).sz ≤ 2000000) {key : List UInt8} {st0 st : St} {cs : List TV}
    {K : Int → Bool → Bool → List UInt8 → Int → Int → Int → Int → Int → List UInt8 → TV → TV → TV → Bool → St → Prop} (h : VlR st0 (.mk s l f) cs) (hke : Keeps st0 st)
    (hk : ∀ ub ul uf st' w b, findF f key = (w, b) → VlR st' w (cellsV w.sc ub ul uf) → StExt st st' → K w.sc.kind w.sc.b w.sc.neg w.sc.dg w.sc.ex w.sc.tk w.sc.td w.sc.tn w.sc.tz w.sc.text ub ul uf b st') :
    CallT PR fn_datakitref07_Field [.agg cs, .str key] [.agg [.int .i64, .bool, .bool, .str, .int .i64, .int .i64, .int .i64, .int .i64, .int .i64, .str, .tv, .tv, .tv], .one .bool] st K := by
  have hsz := szs s l f
  have hfl := fsSz_len f
  obtain ⟨ub, ul, uf, xl, xf, rfl, h1, h2, h3, h4, h5⟩ := h.cells
  refine vc_datakitref07_Field _ _ _ _ _ _ _ _ _ _ _ _ _ key st K ⟨fun i y k1 b1 b2 s1 k2 k3 k4 k5 k6 s2 v1 v2 v3 k7 b3 b4 s3 k8 k9 k10 k11 k12 s4 v4 v5 v6 st' => key = y ∧ uf = v3 ∧ st = st' ∧ ∃ k : Nat, i = k ∧ k ≤ f.length ∧ findF f key = findF (f.drop k) key,
    fun i _ _ _ _ _ _ _ _ _ _ _ _ _ _ _ _ _ _ _ _ _ _ _ _ _ _ _ _ => (f.length - i).toNat, ⟨rfl, rfl, rfl, 0, rfl, Nat.zero_le _, rfl⟩, ?_⟩
  rintro _ _ k1 b1 b2 s1 k2 k3 k4 k5 k6 s2 v1 v2 _ k7 b3 b4 s3 k8 k9 k10 k11 k12 s4 v4 v5 v6 _ ⟨rfl, rfl, rfl, k, rfl, hkf, hE⟩
  refine need_intro h4.isSl (BIf_intro (fun g => ?_) fun g => ?_)
  · rw [h4.lenS] at g
    have gd : f[k]? = some f[k] := List.getElem?_eq_getElem (by omega)
    generalize f[k] = d at gd
    refine key14 hke h4 h5 rfl gd (BIf_intro (fun g3 => ?_) fun g3 => ?_)
    · refine val14 hke h4 h5 rfl (by omega) fun k1 s1 l1 f1 ub1 ul1 uf1 gw hw on => need_intro on ?_
      rw [gd] at gw
      have := Option.some.inj gw
      subst this
      exact hk ub1 ul1 uf1 st (.mk s1 l1 f1) true (find_hit gd g3 hE) (VlR.keep hke hw) (StExt.refl _)
    · rw [wrap64 _ (by omega) (by omega)]
      exact ⟨⟨rfl, rfl, rfl, k + 1, by omega, by omega, find_miss gd g3 hE⟩, by dsimp only; omega⟩
  · rw [h4.lenS] at g
    have hkk : k = f.length := by omega
    rw [hkk, List.drop_length] at hE
    exact hk .nilSlice .nilSlice .nilSlice st vlZ false hE (vl_leaf st scZ rfl) (StExt.refl _)
def vInt (c : UInt8) : Vl := .mk { scZ with kind := 2, dg := [c] } [] []
def vText (s : List UInt8) : Vl := .mk { scZ with kind := 4, text := s } [] []
def vList (l : List Vl) : Vl := .mk { scZ with kind := 6 } l []
def vMap (f : List Fd) : Vl := .mk { scZ with kind := 7 } [] f
theorem reverse1 {u : TV} {x : TV} {st : St} {K : St → Prop} (h : SlR st 1 u 1 [x]) (hk : K st) : CallT PR fn_digits_reverse [u] [] st K := by
  refine vc_digits_reverse u st K (need_intro h.isSl ⟨fun i k v st' => i = 0 ∧ k = 0 ∧ st = st', fun _ _ _ _ => 0, ⟨rfl, by rw [h.lenS]; rfl, rfl⟩, ?_⟩)
  rintro _ _ v _ ⟨rfl, rfl, rfl⟩
  exact BIf_intro (fun g => by omega) fun _ => hk
theorem fromInt1 {n : Int} {c : UInt8} (h0 : 0 < n) (h9 : n < 10) (hc : c.toNat = 48 + n.toNat) {st : St} {K : List UInt8 → St → Prop} (hk : ∀ st', StExt st st' → K [c] st') : CallT PR fn_digits_FromInt [.int .i64 n] [.one .str] st K := by
  have hm : Int.tmod n 10 = n := by rw [Int.tmod_eq_emod_of_nonneg (by omega)]; omega
  have hd : Int.tdiv n 10 = 0 := by rw [Int.tdiv_eq_ediv_of_nonneg (by omega)]; omega
  have hb : IntKind.u8.wrap (IntKind.i64.wrap (48 + Int.tmod n 10)) = ((c.toNat : Nat) : Int) := by
    rw [hm, wrap64 _ (by omega) (by omega), w8_int (by omega) (by omega), natB_lt _ (by omega)]
    omega
  refine vc_digits_FromInt n st K ⟨fun i b st' => (i = n ∧ b = .nilSlice ∧ st = st') ∨ (i = 0 ∧ StExt st st' ∧ SlR st' 1 b 1 (bytesT [c])), fun i _ _ => i.toNat, .inl ⟨rfl, rfl, rfl⟩, ?_⟩
  rintro i b st1 (⟨rfl, rfl, rfl⟩ | ⟨rfl, e, hs⟩)
  · refine BIf_intro (fun _ => ?_) fun g => by omega
    rw [hd, hb]
    refine appB_ownO (OwnSl.nil st 1) (by omega) rfl (by omega) fun u' st' bs' ho e _ => ?_
    refine ⟨.inr ⟨by decide, StX.ext (StExt.refl _) e (fun x hx => by cases hx), ho.rd⟩, by dsimp only; rw [wrap64 _ (by omega) (by omega)]; omega⟩
  · refine BIf_intro (fun g => by omega) fun _ => reverse1 (x := byteT c) hs (optK_intro (x := .str [c]) (by rw [SlR.toBytes (l := [c]) hs]; rfl) (decT_str (hk st1 e)))
theorem Int1_ok {n : Int} {c : UInt8} (h0 : 0 < n) (h9 : n < 10) (hc : c.toNat = 48 + n.toNat) (hne : Lib.trimRightB [c] 48 = [c]) {st : St} {K : Int → Bool → Bool → List UInt8 → Int → Int → Int → Int → Int → List UInt8 → TV → TV → TV → St → Prop}
    (hk : ∀ st', StExt st st' → K 2 false false [c] 0 0 0 0 0 [] .nilSlice .nilSlice .nilSlice st') :
    CallT PR fn_value_Int [.int .i64 n] [.agg [.int .i64, .bool, .bool, .str, .int .i64, .int .i64, .int .i64, .int .i64, .int .i64, .str, .tv, .tv, .tv]] st K := by
  refine vc_value_Int n st K (vc_decimal_FromInt n st _ (BIf_intro (fun g => by omega) fun _ => fromInt1 h0 h9 hc fun st1 e1 => ?_))
  rw [decide_eq_false (show ¬ n < 0 by omega)]
  refine vc_decimal_norm false [c] 0 st1 _ (BIf_intro (fun g => by cases g) fun _ => trimRight_ok (c := 48) (by decide) (by simp) ?_)
  rw [hne]
  simp only [List.length_singleton]
  refine ⟨by decide, BIf_intro (fun g => absurd g (by decide)) fun _ => BIf_intro (fun g => absurd g (by decide)) fun _ => BIf_intro (fun g => absurd g (by rw [show (IntKind.i64.wrap (((1 : Nat) : Int) - IntKind.i64.wrap (((1 : Nat) : Int) - ((1 : Nat) : Int)))).toNat = 1 from by decide]; simp)) fun _ => ?_⟩
  exact vc_value_Num _ _ _ _ _ (need_intro rfl (hk st1 e1))
theorem List_ok {l : List Vl} {xl : List TV} {u : TV} (hs : vsSz l ≤ 1000000) (hc : vsCnt l ≤ 60000) {st : St} (hu : SlR st 13 u l.length xl) (hv : VsR st l xl) {K : Int → Bool → Bool → List UInt8 → Int → Int → Int → Int → Int → List UInt8 → TV → TV → TV → St → Prop}
    (hk : ∀ ub ul uf st', VlR st' (vList l) (cellsV { scZ with kind := 6 } ub ul uf) → oneT ub = true → oneT ul = true → oneT uf = true → StExt st st' → K 6 false false [] 0 0 0 0 0 [] ub ul uf st') :
    CallT PR fn_value_List [u] [.agg [.int .i64, .bool, .bool, .str, .int .i64, .int .i64, .int .i64, .int .i64, .int .i64, .str, .tv, .tv, .tv]] st K := by
  have hw : VlR st (vList l) (cellsV { scZ with kind := 6 } .nilSlice u .nilSlice) := by
    unfold vList VlR
    exact ⟨_, _, _, xl, [], rfl, .of_rd (.inl ⟨rfl, rfl, rfl⟩), hu, hv, .of_rd (.inl ⟨rfl, rfl, rfl⟩), by unfold FsR; rfl⟩
  have hz : (vList l).sz = 1 + vsSz l := by unfold vList Vl.sz fsSz; rfl
  have hcn : (vList l).cnt = 1 + vsCnt l := by unfold vList Vl.cnt fsCnt; rfl
  exact vc_value_List u st K (need_intro (by simp [hu.one]) (copied_ok 2000000 _ (by omega) (by omega) hw (by omega) (by omega) fun ub ul uf st' fp g o1 o2 o3 nd lo e => need_intro (one13 o1 o2 o3) (hk ub ul uf st' g.rd o1 o2 o3 e)))
theorem Map_ok {f : List Fd} {xf : List TV} {u : TV} (hs : fsSz f ≤ 1000000) (hc : fsCnt f ≤ 60000) (he : keysE [] f = 0) {st : St} (hu : SlR st 14 u f.length xf) (hv : FsR st f xf) {K : Int → Bool → Bool → List UInt8 → Int → Int → Int → Int → Int → List UInt8 → TV → TV → TV → Int → St → Prop}
    (hk : ∀ ub ul uf st', VlR st' (vMap f) (cellsV { scZ with kind := 7 } ub ul uf) → oneT ub = true → oneT ul = true → oneT uf = true → StExt st st' → K 7 false false [] 0 0 0 0 0 [] ub ul uf 0 st') :
    CallT PR fn_value_Map [u] [.agg [.int .i64, .bool, .bool, .str, .int .i64, .int .i64, .int .i64, .int .i64, .int .i64, .str, .tv, .tv, .tv], .one (.int .i64)] st K := by
  have hz : (vMap f).sz = 1 + fsSz f := by unfold vMap Vl.sz vsSz; simp [scZ]
  have hcn : (vMap f).cnt = 1 + fsCnt f := by unfold vMap Vl.cnt vsCnt; rfl
  refine vc_value_Map u st K (keys_ok (Keeps.refl st) hu hv (by omega) fun st1 e1 => ?_)
  rw [he]
  have hw : VlR st1 (vMap f) (cellsV { scZ with kind := 7 } .nilSlice .nilSlice u) := by
    unfold vMap VlR
    exact ⟨_, _, _, [], xf, rfl, .of_rd (.inl ⟨rfl, rfl, rfl⟩), .of_rd (.inl ⟨rfl, rfl, rfl⟩), by unfold VsR; rfl, hu.keep e1.keeps, FsR.keep e1.keeps hv⟩
  exact BIf_intro (fun g => absurd rfl g) fun _ => need_intro (by simp [hu.one]) (copied_ok 2000000 _ (by omega) (by omega) hw (by omega) (by omega) fun ub ul uf st' fp g o1 o2 o3 nd lo e => need_intro (one13 o1 o2 o3) (hk ub ul uf st' g.rd o1 o2 o3 (e1.trans e)))
end Go.TVF
end

section
namespace Go.TVF
open Go Go.Proofs
set_option linter.unusedVariables false
set_option linter.unusedSimpArgs false
theorem VsR.cons {st : St} {v : Vl} {l : List Vl} {a b : List TV} (h : VlR st v a) (k : VsR st l b) : VsR st (v :: l) (a ++ b) := by
  unfold VsR; exact ⟨a, b, rfl, h, k⟩
theorem VsR.nil (st : St) : VsR st [] [] := by unfold VsR; rfl
theorem FsR.cons {st : St} {v : Fd} {l : List Fd} {a b : List TV} (h : FdR st v a) (k : FsR st l b) : FsR st (v :: l) (a ++ b) := by
  unfold FsR; exact ⟨a, b, rfl, h, k⟩
theorem FsR.nil (st : St) : FsR st [] [] := by unfold FsR; rfl
theorem u8_nil : U8 [] := by unfold U8; rw [vlen_zero _ (by simp [ul])]; rfl
theorem valid_int {c : UInt8} (h : DecOk false [c] 0) : Valid (vInt c) := by
  unfold vInt Valid
  exact ⟨⟨⟨by simp, by simp, by simp [scZ], by simp, by simp [scZ], by simp [scZ], by simp [scZ], by simp, by simp⟩, h, by simp, u8_nil, by simp [scZ], by simp [scZ], rfl⟩, by unfold Valids; trivial, by unfold Validf; trivial⟩
theorem valid_text {s : List UInt8} (h : U8 s) (hl : s.length ≤ 65536) : Valid (vText s) := by
  unfold vText Valid
  exact ⟨⟨⟨by simp, by simp, by simp [scZ], by simp [scZ], by simp [scZ], by simp, by simp [scZ], by simp, by simp⟩, by constructor <;> simp [scZ], by simp, h, hl, by simp [scZ], rfl⟩, by unfold Valids; trivial, by unfold Validf; trivial⟩
theorem valid_list {l : List Vl} (h : Valids l) : Valid (vList l) := by
  unfold vList Valid
  exact ⟨⟨⟨by simp, by simp, by simp [scZ], by simp [scZ], by simp [scZ], by simp [scZ], by simp [scZ], by simp, by simp⟩, by constructor <;> simp [scZ], by simp, u8_nil, by simp [scZ], by simp [scZ], rfl⟩, h, by unfold Validf; trivial⟩
theorem cmp_kind {N : Nat} {s t : Sc} {l m : List Vl} {f g : List Fd} (h : s.kind ≠ t.kind) : cmpN (N + 1) (.mk s l f) (.mk t m g) = sgn s.kind t.kind := by
  rw [cmpN, if_pos h]
theorem cmp_list (N : Nat) (l m : List Vl) : cmpN (N + 1) (vList l) (vList m) = cmpL (cmpN N) l m := by
  unfold vList
  rw [cmpN]; simp
theorem cmp_int (N : Nat) (c d : UInt8) : cmpN (N + 1) (vInt c) (vInt d) = decC false [c] 0 false [d] 0 := by
  unfold vInt
  rw [cmpN]; simp [scZ]
theorem dec49 : DecOk false [49] 0 := by decide
theorem dec50 : DecOk false [50] 0 := by decide
theorem sz_int (c : UInt8) : (vInt c).sz = 2 := by unfold vInt Vl.sz vsSz fsSz; simp [scZ]
theorem cnt_int (c : UInt8) : (vInt c).cnt = 1 := by unfold vInt Vl.cnt vsCnt fsCnt; rfl
theorem u8_97 : U8 [97] := by
  unfold U8
  rw [vlen_step _ (by decide), show ul [97] = 1 from by decide]
  show 1 + vlen [] = 1
  rw [vlen_zero _ (by simp [ul])]
theorem u8_49 : U8 [49] := by
  unfold U8
  rw [vlen_step _ (by decide), show ul [49] = 1 from by decide]
  show 1 + vlen [] = 1
  rw [vlen_zero _ (by simp [ul])]
theorem lives_ok {st : St} {K : Bool → St → Prop} (hk : ∀ st', StExt st st' → K true st') : CallT PR fn_datakitlaw07_lives [] [.one .bool] st K := by
  have li : ∀ (st : St) (c : UInt8), VlR st (vInt c) (cellsV { scZ with kind := 2, dg := [c] } .nilSlice .nilSlice .nilSlice) := fun st c => vl_leaf st _ rfl
  have hzL : vsSz [vInt 49, vInt 50] = 4 := by simp only [vsSz, sz_int]
  have hcL : vsCnt [vInt 49, vInt 50] = 2 := by simp only [vsCnt, cnt_int]
  have hzM : vsSz [vInt 49] = 2 := by simp only [vsSz, sz_int]
  have hcM : vsCnt [vInt 49] = 1 := by simp only [vsCnt, cnt_int]
  have hL : (vList [vInt 49, vInt 50]).sz = 5 := by unfold vList; rw [Vl.sz, hzL]; unfold fsSz; simp [scZ]
  have hLc : (vList [vInt 49, vInt 50]).cnt = 3 := by unfold vList; rw [Vl.cnt, hcL]; unfold fsCnt; rfl
  have hMz : (vList [vInt 49]).sz = 3 := by unfold vList; rw [Vl.sz, hzM]; unfold fsSz; simp [scZ]
  have vL : Valid (vList [vInt 49, vInt 50]) := valid_list (by unfold Valids; exact ⟨valid_int dec49, by unfold Valids; exact ⟨valid_int dec50, by unfold Valids; trivial⟩⟩)
  have vM : Valid (vList [vInt 49]) := valid_list (by unfold Valids; exact ⟨valid_int dec49, by unfold Valids; trivial⟩)
  refine vc_datakitlaw07_lives st K (Int1_ok (c := 49) (by omega) (by omega) (by decide) (by decide) fun st1 e1 => Int1_ok (c := 50) (by omega) (by omega) (by decide) (by decide) fun st2 e2 => ?_)
  have hxs := VsR.cons (li st2 49) (VsR.cons (li st2 50) (.nil st2))
  refine List_ok (l := [vInt 49, vInt 50]) (by omega) (by omega) (.of_rd (.inr ⟨.full, rfl⟩)) hxs fun ub ul uf st3 hl o1 o2 o3 e3 => need_intro (one13 o1 o2 o3) ?_
  have hfs : FsR st3 [.mk str1 (vList [vInt 49, vInt 50])] ((.str str1 :: cellsV { scZ with kind := 6 } ub ul uf) ++ []) := FsR.cons (by unfold FdR; exact ⟨_, rfl, hl⟩) (.nil _)
  have hsF : fsSz [.mk str1 (vList [vInt 49, vInt 50])] = 6 := by unfold fsSz fsSz; rw [szd, hL]; rfl
  have hcF : fsCnt [.mk str1 (vList [vInt 49, vInt 50])] = 3 := by unfold fsCnt fsCnt; unfold Fd.cnt; rw [hLc]
  have hkE : keysE [] [.mk str1 (vList [vInt 49, vInt 50])] = 0 := by
    unfold keysE
    rw [if_pos (show U8 (Fd.mk str1 (vList [vInt 49, vInt 50])).key from u8_97), if_neg (show ¬ 1024 < (Fd.mk str1 (vList [vInt 49, vInt 50])).key.length from by decide), if_neg (by simp)]; rfl
  refine Map_ok (f := [.mk str1 (vList [vInt 49, vInt 50])]) (by omega) (by omega) hkE (.of_rd (.inr ⟨.full, rfl⟩)) hfs fun vb vl vf st4 hm p1 p2 p3 e4 => need_intro (one13 p1 p2 p3) (BIf_intro (fun _ => ?_) fun g => absurd rfl g)
  refine Int1_ok (c := 50) (by omega) (by omega) (by decide) (by decide) fun st5 e5 => vc_value_Text _ st5 _ ?_
  refine Cmp_ok (v := vInt 50) (w := vText str2) (by rw [sz_int]; omega) (by unfold vText Vl.sz vsSz fsSz; simp [scZ, str2]) (valid_int dec50) (valid_text u8_49 (by decide)) (by rw [cnt_int]; omega) (li st5 50) (vl_leaf st5 _ rfl) (Keeps.refl _) fun st6 e6 => ?_
  rw [show cmpN 2000000 (vInt 50) (vText str2) = -1 from cmp_kind (N := 1999999) (by simp)]
  refine BIf_intro (fun _ => Int1_ok (c := 49) (by omega) (by omega) (by decide) (by decide) fun st7 e7 => ?_) fun g => absurd rfl g
  refine List_ok (l := [vInt 49]) (by omega) (by omega) (.of_rd (.inr ⟨.full, rfl⟩)) (VsR.cons (li st7 49) (.nil st7)) fun xb xl xf st8 hl8 q1 q2 q3 e8 => ?_
  have e38 := ((e4.trans e5).trans e6).trans (e7.trans e8)
  refine Cmp_ok (v := vList [vInt 49, vInt 50]) (w := vList [vInt 49]) (by omega) (by omega) vL vM (by omega) (VlR.keep e38.keeps hl) hl8 (Keeps.refl _) fun st9 e9 => ?_
  rw [show cmpN 2000000 (vList [vInt 49, vInt 50]) (vList [vInt 49]) = 1 from by
    rw [show (2000000 : Nat) = 1999998 + 1 + 1 from rfl, cmp_list]
    unfold cmpL
    rw [cmp_int, show decC false [49] 0 false [49] 0 = 0 from by decide, thenC_zero rfl]; rfl]
  refine BIf_intro (fun _ => ?_) fun g => absurd rfl g
  have e49 := ((e5.trans e6).trans (e7.trans e8)).trans e9
  have hMs : (vMap [.mk str1 (vList [vInt 49, vInt 50])]).sz = 7 := by unfold vMap; rw [Vl.sz, hsF]; unfold vsSz; simp [scZ]
  have hMc : (vMap [.mk str1 (vList [vInt 49, vInt 50])]).cnt = 4 := by unfold vMap; rw [Vl.cnt, hcF]; unfold vsCnt; rfl
  have hMd : depV (vMap [.mk str1 (vList [vInt 49, vInt 50])]) = 3 := by
    simp [vMap, vList, vInt, depV, depVs, depFs, depD]
  refine Size_ok (v := vMap [.mk str1 (vList [vInt 49, vInt 50])]) (by omega) (by omega) hm e49.keeps fun st10 e10 => ?_
  rw [hMc]
  refine BIf_intro (fun _ => Depth_ok (v := vMap [.mk str1 (vList [vInt 49, vInt 50])]) (by omega) (by omega) hm (e49.trans e10).keeps fun st11 e11 => ?_) fun g => absurd rfl g
  rw [hMd]
  refine BIf_intro (fun _ => ?_) fun g => absurd rfl g
  refine vc_value_Name 5 st11 _ (BIf_intro (fun g => absurd g (by decide)) fun _ => BIf_intro (fun g => absurd g (by decide)) fun _ => ⟨⟨by decide, by decide⟩, optK_intro (x := .str str3) rfl (decT_str ?_)⟩)
  rw [decide_eq_true rfl]
  exact hk st11 ((((((e1.trans e2).trans e3).trans e4).trans e49).trans e10).trans e11)
/-- fit. -/
theorem fit_ok {v : Vl} (hN : v.sz ≤ 2000000) {st0 st : St} {cs : List TV} {K : Bool → St → Prop} (h : VlR st0 v cs) (hke : Keeps st0 st) (hk : ∀ b st', StExt st st' → (b = true → Valid v ∧ v.cnt ≤ 65536) → K b st') :
    CallT PR fn_datakitlaw07_fit [.agg cs] [.one .bool] st K := by
  have h0 := h
  cases v
  obtain ⟨_, _, _, _, _, rfl, _⟩ := h.cells
  refine vc_datakitlaw07_fit _ _ _ _ _ _ _ _ _ _ _ _ _ st K (Small_ok hN h0 hke fun b => BIf_bool (fun _ => rCheck_ok hN h0 hke fun st1 e1 => ?_) fun _ => hk _ st (StExt.refl _) fun h => by cases h)
  refine hk _ st1 e1 fun hd => ?_
  have : checkV _ = 0 := Int.ofNat.inj (by simpa using hd)
  exact ⟨check_valid this, check_cnt this⟩
end Go.TVF
end

section
namespace Go.TVF
open Go Go.Proofs
set_option linter.unusedVariables false
set_option linter.unusedSimpArgs false
theorem fsCnt_perm {f g : List Fd} (p : f.Perm g) : fsCnt f = fsCnt g := by
  induction p with
  | nil => rfl
  | cons x _ ih => unfold fsCnt; rw [ih]
  | swap x y l => unfold fsCnt; simp only [fsCnt]; omega
  | trans _ _ h1 h2 => rw [h1, h2]
mutual
theorem sortV_cnt : ∀ v : Vl, (sortV v).cnt = v.cnt
  | .mk s l f => by
    unfold sortV Vl.cnt
    rw [sortVs_cnt l, fsCnt_perm (sortFd_perm _), sortFs_cnt f]
theorem sortVs_cnt : ∀ l : List Vl, vsCnt (sortVs l) = vsCnt l
  | [] => by unfold sortVs; rfl
  | v :: r => by unfold sortVs vsCnt; rw [sortV_cnt v, sortVs_cnt r]
theorem sortD_cnt : ∀ d : Fd, (sortD d).cnt = d.cnt
  | .mk k v => by unfold sortD Fd.cnt; rw [sortV_cnt v]
theorem sortFs_cnt : ∀ f : List Fd, fsCnt (sortFs f) = fsCnt f
  | [] => by unfold sortFs; rfl
  | d :: r => by unfold sortFs fsCnt; rw [sortD_cnt d, sortFs_cnt r]
end
theorem KNdf_iff : ∀ {f : List Fd}, KNdf f ↔ ∀ d, d ∈ f → KNdD d
  | [] => by unfold KNdf; simp
  | x :: r => by unfold KNdf; rw [KNdf_iff]; simp
theorem KeysNd.perm {f g : List Fd} (h : KeysNd f) (p : f.Perm g) : KeysNd g := by
  unfold KeysNd at *
  exact (p.map Fd.key).nodup_iff.1 h
theorem KeysNd.sortFs {f : List Fd} (h : KeysNd f) : KeysNd (sortFs f) := by
  unfold KeysNd at *
  rw [sortFs_map, List.map_map]
  have : Fd.key ∘ sortD = Fd.key := funext fun d => sortD_key d
  rw [this]; exact h
mutual
theorem sort_idem : ∀ {v : Vl}, KNd v → KNd (sortV v) ∧ sortV (sortV v) = sortV v
  | .mk s l f, h => by
    unfold KNd at h
    obtain ⟨h1, h2, h3⟩ := h
    obtain ⟨l1, l2⟩ := sorts_idem h1
    obtain ⟨f1, f2⟩ := sortf_idem h3
    have k2 := (h2.sortFs).perm (sortFd_perm (sortFs f)).symm
    have e : sortV (.mk s l f) = .mk s (sortVs l) (sortFd (sortFs f)) := by rw [sortV]
    rw [e]
    constructor
    · unfold KNd
      exact ⟨l1, k2, KNdf_iff.2 fun d hd => KNdf_iff.1 f1 d ((sortFd_perm _).mem_iff.1 hd)⟩
    · rw [sortV, l2]
      have : sortFs (sortFd (sortFs f)) = sortFd (sortFs f) := by
        rw [sortFs_map, ← sortFd_map sortD_key, ← sortFs_map, f2]
      rw [this, ← sorted_eq k2 (.refl _) (sortFd_srt _)]
theorem sorts_idem : ∀ {l : List Vl}, KNds l → KNds (sortVs l) ∧ sortVs (sortVs l) = sortVs l
  | [], h => by unfold sortVs; exact ⟨h, by unfold sortVs; rfl⟩
  | v :: r, h => by
    unfold KNds at h
    obtain ⟨h1, h2⟩ := sort_idem h.1
    obtain ⟨h3, h4⟩ := sorts_idem h.2
    rw [sortVs]
    refine ⟨by unfold KNds; exact ⟨h1, h3⟩, by rw [sortVs, h2, h4]⟩
theorem sortd_idem : ∀ {d : Fd}, KNdD d → KNdD (sortD d) ∧ sortD (sortD d) = sortD d
  | .mk k v, h => by
    unfold KNdD at h
    obtain ⟨h1, h2⟩ := sort_idem h
    rw [sortD]
    exact ⟨by unfold KNdD; exact h1, by rw [sortD, h2]⟩
theorem sortf_idem : ∀ {f : List Fd}, KNdf f → KNdf (sortFs f) ∧ sortFs (sortFs f) = sortFs f
  | [], h => by unfold sortFs; exact ⟨h, by unfold sortFs; rfl⟩
  | d :: r, h => by
    unfold KNdf at h
    obtain ⟨h1, h2⟩ := sortd_idem h.1
    obtain ⟨h3, h4⟩ := sortf_idem h.2
    rw [sortFs]
    refine ⟨by unfold KNdf; exact ⟨h1, h3⟩, by rw [sortFs, h2, h4]⟩
end
theorem findF_sz {f : List Fd} {key : List UInt8} {w : Vl} {b : Bool} (h : findF f key = (w, b)) : w.sz ≤ 1 + fsSz f := by
  unfold findF at h
  split at h
  · rename_i d hd
    have := fsSz_mem (List.mem_of_find?_eq_some hd)
    obtain ⟨k, v⟩ := d
    rw [szd] at this
    simp only [Fd.val, Prod.mk.injEq] at h
    rw [← h.1]; omega
  · simp only [Prod.mk.injEq] at h
    rw [← h.1]
    unfold vlZ Vl.sz vsSz fsSz; simp [scZ]
theorem lchecks_ok {v : Vl} (hN : v.sz ≤ 2000000) {st : St} {cs : List TV} {K : Bool → St → Prop} (h : VlR st v cs) (hk : ∀ st', K true st') : CallT PR fn_datakitlaw07_ValueChecks [.agg cs] [.one .bool] st K := by
  have h0 := h
  have hke := Keeps.refl st
  cases v
  obtain ⟨_, _, _, _, _, rfl, _⟩ := h.cells
  refine vc_datakitlaw07_ValueChecks _ _ _ _ _ _ _ _ _ _ _ _ _ st K (Small_ok hN h0 hke fun b => BIf_bool (fun _ => lives_ok fun st' _ => hk st') fun _ => ?_)
  exact Check_ok hN h0 hke fun st1 e1 => rCheck_ok hN h0 (hke.trans e1.keeps) fun st2 e2 => BIf_intro (fun _ => lives_ok fun st' _ => hk st') fun g => absurd rfl g
theorem beq_of_iff {b c : Bool} {p : Prop} (hb : b = true ↔ p) (hc : c = true ↔ p) : b = c := by
  cases b <;> cases c <;> simp_all
theorem lcompares_ok {v w : Vl} (hN : v.sz ≤ 2000000) (hW : w.sz ≤ 2000000) {st : St} {cs ds : List TV} {K : Bool → St → Prop} (h : VlR st v cs) (h' : VlR st w ds) (hk : ∀ st', K true st') : CallT PR fn_datakitlaw07_ValueCompares [.agg cs, .agg ds] [.one .bool] st K := by
  have a0 := h
  have b0 := h'
  have hke := Keeps.refl st
  cases v; cases w
  obtain ⟨_, _, _, _, _, rfl, _⟩ := h.cells
  obtain ⟨_, _, _, _, _, rfl, _⟩ := h'.cells
  refine vc_datakitlaw07_ValueCompares _ _ _ _ _ _ _ _ _ _ _ _ _ _ _ _ _ _ _ _ _ _ _ _ _ _ st K (fit_ok hN a0 hke fun b1 st1 e1 hf1 => BIf_bool (fun _ => lives_ok fun st' _ => hk st') fun q1 => ?_)
  obtain ⟨va, ca⟩ := hf1 (by simpa using q1)
  have ke1 := hke.trans e1.keeps
  refine fit_ok hW b0 ke1 fun b2 st2 e2 hf2 => BIf_bool (fun _ => lives_ok fun st' _ => hk st') fun q2 => ?_
  obtain ⟨vb, cb⟩ := hf2 (by simpa using q2)
  have ke2 := ke1.trans e2.keeps
  refine pSame_ok hN hW ca a0 b0 ke2 fun r1 st3 e3 i1 => ?_
  have ke3 := ke2.trans e3.keeps
  refine Same_ok 2000000 _ _ hN hW (by omega) a0 b0 ke3 fun r2 i2 => ?_
  rw [beq_of_iff i1 i2]
  refine BIf_bool (fun _ => ?_) fun g => by simp at g
  refine pEqual_ok hN hW ca va.ok.2 vb.ok.2 a0 b0 ke3 fun r3 st4 e4 i3 => ?_
  have ke4 := ke3.trans e4.keeps
  refine rEqual_ok hN hW (by rw [sortV_sz]; exact hN) (by rw [sortV_sz]; exact hW) a0 b0 ke4 fun r4 st5 e5 i4 => ?_
  have ke5 := ke4.trans e5.keeps
  rw [beq_of_iff i3 i4]
  refine BIf_bool (fun _ => ?_) fun g => by simp at g
  refine Cmp_ok hN hW va vb ca a0 b0 ke5 fun st6 e6 => rCmp_ok 2000000 _ _ hN hW (by omega) va vb a0 b0 (ke5.trans e6.keeps) fun st7 e7 => ?_
  exact BIf_intro (fun _ => lives_ok fun st' _ => hk st') fun g => absurd rfl g
theorem llooks_ok {v : Vl} (hN : v.sz ≤ 1900000) {key : List UInt8} {st : St} {cs : List TV} {K : Bool → St → Prop} (h : VlR st v cs) (hk : ∀ st', K true st') : CallT PR fn_datakitlaw07_ValueLooks [.agg cs, .str key] [.one .bool] st K := by
  have a0 := h
  have hke := Keeps.refl st
  cases v with
  | mk s l f =>
  have hsz := szs s l f
  obtain ⟨ub, ul, uf, xl, xf, rfl, _⟩ := h.cells
  refine vc_datakitlaw07_ValueLooks _ _ _ _ _ _ _ _ _ _ _ _ _ key st K (fit_ok (by omega) a0 hke fun b1 st1 e1 hf1 => BIf_bool (fun _ => lives_ok fun st' _ => hk st') fun q1 => ?_)
  obtain ⟨va, ca⟩ := hf1 (by simpa using q1)
  have va0 := va
  unfold Valid at va
  have own := va.1.own
  have ke1 := hke.trans e1.keeps
  refine Field_ok (by omega) ca own.fs a0 ke1 fun wb wl wf st2 w b hw hr2 e2 => need_intro (by
    obtain ⟨s1, l1, f1⟩ := w
    obtain ⟨_, _, _, _, _, hcs, p1, p2, _, p4, _⟩ := hr2.cells
    simp only [cellsV, List.cons.injEq, and_true, true_and] at hcs
    obtain ⟨_, _, _, _, _, _, _, _, _, _, rfl, rfl, rfl⟩ := hcs
    exact one13 p1.one p2.one p4.one) ?_
  have ke2 := ke1.trans e2.keeps
  refine rField_ok (by omega) a0 ke2 fun xb xl xf st3 w' b' hw' hr3 e3 => ?_
  rw [hw] at hw'
  simp only [Prod.mk.injEq] at hw'
  obtain ⟨rfl, rfl⟩ := hw'
  have ke3 := ke2.trans e3.keeps
  have hzw := findF_sz hw
  refine need_intro (by
    obtain ⟨s1, l1, f1⟩ := w
    obtain ⟨_, _, _, _, _, hcs, p1, p2, _, p4, _⟩ := hr3.cells
    simp only [cellsV, List.cons.injEq, and_true, true_and] at hcs
    obtain ⟨_, _, _, _, _, _, _, _, _, _, rfl, rfl, rfl⟩ := hcs
    exact one13 p1.one p2.one p4.one) ?_
  refine Size_ok (by omega) ca a0 ke3 fun st4 e4 => ?_
  have ke4 := ke3.trans e4.keeps
  refine rSize_ok 2000000 _ (by omega) (by omega) va0 a0 ke4 fun st5 e5 => BIf_intro (fun _ => ?_) fun g => absurd rfl g
  have ke5 := ke4.trans e5.keeps
  refine Depth_ok (by omega) ca a0 ke5 fun st6 e6 => ?_
  have ke6 := ke5.trans e6.keeps
  refine rDepth_ok 2000000 _ (by omega) (by omega) va0 a0 ke6 fun st7 e7 => BIf_intro (fun _ => ?_) fun g => absurd rfl g
  refine truth_ok (s := s) (l := l) (f := f) own.k0 (rtruth_ok (s := s) (l := l) (f := f) (BIf_bool (fun _ => ?_) fun g => by simp at g))
  refine scalarV_ok (s := s) (l := l) (f := f) own.k0 (rscalarV_ok (s := s) (l := l) (f := f) (BIf_bool (fun _ => BIf_bool (fun _ => ?_) fun g => by simp at g) fun g => by simp at g))
  have e37 := ((e4.trans e5).trans e6).trans e7
  refine Same_ok 2000000 w w (by omega) (by omega) (by omega) (VlR.keep (e3.trans e37).keeps hr2) (VlR.keep e37.keeps hr3) (Keeps.refl _) fun r hr => ?_
  rw [hr.2 rfl]
  exact lives_ok fun st' _ => hk st'
theorem lsorts_ok {v w : Vl} (hN : v.sz ≤ 2000000) (hW : w.sz ≤ 2000000) {st : St} {cs ds : List TV} {K : Bool → St → Prop} (h : VlR st v cs) (h' : VlR st w ds) (hk : ∀ st', K true st') : CallT PR fn_datakitlaw07_ValueSorts [.agg cs, .agg ds] [.one .bool] st K := by
  have a0 := h
  have b0 := h'
  have hke := Keeps.refl st
  cases v; cases w
  obtain ⟨_, _, _, _, _, rfl, _⟩ := h.cells
  obtain ⟨_, _, _, _, _, rfl, _⟩ := h'.cells
  refine vc_datakitlaw07_ValueSorts _ _ _ _ _ _ _ _ _ _ _ _ _ _ _ _ _ _ _ _ _ _ _ _ _ _ st K (fit_ok hN a0 hke fun b1 st1 e1 hf1 => BIf_bool (fun _ => lives_ok fun st' _ => hk st') fun q1 => ?_)
  obtain ⟨va, ca⟩ := hf1 (by simpa using q1)
  have ke1 := hke.trans e1.keeps
  refine fit_ok hW b0 ke1 fun b2 st2 e2 hf2 => BIf_bool (fun _ => lives_ok fun st' _ => hk st') fun q2 => ?_
  obtain ⟨vb, cb⟩ := hf2 (by simpa using q2)
  have ke2 := ke1.trans e2.keeps
  have ia := sort_idem va.ok.2
  have ib := sort_idem vb.ok.2
  refine Sorted_ok hN ca va.ok.2 (VlR.keep ke2 a0) fun ub ul uf st3 hx o1 o2 o3 e3 => ?_
  have ke3 := ke2.trans e3.keeps
  refine Sorted_ok hW cb vb.ok.2 (VlR.keep ke3 b0) fun wb wl wf st4 hy p1 p2 p3 e4 => need_intro (one13 o1 o2 o3) (need_intro (one13 p1 p2 p3) ?_)
  have ke4 := ke3.trans e4.keeps
  have hx4 := VlR.keep e4.keeps hx
  refine rSorted_ok 2000000 _ hN (by omega) a0 ke4 fun xb xl xf st5 hz _ _ _ e5 => ?_
  have ke5 := ke4.trans e5.keeps
  refine Same_ok 2000000 _ _ (by rw [sortV_sz]; exact hN) (by rw [sortV_sz]; exact hN) (by omega) (VlR.keep e5.keeps hx4) hz (Keeps.refl _) fun r1 i1 => ?_
  rw [i1.2 rfl]
  refine pEqual_ok (v := sortV _) (by rw [sortV_sz]; exact hN) hN (by rw [sortV_cnt]; exact ca) ia.1 va.ok.2 (VlR.keep e5.keeps hx4) (VlR.keep ke5 a0) (Keeps.refl _) fun r2 st6 e6 i2 => ?_
  rw [i2.2 ia.2]
  have ke6 := ke5.trans e6.keeps
  have e46 := e5.trans e6
  refine pSame_ok (v := sortV _) (w := sortV _) (by rw [sortV_sz]; exact hN) (by rw [sortV_sz]; exact hW) (by rw [sortV_cnt]; exact ca) hx4 hy e46.keeps fun r3 st7 e7 i3 => ?_
  have ke7 := ke6.trans e7.keeps
  refine pEqual_ok hN hW ca va.ok.2 vb.ok.2 a0 b0 ke7 fun r4 st8 e8 i4 => ?_
  rw [beq_of_iff i3 i4]
  exact BIf_bool (fun _ => lives_ok fun st' _ => hk st') fun g => by simp at g
end Go.TVF
end
