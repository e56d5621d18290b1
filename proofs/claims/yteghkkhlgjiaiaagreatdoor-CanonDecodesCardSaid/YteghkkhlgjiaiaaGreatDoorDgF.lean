/- What the laws below rest on: a framework for Go programs, and contracts of the functions that they reach. -/
import Derived.Test.YteghkkhlgjiaiaaGreatDoorDgE
import Derived.WideShapes
section
namespace Go.TVF
open Go Go.Proofs
set_option linter.unusedVariables false
set_option linter.unusedSimpArgs false
theorem vlLeaf (st : St) (s : Sc) (h : s.bytes = []) : VlR st (.mk s [] []) (cellsV s .nilSlice .nilSlice .nilSlice) := by
  unfold VlR
  refine ⟨_, _, _, [], [], rfl, ?_, .of_rd (.inl ⟨rfl, rfl, rfl⟩), by unfold VsR; rfl, .of_rd (.inl ⟨rfl, rfl, rfl⟩), by unfold FsR; rfl⟩
  rw [h]; exact .of_rd (.inl ⟨rfl, rfl, rfl⟩)
theorem FsR.snoc0 {st : St} {d : Fd} {cd : List TV} {l : List Fd} {xs : List TV} (h : FsR st l xs) (hd : FdR st d cd) : FsR st (l ++ [d]) (xs ++ cd) := by
  obtain ⟨cks, rfl, hall⟩ := h.chunks
  have := FsR.of_chunks (hall.snoc hd)
  simpa using this
/-- What the loop over parts has come to. -/
def LoopS {α : Type} (f : Ps α) (B : List UInt8) (n : Nat) (T0 : Except Nat Nat) (k : Nat) (S' : Except Nat Nat) (R : List α → Prop) : Prop := match S' with
  | .error e => ∀ Q : List α → Prop, After T0 (repP f n B) Q (.error e)
  | .ok a => k ≤ a ∧ ∃ vs : List α, vs.length = k ∧ R vs ∧ ∀ (Q : List α → Prop) T, After (.ok a) (repP f (n - k) B) (fun l => Q (vs ++ l)) T → After T0 (repP f n B) Q T
theorem LoopS.err {α : Type} {f : Ps α} {B : List UInt8} {n k e : Nat} {T0 : Except Nat Nat} {a : Nat} {R R' : List α → Prop} {Q0 : α → Prop} (h : LoopS f B n T0 k (.ok a) R) (hk : k < n) (h1 : After (.ok a) (f B) Q0 (.error e)) : LoopS f B n T0 (k + 1) (.error e) R' := by
  obtain ⟨_, vs, _, _, tr⟩ := h
  intro Q
  refine tr Q _ ?_
  rw [show n - k = (n - (k + 1)) + 1 by omega]
  rcases h1.elim with ⟨e', he, tr2⟩ | ⟨_, _, _, _, he, _⟩
  · cases he; exact tr2 _ _ _
  · cases he
theorem LoopS.step {α : Type} {f : Ps α} {B : List UInt8} {n k b : Nat} {T0 : Except Nat Nat} {a : Nat} {R R' : List α → Prop} {Q0 : α → Prop} (h : LoopS f B n T0 k (.ok a) R) (hk : k < n) (h1 : After (.ok a) (f B) Q0 (.ok b)) (hadv : ∀ x, f B a = .ok (x, b) → a < b)
    (hR : ∀ vs x, vs.length = k → R vs → Q0 x → R' (vs ++ [x])) : LoopS f B n T0 (k + 1) (.ok b) R' := by
  obtain ⟨hka, vs, hvl, hv, tr⟩ := h
  rcases h1.elim with ⟨e', he, _⟩ | ⟨x, a', b', ha, hb, hf, hQ, tr2⟩
  · cases he
  · cases ha; cases hb
    have := hadv x hf
    refine ⟨by omega, vs ++ [x], by simp [hvl], hR vs x hvl hv hQ, fun Q T h => tr Q T ?_⟩
    rw [show n - k = (n - (k + 1)) + 1 by omega]
    refine tr2 _ _ _ _ ?_
    rcases h.elim with ⟨e, rfl, tr3⟩ | ⟨l, _, _, ha, rfl, _, hQ', tr3⟩
    · exact tr3 _ _ _
    · refine tr3 _ _ _ _ (After.ok ?_)
      simpa using hQ'
theorem LoopS.done {α β : Type} {f : Ps α} {B : List UInt8} {n : Nat} {T0 S' : Except Nat Nat} {R : List α → Prop} {g : List α → β} {Q : β → Prop} (h : LoopS f B n T0 n S' R) (hQ : ∀ vs, R vs → Q (g vs)) : After T0 ((repP f n).bnd (fun l => .ok (g l)) B) Q S' := by
  cases S' with
  | error e =>
    rcases (h (fun _ => True)).elim with ⟨e', he, tr⟩ | ⟨_, _, _, _, he, _⟩
    · cases he; exact tr _ _ _
    · cases he
  | ok a =>
    obtain ⟨_, vs, _, hR, tr⟩ := h
    have h2 := tr (fun l => R l) (.ok a) (by rw [Nat.sub_self]; exact ⟨by simpa using hR, rfl⟩)
    rcases h2.elim with ⟨e', he, _⟩ | ⟨x, _, b, ha, hb, _, hx, tr3⟩
    · cases he
    · cases hb; exact tr3 _ _ _ _ (After.ok (hQ x hx))
theorem LoopS.out {α β : Type} {f : Ps α} {B : List UInt8} {n k e : Nat} {T0 : Except Nat Nat} {R : List α → Prop} {g : List α → β} {Q : β → Prop} (h : LoopS f B n T0 k (.error e) R) : After T0 ((repP f n).bnd (fun l => .ok (g l)) B) Q (.error e) := by
  rcases (h (fun _ => True)).elim with ⟨e', he, tr⟩ | ⟨_, _, _, _, he, _⟩
  · cases he; exact tr _ _ _
  · cases he
set_option maxRecDepth 4000 in
theorem rvalue_ok : ∀ d, d ≤ 48 → ∀ {r : Nat} {u : TV} {B : List UInt8} {st : St} {S : Except Nat Nat} {K : Int → Bool → Bool → List UInt8 → Int → Int → Int → Int → Int → List UInt8 → TV → TV → TV → St → Prop}, InB u B → RS r u B st S →
    (∀ s ub ul uf st' T, oneT ub = true → oneT ul = true → oneT uf = true → StX (· = r) st st' → RS r u B st' T → After S (rdV d B) (fun v => VlR St.zero v (cellsV s ub ul uf)) T → K s.kind s.b s.neg s.dg s.ex s.tk s.td s.tn s.tz s.text ub ul uf st') →
    CallT PR fn_canon_reader_value [.box r 0, .int .i64 (49 - (d : Nat))] [.agg [.int .i64, .bool, .bool, .str, .int .i64, .int .i64, .int .i64, .int .i64, .int .i64, .str, .tv, .tv, .tv]] st K := by
  intro d
  induction d with
  | zero =>
    intro hd r u B st S K hB h hk
    have hl := hB.len
    refine vc_canon_reader_value r _ st K ⟨fun p D k1 b1 b2 s1 k2 k3 k4 k5 k6 s2 v1 v2 v3 st' => TV.box r 0 = p ∧ StX (· = r) st st' ∧ ∃ e, RS r u B st' (.error e) ∧ After S (rdV 0 B) (fun _ => True) (.error e), ?_, ?_⟩
    · refine optK_intro h.err (decT_int ?_)
      cases S with
      | ok a => exact BIf_intro (fun _ => BIf_intro (fun _ => rfail_ok (e := 9) h (by omega) (by omega) fun st' T e' h' hE => ⟨rfl, e', 9, by rw [show T = .error 9 from hE] at h'; exact h', rfl⟩) fun g => absurd (by omega) g) fun g => absurd rfl g
      | error e => exact BIf_intro (fun g => by have := h.2.1; simp only [errS] at g; omega) fun _ => ⟨rfl, StX.refl _ _, e, h, rfl⟩
    · rintro _ D k1 b1 b2 s1 k2 k3 k4 k5 k6 s2 v1 v2 v3 st1 ⟨rfl, e1, e, h1, hA⟩
      refine rmost_ok (lim := 7) hB h1 fun x st2 T hx e2 h2 a2 => ?_
      have hT : T = .error e := a2
      subst hT
      refine need_intro rfl (need_intro rfl (optK_intro h2.err (decT_int (BIf_intro (fun _ => ?_) fun g => absurd (show ((e : Nat) : Int) ≠ 0 by have := h2.2.1; omega) g))))
      exact hk ⟨0, false, false, [], 0, 0, 0, 0, 0, [], []⟩ .nilSlice .nilSlice .nilSlice st2 _ rfl rfl rfl (e1.trans e2) h2 hA.err
  | succ d ih =>
    intro hd r u B st S K hB h hk
    have hl := hB.len
    refine vc_canon_reader_value r _ st K ⟨fun p D k1 b1 b2 s1 k2 k3 k4 k5 k6 s2 v1 v2 v3 st' => TV.box r 0 = p ∧ D = 49 - ((d + 1 : Nat) : Int) ∧ st = st', ?_, ?_⟩
    · refine optK_intro h.err (decT_int (BIf_intro (fun _ => BIf_intro (fun g => by omega) fun _ => ⟨rfl, rfl, rfl⟩) fun _ => ⟨rfl, rfl, rfl⟩))
    rintro _ _ k1 b1 b2 s1 k2 k3 k4 k5 k6 s2 v1 v2 v3 _ ⟨rfl, rfl, rfl⟩
    refine rmost_ok (lim := 7) hB h fun x st1 T hx e1 h1 a1 => need_intro rfl (need_intro rfl (optK_intro h1.err (decT_int ?_)))
    have hdec : rdV (d + 1) = _ := rdV.eq_2 d
    rcases a1.elim with ⟨e, rfl, tr⟩ | ⟨x', a, b, rfl, rfl, hf, rfl, tr⟩
    · refine BIf_intro (fun _ => ?_) fun g => absurd (show ((e : Nat) : Int) ≠ 0 by have := h1.2.1; omega) g
      refine hk ⟨0, false, false, [], 0, 0, 0, 0, 0, [], []⟩ .nilSlice .nilSlice .nilSlice st1 _ rfl rfl rfl e1 h1 ?_
      rw [hdec]; exact tr _ _ _
    refine BIf_intro (fun g => absurd rfl g) fun _ => ?_
    have hb := h1.2.1
    have step : ∀ (Q : Vl → Prop) (g : Ps Vl) T', (if x = 1 then (mostP 1).bnd fun b => Ps.ok (Vl.mk { scK 1 with b := decide (b = 1) } [] [])
      else if x = 2 then numP.bnd fun x => .ok (.mk { scK 2 with neg := x.1, dg := x.2.1, ex := x.2.2 } [] [])
      else if x = 3 then oneP.bnd fun a => natF.bnd fun b => natF.bnd fun c => intP.bnd fun z => .ok (.mk { scK 3 with tk := a, td := b, tn := c, tz := z } [] [])
      else if x = 4 then strP.bnd fun s => .ok (.mk { scK 4 with text := s } [] [])
      else if x = 5 then strP.bnd fun s => .ok (.mk { scK 5 with bytes := s } [] [])
      else if x = 6 then natF.bnd fun n => (repP (rdV d) n).bnd fun l => .ok (.mk (scK 6) l [])
      else if x = 7 then natF.bnd fun n => (repP (strP.bnd fun key => (rdV d).bnd fun v => .ok (Fd.mk key v)) n).bnd fun f => .ok (.mk (scK 7) [] f)
      else .ok (.mk (scK x) [] [])) = g → After (.ok b) (g B) Q T' → After (.ok a) (rdV (d + 1) B) Q T' := fun Q g T' hg hA => by
        rw [hdec]
        subst hg
        exact tr _ _ Q T' hA
    rw [wrap64 ((x : Nat) : Int) (by omega) (by omega)]
    refine BIf_intro (fun g1 => ?_) fun g1 => ?_
    · have hx1 : x = 1 := by omega
      subst hx1
      refine rmost_ok (lim := 1) hB h1 fun y st2 T2 hy e2 h2 a2 => ?_
      have hdy : decide (((y : Nat) : Int) = 1) = decide (y = 1) := decide_eq_decide.2 (by omega)
      rw [hdy]
      exact hk { scK 1 with b := decide (y = 1) } .nilSlice .nilSlice .nilSlice st2 T2 rfl rfl rfl (e1.trans e2) h2 (step _ _ _ (if_pos rfl) (a2.bnd (After.ok (vlLeaf _ _ rfl))))
    refine BIf_intro (fun g2 => ?_) fun g2 => ?_
    · have hx1 : x = 2 := by omega
      subst hx1
      refine rnum_ok hB h1 fun y st2 T2 e2 h2 a2 => ?_
      exact hk { scK 2 with neg := y.1, dg := y.2.1, ex := y.2.2 } .nilSlice .nilSlice .nilSlice st2 T2 rfl rfl rfl (e1.trans e2) h2 (step _ _ _ ((if_neg (by omega)).trans (if_pos rfl)) (a2.bnd (After.ok (vlLeaf _ _ rfl))))
    refine BIf_intro (fun g3 => ?_) fun g3 => ?_
    · have hx1 : x = 3 := by omega
      subst hx1
      refine rone_ok hB h1 fun y1 st2 T2 hy e2 h2 a2 => rnat_ok hB h2 fun y2 st3 T3 hy2 e3 h3 a3 => rnat_ok hB h3 fun y3 st4 T4 hy3 e4 h4 a4 => rint_ok hB h4 fun y4 st5 T5 e5 h5 a5 => ?_
      rw [wrap64 ((y1 : Nat) : Int) (by omega) (by omega), wrap64 ((y2 : Nat) : Int) (by omega) (by omega), wrap64 ((y3 : Nat) : Int) (by omega) (by omega)]
      exact hk { scK 3 with tk := y1, td := y2, tn := y3, tz := y4 } .nilSlice .nilSlice .nilSlice st5 T5 rfl rfl rfl ((((e1.trans e2).trans e3).trans e4).trans e5) h5 (step _ _ _ ((if_neg (by omega)).trans ((if_neg (by omega)).trans (if_pos rfl))) (a2.bnd (a3.bnd (a4.bnd (a5.bnd (After.ok (vlLeaf _ _ rfl)))))))
    refine BIf_intro (fun g4 => ?_) fun g4 => ?_
    · have hx1 : x = 4 := by omega
      subst hx1
      refine rstr_ok hB h1 fun y st2 T2 e2 h2 _ a2 => ?_
      exact hk { scK 4 with text := y } .nilSlice .nilSlice .nilSlice st2 T2 rfl rfl rfl (e1.trans e2) h2 (step _ _ _ ((if_neg (by omega)).trans ((if_neg (by omega)).trans ((if_neg (by omega)).trans (if_pos rfl)))) (a2.bnd (After.ok (vlLeaf _ _ rfl))))
    refine BIf_intro (fun g5 => ?_) fun g5 => ?_
    · have hx1 : x = 5 := by omega
      subst hx1
      refine rstr_ok hB h1 fun y st2 T2 e2 h2 _ a2 => need_intro rfl (need_intro rfl ?_)
      refine hk { scK 5 with bytes := y } (.list 1 (.own st2.nt) y.length (bytesT y)) .nilSlice .nilSlice (st2.fresh (some 5)) T2 rfl rfl rfl ((e1.trans e2).fresh _) (h2.same rfl rfl) (step _ _ _ ((if_neg (by omega)).trans ((if_neg (by omega)).trans ((if_neg (by omega)).trans ((if_neg (by omega)).trans (if_pos rfl))))) (a2.bnd (After.ok ?_)))
      unfold VlR
      exact ⟨_, _, _, [], [], rfl, .of_rd (.inr ⟨_, rfl⟩), .of_rd (.inl ⟨rfl, rfl, rfl⟩), by unfold VsR; rfl, .of_rd (.inl ⟨rfl, rfl, rfl⟩), by unfold FsR; rfl⟩
    refine BIf_intro (fun g6 => ?_) fun g6 => ?_
    · have hx1 : x = 6 := by omega
      subst hx1
      refine rnat_ok hB h1 fun n st2 T2 hn e2 h2 a2 => ?_
      have stepL : ∀ (Q : Vl → Prop) T', After T2 ((repP (rdV d) n).bnd (fun l => .ok (.mk (scK 6) l [])) B) Q T' → After (.ok a) (rdV (d + 1) B) Q T' := fun Q T' hA =>
        step _ _ _ ((if_neg (by omega)).trans ((if_neg (by omega)).trans ((if_neg (by omega)).trans ((if_neg (by omega)).trans ((if_neg (by omega)).trans (if_pos rfl)))))) (a2.bnd hA)
      refine ⟨fun i p D a1 a2 a3 a4 a5 a6 a7 a8 a9 a10 a11 a12 a13 c1 c2 c3 c4 c5 c6 c7 c8 c9 c10 c11 c12 c13 st' => TV.box r 0 = p ∧ D = 49 - ((d + 1 : Nat) : Int) ∧ ((6 : Nat) : Int) = c1 ∧ false = c2 ∧ false = c3 ∧ ([] : List UInt8) = c4 ∧ (0 : Int) = c5 ∧ (0 : Int) = c6 ∧ (0 : Int) = c7 ∧ (0 : Int) = c8 ∧ (0 : Int) = c9 ∧ ([] : List UInt8) = c10 ∧ TV.nilSlice = c11 ∧ TV.nilSlice = c13 ∧ ∃ (k : Nat) (S' : Except Nat Nat), i = ((n - k : Nat) : Int) ∧ k ≤ n ∧ k ≤ B.length + 1 ∧ StX (· = r) st2 st' ∧ RS r u B st' S' ∧ oneT c12 = true ∧ LoopS (rdV d) B n T2 k S' (fun vs => ∃ xs, Own st2.nt 13 st' c12 k xs ∧ VsR St.zero vs xs),
        fun i _ _ _ _ _ _ _ _ _ _ _ _ _ _ _ _ _ _ _ _ _ _ _ _ _ _ _ _ _ => i.toNat, ⟨rfl, rfl, rfl, rfl, rfl, rfl, rfl, rfl, rfl, rfl, rfl, rfl, rfl, rfl, 0, T2, rfl, Nat.zero_le _, Nat.zero_le _, StX.refl _ _, h2, rfl, ?_⟩, ?_⟩
      · cases T2 with
        | error e =>
          intro Q
          rcases a2.elim with ⟨e', he, _⟩ | ⟨_, _, _, _, he, _⟩
          · rfl
          · cases he
        | ok b2 => exact ⟨Nat.zero_le _, [], rfl, ⟨[], Own.nil _ _ _, by unfold VsR; rfl⟩, fun Q T hA => hA⟩
      rintro _ _ _ a1 a2 a3 a4 a5 a6 a7 a8 a9 a10 a11 a12 a13 _ _ _ _ _ _ _ _ _ _ _ c12 _ st3 ⟨rfl, rfl, rfl, rfl, rfl, rfl, rfl, rfl, rfl, rfl, rfl, rfl, rfl, rfl, k, S', rfl, hkn, hkB, e3, h3, o3, hL⟩
      have fin : ∀ T, RS r u B st3 T → After T2 ((repP (rdV d) n).bnd (fun l => Ps.ok (Vl.mk (scK 6) l [])) B) (fun v => VlR St.zero v (cellsV (scK 6) .nilSlice c12 .nilSlice)) T → K 6 false false [] 0 0 0 0 0 [] .nilSlice c12 .nilSlice st3 := fun T hT hA =>
        hk (scK 6) .nilSlice c12 .nilSlice st3 T rfl o3 rfl ((e1.trans e2).trans e3) hT (stepL _ _ hA)
      have hQ : ∀ vs : List Vl, vs.length = k → (∃ xs, Own st2.nt 13 st3 c12 k xs ∧ VsR St.zero vs xs) → VlR St.zero (.mk (scK 6) vs []) (cellsV (scK 6) .nilSlice c12 .nilSlice) := by
        rintro vs rfl ⟨xs, ho, hv⟩
        unfold VlR
        exact ⟨_, _, _, xs, [], rfl, .of_rd (.inl ⟨rfl, rfl, rfl⟩), .of_rd ho.rd, hv, .of_rd (.inl ⟨rfl, rfl, rfl⟩), by unfold FsR; rfl⟩
      have hone : List.all [TV.int .i64 6, .bool false, .bool false, .str [], .int .i64 0, .int .i64 0, .int .i64 0, .int .i64 0, .int .i64 0, .str [], .nilSlice, c12, .nilSlice] oneT = true := one13 rfl o3 rfl
      refine BIf_intro (fun q => ?_) fun q => ?_
      · refine need_intro rfl (need_intro rfl (optK_intro h3.err (decT_int (BIf_intro (fun q2 => ?_) fun q2 => ?_))))
        · cases S' with
          | error e => have := h3.2.1; simp only [errS] at q2; omega
          | ok a' =>
          have ha' := h3.2.1
          have hka := hL.1
          have hD : IntKind.i64.wrap (49 - ((d + 1 : Nat) : Int) + 1) = 49 - ((d : Nat) : Int) := by rw [wrap64 _ (by omega) (by omega)]; omega
          rw [hD]
          refine ih (by omega) hB h3 fun s wb wl wf st4 T4 p1 p2 p3 e4 h4 a4 => need_intro (one13 p1 p2 p3) ?_
          have hown : ∃ xs, Own st2.nt 13 st3 c12 k xs := by obtain ⟨_, vs, _, ⟨xs, ho, _⟩, _⟩ := hL; exact ⟨xs, ho⟩
          obtain ⟨xs0, ho0⟩ := hown
          refine appK_X (e3.trans e4) rfl (ho0.extX e4) (by omega) (by omega) fun v' st5 e5 hbx hnb ho5 => need_intro (by simp [ho5.rd.one]) ?_
          have h5 := h4.same hbx hnb
          rw [wrapU64 _ (by omega) (by omega)]
          cases T4 with
          | error e =>
            exact ⟨⟨rfl, rfl, rfl, rfl, rfl, rfl, rfl, rfl, rfl, rfl, rfl, rfl, rfl, rfl, k + 1, .error e, by omega, by omega, by omega, e5, h5, ho5.rd.one, hL.err (by omega) a4⟩, by dsimp only; omega⟩
          | ok b4 =>
            refine ⟨⟨rfl, rfl, rfl, rfl, rfl, rfl, rfl, rfl, rfl, rfl, rfl, rfl, rfl, rfl, k + 1, .ok b4, by omega, by omega, by omega, e5, h5, ho5.rd.one, hL.step (by omega) a4 (fun v hv => by have := rdV_inv d hv; have := v.sz_pos; omega) fun vs v hvl hR hv => ?_⟩, by dsimp only; omega⟩
            obtain ⟨xs, ho, hvs⟩ := hR
            have hxe : xs = xs0 := by
              rcases ho with ⟨c1, c2, c3⟩ | ⟨tip, c1, _⟩ <;> rcases ho0 with ⟨d1, d2, d3⟩ | ⟨tip', d1, _⟩
              · rw [c3, d3]
              · rw [c1] at d1; cases d1
              · rw [c1] at d1; cases d1
              · rw [c1] at d1; injection d1
            subst hxe
            exact ⟨_, ho5, VsR.snoc hvs hv⟩
        · cases S' with
          | ok a' => simp [errS] at q2
          | error e => exact need_intro hone (fin _ h3 hL.out)
      · have hkk : k = n := by omega
        subst hkk
        refine need_intro hone (fin S' h3 ?_)
        exact LoopS.done (g := fun l => Vl.mk (scK 6) l []) (R := fun vs => vs.length = k ∧ ∃ xs, Own st2.nt 13 st3 c12 k xs ∧ VsR St.zero vs xs) (by
          cases S' with
          | error e => exact hL
          | ok a' => obtain ⟨c1, vs, c2, c3, c4⟩ := hL; exact ⟨c1, vs, c2, ⟨c2, c3⟩, c4⟩) fun vs hv => hQ vs hv.1 hv.2
    refine BIf_intro (fun g7 => ?_) fun g7 => ?_
    · have hx1 : x = 7 := by omega
      subst hx1
      refine rnat_ok hB h1 fun n st2 T2 hn e2 h2 a2 => ?_
      have stepL : ∀ (Q : Vl → Prop) T', After T2 ((repP (strP.bnd fun key => (rdV d).bnd fun v => .ok (Fd.mk key v)) n).bnd (fun f => .ok (.mk (scK 7) [] f)) B) Q T' → After (.ok a) (rdV (d + 1) B) Q T' := fun Q T' hA =>
        step _ _ _ ((if_neg (by omega)).trans ((if_neg (by omega)).trans ((if_neg (by omega)).trans ((if_neg (by omega)).trans ((if_neg (by omega)).trans ((if_neg (by omega)).trans (if_pos rfl))))))) (a2.bnd hA)
      generalize hfp : (strP.bnd fun key => (rdV d).bnd fun v => Ps.ok (Fd.mk key v)) = fp at stepL
      refine ⟨fun i p D a1 a2 a3 a4 a5 a6 a7 a8 a9 a10 a11 a12 a13 c1 c2 c3 c4 c5 c6 c7 c8 c9 c10 c11 c12 c13 st' => TV.box r 0 = p ∧ D = 49 - ((d + 1 : Nat) : Int) ∧ ((7 : Nat) : Int) = c1 ∧ false = c2 ∧ false = c3 ∧ ([] : List UInt8) = c4 ∧ (0 : Int) = c5 ∧ (0 : Int) = c6 ∧ (0 : Int) = c7 ∧ (0 : Int) = c8 ∧ (0 : Int) = c9 ∧ ([] : List UInt8) = c10 ∧ TV.nilSlice = c11 ∧ TV.nilSlice = c12 ∧ ∃ (k : Nat) (S' : Except Nat Nat), i = ((n - k : Nat) : Int) ∧ k ≤ n ∧ k ≤ B.length + 1 ∧ StX (· = r) st2 st' ∧ RS r u B st' S' ∧ oneT c13 = true ∧ LoopS fp B n T2 k S' (fun vs => ∃ xs, Own st2.nt 14 st' c13 k xs ∧ FsR St.zero vs xs),
        fun i _ _ _ _ _ _ _ _ _ _ _ _ _ _ _ _ _ _ _ _ _ _ _ _ _ _ _ _ _ => i.toNat, ⟨rfl, rfl, rfl, rfl, rfl, rfl, rfl, rfl, rfl, rfl, rfl, rfl, rfl, rfl, 0, T2, rfl, Nat.zero_le _, Nat.zero_le _, StX.refl _ _, h2, rfl, ?_⟩, ?_⟩
      · cases T2 with
        | error e =>
          intro Q
          rcases a2.elim with ⟨e', he, _⟩ | ⟨_, _, _, _, he, _⟩
          · rfl
          · cases he
        | ok b2 => exact ⟨Nat.zero_le _, [], rfl, ⟨[], Own.nil _ _ _, by unfold FsR; rfl⟩, fun Q T hA => hA⟩
      rintro _ _ _ a1 a2 a3 a4 a5 a6 a7 a8 a9 a10 a11 a12 a13 _ _ _ _ _ _ _ _ _ _ _ _ c13 st3 ⟨rfl, rfl, rfl, rfl, rfl, rfl, rfl, rfl, rfl, rfl, rfl, rfl, rfl, rfl, k, S', rfl, hkn, hkB, e3, h3, o3, hL⟩
      have fin : ∀ T, RS r u B st3 T → After T2 ((repP fp n).bnd (fun l => Ps.ok (Vl.mk (scK 7) [] l)) B) (fun v => VlR St.zero v (cellsV (scK 7) .nilSlice .nilSlice c13)) T → K 7 false false [] 0 0 0 0 0 [] .nilSlice .nilSlice c13 st3 := fun T hT hA =>
        hk (scK 7) .nilSlice .nilSlice c13 st3 T rfl rfl o3 ((e1.trans e2).trans e3) hT (stepL _ _ hA)
      have hQ : ∀ vs : List Fd, vs.length = k → (∃ xs, Own st2.nt 14 st3 c13 k xs ∧ FsR St.zero vs xs) → VlR St.zero (.mk (scK 7) [] vs) (cellsV (scK 7) .nilSlice .nilSlice c13) := by
        rintro vs rfl ⟨xs, ho, hv⟩
        unfold VlR
        exact ⟨_, _, _, [], xs, rfl, .of_rd (.inl ⟨rfl, rfl, rfl⟩), .of_rd (.inl ⟨rfl, rfl, rfl⟩), by unfold VsR; rfl, .of_rd ho.rd, hv⟩
      have hone : List.all [TV.int .i64 7, .bool false, .bool false, .str [], .int .i64 0, .int .i64 0, .int .i64 0, .int .i64 0, .int .i64 0, .str [], .nilSlice, .nilSlice, c13] oneT = true := one13 rfl rfl o3
      refine BIf_intro (fun q => ?_) fun q => ?_
      · refine need_intro rfl (need_intro rfl (optK_intro h3.err (decT_int (BIf_intro (fun q2 => ?_) fun q2 => ?_))))
        · cases S' with
          | error e => have := h3.2.1; simp only [errS] at q2; omega
          | ok a' =>
          have ha' := h3.2.1
          have hka := hL.1
          have hD : IntKind.i64.wrap (49 - ((d + 1 : Nat) : Int) + 1) = 49 - ((d : Nat) : Int) := by rw [wrap64 _ (by omega) (by omega)]; omega
          rw [hD]
          refine rstr_ok hB h3 fun key st3' T3' e3' h3' _ a3 => ?_
          refine ih (by omega) hB h3' fun s wb wl wf st4 T4 p1 p2 p3 e4 h4 a4 => need_intro (one14 p1 p2 p3) ?_
          have hown : ∃ xs, Own st2.nt 14 st3 c13 k xs := by obtain ⟨_, vs, _, ⟨xs, ho, _⟩, _⟩ := hL; exact ⟨xs, ho⟩
          obtain ⟨xs0, ho0⟩ := hown
          refine appK_X ((e3.trans e3').trans e4) rfl ((ho0.extX e3').extX e4) (by omega) (by omega) fun v' st5 e5 hbx hnb ho5 => need_intro (by simp [ho5.rd.one]) ?_
          have h5 := h4.same hbx hnb
          have a5 : After (.ok a') (fp B) (fun x => FdR St.zero x (.str key :: cellsV s wb wl wf)) T4 := by
            rw [← hfp]
            refine a3.bnd ?_
            rcases a4.elim with ⟨e, rfl, tr3⟩ | ⟨v, _, b, rfl, rfl, _, hv, tr3⟩
            · exact tr3 _ _ _
            · exact tr3 _ _ _ _ (After.ok (by unfold FdR; exact ⟨_, rfl, hv⟩))
          rw [wrapU64 _ (by omega) (by omega)]
          cases T4 with
          | error e =>
            exact ⟨⟨rfl, rfl, rfl, rfl, rfl, rfl, rfl, rfl, rfl, rfl, rfl, rfl, rfl, rfl, k + 1, .error e, by omega, by omega, by omega, e5, h5, ho5.rd.one, hL.err (by omega) a5⟩, by dsimp only; omega⟩
          | ok b4 =>
            refine ⟨⟨rfl, rfl, rfl, rfl, rfl, rfl, rfl, rfl, rfl, rfl, rfl, rfl, rfl, rfl, k + 1, .ok b4, by omega, by omega, by omega, e5, h5, ho5.rd.one, hL.step (by omega) a5 (fun v hv => by
              rw [← hfp] at hv
              obtain ⟨key, e1, q1, q2⟩ := bnd_ok.1 hv
              obtain ⟨w, e2, q3, q4⟩ := bnd_ok.1 q2
              have := str_inv q1
              have := rdV_inv d q3
              have := w.sz_pos
              obtain ⟨_, rfl⟩ := okP_inv q4
              omega) fun vs v hvl hR hv => ?_⟩, by dsimp only; omega⟩
            obtain ⟨xs, ho, hvs⟩ := hR
            have hxe : xs = xs0 := by
              rcases ho with ⟨c1, c2, c3⟩ | ⟨tip, c1, _⟩ <;> rcases ho0 with ⟨d1, d2, d3⟩ | ⟨tip', d1, _⟩
              · rw [c3, d3]
              · rw [c1] at d1; cases d1
              · rw [c1] at d1; cases d1
              · rw [c1] at d1; injection d1
            subst hxe
            exact ⟨_, ho5, FsR.snoc0 hvs hv⟩
        · cases S' with
          | ok a' => simp [errS] at q2
          | error e => exact need_intro hone (fin _ h3 hL.out)
      · have hkk : k = n := by omega
        subst hkk
        refine need_intro hone (fin S' h3 ?_)
        exact LoopS.done (g := fun l => Vl.mk (scK 7) [] l) (R := fun vs => vs.length = k ∧ ∃ xs, Own st2.nt 14 st3 c13 k xs ∧ FsR St.zero vs xs) (by
          cases S' with
          | error e => exact hL
          | ok a' => obtain ⟨c1, vs, c2, c3, c4⟩ := hL; exact ⟨c1, vs, c2, ⟨c2, c3⟩, c4⟩) fun vs hv => hQ vs hv.1 hv.2
    · refine hk (scK x) .nilSlice .nilSlice .nilSlice st1 _ rfl rfl rfl e1 h1 (step _ _ _ ((if_neg (by omega)).trans ((if_neg (by omega)).trans ((if_neg (by omega)).trans ((if_neg (by omega)).trans ((if_neg (by omega)).trans ((if_neg (by omega)).trans (if_neg (by omega)))))))) (After.ok (vlLeaf _ _ rfl)))
end Go.TVF
end

section
namespace Go.TVF
open Go Go.Proofs
set_option linter.unusedVariables false
set_option linter.unusedSimpArgs false
def vZ : Vl := .mk (scK 0) [] []
/-- What Decode gives. -/
noncomputable def decR (B : List UInt8) : Vl × Nat × Nat := match rdV 48 B 0 with
  | .error e => (vZ, 0, e)
  | .ok (v, b) => if checkV v ≠ 0 then (vZ, 0, checkV v) else if bytesV (sortV v) ≠ B.take b then (vZ, 0, 3) else (v, b, 0)
theorem keeps0 (st : St) : Keeps St.zero st := ⟨Nat.zero_le _, fun i hi => absurd hi (Nat.not_lt_zero _)⟩
theorem Decode_ok {u : TV} {B : List UInt8} (hB : InB u B) (hz : ∀ v b, rdV 48 B 0 = .ok (v, b) → v.sz ≤ 2000000) {st : St} {K : Int → Bool → Bool → List UInt8 → Int → Int → Int → Int → Int → List UInt8 → TV → TV → TV → Int → Int → St → Prop}
    (hk : ∀ s ub ul uf st', StExt st st' → oneT ub = true → oneT ul = true → oneT uf = true → VlR St.zero (decR B).1 (cellsV s ub ul uf) → K s.kind s.b s.neg s.dg s.ex s.tk s.td s.tn s.tz s.text ub ul uf ((decR B).2.1 : Nat) ((decR B).2.2 : Nat) st') :
    CallT PR fn_canon_Decode [u] [.agg [.int .i64, .bool, .bool, .str, .int .i64, .int .i64, .int .i64, .int .i64, .int .i64, .str, .tv, .tv, .tv], .one (.int .i64), .one (.int .i64)] st K := by
  have hl := hB.len
  have hz0 : ∀ st' n e, StExt st st' → decR B = (vZ, n, e) → K 0 false false [] 0 0 0 0 0 [] .nilSlice .nilSlice .nilSlice (n : Nat) (e : Nat) st' := fun st' n e he hd => by
    have := hk (scK 0) .nilSlice .nilSlice .nilSlice st' he rfl rfl rfl (by rw [hd]; exact vlLeaf _ _ rfl)
    rw [hd] at this; exact this
  obtain ⟨st0, hst0⟩ : ∃ st0, st0 = st.push (.cells [u, .int .i64 0, .int .i64 0]) (some 66) := ⟨_, rfl⟩
  have e0 : StExt st st0 := hst0 ▸ (StExt.refl st).push _ _
  have hrs : RS st.nb u B st0 (.ok 0) := by rw [hst0]; exact ⟨by simp [St.push], Nat.zero_le _, by simp [St.push]⟩
  have hdec : decR B = decR B := rfl
  conv at hdec => rhs; unfold decR
  refine vc_canon_Decode u st K (need_intro (by simp [hB.rd.one]) ?_)
  rw [← hst0]
  refine rvalue_ok 48 (by omega) hB hrs fun s ub ul uf st1 T p1 p2 p3 e1 h1 a1 => ?_
  have es : StExt st st1 := StX.ext e0 e1 (fun i hi => by rw [hi]; exact Nat.le_refl _)
  refine need_intro (one13 p1 p2 p3) (optK_intro h1.err (decT_int ?_))
  cases T with
  | error e =>
    refine BIf_intro (fun _ => optK_intro h1.err (decT_int (hz0 st1 0 e es ?_))) fun g => absurd (show ((e : Nat) : Int) ≠ 0 by have := h1.2.1; omega) g
    simp only [After] at a1
    cases hr : rdV 48 B 0 with
    | error e' =>
      rw [hr] at a1 hdec
      simp only [Except.error.injEq] at a1
      rw [hdec, a1]
    | ok p => rw [hr] at a1; exact absurd a1.2 (by simp)
  | ok b =>
    refine BIf_intro (fun g => absurd rfl g) fun _ => ?_
    simp only [After] at a1
    cases hr : rdV 48 B 0 with
    | error e' => rw [hr] at a1; simp at a1
    | ok p =>
    obtain ⟨v, b'⟩ := p
    rw [hr] at a1 hdec
    simp only [Except.ok.injEq] at a1
    obtain ⟨hv, rfl⟩ := a1
    simp only at hdec
    have hvz := hz v b hr
    have hbl := h1.2.1
    refine Check_ok hvz (VlR.keep (keeps0 st1) hv) (Keeps.refl _) fun st2 e2 => ?_
    have h2 : ldCell st2 [] (.t (.box st.nb 1)) 0 = some (.int .i64 (b : Nat)) := by
      rw [← h1.at]
      simp only [ldCell, e2.box st.nb h1.lt]
    refine BIf_intro (fun g => ?_) fun g => ?_
    · refine hz0 st2 0 _ (es.trans e2) ?_
      rw [hdec, if_pos (by omega)]
    · have hc : checkV v = 0 := by omega
      rw [if_neg (by omega)] at hdec
      have hok := (check_valid hc).ok
      refine optK_intro h2 (decT_int ?_)
      rw [hB.rd.lenS, Int.toNat_natCast]
      have hs := slB hB.rd hbl (Nat.zero_le b)
      rw [List.drop_zero, Nat.sub_zero] at hs
      refine ⟨⟨hB.rd.isLst, by omega, by omega⟩, optK_intro (x := .str (B.take b)) (by rw [hs.toBytes]; rfl) (decT_str ?_)⟩
      refine Sorted_ok hvz (check_cnt hc) hok.2 (VlR.keep (keeps0 st2) hv) fun wb wl wf st3 hw q1 q2 q3 e3 => ?_
      have hb2 : st.nb < st2.nb := Nat.lt_of_lt_of_le h1.lt e2.nb
      have hb3 : st.nb < st3.nb := Nat.lt_of_lt_of_le hb2 e3.nb
      have h3 : ldCell st3 [] (.t (.box st.nb 1)) 0 = some (.int .i64 (b : Nat)) := by rw [← h2]; simp only [ldCell, e3.box st.nb hb2]
      refine ⟨h3, ?_⟩
      have hlen := encode_len hc hvz
      refine put_ok 2000000 (sortV v) (by rw [sortV_sz]; exact hvz) (by omega) (sortV_ok hok.1) (st0 := st3) hw (StExt.refl _) (OwnB.nil _ _) (by simp; omega) fun v7 st4 e4 ho4 => ?_
      have h4 : ldCell st4 [] (.t (.box st.nb 1)) 0 = some (.int .i64 (b : Nat)) := by rw [← h3]; simp only [ldCell, e4.box st.nb hb3]
      rw [List.nil_append] at ho4
      refine ⟨h4, optK_intro (x := .str (bytesV (sortV v))) (by rw [ho4.rd.toBytes]; rfl) (decT_str (BIf_intro (fun g2 => ?_) fun g2 => ?_))⟩
      · refine hz0 st4 0 3 (((es.trans e2).trans e3).trans e4) ?_
        rw [hdec, if_pos g2]
      · rw [if_neg g2] at hdec
        refine optK_intro h4 (decT_int (need_intro (one13 p1 p2 p3) ?_))
        have := hk s ub ul uf st4 (((es.trans e2).trans e3).trans e4) p1 p2 p3 (by rw [hdec]; exact hv)
        rw [hdec] at this; exact this
end Go.TVF
end

section
namespace Go.TVF
open Go Go.Proofs
set_option linter.unusedVariables false
set_option linter.unusedSimpArgs false
theorem qfail_ok {r e : Nat} {u : TV} {B : List UInt8} {st : St} {S : Except Nat Nat} {K : St → Prop} (h : RS r u B st S) (he : e ≠ 0) (he2 : e < 100) (hk : ∀ st' T, StX (· = r) st st' → RS r u B st' T → Erred S e T → K st') : CallT PR fn_datakitref10_Reader_fail [.box r 0, .int .i64 (e : Nat)] [] st K := by
  refine vc_datakitref10_Reader_fail r _ st K (optK_intro h.err (decT_int ?_))
  cases S with
  | ok a => exact BIf_intro (fun _ => h.putErr he he2 fun st' e' h' => hk st' _ e' h' rfl) fun g => absurd rfl g
  | error e' => exact BIf_intro (fun g => by have := h.2.1; simp only [errS] at g; omega) fun _ => hk st _ (StX.refl _ _) h rfl
theorem qone_ok {r : Nat} {u : TV} {B : List UInt8} {st : St} {S : Except Nat Nat} {K : Int → St → Prop} (hB : InB u B) (h : RS r u B st S) (hk : ∀ (x : Nat) st' T, x < 256 → StX (· = r) st st' → RS r u B st' T → After S (oneP B) (x = ·) T → K (x : Nat) st') :
    CallT PR fn_datakitref10_Reader_Byte [.box r 0] [.one (.int .i64)] st K := by
  refine vc_datakitref10_Reader_Byte r st K (optK_intro h.err (decT_int ?_))
  cases S with
  | error e =>
    have he : ((e : Nat) : Int) ≠ 0 := by have := h.2.1; omega
    exact BIf_intro (fun g => absurd g he) fun _ => optK_intro h.err (decT_int (BIf_intro (fun _ => hk 0 st _ (by omega) (StX.refl _ _) h rfl) fun g => absurd he g))
  | ok a =>
    have ha := h.2.1
    have hl := hB.len
    refine BIf_intro (fun _ => ?_) fun g => absurd rfl g
    refine optK_intro h.at (decT_int (optK_intro h.src (need_intro hB.rd.isSl ?_)))
    rw [hB.rd.lenS]
    refine BIf_intro (fun g => ?_) fun g => ?_
    · refine h.putErr (e := 4) (by omega) (by omega) fun st' e' h' => optK_intro h'.err (decT_int (BIf_intro (fun _ => hk 0 st' _ (by omega) e' h' ?_) fun g => absurd (by simp [errS]) g))
      have : B[a]? = none := List.getElem?_eq_none (by omega)
      simp only [After, oneP, this]
    · refine optK_intro h.err (decT_int (BIf_intro (fun g => absurd rfl g) fun _ => optK_intro h.at (decT_int ?_)))
      rw [wrap64 _ (by omega) (by omega)]
      refine h.putAt (b := a + 1) (by omega) fun st' e' h' => optK_intro h'.src (optK_intro h'.at (decT_int ?_))
      rw [wrap64 _ (by omega) (by omega), show (((a + 1 : Nat) : Int) - 1) = ((a : Nat) : Int) by omega, hB.rd.lenZ, Int.toNat_natCast]
      have hu8 := UInt8.toNat_lt (B[a]'(by omega))
      refine ⟨⟨by omega, by omega⟩, optK_intro (hB.rd.ld st' a (by omega)) (decT_int ?_)⟩
      rw [wrap64 _ (by omega) (by omega)]
      refine hk _ st' (.ok (a + 1)) hu8 e' h' ?_
      have : B[a]? = some (B[a]'(by omega)) := List.getElem?_eq_getElem (by omega)
      simp only [After, oneP, this]; exact ⟨trivial, trivial⟩
theorem qmost_ok {r lim : Nat} {u : TV} {B : List UInt8} {st : St} {S : Except Nat Nat} {K : Int → St → Prop} (hB : InB u B) (h : RS r u B st S) (hk : ∀ (x : Nat) st' T, x < 256 → StX (· = r) st st' → RS r u B st' T → After S (mostP lim B) (x = ·) T → K (x : Nat) st') :
    CallT PR fn_datakitref10_Reader_Below [.box r 0, .int .i64 (lim : Nat)] [.one (.int .i64)] st K := by
  refine vc_datakitref10_Reader_Below r _ st K (qone_ok hB h fun x st1 T1 hx e1 h1 a1 => BIf_intro (fun g => ?_) fun g => ?_)
  · refine qfail_ok (e := 3) h1 (by omega) (by omega) fun st2 T e2 h2 hE => hk 0 st2 T (by omega) (e1.trans e2) h2 ?_
    have a2 : After S (mostP lim B) (x = ·) T := a1.bnd (by rw [if_pos (by omega)]; exact After.bad hE)
    rcases a2.elim with ⟨e, rfl, _⟩ | ⟨_, a, b, rfl, rfl, hf, _, _⟩
    · exact a2.err
    · obtain ⟨y, c, h3, h4⟩ := bnd_ok.1 hf
      exfalso
      rcases a1.elim with ⟨e, rfl, _⟩ | ⟨_, _, _, ha, rfl, hf1, hx1, _⟩
      · cases hE
      · cases hE
  · refine hk x st1 T1 hx e1 h1 (a1.bnd ?_)
    rw [if_neg (by omega)]; exact After.ok rfl
set_option maxRecDepth 20000 in
theorem qnat_ok {r : Nat} {u : TV} {B : List UInt8} {st : St} {S : Except Nat Nat} {K : Int → St → Prop} (hB : InB u B) (h : RS r u B st S) (hk : ∀ (n : Nat) st' T, n < 9223372036854775808 → StX (· = r) st st' → RS r u B st' T → After S (natF B) (n = ·) T → K (n : Nat) st') :
    CallT PR fn_datakitref10_Reader_Nat [.box r 0] [.one (.int .i64)] st K := by
  have top : (128 : Nat) ^ 9 = 9223372036854775808 := by decide
  have h0 : ∀ st' T, StX (· = r) st st' → RS r u B st' T → (∃ e, T = .error e) → (∃ Q : Nat → Prop, After S (natF B) Q T) → K ((0 : Nat) : Int) st' := by
    rintro st' T e' h' ⟨e, rfl⟩ ⟨Q, a⟩
    exact hk 0 st' _ (by omega) e' h' a.err
  refine vc_datakitref10_Reader_Nat r st K ⟨fun n by_ i p st' => TV.box r 0 = p ∧ ∃ (k m : Nat) (S' : Except Nat Nat), n = (m : Nat) ∧ by_ = ((128 ^ (min k 8) : Nat) : Int) ∧ i = (k : Nat) ∧ k ≤ 9 ∧ m < 128 ^ k ∧ StX (· = r) st st' ∧ RS r u B st' S' ∧ ∀ (Q : Nat → Prop) T, After S' (natP (9 - k) k m B) Q T → After S (natF B) Q T,
    fun _ _ i _ _ => (9 - i).toNat, ⟨rfl, 0, 0, S, rfl, rfl, rfl, by omega, by decide, StX.refl _ _, h, fun Q T a => a⟩, ?_⟩
  rintro _ _ _ _ st1 ⟨rfl, k, m, S', rfl, rfl, rfl, hk9, hm, e1, h1, tr⟩
  refine BIf_intro (fun g => ?_) fun g => ?_
  · have hk8 : k ≤ 8 := by omega
    have e9 : 9 - k = (8 - k) + 1 := by omega
    refine qone_ok hB h1 fun x st2 T hx e2 h2 a2 => need_intro rfl (need_intro rfl (optK_intro h2.err (decT_int (BIf_intro (fun g2 => ?_) fun g2 => ?_))))
    · cases T with
      | ok b => simp [errS] at g2
      | error e =>
        refine h0 st2 _ (e1.trans e2) h2 ⟨e, rfl⟩ ⟨fun _ => True, tr _ _ ?_⟩
        rw [e9]
        exact (a2.bnd (g := fun x => if x < 128 then (if x = 0 ∧ 0 < k then .bad 3 else .ok (m + x * 128 ^ k)) else natP (8 - k) (k + 1) (m + (x - 128) * 128 ^ k)) (Q := fun _ => True) rfl).err
    · cases T with
      | error e => have := h2.2.1; simp only [errS] at g2; omega
      | ok b =>
      have step : ∀ (Q : Nat → Prop) T', After (.ok b) ((if x < 128 then (if x = 0 ∧ 0 < k then Ps.bad 3 else Ps.ok (m + x * 128 ^ k)) else natP (8 - k) (k + 1) (m + (x - 128) * 128 ^ k)) B) Q T' → After S (natF B) Q T' := fun Q T' a => tr _ _ (by
        rw [e9]
        exact a2.bnd (g := fun x => if x < 128 then (if x = 0 ∧ 0 < k then .bad 3 else .ok (m + x * 128 ^ k)) else natP (8 - k) (k + 1) (m + (x - 128) * 128 ^ k)) a)
      have hmin : min k 8 = k := Nat.min_eq_left hk8
      rw [hmin]
      have hb := pow_bnd hk8 hm (show x % 128 < 128 by omega)
      have hle : (128 : Nat) ^ (k + 1) ≤ 128 ^ 9 := Nat.pow_le_pow_right (by omega) (by omega)
      have hmul : Int.tmod ((x : Nat) : Int) 128 * ((128 ^ k : Nat) : Int) = ((x % 128 * 128 ^ k : Nat) : Int) := by
        rw [Int.tmod_eq_emod_of_nonneg (by omega), show ((x : Nat) : Int) % 128 = ((x % 128 : Nat) : Int) by omega]
        exact (Int.natCast_mul _ _).symm
      have hadd : ((m : Nat) : Int) + ((x % 128 * 128 ^ k : Nat) : Int) = ((m + x % 128 * 128 ^ k : Nat) : Int) := (Int.natCast_add _ _).symm
      rw [hmul, wrap64 ((x % 128 * 128 ^ k : Nat) : Int) (by omega) (by omega), hadd, wrap64 ((m + x % 128 * 128 ^ k : Nat) : Int) (by omega) (by omega)]
      refine BIf_intro (fun g3 => ?_) fun g3 => ?_
      · have hx8 : x < 128 := by omega
        refine BIf_intro (fun g4 => BIf_intro (fun g5 => ?_) fun g5 => ?_) fun g4 => ?_
        · refine qfail_ok (e := 3) h2 (by omega) (by omega) fun st3 T3 e3 h3 hE => h0 st3 T3 ((e1.trans e2).trans e3) h3 ⟨3, hE⟩ ⟨fun _ => True, step _ _ ?_⟩
          rw [if_pos hx8, if_pos ⟨by omega, by omega⟩]
          exact After.bad hE
        · refine hk _ st2 _ (by omega) (e1.trans e2) h2 (step _ _ ?_)
          rw [if_pos hx8, if_neg (by omega)]
          exact After.ok (by rw [Nat.mod_eq_of_lt hx8])
        · refine hk _ st2 _ (by omega) (e1.trans e2) h2 (step _ _ ?_)
          rw [if_pos hx8, if_neg (by omega)]
          exact After.ok (by rw [Nat.mod_eq_of_lt hx8])
      · have nxt : ∀ Q T', After (.ok b) (natP (9 - (k + 1)) (k + 1) (m + x % 128 * 128 ^ k) B) Q T' → After S (natF B) Q T' := fun Q T' a => step Q T' (by
          rw [if_neg (by omega), show x - 128 = x % 128 by omega, show 8 - k = 9 - (k + 1) by omega]
          exact a)
        rw [wrap64 (((k : Nat) : Int) + 1) (by omega) (by omega)]
        refine BIf_intro (fun g4 => ?_) fun g4 => ?_
        · have h128 : ((128 ^ k : Nat) : Int) * 128 = ((128 ^ (min (k + 1) 8) : Nat) : Int) := by
            rw [Nat.min_eq_left (show k + 1 ≤ 8 by omega), Nat.pow_succ, Int.natCast_mul]; rfl
          have hle8 : (128 : Nat) ^ (min (k + 1) 8) ≤ 128 ^ 8 := Nat.pow_le_pow_right (by omega) (Nat.min_le_right _ _)
          have h8 : (128 : Nat) ^ 8 = 72057594037927936 := by decide
          rw [h128, wrap64 _ (by omega) (by omega)]
          exact ⟨⟨rfl, k + 1, _, .ok b, rfl, rfl, by omega, by omega, hb, e1.trans e2, h2, nxt⟩, by dsimp only; omega⟩
        · have hk88 : k = 8 := by omega
          subst hk88
          exact ⟨⟨rfl, 9, _, .ok b, rfl, rfl, by omega, by omega, hb, e1.trans e2, h2, nxt⟩, by dsimp only; omega⟩
  · refine qfail_ok (e := 3) h1 (by omega) (by omega) fun st3 T3 e3 h3 hE => hk 0 st3 T3 (by omega) (e1.trans e3) h3 (tr _ _ ?_)
    rw [show 9 - k = 0 by omega]
    exact After.bad hE
theorem zagZ {n : Nat} (hn : n < 9223372036854775808) {st : St} {K : Int → St → Prop} (hk : K (zagI n) st) : CallT PR fn_datakitref10_Zag [.int .i64 (n : Nat)] [.one (.int .i64)] st K := by
  have e : Int.tdiv ((n : Nat) : Int) 2 = ((n / 2 : Nat) : Int) := by rw [Int.tdiv_eq_ediv_of_nonneg (by omega)]; omega
  unfold zagI at hk
  refine vc_datakitref10_Zag _ st K ?_
  rw [e, tmod2, wrap64 ((n / 2 : Nat) : Int) (by omega) (by omega), wrap64 (0 - _) (by omega) (by omega), wrap64 _ (by omega) (by omega)]
  refine BIf_intro (fun g => ?_) fun g => ?_
  · rw [if_neg (by omega)] at hk; exact hk
  · rw [if_pos (by omega)] at hk
    rw [show (0 : Int) - ((n / 2 : Nat) : Int) - 1 = -((n / 2 : Nat) : Int) - 1 by omega]; exact hk
theorem qstr_ok {r : Nat} {u : TV} {B : List UInt8} {st : St} {S : Except Nat Nat} {K : List UInt8 → St → Prop} (hB : InB u B) (h : RS r u B st S) (hk : ∀ (s : List UInt8) st' T, StX (· = r) st st' → RS r u B st' T → s.length ≤ B.length → After S (strP B) (s = ·) T → K s st') :
    CallT PR fn_datakitref10_Reader_Text [.box r 0] [.one .str] st K := by
  have hl := hB.len
  refine vc_datakitref10_Reader_Text r st K (qnat_ok hB h fun n st1 T hn e1 h1 a1 => optK_intro h1.err (decT_int (BIf_intro (fun g => ?_) fun g => ?_)))
  · cases T with
    | error e => have := h1.2.1; simp only [errS] at g; omega
    | ok b =>
    have hb := h1.2.1
    refine optK_intro h1.src (need_intro hB.rd.isSl (optK_intro h1.at (decT_int ?_)))
    rw [hB.rd.lenS, wrap64 _ (by omega) (by omega)]
    refine BIf_intro (fun g2 => ?_) fun g2 => ?_
    · refine qfail_ok (e := 4) h1 (by omega) (by omega) fun st2 T2 e2 h2 hE => ?_
      have hT : T2 = .error 4 := hE
      subst hT
      refine optK_intro h2.err (decT_int (BIf_intro (fun _ => hk [] st2 _ (e1.trans e2) h2 (by simp) (a1.bnd ?_)) fun g3 => absurd (by simp [errS]) g3))
      simp only [After, takeP]
      rw [if_pos (by omega)]
    · refine optK_intro h1.err (decT_int (BIf_intro (fun g3 => absurd rfl g3) fun _ => optK_intro h1.at (decT_int ?_)))
      rw [wrap64 _ (by omega) (by omega), show ((b : Nat) : Int) + ((n : Nat) : Int) = ((b + n : Nat) : Int) by omega]
      refine h1.putAt (b := b + n) (by omega) fun st2 e2 h2 => optK_intro h2.src (optK_intro h2.at (decT_int (optK_intro h2.at (decT_int ?_))))
      rw [wrap64 _ (by omega) (by omega), hB.rd.lenS, show ((b + n : Nat) : Int) - ((n : Nat) : Int) = ((b : Nat) : Int) by omega, Int.toNat_natCast, Int.toNat_natCast]
      have hs := slB hB.rd (show b + n ≤ B.length by omega) (Nat.le_add_right b n)
      rw [Nat.add_sub_cancel_left] at hs
      refine ⟨⟨hB.rd.isLst, by omega, by omega, by omega⟩, optK_intro (x := .str ((B.drop b).take n)) (by rw [hs.toBytes]; rfl) (decT_str (hk _ st2 _ (e1.trans e2) h2 ?_ (a1.bnd ?_)))⟩
      · rw [List.length_take, List.length_drop]; omega
      · simp only [After, takeP]
        rw [if_neg (by omega)]; exact ⟨rfl, rfl⟩
  · cases T with
    | ok b => exact absurd rfl g
    | error e => exact optK_intro h1.err (decT_int (BIf_intro (fun _ => hk [] st1 _ e1 h1 (by simp) (a1.bnd rfl)) fun g3 => absurd g g3))
end Go.TVF
end

section
namespace Go.TVF
open Go Go.Proofs
set_option linter.unusedVariables false
set_option linter.unusedSimpArgs false
set_option maxRecDepth 4000 in
theorem qvalue_ok : ∀ d, d ≤ 48 → ∀ {r : Nat} {u : TV} {B : List UInt8} {st : St} {S : Except Nat Nat} {K : Int → Bool → Bool → List UInt8 → Int → Int → Int → Int → Int → List UInt8 → TV → TV → TV → St → Prop}, InB u B → RS r u B st S →
    (∀ s ub ul uf st' T, oneT ub = true → oneT ul = true → oneT uf = true → StX (· = r) st st' → RS r u B st' T → After S (rdV d B) (fun v => VlR St.zero v (cellsV s ub ul uf)) T → K s.kind s.b s.neg s.dg s.ex s.tk s.td s.tn s.tz s.text ub ul uf st') →
    CallT PR fn_datakitref10_Reader_Value [.box r 0, .int .i64 (49 - (d : Nat))] [.agg [.int .i64, .bool, .bool, .str, .int .i64, .int .i64, .int .i64, .int .i64, .int .i64, .str, .tv, .tv, .tv]] st K := by
  intro d
  induction d with
  | zero =>
    intro hd r u B st S K hB h hk
    have hl := hB.len
    refine vc_datakitref10_Reader_Value r _ st K ⟨fun p D k1 b1 b2 s1 k2 k3 k4 k5 k6 s2 v1 v2 v3 st' => TV.box r 0 = p ∧ StX (· = r) st st' ∧ ∃ e, RS r u B st' (.error e) ∧ After S (rdV 0 B) (fun _ => True) (.error e), ?_, ?_⟩
    · refine optK_intro h.err (decT_int ?_)
      cases S with
      | ok a => exact BIf_intro (fun _ => BIf_intro (fun _ => h.putErr (e := 9) (by omega) (by omega) fun st' e' h' => ⟨rfl, e', 9, h', rfl⟩) fun g => absurd (by omega) g) fun g => absurd rfl g
      | error e => exact BIf_intro (fun g => by have := h.2.1; simp only [errS] at g; omega) fun _ => ⟨rfl, StX.refl _ _, e, h, rfl⟩
    · rintro _ D k1 b1 b2 s1 k2 k3 k4 k5 k6 s2 v1 v2 v3 st1 ⟨rfl, e1, e, h1, hA⟩
      refine qmost_ok (lim := 7) hB h1 fun x st2 T hx e2 h2 a2 => ?_
      have hT : T = .error e := a2
      subst hT
      refine need_intro rfl (need_intro rfl (optK_intro h2.err (decT_int (BIf_intro (fun _ => ?_) fun g => absurd (show ((e : Nat) : Int) ≠ 0 by have := h2.2.1; omega) g))))
      exact hk ⟨0, false, false, [], 0, 0, 0, 0, 0, [], []⟩ .nilSlice .nilSlice .nilSlice st2 _ rfl rfl rfl (e1.trans e2) h2 hA.err
  | succ d ih =>
    intro hd r u B st S K hB h hk
    have hl := hB.len
    refine vc_datakitref10_Reader_Value r _ st K ⟨fun p D k1 b1 b2 s1 k2 k3 k4 k5 k6 s2 v1 v2 v3 st' => TV.box r 0 = p ∧ D = 49 - ((d + 1 : Nat) : Int) ∧ st = st', ?_, ?_⟩
    · refine optK_intro h.err (decT_int (BIf_intro (fun _ => BIf_intro (fun g => by omega) fun _ => ⟨rfl, rfl, rfl⟩) fun _ => ⟨rfl, rfl, rfl⟩))
    rintro _ _ k1 b1 b2 s1 k2 k3 k4 k5 k6 s2 v1 v2 v3 _ ⟨rfl, rfl, rfl⟩
    refine qmost_ok (lim := 7) hB h fun x st1 T hx e1 h1 a1 => need_intro rfl (need_intro rfl (optK_intro h1.err (decT_int ?_)))
    have hdec : rdV (d + 1) = _ := rdV.eq_2 d
    rcases a1.elim with ⟨e, rfl, tr⟩ | ⟨x', a, b, rfl, rfl, hf, rfl, tr⟩
    · refine BIf_intro (fun _ => ?_) fun g => absurd (show ((e : Nat) : Int) ≠ 0 by have := h1.2.1; omega) g
      refine hk ⟨0, false, false, [], 0, 0, 0, 0, 0, [], []⟩ .nilSlice .nilSlice .nilSlice st1 _ rfl rfl rfl e1 h1 ?_
      rw [hdec]; exact tr _ _ _
    refine BIf_intro (fun g => absurd rfl g) fun _ => ?_
    have hb := h1.2.1
    have step : ∀ (Q : Vl → Prop) (g : Ps Vl) T', (if x = 1 then (mostP 1).bnd fun b => Ps.ok (Vl.mk { scK 1 with b := decide (b = 1) } [] [])
      else if x = 2 then numP.bnd fun x => .ok (.mk { scK 2 with neg := x.1, dg := x.2.1, ex := x.2.2 } [] [])
      else if x = 3 then oneP.bnd fun a => natF.bnd fun b => natF.bnd fun c => intP.bnd fun z => .ok (.mk { scK 3 with tk := a, td := b, tn := c, tz := z } [] [])
      else if x = 4 then strP.bnd fun s => .ok (.mk { scK 4 with text := s } [] [])
      else if x = 5 then strP.bnd fun s => .ok (.mk { scK 5 with bytes := s } [] [])
      else if x = 6 then natF.bnd fun n => (repP (rdV d) n).bnd fun l => .ok (.mk (scK 6) l [])
      else if x = 7 then natF.bnd fun n => (repP (strP.bnd fun key => (rdV d).bnd fun v => .ok (Fd.mk key v)) n).bnd fun f => .ok (.mk (scK 7) [] f)
      else .ok (.mk (scK x) [] [])) = g → After (.ok b) (g B) Q T' → After (.ok a) (rdV (d + 1) B) Q T' := fun Q g T' hg hA => by
        rw [hdec]
        subst hg
        exact tr _ _ Q T' hA
    refine BIf_intro (fun g1 => ?_) fun g1 => ?_
    · have hx1 : x = 1 := by omega
      subst hx1
      refine qmost_ok (lim := 1) hB h1 fun y st2 T2 hy e2 h2 a2 => ?_
      have hdy : decide (((y : Nat) : Int) = 1) = decide (y = 1) := decide_eq_decide.2 (by omega)
      rw [hdy]
      exact hk { scK 1 with b := decide (y = 1) } .nilSlice .nilSlice .nilSlice st2 T2 rfl rfl rfl (e1.trans e2) h2 (step _ _ _ (if_pos rfl) (a2.bnd (After.ok (vlLeaf _ _ rfl))))
    refine BIf_intro (fun g2 => ?_) fun g2 => ?_
    · have hx1 : x = 2 := by omega
      subst hx1
      refine qmost_ok (lim := 2) hB h1 fun y st2 T2 hy e2 h2 a2 => need_intro rfl (need_intro rfl (optK_intro h2.err (decT_int ?_)))
      have fin : ∀ (z : Bool × List UInt8 × Int) st3 T3, StX (· = r) st2 st3 → RS r u B st3 T3 → After T2 ((if y = 0 then Ps.ok (false, [], 0) else intP.bnd fun x => strP.bnd fun dg => .ok (decide (y = 2), dg, x)) B) (z = ·) T3 → K 2 false z.1 z.2.1 z.2.2 0 0 0 0 [] .nilSlice .nilSlice .nilSlice st3 := fun z st3 T3 e3 h3 hA =>
        hk { scK 2 with neg := z.1, dg := z.2.1, ex := z.2.2 } .nilSlice .nilSlice .nilSlice st3 T3 rfl rfl rfl ((e1.trans e2).trans e3) h3 (step _ _ _ ((if_neg (by omega)).trans (if_pos rfl)) (After.bnd (f := numP) (x := z) (a2.bnd hA) (After.ok (vlLeaf _ _ rfl))))
      refine BIf_intro (fun q => BIf_intro (fun q2 => ?_) fun q2 => ?_) fun q => ?_
      · refine qnat_ok hB h2 fun n3 st3 T3 hn3 e3 h3 a3 => zagZ hn3 (qstr_ok hB h3 fun dg st4 T4 e4 h4 _ a4 => ?_)
        have hd : decide (((y : Nat) : Int) = 2) = decide (y = 2) := decide_eq_decide.2 (by omega)
        rw [hd]
        refine fin (decide (y = 2), dg, zagI n3) st4 T4 (e3.trans e4) h4 ?_
        rw [if_neg (by omega)]
        exact After.bnd (f := intP) (x := zagI n3) (a3.bnd (After.ok rfl)) (a4.bnd (After.ok rfl))
      · refine fin (false, [], 0) st2 T2 (StX.refl _ _) h2 ?_
        rw [if_pos (by omega)]; exact After.ok rfl
      · cases T2 with
        | ok b => exact absurd rfl q
        | error e => exact fin (false, [], 0) st2 _ (StX.refl _ _) h2 rfl
    refine BIf_intro (fun g3 => ?_) fun g3 => ?_
    · have hx1 : x = 3 := by omega
      subst hx1
      refine qone_ok hB h1 fun y1 st2 T2 hy e2 h2 a2 => qnat_ok hB h2 fun y2 st3 T3 hy2 e3 h3 a3 => qnat_ok hB h3 fun y3 st4 T4 hy3 e4 h4 a4 => qnat_ok hB h4 fun n4 st5 T5 hn4 e5 h5 a5 => zagZ hn4 ?_
      have a5 : After T4 (intP B) (zagI n4 = ·) T5 := a5.bnd (After.ok rfl)
      exact hk { scK 3 with tk := y1, td := y2, tn := y3, tz := zagI n4 } .nilSlice .nilSlice .nilSlice st5 T5 rfl rfl rfl ((((e1.trans e2).trans e3).trans e4).trans e5) h5 (step _ _ _ ((if_neg (by omega)).trans ((if_neg (by omega)).trans (if_pos rfl))) (a2.bnd (a3.bnd (a4.bnd (a5.bnd (After.ok (vlLeaf _ _ rfl)))))))
    refine BIf_intro (fun g4 => ?_) fun g4 => ?_
    · have hx1 : x = 4 := by omega
      subst hx1
      refine qstr_ok hB h1 fun y st2 T2 e2 h2 _ a2 => ?_
      exact hk { scK 4 with text := y } .nilSlice .nilSlice .nilSlice st2 T2 rfl rfl rfl (e1.trans e2) h2 (step _ _ _ ((if_neg (by omega)).trans ((if_neg (by omega)).trans ((if_neg (by omega)).trans (if_pos rfl)))) (a2.bnd (After.ok (vlLeaf _ _ rfl))))
    refine BIf_intro (fun g5 => ?_) fun g5 => ?_
    · have hx1 : x = 5 := by omega
      subst hx1
      refine qstr_ok hB h1 fun y st2 T2 e2 h2 _ a2 => need_intro rfl (need_intro rfl ?_)
      refine hk { scK 5 with bytes := y } (.list 1 (.own st2.nt) y.length (bytesT y)) .nilSlice .nilSlice (st2.fresh (some 5)) T2 rfl rfl rfl ((e1.trans e2).fresh _) (h2.same rfl rfl) (step _ _ _ ((if_neg (by omega)).trans ((if_neg (by omega)).trans ((if_neg (by omega)).trans ((if_neg (by omega)).trans (if_pos rfl))))) (a2.bnd (After.ok ?_)))
      unfold VlR
      exact ⟨_, _, _, [], [], rfl, .of_rd (.inr ⟨_, rfl⟩), .of_rd (.inl ⟨rfl, rfl, rfl⟩), by unfold VsR; rfl, .of_rd (.inl ⟨rfl, rfl, rfl⟩), by unfold FsR; rfl⟩
    refine BIf_intro (fun g6 => ?_) fun g6 => ?_
    · have hx1 : x = 6 := by omega
      subst hx1
      refine qnat_ok hB h1 fun n st2 T2 hn e2 h2 a2 => ?_
      have stepL : ∀ (Q : Vl → Prop) T', After T2 ((repP (rdV d) n).bnd (fun l => .ok (.mk (scK 6) l [])) B) Q T' → After (.ok a) (rdV (d + 1) B) Q T' := fun Q T' hA =>
        step _ _ _ ((if_neg (by omega)).trans ((if_neg (by omega)).trans ((if_neg (by omega)).trans ((if_neg (by omega)).trans ((if_neg (by omega)).trans (if_pos rfl)))))) (a2.bnd hA)
      refine ⟨fun i p D N a1 a2 a3 a4 a5 a6 a7 a8 a9 a10 a11 a12 a13 c1 c2 c3 c4 c5 c6 c7 c8 c9 c10 c11 c12 c13 st' => TV.box r 0 = p ∧ D = 49 - ((d + 1 : Nat) : Int) ∧ ((n : Nat) : Int) = N ∧ ((6 : Nat) : Int) = c1 ∧ false = c2 ∧ false = c3 ∧ ([] : List UInt8) = c4 ∧ (0 : Int) = c5 ∧ (0 : Int) = c6 ∧ (0 : Int) = c7 ∧ (0 : Int) = c8 ∧ (0 : Int) = c9 ∧ ([] : List UInt8) = c10 ∧ TV.nilSlice = c11 ∧ TV.nilSlice = c13 ∧ ∃ (k : Nat) (S' : Except Nat Nat), i = ((k : Nat) : Int) ∧ k ≤ n ∧ k ≤ B.length + 1 ∧ StX (· = r) st2 st' ∧ RS r u B st' S' ∧ oneT c12 = true ∧ LoopS (rdV d) B n T2 k S' (fun vs => ∃ xs, Own st2.nt 13 st' c12 k xs ∧ VsR St.zero vs xs),
        fun i _ _ _ _ _ _ _ _ _ _ _ _ _ _ _ _ _ _ _ _ _ _ _ _ _ _ _ _ _ _ => (((n : Nat) : Int) - i).toNat, ⟨rfl, rfl, rfl, rfl, rfl, rfl, rfl, rfl, rfl, rfl, rfl, rfl, rfl, rfl, rfl, 0, T2, rfl, Nat.zero_le _, Nat.zero_le _, StX.refl _ _, h2, rfl, ?_⟩, ?_⟩
      · cases T2 with
        | error e =>
          intro Q
          rcases a2.elim with ⟨e', he, _⟩ | ⟨_, _, _, _, he, _⟩
          · rfl
          · cases he
        | ok b2 => exact ⟨Nat.zero_le _, [], rfl, ⟨[], Own.nil _ _ _, by unfold VsR; rfl⟩, fun Q T hA => hA⟩
      rintro _ _ _ _ a1 a2 a3 a4 a5 a6 a7 a8 a9 a10 a11 a12 a13 _ _ _ _ _ _ _ _ _ _ _ c12 _ st3 ⟨rfl, rfl, rfl, rfl, rfl, rfl, rfl, rfl, rfl, rfl, rfl, rfl, rfl, rfl, rfl, k, S', rfl, hkn, hkB, e3, h3, o3, hL⟩
      have fin : ∀ T, RS r u B st3 T → After T2 ((repP (rdV d) n).bnd (fun l => Ps.ok (Vl.mk (scK 6) l [])) B) (fun v => VlR St.zero v (cellsV (scK 6) .nilSlice c12 .nilSlice)) T → K 6 false false [] 0 0 0 0 0 [] .nilSlice c12 .nilSlice st3 := fun T hT hA =>
        hk (scK 6) .nilSlice c12 .nilSlice st3 T rfl o3 rfl ((e1.trans e2).trans e3) hT (stepL _ _ hA)
      have hQ : ∀ vs : List Vl, vs.length = k → (∃ xs, Own st2.nt 13 st3 c12 k xs ∧ VsR St.zero vs xs) → VlR St.zero (.mk (scK 6) vs []) (cellsV (scK 6) .nilSlice c12 .nilSlice) := by
        rintro vs rfl ⟨xs, ho, hv⟩
        unfold VlR
        exact ⟨_, _, _, xs, [], rfl, .of_rd (.inl ⟨rfl, rfl, rfl⟩), .of_rd ho.rd, hv, .of_rd (.inl ⟨rfl, rfl, rfl⟩), by unfold FsR; rfl⟩
      have hone : List.all [TV.int .i64 6, .bool false, .bool false, .str [], .int .i64 0, .int .i64 0, .int .i64 0, .int .i64 0, .int .i64 0, .str [], .nilSlice, c12, .nilSlice] oneT = true := one13 rfl o3 rfl
      refine BIf_intro (fun q => ?_) fun q => ?_
      · refine need_intro rfl (need_intro rfl (optK_intro h3.err (decT_int (BIf_intro (fun q2 => ?_) fun q2 => ?_))))
        · cases S' with
          | error e => have := h3.2.1; simp only [errS] at q2; omega
          | ok a' =>
          have ha' := h3.2.1
          have hka := hL.1
          have hD : IntKind.i64.wrap (49 - ((d + 1 : Nat) : Int) + 1) = 49 - ((d : Nat) : Int) := by rw [wrap64 _ (by omega) (by omega)]; omega
          rw [hD]
          refine ih (by omega) hB h3 fun s wb wl wf st4 T4 p1 p2 p3 e4 h4 a4 => need_intro (one13 p1 p2 p3) ?_
          have hown : ∃ xs, Own st2.nt 13 st3 c12 k xs := by obtain ⟨_, vs, _, ⟨xs, ho, _⟩, _⟩ := hL; exact ⟨xs, ho⟩
          obtain ⟨xs0, ho0⟩ := hown
          refine appK_X (e3.trans e4) rfl (ho0.extX e4) (by omega) (by omega) fun v' st5 e5 hbx hnb ho5 => need_intro (by simp [ho5.rd.one]) ?_
          have h5 := h4.same hbx hnb
          rw [wrap64 _ (by omega) (by omega)]
          cases T4 with
          | error e =>
            exact ⟨⟨rfl, rfl, rfl, rfl, rfl, rfl, rfl, rfl, rfl, rfl, rfl, rfl, rfl, rfl, rfl, k + 1, .error e, by omega, by omega, by omega, e5, h5, ho5.rd.one, hL.err (by omega) a4⟩, by dsimp only; omega⟩
          | ok b4 =>
            refine ⟨⟨rfl, rfl, rfl, rfl, rfl, rfl, rfl, rfl, rfl, rfl, rfl, rfl, rfl, rfl, rfl, k + 1, .ok b4, by omega, by omega, by omega, e5, h5, ho5.rd.one, hL.step (by omega) a4 (fun v hv => by have := rdV_inv d hv; have := v.sz_pos; omega) fun vs v hvl hR hv => ?_⟩, by dsimp only; omega⟩
            obtain ⟨xs, ho, hvs⟩ := hR
            have hxe : xs = xs0 := by
              rcases ho with ⟨c1, c2, c3⟩ | ⟨tip, c1, _⟩ <;> rcases ho0 with ⟨d1, d2, d3⟩ | ⟨tip', d1, _⟩
              · rw [c3, d3]
              · rw [c1] at d1; cases d1
              · rw [c1] at d1; cases d1
              · rw [c1] at d1; injection d1
            subst hxe
            exact ⟨_, ho5, VsR.snoc hvs hv⟩
        · cases S' with
          | ok a' => simp [errS] at q2
          | error e => exact need_intro hone (fin _ h3 hL.out)
      · have hkk : k = n := by omega
        subst hkk
        refine need_intro hone (fin S' h3 ?_)
        exact LoopS.done (g := fun l => Vl.mk (scK 6) l []) (R := fun vs => vs.length = k ∧ ∃ xs, Own st2.nt 13 st3 c12 k xs ∧ VsR St.zero vs xs) (by
          cases S' with
          | error e => exact hL
          | ok a' => obtain ⟨c1, vs, c2, c3, c4⟩ := hL; exact ⟨c1, vs, c2, ⟨c2, c3⟩, c4⟩) fun vs hv => hQ vs hv.1 hv.2
    refine BIf_intro (fun g7 => ?_) fun g7 => ?_
    · have hx1 : x = 7 := by omega
      subst hx1
      refine qnat_ok hB h1 fun n st2 T2 hn e2 h2 a2 => ?_
      have stepL : ∀ (Q : Vl → Prop) T', After T2 ((repP (strP.bnd fun key => (rdV d).bnd fun v => .ok (Fd.mk key v)) n).bnd (fun f => .ok (.mk (scK 7) [] f)) B) Q T' → After (.ok a) (rdV (d + 1) B) Q T' := fun Q T' hA =>
        step _ _ _ ((if_neg (by omega)).trans ((if_neg (by omega)).trans ((if_neg (by omega)).trans ((if_neg (by omega)).trans ((if_neg (by omega)).trans ((if_neg (by omega)).trans (if_pos rfl))))))) (a2.bnd hA)
      generalize hfp : (strP.bnd fun key => (rdV d).bnd fun v => Ps.ok (Fd.mk key v)) = fp at stepL
      refine ⟨fun i p D N a1 a2 a3 a4 a5 a6 a7 a8 a9 a10 a11 a12 a13 c1 c2 c3 c4 c5 c6 c7 c8 c9 c10 c11 c12 c13 st' => TV.box r 0 = p ∧ D = 49 - ((d + 1 : Nat) : Int) ∧ ((n : Nat) : Int) = N ∧ ((7 : Nat) : Int) = c1 ∧ false = c2 ∧ false = c3 ∧ ([] : List UInt8) = c4 ∧ (0 : Int) = c5 ∧ (0 : Int) = c6 ∧ (0 : Int) = c7 ∧ (0 : Int) = c8 ∧ (0 : Int) = c9 ∧ ([] : List UInt8) = c10 ∧ TV.nilSlice = c11 ∧ TV.nilSlice = c12 ∧ ∃ (k : Nat) (S' : Except Nat Nat), i = ((k : Nat) : Int) ∧ k ≤ n ∧ k ≤ B.length + 1 ∧ StX (· = r) st2 st' ∧ RS r u B st' S' ∧ oneT c13 = true ∧ LoopS fp B n T2 k S' (fun vs => ∃ xs, Own st2.nt 14 st' c13 k xs ∧ FsR St.zero vs xs),
        fun i _ _ _ _ _ _ _ _ _ _ _ _ _ _ _ _ _ _ _ _ _ _ _ _ _ _ _ _ _ _ => (((n : Nat) : Int) - i).toNat, ⟨rfl, rfl, rfl, rfl, rfl, rfl, rfl, rfl, rfl, rfl, rfl, rfl, rfl, rfl, rfl, 0, T2, rfl, Nat.zero_le _, Nat.zero_le _, StX.refl _ _, h2, rfl, ?_⟩, ?_⟩
      · cases T2 with
        | error e =>
          intro Q
          rcases a2.elim with ⟨e', he, _⟩ | ⟨_, _, _, _, he, _⟩
          · rfl
          · cases he
        | ok b2 => exact ⟨Nat.zero_le _, [], rfl, ⟨[], Own.nil _ _ _, by unfold FsR; rfl⟩, fun Q T hA => hA⟩
      rintro _ _ _ _ a1 a2 a3 a4 a5 a6 a7 a8 a9 a10 a11 a12 a13 _ _ _ _ _ _ _ _ _ _ _ _ c13 st3 ⟨rfl, rfl, rfl, rfl, rfl, rfl, rfl, rfl, rfl, rfl, rfl, rfl, rfl, rfl, rfl, k, S', rfl, hkn, hkB, e3, h3, o3, hL⟩
      have fin : ∀ T, RS r u B st3 T → After T2 ((repP fp n).bnd (fun l => Ps.ok (Vl.mk (scK 7) [] l)) B) (fun v => VlR St.zero v (cellsV (scK 7) .nilSlice .nilSlice c13)) T → K 7 false false [] 0 0 0 0 0 [] .nilSlice .nilSlice c13 st3 := fun T hT hA =>
        hk (scK 7) .nilSlice .nilSlice c13 st3 T rfl rfl o3 ((e1.trans e2).trans e3) hT (stepL _ _ hA)
      have hQ : ∀ vs : List Fd, vs.length = k → (∃ xs, Own st2.nt 14 st3 c13 k xs ∧ FsR St.zero vs xs) → VlR St.zero (.mk (scK 7) [] vs) (cellsV (scK 7) .nilSlice .nilSlice c13) := by
        rintro vs rfl ⟨xs, ho, hv⟩
        unfold VlR
        exact ⟨_, _, _, [], xs, rfl, .of_rd (.inl ⟨rfl, rfl, rfl⟩), .of_rd (.inl ⟨rfl, rfl, rfl⟩), by unfold VsR; rfl, .of_rd ho.rd, hv⟩
      have hone : List.all [TV.int .i64 7, .bool false, .bool false, .str [], .int .i64 0, .int .i64 0, .int .i64 0, .int .i64 0, .int .i64 0, .str [], .nilSlice, .nilSlice, c13] oneT = true := one13 rfl rfl o3
      refine BIf_intro (fun q => ?_) fun q => ?_
      · refine need_intro rfl (need_intro rfl (optK_intro h3.err (decT_int (BIf_intro (fun q2 => ?_) fun q2 => ?_))))
        · cases S' with
          | error e => have := h3.2.1; simp only [errS] at q2; omega
          | ok a' =>
          have ha' := h3.2.1
          have hka := hL.1
          have hD : IntKind.i64.wrap (49 - ((d + 1 : Nat) : Int) + 1) = 49 - ((d : Nat) : Int) := by rw [wrap64 _ (by omega) (by omega)]; omega
          rw [hD]
          refine qstr_ok hB h3 fun key st3' T3' e3' h3' _ a3 => ?_
          refine ih (by omega) hB h3' fun s wb wl wf st4 T4 p1 p2 p3 e4 h4 a4 => need_intro (one14 p1 p2 p3) ?_
          have hown : ∃ xs, Own st2.nt 14 st3 c13 k xs := by obtain ⟨_, vs, _, ⟨xs, ho, _⟩, _⟩ := hL; exact ⟨xs, ho⟩
          obtain ⟨xs0, ho0⟩ := hown
          refine appK_X ((e3.trans e3').trans e4) rfl ((ho0.extX e3').extX e4) (by omega) (by omega) fun v' st5 e5 hbx hnb ho5 => need_intro (by simp [ho5.rd.one]) ?_
          have h5 := h4.same hbx hnb
          have a5 : After (.ok a') (fp B) (fun x => FdR St.zero x (.str key :: cellsV s wb wl wf)) T4 := by
            rw [← hfp]
            refine a3.bnd ?_
            rcases a4.elim with ⟨e, rfl, tr3⟩ | ⟨v, _, b, rfl, rfl, _, hv, tr3⟩
            · exact tr3 _ _ _
            · exact tr3 _ _ _ _ (After.ok (by unfold FdR; exact ⟨_, rfl, hv⟩))
          rw [wrap64 _ (by omega) (by omega)]
          cases T4 with
          | error e =>
            exact ⟨⟨rfl, rfl, rfl, rfl, rfl, rfl, rfl, rfl, rfl, rfl, rfl, rfl, rfl, rfl, rfl, k + 1, .error e, by omega, by omega, by omega, e5, h5, ho5.rd.one, hL.err (by omega) a5⟩, by dsimp only; omega⟩
          | ok b4 =>
            refine ⟨⟨rfl, rfl, rfl, rfl, rfl, rfl, rfl, rfl, rfl, rfl, rfl, rfl, rfl, rfl, rfl, k + 1, .ok b4, by omega, by omega, by omega, e5, h5, ho5.rd.one, hL.step (by omega) a5 (fun v hv => by
              rw [← hfp] at hv
              obtain ⟨key, e1, q1, q2⟩ := bnd_ok.1 hv
              obtain ⟨w, e2, q3, q4⟩ := bnd_ok.1 q2
              have := str_inv q1
              have := rdV_inv d q3
              have := w.sz_pos
              obtain ⟨_, rfl⟩ := okP_inv q4
              omega) fun vs v hvl hR hv => ?_⟩, by dsimp only; omega⟩
            obtain ⟨xs, ho, hvs⟩ := hR
            have hxe : xs = xs0 := by
              rcases ho with ⟨c1, c2, c3⟩ | ⟨tip, c1, _⟩ <;> rcases ho0 with ⟨d1, d2, d3⟩ | ⟨tip', d1, _⟩
              · rw [c3, d3]
              · rw [c1] at d1; cases d1
              · rw [c1] at d1; cases d1
              · rw [c1] at d1; injection d1
            subst hxe
            exact ⟨_, ho5, FsR.snoc0 hvs hv⟩
        · cases S' with
          | ok a' => simp [errS] at q2
          | error e => exact need_intro hone (fin _ h3 hL.out)
      · have hkk : k = n := by omega
        subst hkk
        refine need_intro hone (fin S' h3 ?_)
        exact LoopS.done (g := fun l => Vl.mk (scK 7) [] l) (R := fun vs => vs.length = k ∧ ∃ xs, Own st2.nt 14 st3 c13 k xs ∧ FsR St.zero vs xs) (by
          cases S' with
          | error e => exact hL
          | ok a' => obtain ⟨c1, vs, c2, c3, c4⟩ := hL; exact ⟨c1, vs, c2, ⟨c2, c3⟩, c4⟩) fun vs hv => hQ vs hv.1 hv.2
    · refine hk (scK x) .nilSlice .nilSlice .nilSlice st1 _ rfl rfl rfl e1 h1 (step _ _ _ ((if_neg (by omega)).trans ((if_neg (by omega)).trans ((if_neg (by omega)).trans ((if_neg (by omega)).trans ((if_neg (by omega)).trans ((if_neg (by omega)).trans (if_neg (by omega)))))))) (After.ok (vlLeaf _ _ rfl)))
theorem qDecode_ok {u : TV} {B : List UInt8} (hB : InB u B) (hz : ∀ v b, rdV 48 B 0 = .ok (v, b) → v.sz ≤ 2000000) {st : St} {K : Int → Bool → Bool → List UInt8 → Int → Int → Int → Int → Int → List UInt8 → TV → TV → TV → Int → Int → St → Prop}
    (hk : ∀ s ub ul uf st', StExt st st' → oneT ub = true → oneT ul = true → oneT uf = true → VlR St.zero (decR B).1 (cellsV s ub ul uf) → K s.kind s.b s.neg s.dg s.ex s.tk s.td s.tn s.tz s.text ub ul uf ((decR B).2.1 : Nat) ((decR B).2.2 : Nat) st') :
    CallT PR fn_datakitref10_Decode [u] [.agg [.int .i64, .bool, .bool, .str, .int .i64, .int .i64, .int .i64, .int .i64, .int .i64, .str, .tv, .tv, .tv], .one (.int .i64), .one (.int .i64)] st K := by
  have hl := hB.len
  have hz0 : ∀ st' n e, StExt st st' → decR B = (vZ, n, e) → K 0 false false [] 0 0 0 0 0 [] .nilSlice .nilSlice .nilSlice (n : Nat) (e : Nat) st' := fun st' n e he hd => by
    have := hk (scK 0) .nilSlice .nilSlice .nilSlice st' he rfl rfl rfl (by rw [hd]; exact vlLeaf _ _ rfl)
    rw [hd] at this; exact this
  obtain ⟨st0, hst0⟩ : ∃ st0, st0 = st.push (.cells [u, .int .i64 0, .int .i64 0]) (some 71) := ⟨_, rfl⟩
  have e0 : StExt st st0 := hst0 ▸ (StExt.refl st).push _ _
  have hrs : RS st.nb u B st0 (.ok 0) := by rw [hst0]; exact ⟨by simp [St.push], Nat.zero_le _, by simp [St.push]⟩
  have hdec : decR B = decR B := rfl
  conv at hdec => rhs; unfold decR
  refine vc_datakitref10_Decode u st K (need_intro (by simp [hB.rd.one]) ?_)
  rw [← hst0]
  refine qvalue_ok 48 (by omega) hB hrs fun s ub ul uf st1 T p1 p2 p3 e1 h1 a1 => ?_
  have es : StExt st st1 := StX.ext e0 e1 (fun i hi => by rw [hi]; exact Nat.le_refl _)
  refine need_intro (one13 p1 p2 p3) (optK_intro h1.err (decT_int ?_))
  cases T with
  | error e =>
    refine BIf_intro (fun _ => optK_intro h1.err (decT_int (hz0 st1 0 e es ?_))) fun g => absurd (show ((e : Nat) : Int) ≠ 0 by have := h1.2.1; omega) g
    simp only [After] at a1
    cases hr : rdV 48 B 0 with
    | error e' =>
      rw [hr] at a1 hdec
      simp only [Except.error.injEq] at a1
      rw [hdec, a1]
    | ok p => rw [hr] at a1; exact absurd a1.2 (by simp)
  | ok b =>
    refine BIf_intro (fun g => absurd rfl g) fun _ => ?_
    simp only [After] at a1
    cases hr : rdV 48 B 0 with
    | error e' => rw [hr] at a1; simp at a1
    | ok p =>
    obtain ⟨v, b'⟩ := p
    rw [hr] at a1 hdec
    simp only [Except.ok.injEq] at a1
    obtain ⟨hv, rfl⟩ := a1
    simp only at hdec
    have hvz := hz v b hr
    have hbl := h1.2.1
    refine rCheck_ok hvz (VlR.keep (keeps0 st1) hv) (Keeps.refl _) fun st2 e2 => ?_
    have h2 : ldCell st2 [] (.t (.box st.nb 1)) 0 = some (.int .i64 (b : Nat)) := by
      rw [← h1.at]
      simp only [ldCell, e2.box st.nb h1.lt]
    refine BIf_intro (fun g => ?_) fun g => ?_
    · refine hz0 st2 0 _ (es.trans e2) ?_
      rw [hdec, if_pos (by omega)]
    · have hc : checkV v = 0 := by omega
      rw [if_neg (by omega)] at hdec
      have hok := (check_valid hc).ok
      refine optK_intro h2 (decT_int ?_)
      rw [hB.rd.lenS, Int.toNat_natCast]
      have hs := slB hB.rd hbl (Nat.zero_le b)
      rw [List.drop_zero, Nat.sub_zero] at hs
      refine ⟨⟨hB.rd.isLst, by omega, by omega⟩, ?_⟩
      have hlen := encode_len hc hvz
      refine Bytes_ok 2000000 _ hvz (by omega) hok.1 (VlR.keep (keeps0 st2) hv) (Keeps.refl _) (by omega) fun v4 st3 e3 ho4 => ?_
      have hb2 : st.nb < st2.nb := Nat.lt_of_lt_of_le h1.lt e2.nb
      have h3 : ldCell st3 [] (.t (.box st.nb 1)) 0 = some (.int .i64 (b : Nat)) := by rw [← h2]; simp only [ldCell, e3.box st.nb hb2]
      refine ⟨h3, sameBytes_ok ho4.rd hs ⟨h3, ?_⟩⟩
      refine BIf_bool (fun g2 => ?_) fun g2 => ?_
      · have g2 : bytesV (sortV v) ≠ B.take b := by simpa using g2
        refine hz0 st3 0 3 ((es.trans e2).trans e3) ?_
        rw [hdec, if_pos g2]
      · have g2 : bytesV (sortV v) = B.take b := by simpa using g2
        rw [if_neg (fun h => h g2)] at hdec
        refine optK_intro h3 (decT_int (need_intro (one13 p1 p2 p3) ?_))
        have := hk s ub ul uf st3 ((es.trans e2).trans e3) p1 p2 p3 (by rw [hdec]; exact hv)
        rw [hdec] at this; exact this
theorem int_le {B : List UInt8} {a b : Nat} {z : Int} (h : intP B a = .ok (z, b)) : b ≤ B.length := by
  obtain ⟨n, c, h1, h2⟩ := bnd_ok.1 h
  obtain ⟨_, rfl⟩ := okP_inv h2
  exact (nat_inv _ _ _ h1).2
theorem num_le {B : List UInt8} {a b : Nat} {x : Bool × List UInt8 × Int} (h : numP B a = .ok (x, b)) : b ≤ B.length := by
  obtain ⟨s, c, h1, h2⟩ := bnd_ok.1 h
  have := most_inv h1
  split at h2
  · obtain ⟨rfl, rfl⟩ := okP_inv h2; omega
  · obtain ⟨z, c2, h3, h4⟩ := bnd_ok.1 h2
    obtain ⟨dg, c3, h5, h6⟩ := bnd_ok.1 h4
    obtain ⟨rfl, rfl⟩ := okP_inv h6
    exact (str_inv h5).2
theorem rep_le {α : Type} {f : Ps α} {B : List UInt8} (hf : ∀ a x b, f B a = .ok (x, b) → b ≤ B.length) : ∀ (n a : Nat) (l : List α) (b : Nat), a ≤ B.length → repP f n B a = .ok (l, b) → b ≤ B.length
  | 0, a, l, b, ha, h => by obtain ⟨rfl, rfl⟩ := okP_inv h; exact ha
  | n + 1, a, l, b, ha, h => by
    obtain ⟨x, c, h1, h2⟩ := bnd_ok.1 h
    obtain ⟨r, c2, h3, h4⟩ := bnd_ok.1 h2
    obtain ⟨rfl, rfl⟩ := okP_inv h4
    exact rep_le hf n _ _ _ (hf _ _ _ h1) h3
theorem rdV_le : ∀ (d : Nat) {B : List UInt8} {a b : Nat} {v : Vl}, rdV d B a = .ok (v, b) → b ≤ B.length
  | 0, B, a, b, v, h => (badP_inv h).elim
  | d + 1, B, a, b, v, h => by
    obtain ⟨k, c, h1, h2⟩ := bnd_ok.1 h
    have hc := most_inv h1
    split at h2
    · obtain ⟨x, c2, h3, h4⟩ := bnd_ok.1 h2
      have := most_inv h3
      obtain ⟨rfl, rfl⟩ := okP_inv h4
      omega
    split at h2
    · obtain ⟨x, c2, h3, h4⟩ := bnd_ok.1 h2
      obtain ⟨rfl, rfl⟩ := okP_inv h4
      exact num_le h3
    split at h2
    · obtain ⟨x, c2, h3, h4⟩ := bnd_ok.1 h2
      obtain ⟨y, c3, h5, h6⟩ := bnd_ok.1 h4
      obtain ⟨z, c4, h7, h8⟩ := bnd_ok.1 h6
      obtain ⟨w, c5, h9, h10⟩ := bnd_ok.1 h8
      obtain ⟨rfl, rfl⟩ := okP_inv h10
      exact int_le h9
    split at h2
    · obtain ⟨x, c2, h3, h4⟩ := bnd_ok.1 h2
      obtain ⟨rfl, rfl⟩ := okP_inv h4
      exact (str_inv h3).2
    split at h2
    · obtain ⟨x, c2, h3, h4⟩ := bnd_ok.1 h2
      obtain ⟨rfl, rfl⟩ := okP_inv h4
      exact (str_inv h3).2
    split at h2
    · obtain ⟨n, c2, h3, h4⟩ := bnd_ok.1 h2
      obtain ⟨l, c3, h5, h6⟩ := bnd_ok.1 h4
      obtain ⟨rfl, rfl⟩ := okP_inv h6
      exact rep_le (fun a x b hx => rdV_le d hx) _ _ _ _ (nat_inv _ _ _ h3).2 h5
    split at h2
    · obtain ⟨n, c2, h3, h4⟩ := bnd_ok.1 h2
      obtain ⟨l, c3, h5, h6⟩ := bnd_ok.1 h4
      obtain ⟨rfl, rfl⟩ := okP_inv h6
      exact rep_le (fun a x b hx => by
        obtain ⟨key, e1, q1, q2⟩ := bnd_ok.1 hx
        obtain ⟨w, e2, q3, q4⟩ := bnd_ok.1 q2
        obtain ⟨rfl, rfl⟩ := okP_inv q4
        exact rdV_le d q3) _ _ _ _ (nat_inv _ _ _ h3).2 h5
    · obtain ⟨rfl, rfl⟩ := okP_inv h2
      omega
theorem decR_sz (B : List UInt8) : (decR B).1.sz ≤ 1 + B.length := by
  have hz : vZ.sz = 1 := by unfold vZ Vl.sz vsSz fsSz; simp [scK]
  unfold decR
  split
  · rw [hz]; omega
  · rename_i v b h
    split
    · rw [hz]; omega
    split
    · rw [hz]; omega
    · have := rdV_inv 48 h
      have := rdV_le 48 h
      simp only; omega
theorem ldecodes_ok {u : TV} {B : List UInt8} (hB : RdB u B) {st : St} {K : Bool → St → Prop} (hk : ∀ st', K true st') : CallT PR fn_datakitlaw10_CanonDecodes [u] [.one .bool] st K := by
  refine vc_datakitlaw10_CanonDecodes u st K (need_intro hB.isSl ?_)
  rw [hB.lenS]
  refine BIf_intro (fun _ => hk st) fun g => ?_
  have hz : ∀ v b, rdV 48 B 0 = .ok (v, b) → v.sz ≤ 2000000 := fun v b h => by
    have := rdV_inv 48 h
    have := rdV_le 48 h
    omega
  have hin : InB u B := ⟨hB, by omega⟩
  have hs := decR_sz B
  refine Decode_ok hin hz fun s ub ul uf st1 e1 p1 p2 p3 hv => need_intro (one13 p1 p2 p3) (qDecode_ok hin hz fun s2 wb wl wf st2 e2 q1 q2 q3 hw => need_intro (one13 q1 q2 q3) ?_)
  refine BIf_intro (fun _ => BIf_intro (fun _ => ?_) fun h => absurd rfl h) fun h => absurd rfl h
  refine Same_ok 2000000 (decR B).1 (decR B).1 (by omega) (by omega) (by omega) (VlR.keep (keeps0 st2) hv) (VlR.keep (keeps0 st2) hw) (Keeps.refl _) fun r hr => ?_
  rw [hr.2 rfl]
  exact hk st2
end Go.TVF
end

section
namespace Go.TVF
open Go Go.Proofs
set_option linter.unusedVariables false
abbrev decQs : List (Nat × (Nat → List TV → Prop)) := [(1, cellQ .bool), (1, strQ), (1, cellQ (.int .i64))]
abbrev timeQs : List (Nat × (Nat → List TV → Prop)) := [(1, cellQ (.int .i64)), (1, cellQ (.int .i64)), (1, cellQ (.int .i64)), (1, cellQ (.int .i64))]
def valQ (k : Nat) (tv : List TV) : Prop := ∃ v : Vl, VlR St.zero v tv ∧ v.sz ≤ k
def fldQ (k : Nat) (tv : List TV) : Prop := ∃ d : Fd, FdR St.zero d tv ∧ d.sz ≤ k
abbrev sliceQ (c : Nat) (S : Nat → List TV → Prop) (k : Nat) (tv : List TV) : Prop := ∃ v, tv = [v] ∧ SlQ c S k v
abbrev inQ (Ss : List (Nat × (Nat → List TV → Prop))) (k : Nat) (tv : List TV) : Prop := ∃ k', k' + 1 ≤ k ∧ EachQ Ss k' tv
abbrev valQs : List (Nat × (Nat → List TV → Prop)) := [(1, cellQ (.int .i64)), (1, cellQ .bool), (3, inQ decQs), (4, inQ timeQs), (1, strQ), (1, sliceQ 1 (cellQ (.int .u8))), (1, sliceQ 13 valQ), (1, sliceQ 14 fldQ)]
abbrev fldQs : List (Nat × (Nat → List TV → Prop)) := [(1, strQ), (13, valQ)]
theorem SlQ.bytes {k : Nat} {v : TV} (h : SlQ 1 (cellQ (.int .u8)) k v) : ∃ l : List UInt8, SlR St.zero 1 v l.length (bytesT l) ∧ l.length ≤ k := by
  rcases h with rfl | ⟨ps, rfl, h, hk⟩
  · exact ⟨[], .inl (.inl ⟨rfl, rfl, rfl⟩), Nat.zero_le _⟩
  · have : ∃ l : List UInt8, l.length = ps.length ∧ (ps.map (·.1)).flatten = bytesT l ∧ l.length ≤ (ps.map (·.2)).sum := by
      clear hk
      induction ps with
      | nil => exact ⟨[], rfl, rfl, Nat.zero_le _⟩
      | cons p r ih =>
        obtain ⟨l, h1, h2, h3⟩ := ih (fun q hq => h q (.tail _ hq))
        obtain ⟨hl, ⟨n, ys, hp, hw, rfl⟩, h1k⟩ := h p (.head _)
        have hn : 0 ≤ n ∧ n ≤ 255 := by simpa [Lit.wf, IntKind.min, IntKind.max, IntKind.signed, IntKind.bits] using hw
        refine ⟨n.toNat.toUInt8 :: l, by simp [h1], ?_, by simp only [List.length_cons, List.map_cons, List.sum_cons]; omega⟩
        rw [List.map_cons, List.flatten_cons, hp, h2]
        simp only [bytesT, List.map_cons, byteT, List.cons_append, List.nil_append, List.cons.injEq, and_true, TV.int.injEq, true_and]
        have := natB_lt n.toNat (by omega)
        omega
    obtain ⟨l, h1, h2, h3⟩ := this
    exact ⟨l, .inl (.inr ⟨.non, by rw [h1, h2]⟩), by omega⟩
theorem SlQ.vals {k : Nat} {v : TV} (h : SlQ 13 valQ k v) : ∃ l xl, SlR St.zero 13 v l.length xl ∧ VsR St.zero l xl ∧ vsSz l ≤ k := by
  rcases h with rfl | ⟨ps, rfl, h, hk⟩
  · exact ⟨[], [], .inl (.inl ⟨rfl, rfl, rfl⟩), by unfold VsR; rfl, by unfold vsSz; exact Nat.zero_le _⟩
  · have : ∃ l : List Vl, l.length = ps.length ∧ VsR St.zero l (ps.map (·.1)).flatten ∧ vsSz l ≤ (ps.map (·.2)).sum := by
      clear hk
      induction ps with
      | nil => exact ⟨[], rfl, by unfold VsR; rfl, by unfold vsSz; exact Nat.zero_le _⟩
      | cons p r ih =>
        obtain ⟨l, h1, h2, h3⟩ := ih (fun q hq => h q (.tail _ hq))
        obtain ⟨hl, v, hv, hz⟩ := h p (.head _)
        exact ⟨v :: l, by simp [h1], by unfold VsR; exact ⟨_, _, by simp, hv, h2⟩, by unfold vsSz; simp only [List.map_cons, List.sum_cons]; omega⟩
    obtain ⟨l, h1, h2, h3⟩ := this
    exact ⟨l, _, .inl (.inr ⟨.non, by rw [h1]⟩), h2, by omega⟩
theorem SlQ.flds {k : Nat} {v : TV} (h : SlQ 14 fldQ k v) : ∃ l xl, SlR St.zero 14 v l.length xl ∧ FsR St.zero l xl ∧ fsSz l ≤ k := by
  rcases h with rfl | ⟨ps, rfl, h, hk⟩
  · exact ⟨[], [], .inl (.inl ⟨rfl, rfl, rfl⟩), by unfold FsR; rfl, by unfold fsSz; exact Nat.zero_le _⟩
  · have : ∃ l : List Fd, l.length = ps.length ∧ FsR St.zero l (ps.map (·.1)).flatten ∧ fsSz l ≤ (ps.map (·.2)).sum := by
      clear hk
      induction ps with
      | nil => exact ⟨[], rfl, by unfold FsR; rfl, by unfold fsSz; exact Nat.zero_le _⟩
      | cons p r ih =>
        obtain ⟨l, h1, h2, h3⟩ := ih (fun q hq => h q (.tail _ hq))
        obtain ⟨hl, v, hv, hz⟩ := h p (.head _)
        exact ⟨v :: l, by simp [h1], by unfold FsR; exact ⟨_, _, by simp, hv, h2⟩, by unfold fsSz; simp only [List.map_cons, List.sum_cons]; omega⟩
    obtain ⟨l, h1, h2, h3⟩ := this
    exact ⟨l, _, .inl (.inr ⟨.non, by rw [h1]⟩), h2, by omega⟩
theorem cellQ_int {kd : IntKind} {k : Nat} {tv : List TV} (h : cellQ (.int kd) k tv) : ∃ n, tv = [.int kd n] := by
  obtain ⟨⟨n, ys, rfl, _, rfl⟩, _⟩ := h; exact ⟨n, rfl⟩
theorem cellQ_bool {k : Nat} {tv : List TV} (h : cellQ .bool k tv) : ∃ b, tv = [.bool b] := by
  obtain ⟨⟨n, ys, rfl, rfl⟩, _⟩ := h; exact ⟨n, rfl⟩
theorem each_field {k : Nat} {tv : List TV} (h : inQ fldQs k tv) : fldQ k tv := by
  obtain ⟨k0, hk0, _, _, k1, k2, rfl, _, ⟨key, rfl, _, hkey⟩, ⟨_, _, k3, k4, rfl, _, ⟨v, hv, hz⟩, rfl, h2⟩, h1⟩ := h
  refine ⟨.mk key v, by unfold FdR; exact ⟨_, by simp, hv⟩, by unfold Fd.sz; omega⟩
theorem each_value {k : Nat} {tv : List TV} (h : inQ valQs k tv) : valQ k tv := by
  obtain ⟨k0, hk0, _, _, a1, r1, rfl, _, q1, ⟨_, _, a2, r2, rfl, _, q2, ⟨_, _, a3, r3, rfl, _, q3, ⟨_, _, a4, r4, rfl, _, q4, ⟨_, _, a5, r5, rfl, _, q5, ⟨_, _, a6, r6, rfl, _, q6, ⟨_, _, a7, r7, rfl, _, q7, ⟨_, _, a8, r8, rfl, _, q8, rfl, h8⟩, h7⟩, h6⟩, h5⟩, h4⟩, h3⟩, h2⟩, h1⟩ := h
  obtain ⟨kd, rfl⟩ := cellQ_int q1
  obtain ⟨bo, rfl⟩ := cellQ_bool q2
  obtain ⟨d0, hd0, _, _, d1, d2, rfl, _, p1, ⟨_, _, d3, d4, rfl, _, ⟨dg, rfl, _, hdg⟩, ⟨_, _, d5, d6, rfl, _, p3, rfl, g3⟩, g2⟩, g1⟩ := q3
  obtain ⟨ng, rfl⟩ := cellQ_bool p1
  obtain ⟨ex, rfl⟩ := cellQ_int p3
  obtain ⟨_, _, _, _, _, _, rfl, _, t1, ⟨_, _, _, _, rfl, _, t2, ⟨_, _, _, _, rfl, _, t3, ⟨_, _, _, _, rfl, _, t4, rfl, _⟩, _⟩, _⟩, _⟩ := q4
  obtain ⟨tk, rfl⟩ := cellQ_int t1
  obtain ⟨td, rfl⟩ := cellQ_int t2
  obtain ⟨tn, rfl⟩ := cellQ_int t3
  obtain ⟨tz, rfl⟩ := cellQ_int t4
  obtain ⟨tx, rfl, _, htx⟩ := q5
  obtain ⟨ub, rfl, q6⟩ := q6
  obtain ⟨ul, rfl, q7⟩ := q7
  obtain ⟨uf, rfl, q8⟩ := q8
  obtain ⟨bs, hb, hbl⟩ := q6.bytes
  obtain ⟨l, xl, hl, hlv, hlz⟩ := q7.vals
  obtain ⟨f, xf, hf, hfv, hfz⟩ := q8.flds
  refine ⟨.mk ⟨kd, bo, ng, dg, ex, tk, td, tn, tz, tx, bs⟩ l f, ?_, by rw [szs]; simp only; omega⟩
  unfold VlR
  exact ⟨ub, ul, uf, xl, xf, by simp, hb, hl, hlv, hf, hfv⟩
/-- A value that came in, not too great. -/
def IsVal (t : TV) : Prop := ∃ v cs, t = .agg cs ∧ VlR St.zero v cs ∧ v.sz ≤ 1048576
section
variable {H : Type} {enc : TypeId × Value → H} {P : Program} {w : World} {base b0 : Nat} {held : Bool} {bk : DataW H → Nat}
theorem open_val {t : TypeId} {fs : Array Field} {v : Value} {d : DataW H} {p : List MemPlace} (ht : P.underlying t = some (.struct fs)) (hop : ∀ n, OpQ bk enc P w base held n 13 valQ t)
    (hval : Value.okWide P w .any b0 t v) (h : DataW.Trod enc P w base (fun _ => true) held t v d p) (hk : bk d ≤ 1048576) : ∃ tv, Rel (Ghost.start w) w tv v ∧ IsVal tv := by
  simp only [Value.okWide, ht] at hval
  obtain ⟨vs, rfl, _, _⟩ := hval
  obtain ⟨n, hn⟩ := h
  obtain ⟨cs, hr, _, vl, hv, hz⟩ := (hop n).2 _ _ hn
  have := Rel.agg cs vs.toList hr.1 hr.2
  rw [Array.toArray_toList] at this
  exact ⟨_, this, vl, cs, rfl, hv, Nat.le_trans hz hk⟩
end
end Go.TVF
end

section
namespace Go.TVF
open Go Go.Proofs
set_option linter.unusedVariables false
/-- Bytes that came in. -/
def IsBytes (t : TV) : Prop := ∃ l : List UInt8, RdB t l
section
variable {H : Type} {enc : TypeId × Value → H} {P : Program} {w : World} {base b0 : Nat} {held : Bool} {bk : DataW H → Nat}
theorem open_bytes {t e : TypeId} {v : Value} {d : DataW H} {p : List MemPlace} (hb : Blk bk) (ht : P.underlying t = some (.slice e)) (ht1 : P.cellsOf t = 1) (hE : ∀ m, OpQ bk enc P w base held m 1 (cellQ (.int .u8)) e)
    (hval : Value.okWide P w .any b0 t v) (h : DataW.Trod enc P w base (fun _ => true) held t v d p) : ∃ tv, Rel (Ghost.start w) w tv v ∧ IsBytes tv := by
  obtain ⟨a, len, cap, rfl⟩ := Go.WideShapes.okWide_slice ht hval
  obtain ⟨n, hn⟩ := h
  obtain ⟨cs, hr, _, v', rfl, hq⟩ := (opq_slice (n := n) hb ht ht1 (Nat.le_refl 1) fun m _ => hE m).2 _ _ hn
  obtain ⟨l, hl, hlk⟩ := hq.bytes
  refine ⟨v', ?_, l, ?_⟩
  · obtain ⟨v1, he, h1⟩ := relL_one hr
    cases he
    exact h1
  · rcases hl with h | ⟨b, off, cap, l2, _, hb0, _⟩
    · exact h
    · exact absurd hb0 (Nat.not_lt_zero _)
end
end Go.TVF
end
