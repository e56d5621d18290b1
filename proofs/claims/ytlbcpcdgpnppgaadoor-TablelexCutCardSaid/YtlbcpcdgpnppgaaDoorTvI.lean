/- Calls. -/
import Derived.Test.YtlbcpcdgpnppgaaDoorTvH
set_option linter.unusedVariables false
set_option linter.unusedSimpArgs false
namespace Go.TVF
open Go.RowKit (Below)

def Done (P : Program) (s : Sem Next) (w : World) (R : Value → World → Prop) : Prop :=
  match s.run P w with
  | .ok (.value v) w' => R v w'
  | .ok .skip w' => R Go.undef w'
  | .ok (.enter f args) w' => Calls P f args w' fun e w'' => ∃ v, e = .returned v ∧ R v w''
  | _ => False

theorem Done.mono {P : Program} {s : Sem Next} {w : World} {R R' : Value → World → Prop} (h : Done P s w R) (k : ∀ v w', R v w' → R' v w') : Done P s w R' := by
  unfold Done at h ⊢
  split at h
  · exact k _ _ h
  · exact k _ _ h
  · exact Calls.mono h fun e w'' ⟨v, h1, h2⟩ => ⟨v, h1, k _ _ h2⟩
  · exact h.elim
theorem Done.congr {P : Program} {s s' : Sem Next} {w : World} {R : Value → World → Prop} (e : s.run P w = s'.run P w) (h : Done P s' w R) : Done P s w R := by
  unfold Done at h ⊢
  rw [e]; exact h

/-- The function, called at trees, returns a tree and leaves a state as R says. -/
structure TCalls (P : Program) (f : FuncId) (args : List TV) (st : St) (R : TV → St → Prop) : Prop where
  run : ∀ (g : Ghost) (w : World) (vargs : List Value), Sim g st [] w → RelL g w args vargs →
    Done P (callFunc f vargs.toArray) w fun v w' => ∃ r st' g', R r st' ∧ Sim g' st' [] w' ∧ Rel g' w' r v ∧ Ext g w g' w'

theorem TCalls.mono {P : Program} {f : FuncId} {args : List TV} {st : St} {R R' : TV → St → Prop} (h : TCalls P f args st R) (k : ∀ r st', R r st' → R' r st') : TCalls P f args st R' :=
  ⟨fun g w vargs s hr => (h.run g w vargs s hr).mono fun v w' ⟨r, st', g', h2, h3⟩ => ⟨r, st', g', k _ _ h2, h3⟩⟩

/-- A function that is entered. -/
theorem tcalls_enter {P : Program} {f : FuncId} {args : List TV} {st : St} {R : TV → St → Prop} (hcall : ∀ (vs : Array Value) (w : World), (callFunc f vs).run P w = .ok (.enter f vs) w)
    (h : ∀ (g : Ghost) (w : World) (vargs : List Value), Sim g st [] w → RelL g w args vargs → Calls P f vargs.toArray w fun e w' => ∃ v, e = .returned v ∧ ∃ r st' g', R r st' ∧ Sim g' st' [] w' ∧ Rel g' w' r v ∧ Ext g w g' w') : TCalls P f args st R := by
  refine ⟨fun g w vargs s hr => ?_⟩
  unfold Done
  rw [hcall]
  exact h g w vargs s hr
/-- A function that the model carries out at once. -/
theorem tcalls_value {P : Program} {f : FuncId} {args : List TV} {st : St} {R : TV → St → Prop}
    (h : ∀ (g : Ghost) (w : World) (vargs : List Value), Sim g st [] w → RelL g w args vargs → ∃ v w', (callFunc f vargs.toArray).run P w = .ok (.value v) w' ∧ ∃ r st' g', R r st' ∧ Sim g' st' [] w' ∧ Rel g' w' r v ∧ Ext g w g' w') : TCalls P f args st R := by
  refine ⟨fun g w vargs s hr => ?_⟩
  obtain ⟨v, w', h1, h2⟩ := h g w vargs s hr
  unfold Done
  rw [h1]
  exact h2

section
variable {P : Program} {g : Ghost} {st : St} {loc : List (Option (List TV))} {w : World}

/-- The frame's locals are put under protection. -/
def Ghost.guard (g : Ghost) (loc : List (Option (List TV))) : Ghost := { g with prot := fun b => g.prot b ∨ ∃ (i : Nat) (x : List TV), loc[i]? = some (some x) ∧ b = g.lam i }

theorem Sim.guard (s : Sim g st loc w) : Sim (g.guard loc) st [] w := by
  have hd : ∀ k, Dom st [] k → Dom st loc k ∧ objOf st [] k = objOf st loc k ∧ ∀ (i : Nat) (x : List TV), loc[i]? = some (some x) → g.at k ≠ g.lam i := by
    intro k d
    cases k with
    | box i => exact ⟨d, rfl, fun j x hj h => by have := s.inj (.box i) (.loc j) d ⟨x, hj⟩ h; cases this⟩
    | loc i => obtain ⟨x, hx⟩ := d; simp at hx
  have e0 : Ext0 g w (g.guard loc) w := ⟨Nat.le_refl _, fun _ _ => rfl, Nat.le_refl _, fun _ _ => .inl rfl, fun a ha => ⟨ha, rfl⟩⟩
  refine ⟨s.nb, s.nt, s.below, s.fits, fun k d => ?_, fun k k' d d' => s.inj k k' (hd k d).1 (hd k' d').1, fun k d => s.lo k (hd k d).1, s.own, ?_, s.spApart, s.spLt, ?_, ?_, s.spTop, s.spTy, s.bTy, s.glob⟩
  · rw [(hd k d).2.1]; exact (s.obj k (hd k d).1).ext0 e0 rfl
  · intro id b l h hsp
    obtain ⟨c1, c2, c3, c4, c5⟩ := s.spCell id b l h hsp
    exact ⟨c1, c2, c3, fun k d => c4 k (hd k d).1, c5⟩
  · intro a ha
    obtain ⟨c1, c2, c3, c4⟩ := s.sCell a ha
    exact ⟨c1, c2, fun k d => c3 k (hd k d).1, c4⟩
  · intro b hb
    rcases hb with hb | ⟨i, x, hx, rfl⟩
    · obtain ⟨c1, c2, c3⟩ := s.protOk b hb
      exact ⟨c1, fun k d => c2 k (hd k d).1, c3⟩
    · refine ⟨(s.lo (.loc i) ⟨x, hx⟩).2, fun k d => (hd k d).2.2 i x hx, fun id l h hsp => ?_, fun a ha h => ?_⟩
      · exact (s.spCell id _ l h hsp).2.2.2.1 (.loc i) ⟨x, hx⟩ rfl
      · exact (s.sCell a ha).2.2.1 (.loc i) ⟨x, hx⟩ h.symm

theorem relGuard {x : TV} {v : Value} (h : Rel g w x v) : Rel (g.guard loc) w x v := by
  have e0 : Ext0 g w (g.guard loc) w := ⟨Nat.le_refl _, fun _ _ => rfl, Nat.le_refl _, fun _ _ => .inl rfl, fun a ha => ⟨ha, rfl⟩⟩
  exact h.ext0 e0

/-- The call is over: the locals are the frame's again. -/
theorem Sim.unguard (s : Sim g st loc w) {g' : Ghost} {st' : St} {w' : World} (s' : Sim g' st' [] w') (e : Ext (g.guard loc) w g' w') :
    Sim { g' with prot := g.prot, lam := g.lam } st' loc w' ∧ Ext g w { g' with prot := g.prot, lam := g.lam } w' := by
  have hprot : ∀ (i : Nat) (x : List TV), loc[i]? = some (some x) → (g.guard loc).prot (g.lam i) := fun i x hx => .inr ⟨i, x, hx, rfl⟩
  have hprot' : ∀ (i : Nat) (x : List TV), loc[i]? = some (some x) → g'.prot (g.lam i) := fun i x hx => by rw [e.prot]; exact hprot i x hx
  have e1 : Ext g w { g' with prot := g.prot, lam := g.lam } w' := ⟨e.base, e.w0, e.size, e.nb, e.bk, e.nt, e.sp, e.S, rfl, fun b hb => e.protEq b (.inl hb)⟩
  have e0 : Ext0 g' w' { g' with prot := g.prot, lam := g.lam } w' := ⟨Nat.le_refl _, fun _ _ => rfl, Nat.le_refl _, fun _ _ => .inl rfl, fun a ha => ⟨ha, rfl⟩⟩
  have hbox : ∀ i, Dom st' loc (.box i) → Dom st' [] (.box i) := fun i d => d
  have hne : ∀ i j x, i < st'.nb → loc[j]? = some (some x) → g'.bk i ≠ g.lam j := fun i j x hi hj h => (s'.protOk _ (hprot' j x hj)).2.1 (.box i) hi h
  refine ⟨⟨s'.nb, s'.nt, s'.below, s'.fits, fun k d => ?_, fun k k' d d' h => ?_, fun k d => ?_, s'.own, ?_, s'.spApart, s'.spLt, ?_, ?_, s'.spTop, s'.spTy, s'.bTy, s'.glob⟩, e1⟩
  · cases k with
    | box i => exact (s'.obj (.box i) d).ext0 e0 rfl
    | loc i =>
      obtain ⟨x, hx⟩ := d
      have := s.obj (.loc i) ⟨x, hx⟩
      exact ORel.ext0 e1.to0 (e.protEq _ (hprot i x hx)) this
  · cases k with
    | box i => cases k' with
      | box j => exact s'.inj (.box i) (.box j) d d' h
      | loc j => obtain ⟨x, hx⟩ := d'; exact absurd h (hne i j x d hx)
    | loc i => cases k' with
      | box j => obtain ⟨x, hx⟩ := d; exact absurd h.symm (hne j i x d' hx)
      | loc j => exact s.inj (.loc i) (.loc j) d d' h
  · cases k with
    | box i => exact s'.lo (.box i) d
    | loc i =>
      have h1 := s.lo (.loc i) d
      refine ⟨?_, Nat.lt_of_lt_of_le h1.2 e.size⟩
      show g'.base ≤ _
      rw [e.base]; exact h1.1
  · intro id b l h hsp
    obtain ⟨c1, c2, c3, c4, c5⟩ := s'.spCell id b l h hsp
    refine ⟨c1, c2, c3, fun k d => ?_, c5⟩
    cases k with
    | box i => exact c4 (.box i) d
    | loc i =>
      obtain ⟨x, hx⟩ := d
      intro hh
      have hh' : g.lam i = b := hh
      exact (s'.protOk _ (hprot' i x hx)).2.2.1 id l h (hh' ▸ hsp)
  · intro a ha
    obtain ⟨c1, c2, c3, c4⟩ := s'.sCell a ha
    refine ⟨c1, c2, fun k d => ?_, c4⟩
    cases k with
    | box i => exact c3 (.box i) d
    | loc i =>
      obtain ⟨x, hx⟩ := d
      intro hh
      exact (s'.protOk _ (hprot' i x hx)).2.2.2 a ha hh.symm
  · intro b hb
    have hb' : g'.prot b := by rw [e.prot]; exact .inl hb
    obtain ⟨c1, c2, c3⟩ := s'.protOk b hb'
    refine ⟨c1, fun k d => ?_, c3⟩
    cases k with
    | box i => exact c2 (.box i) d
    | loc i =>
      obtain ⟨x, hx⟩ := d
      exact (s.protOk b hb).2.1 (.loc i) ⟨x, hx⟩


theorem call_gives (s : Sim g st loc w) {f : FuncId} {args : List TV} {vargs : List Value} (hr : RelL g w args vargs) {R : TV → St → Prop} (h : TCalls P f args st R) :
    Done P (callFunc f vargs.toArray) w (Left g w loc (fun sv loc' st' => ∃ r, sv = .t r ∧ loc' = loc ∧ R r st')) := by
  refine (h.run (g.guard loc) w vargs s.guard ⟨hr.1, fun i hi => relGuard (hr.2 i hi)⟩).mono ?_
  rintro v w' ⟨r, st', g', hR, s', hrel, ext⟩
  obtain ⟨s2, e2⟩ := s.unguard s' ext
  refine ⟨.t r, loc, st', _, ⟨r, rfl, rfl, hR⟩, s2, ?_, e2, fun i x hi => ⟨rfl, x, hi⟩⟩
  have e0 : Ext0 g' w' { g' with prot := g.prot, lam := g.lam } w' := ⟨Nat.le_refl _, fun _ _ => rfl, Nat.le_refl _, fun _ _ => .inl rfl, fun a ha => ⟨ha, rfl⟩⟩
  exact hrel.ext0 e0

end
end Go.TVF
