/- The simulation's steps, second part: settled cells, spare cells, stores. -/
import Derived.Test.YtlbcpcdgpnppgaaDoorTvA
import Derived.Lib.UnsafeStr
set_option linter.unusedVariables false
set_option linter.unusedSimpArgs false
namespace Go.TVF
open Go.RowKit (Below)

def Ghost.settle (g : Ghost) (X : Addr → Prop) : Ghost := { g with S := fun a => g.S a ∨ X a }

theorem Sim.settle {g : Ghost} {st : St} {loc : List (Option (List TV))} {w : World} (s : Sim g st loc w) (X : Addr → Prop)
    (hX : ∀ a, X a → a.spot = none ∧ (∃ v, w.cell? a = some v) ∧ (∀ k, Dom st loc k → g.at k ≠ a.block) ∧ ∀ id l h, g.sp id = some (a.block, l, h) → ¬ (l ≤ a.off ∧ a.off < h))
    (hXp : ∀ a, X a → ¬ g.prot a.block) :
    Sim (g.settle X) st loc w ∧ Ext g w (g.settle X) w := by
  have e : Ext g w (g.settle X) w := ⟨rfl, rfl, Nat.le_refl _, Nat.le_refl _, fun i hi => rfl, Nat.le_refl _, fun _ _ => .inl rfl, fun a ha => ⟨.inl ha, rfl⟩, rfl, fun _ _ => rfl⟩
  refine ⟨⟨s.nb, s.nt, s.below, s.fits, fun k d => (s.obj k d).ext e rfl, s.inj, s.lo, s.own, s.spCell, s.spApart, s.spLt, ?_, ?_, s.spTop, s.spTy, s.bTy, s.glob⟩, e⟩
  · intro a ha
    rcases ha with ha | ha
    · exact s.sCell a ha
    · exact hX a ha
  · intro b hb
    obtain ⟨h1, h2, h3, h4⟩ := s.protOk b hb
    refine ⟨h1, h2, h3, fun a ha => ?_⟩
    rcases ha with ha | ha
    · exact h4 a ha
    · intro h; subst h; exact hXp a ha hb

def St.retire (st : St) (id : Nat) : St := { st with live := fun i => if i = id then false else st.live i }
def Ghost.retire (g : Ghost) (id : Nat) : Ghost := { g with sp := fun i => if i = id then none else g.sp i }

theorem Sim.retire {g : Ghost} {st : St} {loc : List (Option (List TV))} {w : World} (s : Sim g st loc w) (id : Nat) : Sim (g.retire id) (st.retire id) loc w ∧ Ext g w (g.retire id) w := by
  have hsp : ∀ i r, (g.retire id).sp i = some r → g.sp i = some r := by
    intro i r h
    simp only [Ghost.retire] at h
    split at h
    · cases h
    · exact h
  have e : Ext g w (g.retire id) w := ⟨rfl, rfl, Nat.le_refl _, Nat.le_refl _, fun i hi => rfl, Nat.le_refl _, fun i _ => by
      simp only [Ghost.retire]; split <;> simp, fun a ha => ⟨ha, rfl⟩, rfl, fun _ _ => rfl⟩
  refine ⟨⟨s.nb, s.nt, s.below, s.fits, fun k d => (s.obj k d).ext e rfl, s.inj, s.lo, ?_, fun i b l h hh => s.spCell i b l h (hsp _ _ hh),
    fun i j b l h l' h' hne h1 h2 => s.spApart i j b l h l' h' hne (hsp _ _ h1) (hsp _ _ h2), ?_, ?_, ?_, fun id b l h hh j r hj hr => s.spTop id b l h (hsp _ _ hh) j r hj (hsp _ _ hr), fun id b l h T hh hT => s.spTy id b l h T (hsp _ _ hh) hT, s.bTy, s.glob⟩, e⟩
  · intro i hi hl
    simp only [St.retire] at hl
    simp only [Ghost.retire]
    split at hl
    · cases hl
    · rename_i h; rw [if_neg h]; exact s.own i hi hl
  · intro i hi
    simp only [Ghost.retire]
    split
    · rfl
    · exact s.spLt i hi
  · intro a ha
    obtain ⟨h1, h2, h3, h4⟩ := s.sCell a ha
    exact ⟨h1, h2, h3, fun i l h hh => h4 i l h (hsp _ _ hh)⟩
  · intro b hb
    obtain ⟨h1, h2, h3, h4⟩ := s.protOk b hb
    exact ⟨h1, h2, fun i l h hh => h3 i l h (hsp _ _ hh), h4⟩

def St.fresh (st : St) (T : Option Nat) : St := { st with nt := st.nt + 1, live := fun i => if i = st.nt then true else st.live i, ty := fun i => if i = st.nt then T else st.ty i }
def Ghost.fresh (g : Ghost) (r : Nat × Nat × Nat) : Ghost := { g with nt := g.nt + 1, sp := fun i => if i = g.nt then some r else g.sp i }

theorem Sim.fresh {g : Ghost} {st : St} {loc : List (Option (List TV))} {w : World} (s : Sim g st loc w) (b l h : Nat) (hb : g.base ≤ b ∨ l = h) (hb' : g.base ≤ b) (hlt : b < w.heap.size) (hlh : l ≤ h)
    (hk : ∀ k, Dom st loc k → g.at k ≠ b) (hc : ∀ o, l ≤ o → o < h → (∃ v, w.cell? ⟨b, o, none⟩ = some v) ∧ w.frozen? ⟨b, o, none⟩ = false)
    (hS : ∀ a, g.S a → a.block = b → ¬ (l ≤ a.off ∧ a.off < h)) (hp : ¬ g.prot b)
    (hap : ∀ i l' h', g.sp i = some (b, l', h') → h ≤ l' ∨ h' ≤ l ∨ l = h ∨ l' = h') (hone : ∀ i r, g.sp i = some r → r.1 ≠ b) {T : Option Nat} (hT : ∀ t, T = some t → IsRow w b t) :
    Sim (g.fresh (b, l, h)) (st.fresh T) loc w ∧ Ext g w (g.fresh (b, l, h)) w ∧ (g.fresh (b, l, h)).sp st.nt = some (b, l, h) := by
  clear hb
  have hsp : ∀ i r, (g.fresh (b, l, h)).sp i = some r → (i = g.nt ∧ r = (b, l, h)) ∨ (i ≠ g.nt ∧ g.sp i = some r) := by
    intro i r hr
    simp only [Ghost.fresh] at hr
    split at hr
    · rename_i hi; exact .inl ⟨hi, by cases hr; rfl⟩
    · rename_i hi; exact .inr ⟨hi, hr⟩
  have e : Ext g w (g.fresh (b, l, h)) w := ⟨rfl, rfl, Nat.le_refl _, Nat.le_refl _, fun i hi => rfl, Nat.le_succ _, fun i hi => by
      left; simp only [Ghost.fresh]; rw [if_neg (by omega)], fun a ha => ⟨ha, rfl⟩, rfl, fun _ _ => rfl⟩
  have htop : ∀ i b' l' h', (g.fresh (b, l, h)).sp i = some (b', l', h') → TopOk (g.fresh (b, l, h)) i b' := by
    intro i b' l' h' hh
    rcases hsp i _ hh with ⟨hi, hr⟩ | ⟨hi, hr⟩
    · cases hr
      intro j r hj hr'
      rcases hsp j _ hr' with ⟨hj', _⟩ | ⟨_, hq⟩
      · exact absurd (hj'.trans hi.symm) hj
      · exact hone j r hq
    · intro j r hj hr'
      rcases hsp j _ hr' with ⟨hj', hq⟩ | ⟨_, hq⟩
      · rw [hq]; exact fun hbb => hone i _ hr hbb.symm
      · exact s.spTop i b' l' h' hr j r hj hq
  refine ⟨⟨s.nb, ?_, s.below, s.fits, fun k d => (s.obj k d).ext e rfl, s.inj, s.lo, ?_, ?_, ?_, ?_, ?_, ?_, htop, ?_, s.bTy, s.glob⟩, e, by simp [Ghost.fresh, s.nt]⟩
  · show g.nt + 1 = st.nt + 1; rw [s.nt]
  · intro i hi hl
    simp only [St.fresh] at hl hi
    simp only [Ghost.fresh]
    split at hl
    · rename_i h; rw [if_pos (by rw [s.nt]; exact h)]; simp
    · rename_i h; rw [if_neg (by rw [s.nt]; exact h)]; exact s.own i (by omega) hl
  · intro i b' l' h' hh
    rcases hsp i _ hh with ⟨_, hr⟩ | ⟨_, hr⟩
    · cases hr; exact ⟨hb', hlt, hlh, hk, hc⟩
    · exact s.spCell i b' l' h' hr
  · intro i j b' l1 h1 l2 h2 hne hi hj
    rcases hsp i _ hi with ⟨ei, hr⟩ | ⟨ei, hr⟩ <;> rcases hsp j _ hj with ⟨ej, hq⟩ | ⟨ej, hq⟩
    · exact absurd (ei.trans ej.symm) hne
    · cases hr; exact hap j l2 h2 hq
    · cases hq
      rcases hap i l1 h1 hr with h | h | h | h
      · exact .inr (.inl h)
      · exact .inl h
      · exact .inr (.inr (.inr h))
      · exact .inr (.inr (.inl h))
    · exact s.spApart i j b' l1 h1 l2 h2 hne hr hq
  · intro i hi
    simp only [Ghost.fresh] at hi ⊢
    rw [if_neg (by omega)]
    exact s.spLt i (by omega)
  · intro a ha
    obtain ⟨h1, h2, h3, h4⟩ := s.sCell a ha
    refine ⟨h1, h2, h3, fun i l' h' hh => ?_⟩
    rcases hsp i _ hh with ⟨_, hr⟩ | ⟨_, hr⟩
    · simp only [Prod.mk.injEq] at hr
      obtain ⟨e1, rfl, rfl⟩ := hr
      exact hS a ha e1
    · exact h4 i l' h' hr
  · intro b' hb''
    obtain ⟨h1, h2, h3, h4⟩ := s.protOk b' hb''
    refine ⟨h1, h2, fun i l' h' hh => ?_, h4⟩
    rcases hsp i _ hh with ⟨_, hr⟩ | ⟨_, hr⟩
    · simp only [Prod.mk.injEq] at hr
      obtain ⟨rfl, rfl, rfl⟩ := hr
      exact hp hb''
    · exact h3 i l' h' hr
  · intro i b' l' h' T' hh hT'
    rcases hsp i _ hh with ⟨hi, hr⟩ | ⟨hi, hr⟩
    · cases hr
      simp only [St.fresh] at hT'
      rw [if_pos (by rw [hi, s.nt])] at hT'
      exact hT T' hT'
    · simp only [St.fresh] at hT'
      rw [if_neg (by rw [← s.nt]; exact hi)] at hT'
      exact s.spTy i b' l' h' T' hr hT'

/-- Spare cells of one tip are written. -/
theorem Sim.spWrite {g : Ghost} {st : St} {loc : List (Option (List TV))} {w w' : World} (s : Sim g st loc w) {id b l h : Nat} (hid : g.sp id = some (b, l, h)) (hlt : l < h)
    (hsz : w'.heap.size = w.heap.size) (hk : ∀ k, k ≠ b → w'.heap[k]? = w.heap[k]?)
    (hout : ∀ o, ¬ (l ≤ o ∧ o < h) → w'.cell? ⟨b, o, none⟩ = w.cell? ⟨b, o, none⟩)
    (hin : ∀ o, l ≤ o → o < h → ∃ v, w'.cell? ⟨b, o, none⟩ = some v) (hfz : ∀ o, w'.frozen? ⟨b, o, none⟩ = w.frozen? ⟨b, o, none⟩)
    (hbel : Below g.base g.w0 w') (hrow : ∀ T, IsRow w b T → IsRow w' b T) : Sim g st loc w' ∧ Ext g w g w' := by
  obtain ⟨c1, c2, c3, c4, c5⟩ := s.spCell id b l h hid
  have hcell : ∀ a, g.S a → w'.cell? a = w.cell? a := by
    intro a ha
    obtain ⟨h1, _, _, h4⟩ := s.sCell a ha
    by_cases hb : a.block = b
    · subst hb
      have := hout a.off (h4 id l h hid)
      cases a; simp only at h1 this; subst h1; exact this
    · exact cell?_same (hk _ hb)
  have e : Ext g w g w' := ⟨rfl, rfl, by omega, Nat.le_refl _, fun _ _ => rfl, Nat.le_refl _, fun _ _ => .inl rfl, fun a ha => ⟨ha, hcell a ha⟩, rfl, fun b' hb' => hk _ (by
    rintro rfl
    exact (s.protOk _ hb').2.2.1 id l h hid)⟩
  refine ⟨⟨s.nb, s.nt, hbel, by have := s.fits; omega, fun k d => (s.obj k d).ext e (hk _ (c4 k d)), s.inj, fun k d => ⟨(s.lo k d).1, by have := (s.lo k d).2; omega⟩, s.own, ?_, s.spApart, s.spLt, ?_, ?_, s.spTop, fun i b' l' h' T hh hT => (by
    by_cases hb : b' = b
    · subst hb; exact hrow T (s.spTy i b' l' h' T hh hT)
    · exact (s.spTy i b' l' h' T hh hT).same (hk b' hb)), fun i T hi hT => (s.bTy i T hi hT).same (hk _ (c4 (.box i) hi)), s.glob⟩, e⟩
  · intro i b' l' h' hi
    obtain ⟨h1, h2, h3, h4, h5⟩ := s.spCell i b' l' h' hi
    refine ⟨h1, by omega, h3, h4, fun o o1 o2 => ?_⟩
    by_cases hb : b' = b
    · subst hb
      refine ⟨?_, by rw [hfz]; exact (h5 o o1 o2).2⟩
      by_cases hio : l ≤ o ∧ o < h
      · exact hin o hio.1 hio.2
      · rw [hout o hio]; exact (h5 o o1 o2).1
    · rw [cell?_same (a := ⟨b', o, none⟩) (hk b' hb), frozen?_same (a := ⟨b', o, none⟩) (hk b' hb)]
      exact h5 o o1 o2
  · intro a ha
    obtain ⟨h1, h2, h3, h4⟩ := s.sCell a ha
    exact ⟨h1, by rw [hcell a ha]; exact h2, h3, h4⟩
  · intro b' hb'
    obtain ⟨h1, h2, h3⟩ := s.protOk b' hb'
    exact ⟨by omega, h2, h3⟩

/-- A key's block is written whole (its size kept or not), nothing else. -/
theorem Sim.putKey {g : Ghost} {st st' : St} {loc loc' : List (Option (List TV))} {w w' : World} (s : Sim g st loc w) (k0 : Key) (d0 : Dom st loc k0)
    (hnb : st'.nb = st.nb) (hnt : st'.nt = st.nt) (hlv : st'.live = st.live) (hty : st'.ty = st.ty) (hbt : st'.bt = st.bt) (hdom : ∀ k, Dom st' loc' k → Dom st loc k) (hoth : ∀ k, Dom st loc k → k ≠ k0 → objOf st' loc' k = objOf st loc k)
    (hsz : w'.heap.size = w.heap.size) (hk : ∀ k, k ≠ g.at k0 → w'.heap[k]? = w.heap[k]?) (hbel : Below g.base g.w0 w')
    (hnew : ∀ _ : Ext g w g w', ORel g w' (g.at k0) (objOf st' loc' k0)) (hrow : ∀ T, IsRow w (g.at k0) T → IsRow w' (g.at k0) T) : Sim g st' loc' w' ∧ Ext g w g w' := by
  have e : Ext g w g w' := ⟨rfl, rfl, by omega, Nat.le_refl _, fun _ _ => rfl, Nat.le_refl _, fun _ _ => .inl rfl,
    fun a ha => ⟨ha, cell?_same (hk _ (fun h => (s.sCell a ha).2.2.1 k0 d0 h.symm))⟩, rfl, fun b' hb' => hk _ (fun h => (s.protOk b' hb').2.1 k0 d0 h.symm)⟩
  refine ⟨⟨s.nb.trans hnb.symm, s.nt.trans hnt.symm, hbel, by have := s.fits; omega, ?_, fun k k' d d' => s.inj k k' (hdom k d) (hdom k' d'), fun k d => ⟨(s.lo k (hdom k d)).1, by have := (s.lo k (hdom k d)).2; omega⟩,
    fun i hi hl => s.own i (by omega) (by rw [← hlv]; exact hl), ?_, s.spApart, s.spLt, ?_, ?_, s.spTop, fun i b' l' h' T hh hT => (s.spTy i b' l' h' T hh (by rw [← hty]; exact hT)).same (hk b' (fun hb => (s.spCell i b' l' h' hh).2.2.2.1 k0 d0 hb.symm)), fun i T hi hT => (by
    by_cases hkk : Key.box i = k0
    · have := hrow T (by rw [← hkk]; exact s.bTy i T (hnb ▸ hi) (by rw [← hbt]; exact hT)); rw [← hkk] at this; exact this
    · exact (s.bTy i T (hnb ▸ hi) (by rw [← hbt]; exact hT)).same (hk _ (fun h => hkk (s.inj (.box i) k0 (hdom _ hi) d0 h)))), s.glob⟩, e⟩
  · intro k d
    by_cases hkk : k = k0
    · subst hkk; exact hnew e
    · rw [hoth k (hdom k d) hkk]
      exact (s.obj k (hdom k d)).ext e (hk _ (fun h => hkk (s.inj k k0 (hdom k d) d0 h)))
  · intro i b l h hi
    obtain ⟨h1, h2, h3, h4, h5⟩ := s.spCell i b l h hi
    refine ⟨h1, by omega, h3, fun k d => h4 k (hdom k d), fun o o1 o2 => ?_⟩
    have hne : b ≠ g.at k0 := fun h => h4 k0 d0 h.symm
    rw [cell?_same (a := ⟨b, o, none⟩) (hk b hne), frozen?_same (a := ⟨b, o, none⟩) (hk b hne)]
    exact h5 o o1 o2
  · intro a ha
    obtain ⟨h1, h2, h3, h4⟩ := s.sCell a ha
    exact ⟨h1, by rw [(e.S a ha).2]; exact h2, fun k d => h3 k (hdom k d), h4⟩
  · intro b hb
    obtain ⟨h1, h2, h3⟩ := s.protOk b hb
    exact ⟨by omega, fun k d => h2 k (hdom k d), h3⟩

def St.put (st : St) (b : Nat) (o : AObj) : St := { st with box := fun i => if i = b then o else st.box i }

/-- One cell of a row. -/
theorem HasCells.get {w : World} {b : Nat} {cs : List Value} (h : HasCells w b cs) {o : Nat} {v : Value} (hv : cs[o]? = some v) : w.cell? ⟨b, o, none⟩ = some v := by
  obtain ⟨T, lo, hi, hh, _⟩ := h
  simp [World.cell?, hh, hv]
theorem HasCells.unfrozen {w : World} {b : Nat} {cs : List Value} (h : HasCells w b cs) {o : Nat} (ho : o < cs.length) : w.frozen? ⟨b, o, none⟩ = false := by
  obtain ⟨T, lo, hi, hh, hf⟩ := h
  have := hf o ho
  simp only [World.frozen?, hh]
  simp
  omega
theorem HasCells.setCell {w : World} {b : Nat} {cs : List Value} (h : HasCells w b cs) (o : Nat) (v : Value) : HasCells (w.setCell ⟨b, o, none⟩ v) b (cs.set o v) := by
  obtain ⟨T, lo, hi, hh, hf⟩ := h
  refine ⟨T, lo, hi, ?_, by simpa using hf⟩
  simp [World.setCell, Array.getElem?_modify, hh]
theorem IsRow.setCell {w : World} {b T o : Nat} {v : Value} (h : IsRow w b T) : IsRow (w.setCell ⟨b, o, none⟩ v) b T := by
  obtain ⟨c, fz, h⟩ := h
  exact ⟨c.setIfInBounds o v, fz, by simp [World.setCell, Array.getElem?_modify, h]⟩
theorem HasCells.alloc (w : World) (cs : List Value) (T : TypeId) : HasCells (w.alloc (.cells cs.toArray T)) w.heap.size cs :=
  ⟨T, 0, 0, heap_alloc_at _ _, fun o _ => by omega⟩
theorem HasCells.lt {w : World} {b : Nat} {cs : List Value} (h : HasCells w b cs) : b < w.heap.size := by
  obtain ⟨T, lo, hi, hh, _⟩ := h
  exact (Array.getElem?_eq_some_iff.1 hh).1

theorem Sim.storeBox {g : Ghost} {st : St} {loc : List (Option (List TV))} {w : World} (s : Sim g st loc w) {b o : Nat} {l : List TV} (hb : b < st.nb) (hbox : st.box b = .cells l) (ho : o < l.length) {x : TV} {v : Value}
    (hx : Rel g w x v) : Sim g (st.put b (.cells (l.set o x))) loc (w.setCell ⟨g.bk b, o, none⟩ v) ∧ Ext g w g (w.setCell ⟨g.bk b, o, none⟩ v) := by
  have ob := s.obj (.box b) hb
  simp only [objOf, hbox, Ghost.at] at ob
  obtain ⟨cs, hc, hr⟩ := ob
  refine s.putKey (.box b) hb rfl rfl rfl rfl rfl (fun k d => ?_) (fun k _ hne => ?_) (by simp) (fun k hk => Below.heap_setCell _ _ _ _ hk) (s.below.setCell (s.lo (.box b) hb).1 _) (fun e => ?_) (fun T => IsRow.setCell)
  · cases k <;> exact d
  · cases k with
    | box i =>
      have : i ≠ b := fun h => hne (by rw [h])
      simp [objOf, St.put, this]
    | loc i => rfl
  · simp only [objOf, St.put, if_true, Ghost.at]
    exact ⟨_, hc.setCell o v, (hr.ext e).set (hx.ext e) o⟩

theorem Sim.storeLoc {g : Ghost} {st : St} {loc : List (Option (List TV))} {w : World} (s : Sim g st loc w) {i o : Nat} {l : List TV} (hl : loc[i]? = some (some l)) (ho : o < l.length) {x : TV} {v : Value}
    (hx : Rel g w x v) : Sim g st (loc.set i (some (l.set o x))) (w.setCell ⟨g.lam i, o, none⟩ v) ∧ Ext g w g (w.setCell ⟨g.lam i, o, none⟩ v) := by
  obtain ⟨hi, hli⟩ := List.getElem?_eq_some_iff.1 hl
  have hd : Dom st loc (.loc i) := ⟨l, hl⟩
  have ob := s.obj (.loc i) hd
  simp only [objOf, hl, Ghost.at] at ob
  obtain ⟨cs, hc, hr⟩ := ob
  refine s.putKey (.loc i) hd rfl rfl rfl rfl rfl (fun k d => ?_) (fun k _ hne => ?_) (by simp) (fun k hk => Below.heap_setCell _ _ _ _ hk) (s.below.setCell (s.lo (.loc i) hd).1 _) (fun e => ?_) (fun T => IsRow.setCell)
  · cases k with
    | box _ => exact d
    | loc j =>
      by_cases hij : i = j
      · subst hij; exact hd
      · obtain ⟨x, hx⟩ := d
        rw [List.getElem?_set_ne hij] at hx
        exact ⟨x, hx⟩
  · cases k with
    | box _ => rfl
    | loc j =>
      have : i ≠ j := fun h => hne (by rw [h])
      simp only [objOf]; rw [List.getElem?_set_ne this]
  · simp only [objOf, Ghost.at]
    rw [List.getElem?_set_self hi]
    exact ⟨_, hc.setCell o v, (hr.ext e).set (hx.ext e) o⟩

/-- A block that nothing may write any more is frozen, in part. -/
theorem Sim.refreeze {g : Ghost} {st : St} {loc : List (Option (List TV))} {w : World} (s : Sim g st loc w) {b : Nat} (hb : g.base ≤ b) (hk : ∀ k, Dom st loc k → g.at k ≠ b) (hns : ∀ id l h, g.sp id ≠ some (b, l, h)) (hp : ¬ g.prot b)
    {w' : World} (hsz : w'.heap.size = w.heap.size) (hoth : ∀ k, k ≠ b → w'.heap[k]? = w.heap[k]?) (hcell : ∀ a : Addr, a.block = b → w'.cell? a = w.cell? a) (hbel : Below g.base g.w0 w') :
    Sim g st loc w' ∧ Ext g w g w' := by
  have hc : ∀ a, w'.cell? a = w.cell? a := fun a => by
    by_cases h : a.block = b
    · exact hcell a h
    · exact cell?_same (hoth _ h)
  have e : Ext g w g w' := ⟨rfl, rfl, by omega, Nat.le_refl _, fun _ _ => rfl, Nat.le_refl _, fun _ _ => .inl rfl, fun a ha => ⟨ha, hc a⟩, rfl, fun b' hb' => hoth _ (fun h => by subst h; exact hp hb')⟩
  refine ⟨⟨s.nb, s.nt, hbel, by have := s.fits; omega, fun k d => (s.obj k d).ext e (hoth _ (hk k d)), s.inj, fun k d => ⟨(s.lo k d).1, by have := (s.lo k d).2; omega⟩, s.own, ?_, s.spApart, s.spLt, ?_, ?_, s.spTop,
    fun id b' l h T hh hT => (s.spTy id b' l h T hh hT).same (hoth _ (fun hbb => by subst hbb; exact hns id l h hh)), fun i T hi hT => (s.bTy i T hi hT).same (hoth _ (hk (.box i) hi)), s.glob⟩, e⟩
  · intro id b' l h hi
    obtain ⟨h1, h2, h3, h4, h5⟩ := s.spCell id b' l h hi
    have hne : b' ≠ b := fun hbb => by subst hbb; exact hns id l h hi
    refine ⟨h1, by omega, h3, h4, fun o o1 o2 => ?_⟩
    rw [hc, frozen?_same (a := ⟨b', o, none⟩) (hoth _ hne)]
    exact h5 o o1 o2
  · intro a ha
    obtain ⟨h1, h2, h3, h4⟩ := s.sCell a ha
    exact ⟨h1, by rw [hc]; exact h2, h3, h4⟩
  · intro b' hb'
    obtain ⟨h1, h2, h3⟩ := s.protOk b' hb'
    exact ⟨by omega, h2, h3⟩

theorem cell?_freeze (w : World) (p : Addr) (n : Nat) (a : Addr) : (w.freeze p n).cell? a = w.cell? a := by
  unfold World.freeze
  split
  · rfl
  · unfold World.cell?
    simp only [Array.getElem?_modify]
    by_cases h : p.block = a.block
    · rw [if_pos h]
      cases hh : w.heap[a.block]? with
      | none => rfl
      | some o => cases o <;> rfl
    · rw [if_neg h]
theorem heap_freeze (w : World) (p : Addr) (n k : Nat) (h : k ≠ p.block) : (w.freeze p n).heap[k]? = w.heap[k]? := by
  unfold World.freeze
  split
  · rfl
  · simp only [Array.getElem?_modify]
    rw [if_neg (Ne.symm h)]
theorem size_freeze (w : World) (p : Addr) (n : Nat) : (w.freeze p n).heap.size = w.heap.size := by
  unfold World.freeze
  split
  · rfl
  · simp

/-- A tip's row is read as a string: nothing is written there any more. -/
theorem Sim.freezeTip {g : Ghost} {st : St} {loc : List (Option (List TV))} {w : World} (s : Sim g st loc w) {id b l h : Nat} (hid : g.sp id = some (b, l, h)) (o n : Nat) :
    Sim (g.retire id) (st.retire id) loc (w.freeze ⟨b, o, none⟩ n) ∧ Ext g w (g.retire id) (w.freeze ⟨b, o, none⟩ n) := by
  obtain ⟨c1, c2, c3, c4, c5⟩ := s.spCell id b l h hid
  obtain ⟨s1, e1⟩ := s.retire id
  have hsp : ∀ i r, (g.retire id).sp i = some r → i ≠ id ∧ g.sp i = some r := by
    intro i r hh
    simp only [Ghost.retire] at hh
    split at hh
    · cases hh
    · exact ⟨‹_›, hh⟩
  obtain ⟨s2, e2⟩ := s1.refreeze (b := b) c1 c4 (fun i l' h' hh => by obtain ⟨h1, h2⟩ := hsp i _ hh; exact s.spTop id b l h hid i _ h1 h2 rfl) (fun hp => (s.protOk b hp).2.2.1 id l h hid)
    (w' := w.freeze ⟨b, o, none⟩ n) (size_freeze _ _ _) (fun k hk => heap_freeze _ _ _ _ hk) (fun a _ => cell?_freeze _ _ _ _) (Lib.below_freeze s.below c1 n)
  exact ⟨s2, e1.trans e2⟩

end Go.TVF
