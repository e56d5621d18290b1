/- Operations that make or write memory. -/
import Derived.Test.YtlbcpcdgpnppgaaDoorTvF
import Derived.Laws.AppendOwn
import Derived.Laws.IdiomCopy
set_option linter.unusedVariables false
set_option linter.unusedSimpArgs false
namespace Go.TVF
open Go.RowKit (Below)

def oneT : TV → Bool
  | .undef => false
  | .junk => false
  | .agg _ => false
  | .tuple _ => false
  | _ => true

def cellsO : TV → Option (List TV)
  | .agg l => some l
  | .undef => none
  | .junk => none
  | .tuple _ => none
  | v => some [v]

def setAll {α : Type} : List α → Nat → List α → List α
  | l, _, [] => l
  | l, off, x :: xs => setAll (l.set off x) (off + 1) xs

theorem length_setAll {α : Type} : ∀ (xs l : List α) (off : Nat), (setAll l off xs).length = l.length
  | [], l, off => rfl
  | x :: xs, l, off => by simp [setAll, length_setAll xs]

def zeroT (P : Program) (t : TypeId) : Option (List TV) :=
  match P.info? t with
  | some i => match i.zero with
    | some z => some (z.cells.toList.map ofV1)
    | none => none
  | none => none

section
variable {P : Program} {g : Ghost} {st : St} {loc : List (Option (List TV))} {w : World}

theorem run_zeroT {t : TypeId} {l : List TV} (h : zeroT P t = some l) (w : World) : ∃ z, (zeroValue t).run P w = .ok z w ∧ l = z.cells.toList.map ofV1 := by
  unfold zeroT at h
  split at h
  · rename_i i hi
    split at h
    · rename_i z hz
      simp only [Option.some.injEq] at h
      exact ⟨z, by simp [zeroValue, typeInfo, hi, hz], h.symm⟩
    · cases h
  · cases h

theorem oneCell_of {x : TV} {v : Value} (h : Rel g w x v) (h1 : oneT x = true) : v.oneCell' = true := by
  cases h <;> first | rfl | (simp [oneT] at h1)

theorem cellsO_rel {x : TV} {v : Value} (h : Rel g w x v) {l : List TV} (hl : cellsO x = some l) : RelL g w l v.cells.toList := by
  cases h <;> simp only [cellsO, Option.some.injEq, reduceCtorEq] at hl <;> subst hl
  all_goals first
    | (rename_i xs vs hlen hr; simp only [Value.cells, List.toList_toArray]; exact ⟨hlen, hr⟩)
    | skip
  all_goals refine .cons ?_ (.nil _ _)
  · exact .int _ _
  · exact .bool _
  · exact .str _
  · exact .nilPtr
  · exact .nilSlice
  · exact .nilMap
  · exact .nilFunc
  · exact .nilIface
  · exact .list _ _ _ _ _ _ _ _ ‹_› ‹_› ‹_› ‹_› ‹_›
  · exact .ms _ _ _ _ _ ‹_› ‹_›
  · exact .box _ _ ‹_›
  · exact .rptr _ _ _ _ ‹_› ‹_›
  · exact .func _ _ _ ‹_› ‹_›
  · exact .iface _ _ _ ‹_›
  · exact .map _ ‹_›
  · exact .sptr _ _ _ _ ‹_› ‹_›

theorem RelL.setAll {xs ys : List TV} {vs us : List Value} (h : RelL g w xs vs) (k : RelL g w ys us) (off : Nat) : RelL g w (TVF.setAll xs off ys) (TVF.setAll vs off us) := by
  induction ys generalizing xs vs us off with
  | nil => cases us with
    | nil => exact h
    | cons u us => have := k.1; simp at this
  | cons y ys ih => cases us with
    | nil => have := k.1; simp at this
    | cons u us =>
      have hy : Rel g w y u := k.2 0 (by simp)
      have hys : RelL g w ys us := ⟨by have := k.1; simpa using this, fun i hi => k.2 (i + 1) (by simpa using hi)⟩
      exact ih (h.set hy off) hys (off + 1)

/-! Building. -/

def fillT (place : Nat → Option (Nat × Nat)) : List TV → List (Nat × TV) → Option (List TV)
  | cells, [] => some cells
  | cells, (i, v) :: rest =>
    match place i, cellsO v with
    | some (off, size), some cs => match (cs.length.beq size).and ((off + size).ble cells.length) with
      | true => fillT place (setAll cells off cs) rest
      | false => none
    | _, _ => none

/-- The same, where a part of one cell is taken as it is. -/
def cellsB (b : Bool) (v : TV) : Option (List TV) := match b with | true => some [v] | false => cellsO v
def fillS (place : Nat → Option (Nat × Nat)) (scal : Nat → Bool) : List TV → List (Nat × TV) → Option (List TV)
  | cells, [] => some cells
  | cells, (i, v) :: rest =>
    match place i, cellsB (scal i) v with
    | some (off, size), some cs => match (cs.length.beq size).and ((off + size).ble cells.length) with
      | true => fillS place scal (setAll cells off cs) rest
      | false => none
    | _, _ => none
def onesP (scal : Nat → Bool) (parts : List (Nat × TV)) : Bool := parts.all fun p => (!(scal p.1)).or (oneT p.2)
theorem cellsO_one {v : TV} (h : oneT v = true) : cellsO v = some [v] := by cases v <;> simp_all [oneT, cellsO]
theorem cellsB_old {b : Bool} {v : TV} {l : List TV} (h1 : (!b).or (oneT v) = true) (h : cellsB b v = some l) : cellsO v = some l := by
  cases b with
  | false => exact h
  | true => simp only [cellsB, Option.some.injEq] at h; subst h; exact cellsO_one (by simpa using h1)
theorem fillS_old (place : Nat → Option (Nat × Nat)) (scal : Nat → Bool) : ∀ (parts : List (Nat × TV)) (cells out : List TV), onesP scal parts = true → fillS place scal cells parts = some out → fillT place cells parts = some out
  | [], cells, out, _, h => h
  | (i, v) :: rest, cells, out, h1, h => by
    simp only [onesP, List.all_cons, Bool.and_eq_true] at h1
    simp only [fillS] at h
    simp only [fillT]
    split at h
    · rename_i off size cs hp hc
      rw [hp, cellsB_old h1.1 hc]
      cases hb : (cs.length.beq size).and ((off + size).ble cells.length) with
      | true =>
        rw [hb] at h
        show (match (cs.length.beq size).and ((off + size).ble cells.length) with | true => fillT place (setAll cells off cs) rest | false => none) = some out
        rw [hb]
        exact fillS_old place scal rest _ _ (by simpa [onesP] using h1.2) h
      | false => rw [hb] at h; cases h
    · cases h

theorem foldl_zip (vs : List Value) : ∀ (k off : Nat) (cs : Array Value), ((vs.zipIdx k).foldl (fun cs (p : Value × Nat) => cs.setIfInBounds (off + p.2) p.1) cs).toList = setAll cs.toList (off + k) vs := by
  induction vs with
  | nil => intro k off cs; rfl
  | cons v vs ih =>
    intro k off cs
    simp only [List.zipIdx_cons, List.foldl_cons, setAll]
    rw [ih (k + 1) off]
    simp [Nat.add_assoc]

/-- Parts beside their values. -/
def PRel (g : Ghost) (w : World) : List (Nat × TV) → List (Nat × Value) → Prop
  | [], [] => True
  | (i, x) :: xs, (j, v) :: vs => i = j ∧ Rel g w x v ∧ PRel g w xs vs
  | _, _ => False

theorem fill_sound (place : Nat → Option (Nat × Nat)) : ∀ (parts : List (Nat × TV)) (vparts : List (Nat × Value)) (cells : List TV) (vs : Array Value) (out : List TV), PRel g w parts vparts → RelL g w cells vs.toList →
    fillT place cells parts = some out → ∃ us, Instr.fill place vs vparts = some us ∧ RelL g w out us.toList
  | [], [], cells, vs, out, _, hr, h => by simp only [fillT, Option.some.injEq] at h; subst h; exact ⟨vs, rfl, hr⟩
  | [], _ :: _, cells, vs, out, hp, hr, h => hp.elim
  | _ :: _, [], cells, vs, out, hp, hr, h => by exact (by cases ‹Nat × TV›; exact hp.elim)
  | (i, x) :: parts, (j, v) :: vparts, cells, vs, out, hp, hr, h => by
    obtain ⟨rfl, hx, hp'⟩ := hp
    simp only [fillT] at h
    split at h
    · rename_i off size cs hpl hcs
      split at h
      · rename_i hchk
        simp only [Bool.and_eq_true] at hchk
        obtain ⟨h1, h2⟩ := hchk
        have e1 := Nat.eq_of_beq_eq_true h1
        have e2 := Nat.le_of_ble_eq_true h2
        have hc := cellsO_rel hx hcs
        have hsz : v.cells.size = size := by have := hc.1; simp at this; omega
        have hvs : cells.length = vs.size := by simpa using hr.1
        simp only [Instr.fill, hpl]
        rw [if_neg (by simp; omega)]
        refine fill_sound place parts vparts _ _ out hp' ?_ h
        have := foldl_zip v.cells.toList 0 off vs
        have e3 : (v.cells.zipIdx.foldl (fun cs (x : Value × Nat) => match x with | (c, j) => cs.setIfInBounds (off + j) c) vs).toList = setAll vs.toList off v.cells.toList := by
          rw [← Array.foldl_toList]
          simp only [Array.toList_zipIdx]
          simpa using this
        rw [e3]
        exact hr.setAll hc off
      · cases h
    · cases h


/-! Stores. -/

theorem St.put_put (st : St) (b : Nat) (x y : AObj) : (st.put b x).put b y = st.put b y := by
  simp only [St.put]; congr 1; funext i; split <;> rfl
theorem St.put_self (st : St) (b : Nat) (x : AObj) (h : st.box b = x) : st.put b x = st := by
  cases st; simp only [St.put]; congr 1; funext i; split
  · rename_i hi; subst hi; exact h.symm
  · rfl

theorem allOne {xs : List TV} {vs : List Value} (h : RelL g w xs vs) (h1 : xs.all oneT = true) : ∀ v ∈ vs, v.oneCell' = true := by
  intro v hv
  obtain ⟨i, hi, rfl⟩ := List.getElem_of_mem hv
  have hx : i < xs.length := h.1 ▸ hi
  have := h.2 i hx
  rw [List.getD_eq_getElem?_getD, List.getElem?_eq_getElem hi] at this
  exact oneCell_of this (List.all_eq_true.1 h1 _ (List.getElem_mem hx))

theorem setCells_box : ∀ (xs : List TV) (vs : List Value) (st : St) (l : List TV) (w : World) (b o : Nat), Sim g st loc w → b < st.nb → st.box b = .cells l → o + xs.length ≤ l.length → RelL g w xs vs →
    Sim g (st.put b (.cells (setAll l o xs))) loc (w.setCells (g.bk b) o vs) ∧ Ext g w g (w.setCells (g.bk b) o vs)
  | [], [], st, l, w, b, o, s, hb, hl, ho, hr => by
    simp only [setAll, World.setCells]
    rw [St.put_self st b _ hl]
    exact ⟨s, Ext.refl _ _⟩
  | [], _ :: _, st, l, w, b, o, s, hb, hl, ho, hr => by have := hr.1; simp at this
  | _ :: _, [], st, l, w, b, o, s, hb, hl, ho, hr => by have := hr.1; simp at this
  | x :: xs, v :: vs, st, l, w, b, o, s, hb, hl, ho, hr => by
    have hx : Rel g w x v := hr.2 0 (by simp)
    have hxs : RelL g w xs vs := ⟨by have := hr.1; simpa using this, fun i hi => hr.2 (i + 1) (by simpa using hi)⟩
    simp only [List.length_cons] at ho
    obtain ⟨s1, e1⟩ := s.storeBox (o := o) hb hl (by omega) hx
    have := setCells_box xs vs (st.put b (.cells (l.set o x))) (l.set o x) (w.setCell ⟨g.bk b, o, none⟩ v) b (o + 1) s1 hb (by simp [St.put]) (by simp; omega) (hxs.ext e1)
    rw [St.put_put] at this
    exact ⟨this.1, e1.trans this.2⟩

theorem setCells_loc : ∀ (xs : List TV) (vs : List Value) (loc : List (Option (List TV))) (l : List TV) (w : World) (i o : Nat), Sim g st loc w → loc[i]? = some (some l) → o + xs.length ≤ l.length → RelL g w xs vs →
    Sim g st (loc.set i (some (setAll l o xs))) (w.setCells (g.lam i) o vs) ∧ Ext g w g (w.setCells (g.lam i) o vs)
  | [], [], loc, l, w, i, o, s, hl, ho, hr => by
    simp only [setAll, World.setCells]
    obtain ⟨hi, hli⟩ := List.getElem?_eq_some_iff.1 hl
    rw [show loc.set i (some l) = loc from by rw [← hli]; exact List.set_getElem_self hi]
    exact ⟨s, Ext.refl _ _⟩
  | [], _ :: _, loc, l, w, i, o, s, hl, ho, hr => by have := hr.1; simp at this
  | _ :: _, [], loc, l, w, i, o, s, hl, ho, hr => by have := hr.1; simp at this
  | x :: xs, v :: vs, loc, l, w, i, o, s, hl, ho, hr => by
    have hx : Rel g w x v := hr.2 0 (by simp)
    have hxs : RelL g w xs vs := ⟨by have := hr.1; simpa using this, fun i hi => hr.2 (i + 1) (by simpa using hi)⟩
    simp only [List.length_cons] at ho
    obtain ⟨hi, hli⟩ := List.getElem?_eq_some_iff.1 hl
    obtain ⟨s1, e1⟩ := s.storeLoc (o := o) hl (by omega) hx
    have := setCells_loc xs vs (loc.set i (some (l.set o x))) (l.set o x) (w.setCell ⟨g.lam i, o, none⟩ v) i (o + 1) s1 (by rw [List.getElem?_set_self hi]) (by simp; omega) (hxs.ext e1)
    rw [List.set_set] at this
    exact ⟨this.1, e1.trans this.2⟩

theorem run_storeKey {k : Key} (s : Sim g st loc w) (d : Dom st loc k) {l : List TV} (hl : objOf st loc k = .cells l) {o : Nat} {xs : List TV} {vs : List Value} (ho : o + xs.length ≤ l.length) (hr : RelL g w xs vs) (h1 : xs.all oneT = true) :
    (storeCells ⟨g.at k, o, none⟩ vs).run P w = .ok () (w.setCells (g.at k) o vs) := by
  have ob := s.obj k d
  rw [hl] at ob
  obtain ⟨cs, hc, hrc⟩ := ob
  have hlen : cs.length = l.length := hrc.1.symm
  have hvl : vs.length = xs.length := hr.1.symm
  have := run_storeCells_cells (P := P) (g.at k) o vs 0 w (fun j hj => by
      have : o + 0 + j < cs.length := by omega
      rw [hc.get (List.getElem?_eq_getElem this)]; rfl) (fun j hj => hc.unfrozen (by omega)) (allOne hr h1)
  simpa using this

/-- A store of some cells through a pointer. -/
def stK (st : St) (loc : List (Option (List TV))) (p : SV) (xs : List TV) (k : List (Option (List TV)) → St → Prop) : Prop :=
  match p with
  | .loc i off => match loc[i]? with
    | some (some l) => need ((off + xs.length).ble l.length) (k (loc.set i (some (setAll l off xs))) st)
    | _ => False
  | .t (.box b off) => ∃ l, st.box b = .cells l ∧ off + xs.length ≤ l.length ∧ k loc (st.put b (.cells (setAll l off xs)))
  | _ => False

theorem store_gives {t : TypeId} {d : TypeDesc} (hd : P.underlying t = some d) (s : Sim g st loc w) {p : SV} {pv : Value} (hp : SRel g w loc p pv) {x : TV} {v : Value} (hx : Rel g w x v) {xs : List TV} (hxs : cellsO x = some xs)
    (hlen : xs.length = P.cellsOf t) (h1 : xs.all oneT = true) {k : List (Option (List TV)) → St → Prop} (h : stK st loc p xs k) :
    ∃ w' loc' st', (Instr.storeAt t pv v).run P w = .ok () w' ∧ k loc' st' ∧ Sim g st' loc' w' ∧ Ext g w g w' ∧ (∀ (i : Nat) (y : List TV), loc[i]? = some (some y) → ∃ z, loc'[i]? = some (some z)) := by
  have hcs := cellsO_rel hx hxs
  have hsz : ¬ (v.cells.size ≠ P.cellsOf t) := by have := hcs.1; simp at this; omega
  unfold stK at h
  split at h
  · rename_i i off
    obtain ⟨⟨l, hl⟩, rfl⟩ := hp
    rw [hl] at h
    simp only [need_iff] at h
    obtain ⟨hle, hk⟩ := h
    have hle' := Nat.le_of_ble_eq_true hle
    obtain ⟨s', e'⟩ := setCells_loc xs v.cells.toList loc l w i off s hl hle' hcs
    refine ⟨_, _, _, ?_, hk, s', e', fun j y hj => ?_⟩
    · have := run_storeKey (P := P) (k := .loc i) s ⟨l, hl⟩ (by simp only [objOf, hl]) hle' hcs h1
      simp only [Ghost.at] at this
      simp [Instr.storeAt, Instr.sureAddr, storeVar, run_size hd, hsz, this]
    · by_cases hij : i = j
      · subst hij
        obtain ⟨hi, _⟩ := List.getElem?_eq_some_iff.1 hl
        exact ⟨_, List.getElem?_set_self hi⟩
      · exact ⟨y, by rw [List.getElem?_set_ne hij]; exact hj⟩
  · rename_i b off
    cases hp with
    | box _ _ hb =>
      obtain ⟨l, hl, hle, hk⟩ := h
      have hb' : b < st.nb := s.nb ▸ hb
      obtain ⟨s', e'⟩ := setCells_box xs v.cells.toList st l w b off s hb' hl hle hcs
      refine ⟨_, _, _, ?_, hk, s', e', fun j y hj => ⟨y, hj⟩⟩
      have := run_storeKey (P := P) (k := .box b) s hb' (by simp only [objOf, hl]) hle hcs h1
      simp only [Ghost.at] at this
      simp [Instr.storeAt, Instr.sureAddr, storeVar, run_size hd, hsz, this]
  · exact h.elim


/-! New blocks. -/

def LocKeep (g : Ghost) (loc : List (Option (List TV))) (g' : Ghost) (loc' : List (Option (List TV))) : Prop :=
  ∀ (i : Nat) (x : List TV), loc[i]? = some (some x) → g'.lam i = g.lam i ∧ ∃ y, loc'[i]? = some (some y)

theorem LocKeep.refl (g : Ghost) (loc : List (Option (List TV))) : LocKeep g loc g loc := fun i x h => ⟨rfl, x, h⟩

theorem SRel.keep {g g' : Ghost} {w w' : World} {loc loc' : List (Option (List TV))} (e : Ext g w g' w') (k : LocKeep g loc g' loc') {v : SV} {u : Value} (h : SRel g w loc v u) : SRel g' w' loc' v u := by
  cases v with
  | t v => exact Rel.ext e h
  | loc i off =>
    obtain ⟨⟨l, hl⟩, rfl⟩ := h
    obtain ⟨h1, h2⟩ := k i l hl
    exact ⟨h2, by rw [h1]⟩

/-- What an operation leaves. -/
def Left (g : Ghost) (w : World) (loc : List (Option (List TV))) (K : SV → List (Option (List TV)) → St → Prop) (v : Value) (w' : World) : Prop :=
  ∃ sv loc' st' g', K sv loc' st' ∧ Sim g' st' loc' w' ∧ SRel g' w' loc' sv v ∧ Ext g w g' w' ∧ LocKeep g loc g' loc'

def allocK (T : Nat) (ix : Option Nat) (cells : List TV) (loc : List (Option (List TV))) (st : St) (K : SV → List (Option (List TV)) → St → Prop) : Prop :=
  match ix with
  | some k => match loc[k]? with
    | some none => K (.loc k 0) (loc.set k (some cells)) st
    | _ => False
  | none => K (.t (.box st.nb 0)) loc (st.push (.cells cells) (some T))

theorem alloc_gives (s : Sim g st loc w) {ix : Option Nat} {cells : List TV} {vs : Array Value} (T : TypeId) (hr : RelL g w cells vs.toList) {K : SV → List (Option (List TV)) → St → Prop} (h : allocK T ix cells loc st K) :
    Left g w loc K (.pointer (some ⟨w.heap.size, 0, none⟩)) (w.alloc (.cells vs T)) := by
  obtain ⟨s1, e1, fr⟩ := s.alloc (.cells vs T)
  have hb : w.heap.size < (w.alloc (.cells vs T)).heap.size := by simp
  have ho : ORel g (w.alloc (.cells vs T)) w.heap.size (.cells cells) := ⟨vs.toList, by simpa using HasCells.alloc w vs.toList T, hr.ext e1⟩
  cases ix with
  | some k =>
    simp only [allocK] at h
    split at h
    · rename_i hk
      obtain ⟨hlt, hkv⟩ := List.getElem?_eq_some_iff.1 hk
      have hne : ∀ (j : Nat) (x : List TV), loc[j]? = some (some x) → j ≠ k := fun j x hj he => by subst he; rw [hk] at hj; cases hj
      obtain ⟨s2, e2⟩ := s1.putLoc (loc' := loc.set k (some cells)) (n := k) fr hb ho (List.getElem?_set_self hlt) (fun j hj x => by rw [List.getElem?_set_ne (Ne.symm hj)])
      refine ⟨_, _, _, _, h, s2, ⟨⟨cells, List.getElem?_set_self hlt⟩, by simp [Ghost.pushLoc]⟩, e1.trans e2, fun i x hi => ⟨?_, x, ?_⟩⟩
      · simp only [Ghost.pushLoc]; rw [if_neg (hne i x hi)]
      · rw [List.getElem?_set_ne (Ne.symm (hne i x hi))]; exact hi
    · exact h.elim
  | none =>
    obtain ⟨s2, e2, hbk⟩ := s1.push fr hb ho (T := some T) (fun t ht => by cases ht; exact ⟨vs, (0, 0), heap_alloc_at _ _⟩)
    refine ⟨_, _, _, _, h, s2, ?_, e1.trans e2, fun i x hi => ⟨rfl, x, hi⟩⟩
    show Rel _ _ (.box st.nb 0) _
    have hlt : st.nb < (g.push w.heap.size).nb := by simp only [Ghost.push, s.nb]; omega
    have := Rel.box (g := g.push w.heap.size) (w := w.alloc (.cells vs T)) st.nb 0 hlt
    rw [hbk] at this
    exact this

/-- A new row of cells that nobody writes any more, as the content of a slice. -/
theorem cell?_alloc_fz (w : World) (c : Array Value) (t : TypeId) (fz : Nat × Nat) (i : Nat) : (w.alloc (.cells c t fz)).cell? ⟨w.heap.size, i, none⟩ = c[i]? := by
  unfold World.cell?
  simp only [heap_alloc_at]
  simp
theorem frozen?_alloc_fz (w : World) (c : Array Value) (t : TypeId) (fz : Nat × Nat) (i : Nat) (h : ¬ (fz.1 ≤ i ∧ i < fz.2)) : (w.alloc (.cells c t fz)).frozen? ⟨w.heap.size, i, none⟩ = false := by
  obtain ⟨lo, hi⟩ := fz
  unfold World.frozen?
  simp only [heap_alloc_at]
  simp at h ⊢
  omega

theorem row_settled (s : Sim g st loc w) {cells : List TV} {vs : Array Value} (T : TypeId) (fz : Nat × Nat) (hr : RelL g w cells (vs.toList.take cells.length)) (hle : cells.length ≤ vs.size) :
    ∃ g', Sim g' st loc (w.alloc (.cells vs T fz)) ∧ Ext g w g' (w.alloc (.cells vs T fz)) ∧ g'.lam = g.lam ∧ g'.sp = g.sp ∧ g'.nt = g.nt ∧ g'.base = g.base ∧ g'.prot = g.prot ∧
      (∀ k, Dom st loc k → g'.at k ≠ w.heap.size) ∧ (∀ id l h, g.sp id ≠ some (w.heap.size, l, h)) ∧ (¬ g.prot w.heap.size) ∧
      (∀ a, g'.S a → a.block = w.heap.size → a.off < cells.length) ∧
      (∀ i, i < cells.length → g'.S ⟨w.heap.size, 0 + i, none⟩ ∧ (w.alloc (.cells vs T fz)).cell? ⟨w.heap.size, 0 + i, none⟩ = some (vs.getD i Go.undef)) ∧
      (∀ i (h : i < cells.length), Rel g' (w.alloc (.cells vs T fz)) cells[i] (vs.getD i Go.undef)) := by
  obtain ⟨s1, e1, fr⟩ := s.alloc (.cells vs T fz)
  have hc : ∀ i, i < cells.length → (w.alloc (.cells vs T fz)).cell? ⟨w.heap.size, i, none⟩ = some (vs.getD i Go.undef) := by
    intro i hi
    rw [cell?_alloc_fz]
    have : i < vs.size := by omega
    simp [this]
  obtain ⟨s2, e2⟩ := s1.settle (fun a => a.block = w.heap.size ∧ a.off < cells.length ∧ a.spot = none) (fun a ha => by
    obtain ⟨h1, h2, h3⟩ := ha
    refine ⟨h3, ⟨vs.getD a.off Go.undef, ?_⟩, fun k d => ?_, fun id l h hh => ?_⟩
    · have := hc a.off h2
      cases a; simp only at h1 h3 this ⊢; subst h1 h3; exact this
    · rw [h1]; exact fr.2.1 k d
    · rw [h1] at hh; exact absurd hh (fr.2.2.2.1 id l h)) (fun a ha => by rw [ha.1]; exact fr.2.2.2.2)
  refine ⟨_, s2, e1.trans e2, rfl, rfl, rfl, rfl, rfl, fr.2.1, fr.2.2.2.1, fr.2.2.2.2, fun a ha hb => ?_, fun i hi => ⟨.inr ⟨rfl, by simpa using hi, rfl⟩, by simpa using hc i hi⟩, fun i hi => ?_⟩
  · rcases ha with ha | ha
    · exact absurd hb (fr.2.2.1 a ha)
    · exact ha.2.1
  · have := hr.2 i hi
    rw [List.getD_eq_getElem?_getD, List.getElem?_take, if_pos hi] at this
    have h2 := this.ext (e1.trans e2)
    simpa using h2


/-- A slice over a new row, its spare cells the call's own. -/
theorem fresh_gives (s : Sim g st loc w) {sz n cap : Nat} {cells : List TV} {vs : Array Value} (T : TypeId) (fz : Nat × Nat) (hr : RelL g w cells (vs.toList.take cells.length)) (hlen : cells.length = n * sz) (hcap : n ≤ cap) (hsz : vs.size = cap * sz) (hfz : ∀ o, o < vs.size → ¬ (fz.1 ≤ o ∧ o < fz.2))
    {T' : Option Nat} (hT' : ∀ t, T' = some t → t = T) {K : SV → List (Option (List TV)) → St → Prop} (h : K (.t (.list sz (.own st.nt) n cells)) loc (st.fresh T')) :
    Left g w loc K (.slice (some ⟨w.heap.size, 0, none⟩) n cap) (w.alloc (.cells vs T fz)) := by
  have hle : cells.length ≤ vs.size := by rw [hlen, hsz]; exact Nat.mul_le_mul_right _ hcap
  obtain ⟨g1, s1, e1, hlam, hsp, hnt, hbase, hprot, hk, hns, hnp, hS, hc, hrel⟩ := row_settled s T fz hr hle
  have hcell : ∀ o, n * sz ≤ o → o < cap * sz → (∃ v, (w.alloc (.cells vs T fz)).cell? ⟨w.heap.size, o, none⟩ = some v) ∧ (w.alloc (.cells vs T fz)).frozen? ⟨w.heap.size, o, none⟩ = false := by
    intro o h1 h2
    rw [cell?_alloc_fz, frozen?_alloc_fz _ _ _ _ _ (hfz o (by omega))]
    exact ⟨⟨vs[o]'(by omega), by simp⟩, rfl⟩
  obtain ⟨s2, e2, hsp2⟩ := s1.fresh w.heap.size (n * sz) (cap * sz) (.inl (by rw [hbase]; exact s.fits)) (by rw [hbase]; exact s.fits) (by simp) (Nat.mul_le_mul_right _ hcap) hk hcell
    (fun a ha hb hh => by have := hS a ha hb; omega) (by rw [hprot]; exact hnp) (fun i l' h' hh => by rw [hsp] at hh; exact absurd hh (hns i l' h')) (T := T') (hT := fun t ht => by rw [hT' t ht]; exact ⟨vs, fz, heap_alloc_at _ _⟩) (hone := fun i r hr hb => by rw [hsp] at hr; obtain ⟨r1, r2, r3⟩ := r; simp only at hb; subst hb; exact hns i _ _ hr)
  refine ⟨_, _, _, _, h, s2, ?_, e1.trans e2, fun i x hi => ⟨?_, x, hi⟩⟩
  · refine Rel.list sz (.own st.nt) n cells w.heap.size 0 cap (fun i => vs.getD i Go.undef) hlen hcap (fun i hi => (e2.S _ (hc i hi).1).imp id (fun _ => (hc i hi).2)) (fun i hi => (hrel i hi).ext e2) ⟨?_, fun r hr' => ?_⟩
    · show st.nt < g1.nt + 1
      rw [hnt, s.nt]; omega
    · rw [hsp2] at hr'; simp only [Option.some.injEq] at hr'; subst hr'; simp
  · show g1.lam i = g.lam i
    rw [hlam]

/-- The same, without spare cells: nothing to keep. -/
theorem full_gives (s : Sim g st loc w) {sz n : Nat} {cells : List TV} {vs : Array Value} (T : TypeId) (hr : RelL g w cells vs.toList) (hlen : cells.length = n * sz)
    {K : SV → List (Option (List TV)) → St → Prop} (h : K (.t (.list sz .full n cells)) loc st) :
    Left g w loc K (.slice (some ⟨w.heap.size, 0, none⟩) n n) (w.alloc (.cells vs T)) := by
  have hvs : vs.size = cells.length := by have := hr.1; simp at this; omega
  obtain ⟨g1, s1, e1, hlam, hsp, hnt, hbase, hprot, hk, hns, hnp, hS, hc, hrel⟩ := row_settled s (vs := vs) (cells := cells) T (0, 0) (by rw [List.take_of_length_le (by simp only [Array.length_toList]; omega)]; exact hr) (by omega)
  exact ⟨_, _, _, _, h, s1, Rel.list sz .full n cells w.heap.size 0 n (fun i => vs.getD i Go.undef) hlen (Nat.le_refl _) (fun i hi => hc i hi) hrel rfl, e1, fun i x hi => ⟨by rw [hlam], x, hi⟩⟩

/-! Appending. -/

def appSrc (st : St) (sz : Nat) : TV → Option (Nat × List TV)
  | .nilSlice => some (0, [])
  | .list s _ n xs => match s.beq sz with | true => some (n, xs) | false => none
  | .ms s b off n _ => match s.beq sz with
    | true => match ldCells st [] (.t (.box b off)) 0 (n * sz) with | some xs => some (n, xs) | none => none
    | false => none
  | .str l => match sz.beq 1 with | true => some (l.length, bytesT l) | false => none
  | _ => none

/-- The type of a row that may be the old one or a new one. -/
def tyJoin (T : Nat) : Option Nat → Option Nat
  | some t => match t.beq T with | true => some T | false => none
  | none => none
theorem tyJoin_some {T t : Nat} {o : Option Nat} (h : tyJoin T o = some t) : t = T ∧ o = some T := by
  cases o with
  | none => cases h
  | some x =>
    simp only [tyJoin] at h
    split at h
    · rename_i hb; simp only [Option.some.injEq] at h; exact ⟨h.symm, by rw [Nat.eq_of_beq_eq_true hb]⟩
    · cases h

def appK (T sz bytes : Nat) (v : TV) (k : Nat) (ys : List TV) (st : St) (K : TV → St → Prop) : Prop :=
  match v with
  | .nilSlice => match k with
    | 0 => K .nilSlice st
    | m + 1 => need (((m + 1) * bytes).ble 140737488355328) (K (.list sz (.own st.nt) (m + 1) ys) (st.fresh (some T)))
  | .list s tip n xs => match s.beq sz with
    | true => (n + k) * bytes ≤ 140737488355328 ∧ match tip with
      | .full => match k with
        | 0 => K (.list sz .full n xs) st
        | m + 1 => K (.list sz (.own st.nt) (n + (m + 1)) (xs ++ ys)) (st.fresh (some T))
      | .own id => st.live id = true ∧ K (.list sz (.own st.nt) (n + k) (xs ++ ys)) ((st.retire id).fresh (tyJoin T (st.ty id)))
      | .non => False
    | false => False
  | _ => False

/-- What is appended, as values. -/
theorem appSrc_sound (s : Sim g st loc w) {sz : Nat} {x : TV} {xv : Value} (hx : Rel g w x xv) {k : Nat} {ys : List TV} (h : appSrc st sz x = some (k, ys)) :
    ∃ vs : List Value, RelL g w ys vs ∧ vs.length = k * sz ∧ (Builtin.lenOf xv).run P w = .ok k w ∧ (Builtin.firstCells sz k xv).run P w = .ok vs.toArray w ∧ (Builtin.firstCells sz k xv).run P w.drew = .ok vs.toArray w.drew := by
  have hfirst : ∀ (b o n cap : Nat) (vs : List Value), vs.length = n * sz → (∀ j v, vs[j]? = some v → w.cell? ⟨b, o + j, none⟩ = some v) →
      (Builtin.firstCells sz n (.slice (some ⟨b, o, none⟩) n cap)).run P w = .ok vs.toArray w ∧ (Builtin.firstCells sz n (.slice (some ⟨b, o, none⟩) n cap)).run P w.drew = .ok vs.toArray w.drew := by
    intro b o n cap vs hl hc
    exact ⟨run_firstCells_some w sz n _ n cap vs hl (fun j v hj => by rw [plain_add]; exact hc j v hj), run_firstCells_some w.drew sz n _ n cap vs hl (fun j v hj => by rw [plain_add]; exact hc j v hj)⟩
  unfold appSrc at h
  split at h
  · simp only [Option.some.injEq, Prod.mk.injEq] at h
    obtain ⟨rfl, rfl⟩ := h
    cases hx
    exact ⟨[], .nil _ _, by simp, rfl, by simp [Builtin.firstCells], by simp [Builtin.firstCells]⟩
  · rename_i s' tip n xs
    split at h
    · rename_i hs
      have hs' : s' = sz := Nat.eq_of_beq_eq_true hs
      subst hs'
      simp only [Option.some.injEq, Prod.mk.injEq] at h
      obtain ⟨rfl, rfl⟩ := h
      cases hx with
      | list _ _ _ _ b o cap us hl hn hc hr ht =>
        have hvs : ((List.range xs.length).map us).length = n * s' := by simp [hl]
        have hf := hfirst b o n cap ((List.range xs.length).map us) hvs (fun j v hj => by
          rw [List.getElem?_map] at hj
          obtain ⟨i, hi, rfl⟩ := Option.map_eq_some_iff.1 hj
          obtain ⟨hlt, rfl⟩ := List.getElem?_eq_some_iff.1 hi
          simp only [List.getElem_range] at *
          exact (hc j (by simpa using hlt)).2)
        refine ⟨_, ⟨by simp, fun i hi => ?_⟩, hvs, rfl, hf.1, hf.2⟩
        simp only [List.getD_eq_getElem?_getD, List.getElem?_map, List.getElem?_range hi, Option.map_some, Option.getD_some]
        exact hr i hi
    · cases h
  · rename_i s' b off n cap
    split at h
    · rename_i hs
      have hs' : s' = sz := Nat.eq_of_beq_eq_true hs
      subst hs'
      split at h
      · rename_i xs hxs
        simp only [Option.some.injEq, Prod.mk.injEq] at h
        obtain ⟨rfl, rfl⟩ := h
        cases hx with
        | ms _ _ _ _ _ hb hn =>
          have hp : SRel g w loc (.t (.box b off)) (.pointer (some ⟨g.bk b, off, none⟩)) := Rel.box b off hb
          rw [ldCells_loc st [] loc] at hxs
          obtain ⟨vs, hl, hr, hcell⟩ := ldCells_sound s hp _ 0 _ hxs
          have hf := hfirst (g.bk b) off n cap vs hl (fun j v hj => by simpa using hcell j v hj)
          exact ⟨vs, hr, hl, rfl, hf.1, hf.2⟩
      · cases h
    · cases h
  · rename_i l
    split at h
    · rename_i hs
      have hs' : sz = 1 := Nat.eq_of_beq_eq_true hs
      subst hs'
      simp only [Option.some.injEq, Prod.mk.injEq] at h
      obtain ⟨rfl, rfl⟩ := h
      cases hx
      have hb : ∀ w : World, (Builtin.firstCells 1 l.length (.string ⟨l.toArray⟩)).run P w = .ok (l.map fun b => Value.int .u8 (b.toNat : Int)).toArray w := by
        intro w
        simp only [Builtin.firstCells, Sem.run_pure]
        congr 1
        rw [extract_str]
        simp
      refine ⟨l.map fun b => Value.int .u8 (b.toNat : Int), ⟨by simp [bytesT], fun i hi => ?_⟩, by simp, ?_, hb w, hb w.drew⟩
      · have hi' : i < l.length := by simpa [bytesT] using hi
        simp only [bytesT, List.getElem_map, List.getD_eq_getElem?_getD, List.getElem?_map, List.getElem?_eq_getElem hi', Option.map_some, Option.getD_some]
        exact Rel.int _ _
      · simp [Builtin.lenOf, sizeOfStr]
    · cases h
  · cases h

end
end Go.TVF
