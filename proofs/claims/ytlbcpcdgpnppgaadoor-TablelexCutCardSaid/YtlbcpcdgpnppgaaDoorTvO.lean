/- A region whose order is open: one order serves all: the theorem. -/
import Derived.Test.YtlbcpcdgpnppgaaDoorTvM
set_option linter.unusedVariables false
set_option linter.unusedSimpArgs false
namespace Go.TVF
open Go.RowKit (Below)

theorem nres_pure {P : Program} {s s' : St} {loc loc' : List (Option (List TV))} {ρ : Operand → SV} {op : Op} (h : readsMem op = false) : nres P s loc ρ op = nres P s' loc' ρ op := by
  cases op <;> first | (simp [readsMem] at h; done) | rfl | skip
  · rename_i a b c; cases a <;> rfl
  · rename_i a b c; cases a <;> rfl
  · rename_i c; obtain ⟨callee, args, ts⟩ := c; cases callee <;> first | rfl | skip
    rename_i b; cases b <;> rfl

section
variable {P : Program} {cfg : Cfg} {ops : Array Oper}

def stepA (cfg : Cfg) (P : Program) (ops : Array Oper) (o : Oper) (K : Fr → St → Prop) (fr : Fr) (st : St) : Prop :=
  match wantT ops fr.slots o.guard with
  | some true => stepR cfg P o.dst o.type o.op (opS fr.slots) fr.loc st fun v loc' st' => K ⟨putS fr.slots o.dst v, loc'⟩ st'
  | some false => K ⟨putS fr.slots o.dst (.t .undef), fr.loc⟩ st
  | none => False

def absAny (cfg : Cfg) (P : Program) (ops : Array Oper) (K : Fr → St → Prop) : Nat → Array Bool → Fr → St → Prop
  | 0, listed, fr, st => Region.ready .any ops listed = [] ∧ K fr st
  | n + 1, listed, fr, st => (Region.ready .any ops listed = [] → K fr st) ∧
    ∀ i ∈ Region.ready .any ops listed, ∀ o, ops[i]? = some o → stepA cfg P ops o (absAny cfg P ops K n (listed.setIfInBounds i true)) fr st

theorem abs_sound {K : Fr → St → Prop} {Q : Exit → Act → World → Prop} : ∀ (n : Nat) (listed : Array Bool) (fr : Fr) (st : St) (g : Ghost) (w : World) (a : Act), absAny cfg P ops K n listed fr st → Sim g st fr.loc w → FRel g w fr a.tmps →
    (∀ a' w', RPost g w a K a' w' → Q .normal a' w') → wpAny P .any ops Q n listed a w
  | 0, listed, fr, st, g, w, a, h, s, hf, hq => ⟨h.1, hq a w ⟨fr, st, g, h.2, s, hf, Ext.refl _ _, rfl, rfl⟩⟩
  | n + 1, listed, fr, st, g, w, a, h, s, hf, hq => by
    refine ⟨fun h0 => hq a w ⟨fr, st, g, h.1 h0, s, hf, Ext.refl _ _, rfl, rfl⟩, fun i hi => ?_⟩
    obtain ⟨hun, o, ho, hall⟩ := mem_ready.1 hi
    have hs := h.2 i hi o ho
    unfold stepA at hs
    unfold wpOp
    simp only [ho]
    cases hw : wantT ops fr.slots o.guard with
    | none => rw [hw] at hs; exact hs.elim
    | some t =>
      rw [hw] at hs
      have := step_sound (P := P) (cfg := cfg) (Q := Q) (K := absAny cfg P ops K n (listed.setIfInBounds i true)) (next := wpAny P .any ops Q n (listed.setIfInBounds i true)) ops o hw (by cases t <;> exact hs) s hf (fun a' w' hp => by
        obtain ⟨fr', st', g', h1, h2, h3, h4, h5⟩ := hp
        refine abs_sound n _ fr' st' g' w' a' h1 h2 h3 fun a'' w'' hp' => hq _ _ (hp'.ext h4 h5))
      split
      · rename_i hwant; rw [if_pos hwant] at this; exact .inl this
      · rename_i hwant; rw [if_neg hwant] at this; exact this

theorem opS_put {slots : List SV} {dst : Option Nat} {v : SV} {x : Operand} (h : ∀ d, dst = some d → x ≠ .tmp d) : opS (putS slots dst v) x = opS slots x := by
  cases dst with
  | none => rfl
  | some d =>
    cases x with
    | tmp t =>
      have hne : d ≠ t := fun e => h d rfl (e ▸ rfl)
      simp only [opS, putS, List.getD_eq_getElem?_getD, List.getElem?_set_ne hne]
    | _ => rfl

theorem opS_put_looks {slots : List SV} {dst : Option Nat} {v : SV} {o : Oper} (h : ∀ d, dst = some d → d ∉ o.looksAt ops) : ∀ x, x ∈ o.op.operands → opS (putS slots dst v) x = opS slots x :=
  fun x hx => opS_put fun d hd hxd => h d hd (by
    subst hxd
    exact List.mem_append_left _ (List.mem_filterMap.2 ⟨.tmp d, by simpa using hx, rfl⟩))

theorem wantT_put {slots : List SV} {dst : Option Nat} {v : SV} {o : Oper} (h : ∀ d, dst = some d → d ∉ o.looksAt ops) : wantT ops (putS slots dst v) o.guard = wantT ops slots o.guard := by
  cases dst with
  | none => rfl
  | some d =>
    unfold wantT
    cases hg : o.guard with
    | none => rfl
    | some gw =>
      obtain ⟨j, want⟩ := gw
      simp only
      cases hd : dstOf ops j with
      | none => rfl
      | some t =>
        have hne : d ≠ t := fun e => h d rfl (by subst e; simp only [Oper.looksAt, hg]; apply List.mem_append_right; simpa [dstOf] using hd)
        simp only [putS, List.getElem?_set_ne hne]

theorem putS_comm (slots : List SV) {x y : Option Nat} (v u : SV) (h : ∀ d, x = some d → y ≠ some d) : putS (putS slots x v) y u = putS (putS slots y u) x v := by
  cases x with
  | none => rfl
  | some d =>
    cases y with
    | none => rfl
    | some e =>
      have hne : d ≠ e := fun he => h d rfl (he ▸ rfl)
      simp only [putS]
      exact List.set_comm _ _ hne

/-- An operation that only computes and reads yields v. -/
def NY (P : Program) (ops : Array Oper) (o : Oper) (v : SV) (s : St) (fr : Fr) : Prop :=
  (wantT ops fr.slots o.guard = some true ∧ (nres P s fr.loc (opS fr.slots) o.op).Is v) ∨ (wantT ops fr.slots o.guard = some false ∧ v = .t .undef)

theorem NY.stepA {o : Oper} {v : SV} {s st : St} {fr : Fr} (hN : isN P o.op = true) (h : NY P ops o v s fr) (hs : StLe s st) {K : Fr → St → Prop} (hK : K ⟨putS fr.slots o.dst v, fr.loc⟩ st) : stepA cfg P ops o K fr st := by
  unfold TVF.stepA
  rcases h with ⟨hw, hv⟩ | ⟨hw, rfl⟩
  · rw [hw]
    simp only [stepR, hN]
    exact ⟨v, nres_le hs hv, hK⟩
  · rw [hw]; exact hK

theorem NY.put {o oj : Oper} {v u : SV} {s : St} {fr : Fr} {loc' : List (Option (List TV))} (h : NY P ops o v s fr) (h3 : ∀ d, oj.dst = some d → d ∉ o.looksAt ops) (hl : readsMem o.op = false ∨ loc' = fr.loc) :
    NY P ops o v s ⟨putS fr.slots oj.dst u, loc'⟩ := by
  rcases h with ⟨hw, hv⟩ | ⟨hw, rfl⟩
  · refine .inl ⟨by rw [wantT_put h3]; exact hw, ?_⟩
    show (nres P s loc' (opS (putS fr.slots oj.dst u)) o.op).Is v
    rw [nres_congr (ρ' := opS fr.slots) (opS_put_looks h3)]
    rcases hl with hl | hl
    · rw [nres_pure (s' := s) (loc' := fr.loc) hl]; exact hv
    · rw [hl]; exact hv
  · exact .inr ⟨by rw [wantT_put h3]; exact hw, rfl⟩

/-- May the second operation come before the first? -/
def okPair (cfg : Cfg) (calls : Bool) (o oj : Oper) : Bool := (!(readsMem o.op) || !(isWrite cfg oj)) && (calls || !(isCall oj.op))

theorem nfirst {K : Fr → St → Prop} {calls : Bool} {i : Nat} {oi : Oper} {v : SV} {s : St} (hi : ops[i]? = some oi) (hN : isN P oi.op = true) (hb : calls = true → ∀ st, StLe s st) :
    ∀ (fuel : Nat) (listed : Array Bool) (fr : Fr) (st : St),
      (∀ j oj, ops[j]? = some oj → j ≠ i → listed.getD j true = false → (∀ e ∈ oj.after, Region.binds .any e = true → e.on ≠ i) → oi.apart ops oj = true ∧ okPair cfg calls oi oj = true) →
      i ∈ Region.ready .any ops listed → NY P ops oi v s fr → (readsMem oi.op = true → StLe s st) →
      absAny cfg P ops K fuel (listed.setIfInBounds i true) ⟨putS fr.slots oi.dst v, fr.loc⟩ st → absAny cfg P ops K (fuel + 1) listed fr st := by
  have now : ∀ (fr : Fr) (st : St) (K : Fr → St → Prop), NY P ops oi v s fr → (readsMem oi.op = true → StLe s st) → K ⟨putS fr.slots oi.dst v, fr.loc⟩ st → stepA cfg P ops oi K fr st := by
    intro fr st K hy hs hK
    by_cases hr : readsMem oi.op = true
    · exact hy.stepA hN (hs hr) hK
    · have hr' : readsMem oi.op = false := by simpa using hr
      have hy' : NY P ops oi v st fr := by
        rcases hy with ⟨hw, hv⟩ | h
        · exact .inl ⟨hw, by rw [nres_pure (s' := s) (loc' := fr.loc) hr']; exact hv⟩
        · exact .inr h
      exact hy'.stepA hN (StLe.refl st) hK
  intro fuel
  induction fuel with
  | zero =>
    intro listed fr st _ hr hy hs H
    refine ⟨fun h => (by rw [h] at hr; cases hr), fun j hj oj hoj => ?_⟩
    by_cases hji : j = i
    · subst hji
      rw [hi] at hoj; cases hoj
      exact now fr st _ hy hs H
    · have := ready_mono hj hji
      rw [H.1] at this
      cases this
  | succ fuel ih =>
    intro listed fr st hfree hr hy hs H
    refine ⟨fun h => (by rw [h] at hr; cases hr), fun j hj oj hoj => ?_⟩
    by_cases hji : j = i
    · subst hji
      rw [hi] at hoj; cases hoj
      exact now fr st _ hy hs H
    · have h1 := H.2 j (ready_mono hj hji) oj hoj
      obtain ⟨hjun, oj', hoj', hall⟩ := mem_ready.1 hj
      rw [hoj] at hoj'; cases hoj'
      have hnot : ∀ e ∈ oj.after, Region.binds .any e = true → e.on ≠ i := fun e he hb heq => by
        have h1 := hall e he hb
        have h0 := (mem_ready.1 hr).1
        rw [heq] at h1
        rcases Nat.lt_or_ge i listed.size with h' | h'
        · simp [h'] at h0 h1; rw [h0] at h1; cases h1
        · simp [Array.getElem?_eq_none h'] at h1
      obtain ⟨hap, hok⟩ := hfree j oj hoj hji hjun hnot
      obtain ⟨a1, a2, a3⟩ := Oper.apart_spec hap
      simp only [okPair, Bool.and_eq_true, Bool.or_eq_true, Bool.not_eq_true'] at hok
      have hfree' : ∀ k ok, ops[k]? = some ok → k ≠ i → (listed.setIfInBounds j true).getD k true = false →
          (∀ e ∈ ok.after, Region.binds .any e = true → e.on ≠ i) → oi.apart ops ok = true ∧ okPair cfg calls oi ok = true := fun k ok hk hki hun hno => by
        refine hfree k ok hk hki ?_ hno
        by_cases hjk : j = k
        · subst hjk; exact hjun
        · rw [getD_set_ne true hjk] at hun; exact hun
      have go : ∀ (u : SV) (loc' : List (Option (List TV))) (st' : St), (readsMem oi.op = false ∨ loc' = fr.loc) → (readsMem oi.op = true → StLe s st') →
          absAny cfg P ops K fuel ((listed.setIfInBounds i true).setIfInBounds j true) ⟨putS (putS fr.slots oi.dst v) oj.dst u, loc'⟩ st' → absAny cfg P ops K (fuel + 1) (listed.setIfInBounds j true) ⟨putS fr.slots oj.dst u, loc'⟩ st' := by
        intro u loc' st' hl hs' hab
        refine ih (listed.setIfInBounds j true) ⟨putS fr.slots oj.dst u, loc'⟩ st' hfree' (ready_mono hr (Ne.symm hji)) (hy.put a3 hl) hs' ?_
        rw [Array.setIfInBounds_comm _ _ hji]
        show absAny cfg P ops K fuel _ ⟨putS (putS fr.slots oj.dst u) oi.dst v, loc'⟩ st'
        rw [← putS_comm fr.slots v u a2]
        exact hab
      unfold stepA at h1 ⊢
      have hwp : wantT ops (putS fr.slots oi.dst v) oj.guard = wantT ops fr.slots oj.guard := wantT_put a1
      simp only [hwp] at h1
      cases hw : wantT ops fr.slots oj.guard with
      | none => rw [hw] at h1; exact h1.elim
      | some t =>
        rw [hw] at h1
        cases t with
        | false => exact go _ _ _ (.inr rfl) hs h1
        | true =>
          have hcong := opS_put_looks (slots := fr.slots) (v := v) a1
          simp only [stepR] at h1 ⊢
          cases hNj : isN P oj.op with
          | true =>
            simp only [hNj] at h1 ⊢
            obtain ⟨u, hu, hK⟩ := h1
            rw [nres_congr (ρ' := opS fr.slots) hcong] at hu
            exact ⟨u, hu, go _ _ _ (.inr rfl) hs hK⟩
          | false =>
            simp only [hNj] at h1 ⊢
            refine eop_mono oj hcong (fun u loc' st' hbx hlc hK => ?_) h1
            refine go u loc' st' ?_ ?_ hK
            · rcases hok.1 with h | h
              · exact .inl h
              · exact .inr (hlc (isLocal_of h)).1
            · intro hrm
              rcases hok.1 with h | h
              · rw [hrm] at h; cases h
              · rcases hok.2 with hc | hc
                · exact hb hc st'
                · exact (hs hrm).of_box (hbx (by simp [pure1, h, hc]))


def freeB (cfg : Cfg) (calls : Bool) (ops : Array Oper) (listed : Array Bool) (i : Nat) : Bool :=
  match ops[i]? with
  | none => false
  | some oi => (List.range ops.size).all fun j => j == i || listed.getD j true || match ops[j]? with
      | some oj => oj.after.any (fun e => Region.binds .any e && e.on == i) || (oi.apart ops oj && okPair cfg calls oi oj)
      | none => true

theorem freeB_spec {calls : Bool} {i : Nat} {oi : Oper} {listed : Array Bool} (hi : ops[i]? = some oi) (h : freeB cfg calls ops listed i = true) (j : Nat) (oj : Oper)
    (hj : ops[j]? = some oj) (hne : j ≠ i) (hun : listed.getD j true = false) (hno : ∀ e ∈ oj.after, Region.binds .any e = true → e.on ≠ i) :
    oi.apart ops oj = true ∧ okPair cfg calls oi oj = true := by
  simp only [freeB, hi, List.all_eq_true, List.mem_range] at h
  have h1 := h j (Array.getElem?_eq_some_iff.1 hj).1
  simp only [hj, Bool.or_eq_true, beq_iff_eq, hne, false_or, hun, Bool.false_eq_true] at h1
  rcases h1 with h1 | h1
  · rw [Array.any_eq_true] at h1
    obtain ⟨k, hk, hb⟩ := h1
    simp only [Bool.and_eq_true, beq_iff_eq] at hb
    exact absurd hb.2 (hno _ (Array.getElem_mem hk) hb.1)
  · simpa using h1

/-! A new local comes as early as it can. -/
def isLocK (k : Nat) : SV → Bool
  | .loc i _ => i.beq k
  | _ => false
def noLocB (k : Nat) (slots : List SV) : Bool := slots.all fun s => !(isLocK k s)
theorem noLocB_spec {k : Nat} {slots : List SV} (h : noLocB k slots = true) (x : Operand) (off : Nat) : opS slots x ≠ .loc k off := by
  intro hx
  cases x <;> simp only [opS] at hx <;> first | cases hx | skip
  rename_i t
  rw [List.getD_eq_getElem?_getD] at hx
  cases hq : slots[t]? with
  | none => rw [hq] at hx; cases hx
  | some s =>
    rw [hq] at hx
    simp only [Option.getD_some] at hx
    subst hx
    simp only [noLocB, List.all_eq_true] at h
    have := h _ (List.mem_of_getElem? hq)
    simp [isLocK] at this
theorem noLocB_put {k : Nat} {slots : List SV} (h : noLocB k slots = true) {v : SV} (hv : ∀ off, v ≠ .loc k off) (dst : Option Nat) : noLocB k (putS slots dst v) = true := by
  cases dst with
  | none => exact h
  | some d =>
    simp only [noLocB, List.all_eq_true, putS] at h ⊢
    intro x hx
    rcases List.mem_or_eq_of_mem_set hx with h1 | h1
    · exact h x h1
    · rw [h1]
      cases v with
      | t v => rfl
      | loc i off =>
        have : i ≠ k := fun h => hv off (by rw [h])
        have hb : i.beq k = false := by
          cases hq : i.beq k with
          | false => rfl
          | true => exact absurd (Nat.eq_of_beq_eq_true hq) this
        simp [isLocK, hb]

/-- May an operation come before the making of a local? -/
def freeA (cfg : Cfg) (ops : Array Oper) (listed : Array Bool) (i k : Nat) : Bool :=
  match ops[i]? with
  | none => false
  | some oi => (List.range ops.size).all fun j => j == i || listed.getD j true || match ops[j]? with
      | some oj => oj.after.any (fun e => Region.binds .any e && e.on == i) || (oi.apart ops oj && !(locIx cfg.loc oj.dst == some k))
      | none => true

theorem freeA_spec {i k : Nat} {oi : Oper} {listed : Array Bool} (hi : ops[i]? = some oi) (h : freeA cfg ops listed i k = true) (j : Nat) (oj : Oper)
    (hj : ops[j]? = some oj) (hne : j ≠ i) (hun : listed.getD j true = false) (hno : ∀ e ∈ oj.after, Region.binds .any e = true → e.on ≠ i) :
    oi.apart ops oj = true ∧ locIx cfg.loc oj.dst ≠ some k := by
  simp only [freeA, hi, List.all_eq_true, List.mem_range] at h
  have h1 := h j (Array.getElem?_eq_some_iff.1 hj).1
  simp only [hj, Bool.or_eq_true, beq_iff_eq, hne, false_or, hun, Bool.false_eq_true] at h1
  rcases h1 with h1 | h1
  · rw [Array.any_eq_true] at h1
    obtain ⟨k, hk, hb⟩ := h1
    simp only [Bool.and_eq_true, beq_iff_eq] at hb
    exact absurd hb.2 (hno _ (Array.getElem_mem hk) hb.1)
  · simpa using h1

theorem afirst {K : Fr → St → Prop} {i k : Nat} {oi : Oper} {t : TypeId} {cells : List TV} (hi : ops[i]? = some oi) (hop : oi.op = .alloc t) (hgd : oi.guard = none) (hix : locIx cfg.loc oi.dst = some k) (hz : zeroT P t = some cells) :
    ∀ (fuel : Nat) (listed : Array Bool) (fr : Fr) (st : St),
      (∀ j oj, ops[j]? = some oj → j ≠ i → listed.getD j true = false → (∀ e ∈ oj.after, Region.binds .any e = true → e.on ≠ i) → oi.apart ops oj = true ∧ locIx cfg.loc oj.dst ≠ some k) →
      i ∈ Region.ready .any ops listed → fr.loc[k]? = some none → noLocB k fr.slots = true →
      absAny cfg P ops K fuel (listed.setIfInBounds i true) ⟨putS fr.slots oi.dst (.loc k 0), fr.loc.set k (some cells)⟩ st → absAny cfg P ops K (fuel + 1) listed fr st := by
  have now : ∀ (fr : Fr) (st : St) (K : Fr → St → Prop), fr.loc[k]? = some none → K ⟨putS fr.slots oi.dst (.loc k 0), fr.loc.set k (some cells)⟩ st → stepA cfg P ops oi K fr st := by
    intro fr st K hl hK
    unfold stepA
    simp only [hgd, wantT, stepR, hop, isN, eop, hz, allocK, hix, hl]
    exact hK
  intro fuel
  induction fuel with
  | zero =>
    intro listed fr st _ hr hl hn H
    refine ⟨fun h => (by rw [h] at hr; cases hr), fun j hj oj hoj => ?_⟩
    by_cases hji : j = i
    · subst hji
      rw [hi] at hoj; cases hoj
      exact now fr st _ hl H
    · have := ready_mono hj hji
      rw [H.1] at this
      cases this
  | succ fuel ih =>
    intro listed fr st hfree hr hl hn H
    refine ⟨fun h => (by rw [h] at hr; cases hr), fun j hj oj hoj => ?_⟩
    by_cases hji : j = i
    · subst hji
      rw [hi] at hoj; cases hoj
      exact now fr st _ hl H
    · have h1 := H.2 j (ready_mono hj hji) oj hoj
      obtain ⟨hjun, oj', hoj', hall⟩ := mem_ready.1 hj
      rw [hoj] at hoj'; cases hoj'
      have hnot : ∀ e ∈ oj.after, Region.binds .any e = true → e.on ≠ i := fun e he hb heq => by
        have h1 := hall e he hb
        have h0 := (mem_ready.1 hr).1
        rw [heq] at h1
        rcases Nat.lt_or_ge i listed.size with h' | h'
        · simp [h'] at h0 h1; rw [h0] at h1; cases h1
        · simp [Array.getElem?_eq_none h'] at h1
      obtain ⟨hap, hixj⟩ := hfree j oj hoj hji hjun hnot
      obtain ⟨a1, a2, a3⟩ := Oper.apart_spec hap
      have hfree' : ∀ k' ok, ops[k']? = some ok → k' ≠ i → (listed.setIfInBounds j true).getD k' true = false →
          (∀ e ∈ ok.after, Region.binds .any e = true → e.on ≠ i) → oi.apart ops ok = true ∧ locIx cfg.loc ok.dst ≠ some k := fun k' ok hk hki hun hno => by
        refine hfree k' ok hk hki ?_ hno
        by_cases hjk : j = k'
        · subst hjk; exact hjun
        · rw [getD_set_ne true hjk] at hun; exact hun
      have go : ∀ (u : SV) (loc' : List (Option (List TV))) (st' : St), loc'[k]? = some none → (∀ off, u ≠ .loc k off) →
          absAny cfg P ops K fuel ((listed.setIfInBounds i true).setIfInBounds j true) ⟨putS (putS fr.slots oi.dst (.loc k 0)) oj.dst u, loc'.set k (some cells)⟩ st' → absAny cfg P ops K (fuel + 1) (listed.setIfInBounds j true) ⟨putS fr.slots oj.dst u, loc'⟩ st' := by
        intro u loc' st' hl' hu hab
        refine ih (listed.setIfInBounds j true) ⟨putS fr.slots oj.dst u, loc'⟩ st' hfree' (ready_mono hr (Ne.symm hji)) hl' (noLocB_put hn hu _) ?_
        rw [Array.setIfInBounds_comm _ _ hji]
        show absAny cfg P ops K fuel _ ⟨putS (putS fr.slots oj.dst u) oi.dst (.loc k 0), loc'.set k (some cells)⟩ st'
        rw [← putS_comm fr.slots (.loc k 0) u a2]
        exact hab
      unfold stepA at h1 ⊢
      have hwp : wantT ops (putS fr.slots oi.dst (.loc k 0)) oj.guard = wantT ops fr.slots oj.guard := wantT_put a1
      simp only [hwp] at h1
      cases hw : wantT ops fr.slots oj.guard with
      | none => rw [hw] at h1; exact h1.elim
      | some t =>
        rw [hw] at h1
        cases t with
        | false => exact go _ _ _ hl (fun off hh => (by cases hh)) h1
        | true =>
          have hcong := opS_put_looks (slots := fr.slots) (v := .loc k 0) a1
          have hno : ∀ x, x ∈ oj.op.operands → ∀ off, opS fr.slots x ≠ .loc k off := fun x _ off => noLocB_spec hn x off
          simp only [stepR] at h1 ⊢
          cases hNj : isN P oj.op with
          | true =>
            simp only [hNj] at h1 ⊢
            obtain ⟨u, hu, hK⟩ := h1
            rw [nres_congr (ρ' := opS fr.slots) hcong, nres_shrink hno] at hu
            exact ⟨u, hu, go _ _ _ hl (nres_noloc hno hu) hK⟩
          | false =>
            simp only [hNj] at h1 ⊢
            have h2 := eop_mono oj (ρ' := opS fr.slots) hcong (fun u loc' st' _ _ hK => hK) h1
            have h3 := eop_shrink oj hno hl hixj h2
            exact eop_mono oj (fun _ _ => rfl) (fun u loc' st' _ _ hK => go u loc' st' hK.2.1 hK.1 hK.2.2) h3

/-- The making of a local, unguarded: which. -/
def loAt (cfg : Cfg) (ops : Array Oper) (i : Nat) : Option (Nat × TypeId) :=
  match ops[i]? with
  | some o => match o.guard, o.op with
    | none, .alloc t => match locIx cfg.loc o.dst with
      | some k => some (k, t)
      | none => none
    | _, _ => none
  | none => none
def firstLo (cfg : Cfg) (ops : Array Oper) : List Nat → Option (Nat × Nat × TypeId)
  | [] => none
  | i :: is => match loAt cfg ops i with
    | some p => some (i, p)
    | none => firstLo cfg ops is
theorem firstLo_spec {is : List Nat} {i k : Nat} {t : TypeId} (h : firstLo cfg ops is = some (i, k, t)) : i ∈ is ∧ ∃ o, ops[i]? = some o ∧ o.guard = none ∧ o.op = .alloc t ∧ locIx cfg.loc o.dst = some k := by
  induction is with
  | nil => cases h
  | cons j is ih =>
    simp only [firstLo] at h
    split at h
    · rename_i p hp
      simp only [Option.some.injEq, Prod.mk.injEq] at h
      obtain ⟨rfl, rfl⟩ := h
      refine ⟨List.mem_cons_self .., ?_⟩
      unfold loAt at hp
      split at hp
      · rename_i o ho
        split at hp
        · rename_i t' hg hop
          split at hp
          · rename_i k' hk
            simp only [Option.some.injEq, Prod.mk.injEq] at hp
            obtain ⟨rfl, rfl⟩ := hp
            exact ⟨o, ho, hg, hop, hk⟩
          · cases hp
        · cases hp
      · cases hp
    · obtain ⟨h1, h2⟩ := ih h
      exact ⟨List.mem_cons_of_mem _ h1, h2⟩

def evSt (calls : Bool) (st : St) : St := match calls with | true => blindSt | false => st

def isNat (P : Program) (ops : Array Oper) (i : Nat) : Bool := match ops[i]? with | some o => isN P o.op | none => false

/-- A region whose order is open: what only computes and reads comes as early as it can. -/
def regD (cfg : Cfg) (P : Program) (ops : Array Oper) (calls : Bool) (K : Fr → St → Prop) : Nat → Array Bool → Fr → St → Prop
  | 0, listed, fr, st => match Region.ready .any ops listed with
    | [] => K fr st
    | _ :: _ => False
  | n + 1, listed, fr, st => match Region.ready .any ops listed with
    | [] => K fr st
    | r :: rs => match (r :: rs).find? (isNat P ops) with
      | some i => match ops[i]? with
        | some o => need (freeB cfg calls ops listed i) (guardK ops fr o.guard
            (fun fr => (nres P (evSt calls st) fr.loc (opS fr.slots) o.op).K fun v => decSV P o.type v fun v' => regD cfg P ops calls K n (listed.setIfInBounds i true) ⟨putS fr.slots o.dst v', fr.loc⟩ st)
            (fun fr => regD cfg P ops calls K n (listed.setIfInBounds i true) ⟨putS fr.slots o.dst (.t .undef), fr.loc⟩ st))
        | none => False
      | none => match rs with
        | [] => match ops[r]? with
          | some o => guardK ops fr o.guard
              (fun fr => stepOp cfg P o.dst o.type o.op (opS fr.slots) fr.loc st fun v loc' st' => regD cfg P ops calls K n (listed.setIfInBounds r true) ⟨putS fr.slots o.dst v, loc'⟩ st')
              (fun fr => regD cfg P ops calls K n (listed.setIfInBounds r true) ⟨putS fr.slots o.dst (.t .undef), fr.loc⟩ st)
          | none => False
        | _ :: _ => match firstLo cfg ops (r :: rs) with
          | some (i, k, t) => match ops[i]?, zeroT P t, fr.loc[k]? with
            | some o, some cells, some none => need ((freeA cfg ops listed i k).and (noLocB k fr.slots)) (regD cfg P ops calls K n (listed.setIfInBounds i true) ⟨putS fr.slots o.dst (.loc k 0), fr.loc.set k (some cells)⟩ st)
            | _, _, _ => False
          | none => False

theorem regD_abs {K : Fr → St → Prop} {calls : Bool} : ∀ (n : Nat) (listed : Array Bool) (fr : Fr) (st : St), regD cfg P ops calls K n listed fr st → absAny cfg P ops K n listed fr st
  | 0, listed, fr, st, h => by
    simp only [regD] at h
    split at h
    · exact ⟨‹_›, h⟩
    · exact h.elim
  | n + 1, listed, fr, st, h => by
    simp only [regD] at h
    split at h
    · rename_i hr
      exact ⟨fun _ => h, fun i hi => by rw [hr] at hi; cases hi⟩
    · rename_i r rs hr
      split at h
      · rename_i i hfind
        split at h
        · rename_i o ho
          rw [need_iff] at h
          obtain ⟨hfree, h⟩ := h
          have hmem : i ∈ Region.ready .any ops listed := by rw [hr]; exact List.mem_of_find?_eq_some hfind
          have hN : isN P o.op = true := by have := List.find?_some hfind; simpa [isNat, ho] using this
          have hle : StLe (evSt calls st) st := by cases calls; exact StLe.refl st; exact StLe.blind st
          obtain ⟨t, hw, hg⟩ := guardK_want h
          cases t with
          | true =>
            obtain ⟨v, hv, hk⟩ := NRes.K_iff.1 hg
            exact nfirst ho hN (fun hc st => by subst hc; exact StLe.blind st) n listed fr st (freeB_spec ho hfree) hmem (.inl ⟨hw, hv⟩) (fun _ => hle) (regD_abs n _ _ st (decSV_sound hk))
          | false =>
            exact nfirst ho hN (fun hc st => by subst hc; exact StLe.blind st) n listed fr st (freeB_spec ho hfree) hmem (s := evSt calls st) (v := .t .undef) (.inr ⟨hw, rfl⟩) (fun _ => hle) (regD_abs n _ _ st hg)
        · exact h.elim
      · split at h
        · split at h
          · rename_i o ho
            refine ⟨fun h0 => (by rw [h0] at hr; cases hr), fun i hi o' ho' => ?_⟩
            rw [hr] at hi
            have hir : i = r := by simpa using hi
            subst hir
            rw [ho] at ho'; cases ho'
            obtain ⟨t, hw, hg⟩ := guardK_want h
            unfold stepA
            rw [hw]
            cases t with
            | true =>
              have := stepR_of (show stepOp cfg P o.dst o.type o.op (opS fr.slots) fr.loc st (fun v loc' st' => regD cfg P ops calls K n (listed.setIfInBounds i true) ⟨putS fr.slots o.dst v, loc'⟩ st') from hg)
              simp only [stepR] at this ⊢
              cases hN : isN P o.op with
              | true =>
                simp only [hN] at this ⊢
                obtain ⟨v, hv, hk⟩ := this
                exact ⟨v, hv, regD_abs n _ _ _ hk⟩
              | false =>
                simp only [hN] at this ⊢
                exact eop_mono o (fun _ _ => rfl) (fun v loc' st' _ _ hk => regD_abs n _ _ _ hk) this
            | false => exact regD_abs n _ _ _ hg
          · exact h.elim
        · split at h
          · rename_i i k t hlo
            split at h
            · rename_i o cells ho hz hl
              rw [need_iff] at h
              obtain ⟨hc, hk⟩ := h
              simp only [Bool.and_eq_true] at hc
              obtain ⟨hmem, o', ho', hg, hop, hix⟩ := firstLo_spec hlo
              rw [ho] at ho'
              cases ho'
              exact afirst ho hop hg hix hz n listed fr st (freeA_spec ho hc.1) (by rw [hr]; exact hmem) hl hc.2 (regD_abs n _ _ st hk)
            · exact h.elim
          · exact h.elim

/-- Does a region hold a call? -/
def hasCall (ops : Array Oper) : Bool := ops.any fun o => isCall o.op

def drawWp (cfg : Cfg) (P : Program) (ops : Array Oper) (K : Fr → St → Prop) (fr : Fr) (st : St) : Prop :=
  regD cfg P ops (hasCall ops) K ops.size (Array.replicate ops.size false) fr st

theorem drawWp_sound {K : Fr → St → Prop} {Q : Exit → Act → World → Prop} (hm : P.follows .mixedOrders = true) {id : Nat} {fr : Fr} {st : St} {g : Ghost} {w : World} {a : Act} (h : drawWp cfg P ops K fr st) (s : Sim g st fr.loc w) (hf : FRel g w fr a.tmps)
    (hq : ∀ a' w', RPost g w a K a' w' → Q .normal a' w') : (Code.region id ops true).wp P Q a w := by
  obtain ⟨sd, ed⟩ := s.drew
  refine wp_region_any hm (abs_sound _ _ fr st g w.drew a (regD_abs _ _ _ _ h) sd ?_ fun a' w' hp => hq _ _ (hp.ext ed ⟨rfl, rfl⟩))
  exact ⟨hf.1, fun i hi => (hf.2 i hi).keep ed (LocKeep.refl _ _)⟩

end
end Go.TVF
