/- One operation, and a region in the order of its text. -/
import Derived.Test.YtlbcpcdgpnppgaaDoorTvK
set_option linter.unusedVariables false
set_option linter.unusedSimpArgs false
namespace Go.TVF
open Go.RowKit (Below)

def isN (P : Program) : Op → Bool
  | .move _ => true
  | .assign _ => true
  | .pick _ _ _ => true
  | .load _ _ => true
  | .nilCheck _ => true
  | .binOp _ _ _ _ _ => true
  | .unOp _ _ _ => true
  | .convert s d _ => match elemOfSl P d, P.underlying s with | some _, _ => false | none, some .unsafePointer => false | none, _ => true
  | .makeFunc _ _ _ => true
  | .slice _ _ _ _ _ => true
  | .fieldAddr _ _ _ => true
  | .field _ _ _ => true
  | .indexAddr _ _ _ => true
  | .index _ _ _ => true
  | .extract _ _ => true
  | .call { callee := .builtin .len, .. } => true
  | .call { callee := .builtin .min, .. } => true
  | .call { callee := .builtin .unsafeSliceData, .. } => true
  | .lookup _ _ _ _ => true
  | .call { callee := .builtin .max, .. } => true
  | _ => false

def decSV (P : Program) (t : TypeId) (v : SV) (k : SV → Prop) : Prop :=
  match v with
  | .loc i off => k (.loc i off)
  | .t x => decV (rtyOf P t) x fun y => k (.t y)

theorem decSV_sound {P : Program} {t : TypeId} {v : SV} {k : SV → Prop} (h : decSV P t v k) : k v := by
  cases v with
  | loc i off => exact h
  | t x => exact decV_sound (f := fun y => k (.t y)) h

/-- An operation, its result typed. -/
def stepOp (cfg : Cfg) (P : Program) (dst : Option Nat) (type : TypeId) (op : Op) (ρ : Operand → SV) (loc : List (Option (List TV))) (st : St) (K : SV → List (Option (List TV)) → St → Prop) : Prop :=
  match isN P op with
  | true => (nres P st loc ρ op).K fun v => decSV P type v fun v' => K v' loc st
  | false => eop cfg P dst type op ρ loc st K

/-- The same, without the types. -/
def stepR (cfg : Cfg) (P : Program) (dst : Option Nat) (type : TypeId) (op : Op) (ρ : Operand → SV) (loc : List (Option (List TV))) (st : St) (K : SV → List (Option (List TV)) → St → Prop) : Prop :=
  match isN P op with
  | true => ∃ v, (nres P st loc ρ op).Is v ∧ K v loc st
  | false => eop cfg P dst type op ρ loc st K

theorem stepR_of {cfg : Cfg} {P : Program} {dst : Option Nat} {type : TypeId} {op : Op} {ρ : Operand → SV} {loc : List (Option (List TV))} {st : St} {K : SV → List (Option (List TV)) → St → Prop}
    (h : stepOp cfg P dst type op ρ loc st K) : stepR cfg P dst type op ρ loc st K := by
  unfold stepOp at h
  unfold stepR
  split
  · rename_i hn
    rw [hn] at h
    obtain ⟨v, hv, hk⟩ := NRes.K_iff.1 h
    exact ⟨v, hv, decSV_sound hk⟩
  · rename_i hn
    rw [hn] at h
    exact h

def dstOf (ops : Array Oper) (j : Nat) : Option Nat := (ops[j]?).bind (·.dst)

def putS (slots : List SV) (dst : Option Nat) (v : SV) : List SV :=
  match dst with
  | some d => slots.set d v
  | none => slots

def guardR (b : Bool) (run skip : Fr → Prop) (fr : Fr) : Prop := match b with | true => run fr | false => skip fr

def guardK (ops : Array Oper) (fr : Fr) (g : Option (Nat × Bool)) (run skip : Fr → Prop) : Prop :=
  match g with
  | none => run fr
  | some (j, want) => match dstOf ops j with
    | none => skip fr
    | some d => match fr.slots[d]? with
      | some (.t (.bool b)) => BIf b (guardR want run skip ⟨fr.slots.set d (.t (.bool true)), fr.loc⟩) (guardR (!want) run skip ⟨fr.slots.set d (.t (.bool false)), fr.loc⟩)
      | some (.t .undef) => skip fr
      | _ => False

/-- Is an operation carried out? -/
def wantT (ops : Array Oper) (slots : List SV) : Option (Nat × Bool) → Option Bool
  | none => some true
  | some (j, want) => match dstOf ops j with
    | none => some false
    | some d => match slots[d]? with
      | some (.t (.bool b)) => some (b == want)
      | some (.t .undef) => some false
      | _ => none

theorem set_same {slots : List SV} {d : Nat} {v : SV} (h : slots[d]? = some v) : slots.set d v = slots := by
  obtain ⟨hd, rfl⟩ := List.getElem?_eq_some_iff.1 h
  exact List.set_getElem_self hd

theorem guardK_want {ops : Array Oper} {fr : Fr} {g : Option (Nat × Bool)} {run skip : Fr → Prop} (h : guardK ops fr g run skip) :
    ∃ t, wantT ops fr.slots g = some t ∧ guardR t run skip fr := by
  unfold guardK at h
  unfold wantT
  split at h
  · exact ⟨true, rfl, h⟩
  · rename_i j want
    split at h
    · rename_i hd; exact ⟨false, by simp [hd], h⟩
    · rename_i d hd
      split at h
      · rename_i b hb
        refine ⟨b == want, by simp [hd, hb], ?_⟩
        cases b <;> simp only [BIf] at h <;> rw [set_same hb] at h <;> cases want <;> exact h
      · rename_i hb
        exact ⟨false, by simp [hd, hb], h⟩
      · exact h.elim

theorem wantT_sound {g : Ghost} {w : World} {ops : Array Oper} {fr : Fr} {tmps : Array Value} (hf : FRel g w fr tmps) (o : Oper) {t : Bool} (h : wantT ops fr.slots o.guard = some t) :
    Region.wanted o (yielded ops tmps) = t := by
  unfold wantT at h
  unfold Region.wanted
  split at h
  · rename_i hg; simp only [Option.some.injEq] at h; subst h; simp [hg]
  · rename_i j want hg
    simp only [hg]
    have hdst : dstOf ops j = (ops[j]?).bind (·.dst) := rfl
    split at h
    · rename_i hd
      simp only [Option.some.injEq] at h; subst h
      rw [hdst] at hd
      simp [yielded, hd]
    · rename_i d hd
      rw [hdst] at hd
      have hget : ∀ v, fr.slots[d]? = some v → ∃ u, tmps[d]? = some u ∧ SRel g w fr.loc v u := by
        intro v hv
        obtain ⟨hlt, rfl⟩ := List.getElem?_eq_some_iff.1 hv
        have hlt' : d < tmps.size := hf.1 ▸ hlt
        have := hf.2 d hlt
        rw [show tmps.getD d Go.undef = tmps[d] from by simp [hlt']] at this
        exact ⟨_, Array.getElem?_eq_getElem hlt', this⟩
      split at h
      · rename_i b hb
        simp only [Option.some.injEq] at h; subst h
        obtain ⟨u, hu, hr⟩ := hget _ hb
        have hr' : Rel g w (.bool b) u := hr
        cases hr'
        simp [yielded, hd, hu]
      · rename_i hb
        simp only [Option.some.injEq] at h; subst h
        obtain ⟨u, hu, hr⟩ := hget _ hb
        have hr' : Rel g w .undef u := hr
        cases hr'
        simp [yielded, hd, hu, Go.undef]
      · cases h

section
variable {P : Program} {g : Ghost} {st : St} {w : World}

theorem stepR_sound {loc : List (Option (List TV))} (s : Sim g st loc w) {cfg : Cfg} {ρ : Operand → SV} {ρc : Operand → Value} (o : Oper) (hρ : ∀ x, x ∈ o.op.operands → SRel g w loc (ρ x) (ρc x)) {K : SV → List (Option (List TV)) → St → Prop}
    (h : stepR cfg P o.dst o.type o.op ρ loc st K) : Done P (execOp ρc o) w (Left g w loc K) := by
  unfold stepR at h
  split at h
  · obtain ⟨v, hv, hK⟩ := h
    obtain ⟨u, hu, hr⟩ := nres_sound s o hρ hv
    simp only [Done, hu]
    exact ⟨v, loc, st, g, hK, s, hr, Ext.refl _ _, LocKeep.refl _ _⟩
  · exact eop_sound s o hρ h

theorem done_wp {o : Oper} {a : Act} {R : Value → World → Prop} {next : Act → World → Prop} {Q : Exit → Act → World → Prop} (h : Done P (execOp a.eval o) w R) (hn : ∀ v w', R v w' → next (a.put o.dst v) w') : o.wp P a w next Q := by
  unfold Done at h
  unfold Oper.wp Oper.upon
  split at h
  · rename_i v w' hr; simp only [hr]; exact hn _ _ h
  · rename_i w' hr; simp only [hr]; exact hn _ _ h
  · rename_i f args w' hr
    simp only [hr]
    exact h.mono fun e w'' ⟨v, he, hR⟩ => by subst he; exact hn _ _ hR
  · exact h.elim

theorem FRel.put {fr : Fr} {tmps : Array Value} (h : FRel g w fr tmps) {dst : Option Nat} {v : SV} {u : Value} (hv : SRel g w fr.loc v u) :
    FRel g w ⟨putS fr.slots dst v, fr.loc⟩ (match dst with | some d => tmps.setIfInBounds d u | none => tmps) := by
  cases dst with
  | none => exact h
  | some d =>
    refine ⟨by simp [putS, h.1], fun i hi => ?_⟩
    have hi' : i < fr.slots.length := by simpa [putS] using hi
    have hit : i < tmps.size := h.1 ▸ hi'
    simp only [putS, List.getElem_set]
    by_cases hd : d = i
    · subst hd
      simp [hit, hv]
    · have := h.2 i hi'
      simp only [hd, if_false]
      rw [show (tmps.setIfInBounds d u).getD i Go.undef = tmps.getD i Go.undef from by simp [Array.getD, hit, Array.getElem_setIfInBounds, hd]]
      exact this

theorem FRel.keep {g' : Ghost} {w' : World} {fr : Fr} {loc' : List (Option (List TV))} {tmps : Array Value} (h : FRel g w fr tmps) (e : Ext g w g' w') (k : LocKeep g fr.loc g' loc') : FRel g' w' ⟨fr.slots, loc'⟩ tmps :=
  ⟨h.1, fun i hi => (h.2 i hi).keep e k⟩

/-- What holds behind some operations. -/
def RPost (g : Ghost) (w : World) (a0 : Act) (K : Fr → St → Prop) (a : Act) (w' : World) : Prop :=
  ∃ fr st g', K fr st ∧ Sim g' st fr.loc w' ∧ FRel g' w' fr a.tmps ∧ Ext g w g' w' ∧ a.defers = a0.defers ∧ a.tmps.size = a0.tmps.size

theorem RPost.ext {g0 : Ghost} {w0 : World} {a0 a1 : Act} {K : Fr → St → Prop} {a : Act} {w' : World} (e : Ext g0 w0 g w) (h5 : a1.defers = a0.defers ∧ a1.tmps.size = a0.tmps.size) (h : RPost g w a1 K a w') : RPost g0 w0 a0 K a w' := by
  obtain ⟨fr, st, g', h1, h2, h3, h4, h6, h7⟩ := h
  exact ⟨fr, st, g', h1, h2, h3, e.trans h4, h6.trans h5.1, h7.trans h5.2⟩

theorem step_sound {cfg : Cfg} (ops : Array Oper) (o : Oper) {fr : Fr} {a : Act} {K : Fr → St → Prop} {t : Bool} (hw : wantT ops fr.slots o.guard = some t)
    (h : match t with
      | true => stepR cfg P o.dst o.type o.op (opS fr.slots) fr.loc st fun v loc' st' => K ⟨putS fr.slots o.dst v, loc'⟩ st'
      | false => K ⟨putS fr.slots o.dst (.t .undef), fr.loc⟩ st)
    (s : Sim g st fr.loc w) (hf : FRel g w fr a.tmps) {next : Act → World → Prop} {Q : Exit → Act → World → Prop} (hn : ∀ a' w', RPost g w a K a' w' → next a' w') :
    if Region.wanted o (yielded ops a.tmps) then o.wp P a w next Q else next (a.put o.dst Go.undef) w := by
  rw [wantT_sound hf o hw]
  cases t with
  | true =>
    simp only [if_true]
    have hd := stepR_sound s o (ρc := a.eval) (fun x _ => sRel_op hf x) h
    refine done_wp hd fun v w' hL => hn _ _ ?_
    obtain ⟨sv, loc', st', g', hK, s', hr, e', k'⟩ := hL
    refine ⟨_, st', g', hK, s', ?_, e', ?_⟩
    · have := (hf.keep e' k').put (dst := o.dst) hr
      cases hd : o.dst with
      | none => rw [hd] at this; exact this
      | some d => rw [hd] at this; exact this
    · cases o.dst <;> simp [Act.put]
  | false =>
    simp only [Bool.false_eq_true, if_false]
    refine hn _ _ ⟨_, st, g, h, s, ?_, Ext.refl _ _, ?_⟩
    · have := hf.put (dst := o.dst) (v := .t .undef) (u := Go.undef) Rel.undef
      cases hd : o.dst with
      | none => rw [hd] at this; exact this
      | some d => rw [hd] at this; exact this
    · cases o.dst <;> simp [Act.put]

/-- A region in the order of its text. -/
def regWp (cfg : Cfg) (P : Program) (ops : Array Oper) (K : Fr → St → Prop) : List Oper → Fr → St → Prop
  | [], fr, st => K fr st
  | o :: rest, fr, st => guardK ops fr o.guard
      (fun fr => stepOp cfg P o.dst o.type o.op (opS fr.slots) fr.loc st fun v loc' st' => regWp cfg P ops K rest ⟨putS fr.slots o.dst v, loc'⟩ st')
      (fun fr => regWp cfg P ops K rest ⟨putS fr.slots o.dst (.t .undef), fr.loc⟩ st)

theorem regWp_sound {cfg : Cfg} {ops : Array Oper} {K : Fr → St → Prop} {Q : Exit → Act → World → Prop} : ∀ (l : List Oper) (fr : Fr) (st : St) (g : Ghost) (w : World) (a : Act), regWp cfg P ops K l fr st → Sim g st fr.loc w → FRel g w fr a.tmps →
    (∀ a' w', RPost g w a K a' w' → Q .normal a' w') → wpList P ops Q l a w
  | [], fr, st, g, w, a, h, s, hf, hq => hq a w ⟨fr, st, g, h, s, hf, Ext.refl _ _, rfl, rfl⟩
  | o :: rest, fr, st, g, w, a, h, s, hf, hq => by
    obtain ⟨t, hw, hg⟩ := guardK_want h
    refine wpList_step fun next hnext => ?_
    refine step_sound (cfg := cfg) (K := regWp cfg P ops K rest) ops o hw ?_ s hf (fun a' w' hp => ?_)
    · cases t with
      | true => exact stepR_of hg
      | false => exact hg
    · obtain ⟨fr', st', g', h1, h2, h3, h4, h5⟩ := hp
      refine hnext _ _ (regWp_sound rest fr' st' g' w' a' h1 h2 h3 fun a'' w'' hp' => hq _ _ (hp'.ext h4 h5))

end
end Go.TVF
