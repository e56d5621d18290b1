/- Code and functions. -/
import Derived.Test.YtlbcpcdgpnppgaaDoorTvQ
set_option linter.unusedVariables false
set_option linter.unusedSimpArgs false
namespace Go.TVF
open Go.RowKit (Below)

/-- A loop whose measure stands beside the relation. -/
theorem wp_loop_rel {P : Program} {Q : Exit → Act → World → Prop} {a : Act} {w : World} {c : Code} (I : Nat → Act → World → Prop) (h₀ : ∃ m, I m a w)
    (round : ∀ m a w, I m a w → c.wp P (Exit.then (fun a' w' => ∃ m', m' < m ∧ I m' a' w') Q) a w) : (Code.loop c).wp P Q a w := by
  intro b k cs
  have key : ∀ m a w, I m a w → ∃ e a' w', Q e a' w' ∧ Arrives P (lone (b.at a (.code c :: .inLoop c :: k)) cs w) b k cs e a' w' := by
    intro m
    induction m using Nat.strongRecOn with
    | _ m ih =>
      intro a w hI
      obtain ⟨e, a₁, w₁, hq, harr⟩ := round m a w hI b (.inLoop c :: k) cs
      cases e with
      | normal =>
        obtain ⟨m', hlt, hI₁⟩ := hq
        obtain ⟨e₂, a₂, w₂, hq₂, harr₂⟩ := ih m' hlt a₁ w₁ hI₁
        exact ⟨e₂, a₂, w₂, hq₂, .of_steps (Steps.trans harr (.one step_inLoop)) harr₂⟩
      | exit id => exact ⟨_, a₁, w₁, hq, .pass (x := .inLoop c) rfl (fun _ _ => .inl (by simp)) harr⟩
      | goto l => exact ⟨_, a₁, w₁, hq, .pass (x := .inLoop c) rfl (fun _ _ => .inl (by simp)) harr⟩
      | ret => exact ⟨_, a₁, w₁, hq, .pass (x := .inLoop c) rfl (fun _ _ => .inl (by simp)) harr⟩
      | panic ch => exact ⟨_, a₁, w₁, hq, .pass (x := .inLoop c) rfl (fun _ _ => .inl (by simp)) harr⟩
      | outgrown => exact ⟨_, a₁, w₁, hq, .pass (x := .inLoop c) rfl (fun _ _ => .inl (by simp)) harr⟩
  obtain ⟨m, hm⟩ := h₀
  obtain ⟨e, a', w', hq, harr⟩ := key m a w hm
  exact ⟨e, a', w', hq, .of_steps (.one step_loop) harr⟩

theorem allC_start : ∀ {cs : List CTy} {vs : List TV} {I : Fun cs (St → Prop)} {M : Fun cs (St → Nat)} {B : List TV → Nat → St → Prop} {st : St}, AllC cs I M B → decLk cs vs I (fun p => p st) → ∃ m, B vs m st
  | [], [], I, M, B, st, h, hd => ⟨_, h st hd⟩
  | [], _ :: _, I, M, B, st, h, hd => hd.elim
  | _ :: _, [], I, M, B, st, h, hd => hd.elim
  | c :: cs, v :: vs, I, M, B, st, h, hd => by
    obtain ⟨y, rfl, hd2⟩ := decT_sound hd
    exact allC_start (B := fun l => B (enc c y :: l)) (h y) hd2

theorem allC_next : ∀ {cs : List CTy} {vs : List TV} {I : Fun cs (St → Prop)} {M : Fun cs (St → Nat)} {B : List TV → Nat → St → Prop} {st : St} {m : Nat}, AllC cs I M B → decL2 cs vs I M (fun p q => p st ∧ q st < m) → ∃ m', m' < m ∧ B vs m' st
  | [], [], I, M, B, st, m, h, hd => ⟨_, hd.2, h st hd.1⟩
  | [], _ :: _, I, M, B, st, m, h, hd => hd.elim
  | _ :: _, [], I, M, B, st, m, h, hd => hd.elim
  | c :: cs, v :: vs, I, M, B, st, m, h, hd => by
    obtain ⟨y, rfl, hd2⟩ := decT_sound hd
    exact allC_next (B := fun l => B (enc c y :: l)) (h y) hd2

theorem allC1_start : ∀ {cs : List CTy} {vs : List TV} {I : Fun cs (St → Prop)} {B : List TV → St → Prop} {st : St}, AllC1 cs I B → decLk cs vs I (fun p => p st) → B vs st
  | [], [], I, B, st, h, hd => h st hd
  | [], _ :: _, I, B, st, h, hd => hd.elim
  | _ :: _, [], I, B, st, h, hd => hd.elim
  | c :: cs, v :: vs, I, B, st, h, hd => by
    obtain ⟨y, rfl, hd2⟩ := decT_sound hd
    exact allC1_start (B := fun l => B (enc c y :: l)) (h y) hd2

/-- What holds where code is left. -/
def QPost (g : Ghost) (w : World) (a0 : Act) (Q : Exit → Fr → St → Prop) (e : Exit) (a : Act) (w' : World) : Prop := RPost g w a0 (Q e) a w'

section
variable {P : Program} {cfg : Cfg} {ns nl : Nat}

theorem cwp_sound (hm : P.follows .mixedOrders = true) : ∀ (c : Code) (h : Hint) (Q : Exit → Fr → St → Prop) (fr : Fr) (st : St) (g : Ghost) (w : World) (a : Act), cwp cfg P ns nl c h Q fr st → Sim g st fr.loc w → FRel g w fr a.tmps → a.tmps.size = ns →
    c.wp P (QPost g w a Q) a w := by
  intro c
  induction c with
  | skip => intro h Q fr st g w a hc s hf hn; exact wp_skip ⟨fr, st, g, hc, s, hf, Ext.refl _ _, rfl, rfl⟩
  | region id ops draw =>
    intro h Q fr st g w a hc s hf hn
    cases draw with
    | false => exact wp_region_list (regWp_sound ops.toList fr st g w a hc s hf fun a' w' hp => hp)
    | true => exact drawWp_sound hm hc s hf fun a' w' hp => hp
  | seq x y ihx ihy =>
    intro h Q fr st g w a hc s hf hn
    have key : ∀ (hx hy : Hint), cwp cfg P ns nl x hx (thenQ (cwp cfg P ns nl y hy Q) Q) fr st → (Code.seq x y).wp P (QPost g w a Q) a w := by
      intro hx hy hcx
      refine wp_seq (wp_mono (ihx hx _ fr st g w a hcx s hf hn) fun e a' w' hq => ?_)
      obtain ⟨fr', st', g', h1, h2, h3, h4, h5⟩ := hq
      cases e with
      | normal =>
        refine wp_mono (ihy hy Q fr' st' g' w' a' h1 h2 h3 (h5.2.trans hn)) fun e a'' w'' hq2 => ?_
        exact hq2.ext h4 h5
      | _ => exact ⟨fr', st', g', h1, h2, h3, h4, h5⟩
    cases h with
    | cut k hx hy =>
      obtain ⟨R, h1, h2⟩ := hc
      refine wp_seq (wp_mono (ihx hx _ fr st g w a h1 s hf hn) fun e a' w' hq => ?_)
      obtain ⟨fr', st', g', q1, q2, q3, q4, q5⟩ := hq
      cases e with
      | normal =>
        have q1' : need (k.ok nl fr') (decLk k.tys (k.vals fr') R fun p => p st') := q1
        rw [need_iff] at q1'
        obtain ⟨w1, w2⟩ := Keep.weak (ns := ns) q1'.1 q2 q3 (q5.2.trans hn)
        have hb := allC1_start h2 q1'.2
        exact wp_mono (ihy hy Q _ st' g' w' a' hb w1 w2 (q5.2.trans hn)) fun e a'' w'' hq2 => hq2.ext q4 q5
      | _ => exact ⟨fr', st', g', q1, q2, q3, q4, q5⟩
    | none => exact key _ _ hc
    | seq p q => exact key _ _ hc
    | cond p q => exact key _ _ hc
    | block p => exact key _ _ hc
    | loop k p => exact key _ _ hc
  | cond c x y ihx ihy =>
    intro h Q fr st g w a hc s hf hn
    simp only [cwp] at hc
    split at hc
    · rename_i b hb
      have hr := sRel_op hf c
      rw [hb] at hr
      have hr' : Rel g w (.bool b) (a.eval c) := hr
      have hev : a.eval c = .bool b := by generalize a.eval c = q at hr'; cases hr'; rfl
      cases b with
      | true => exact wp_cond_true hev (ihx h.l Q fr st g w a hc s hf hn)
      | false => exact wp_cond_false hev (ihy h.r Q fr st g w a hc s hf hn)
    · exact hc.elim
  | block id x ih =>
    intro h Q fr st g w a hc s hf hn
    refine wp_block (wp_mono (ih h.l (blockQ id Q) fr st g w a hc s hf hn) fun e a' w' hq => ?_)
    obtain ⟨fr', st', g', h1, h2, h3, h4, h5⟩ := hq
    cases e with
    | exit id' =>
      simp only [blockQ] at h1
      by_cases hid : id' = id
      · subst hid
        have hbe : (id'.beq id') = true := Nat.beq_refl id'
        simp only [hbe] at h1
        simp only [Exit.inBlock, if_true]
        exact ⟨fr', st', g', h1, h2, h3, h4, h5⟩
      · have hbe : (id'.beq id) = false := by
          cases hq : id'.beq id with
          | false => rfl
          | true => exact absurd (Nat.eq_of_beq_eq_true hq) hid
        simp only [hbe] at h1
        simp only [Exit.inBlock, hid, if_false]
        exact ⟨fr', st', g', h1, h2, h3, h4, h5⟩
    | _ => exact ⟨fr', st', g', h1, h2, h3, h4, h5⟩
  | loop x ih =>
    intro h Q fr st g w a hc s hf hn
    cases h with
    | loop k hx =>
      obtain ⟨I, M, h1, h2⟩ := hc
      rw [need_iff] at h1
      refine wp_loop_rel (fun m a' w' => ∃ vals st' g', cwp cfg P ns nl x hx (thenQ (fun fr st => need (k.ok nl fr) (decL2 k.tys (k.vals fr) I M fun p q => p st ∧ q st < m)) Q) (k.frame ns nl vals) st' ∧
        Sim g' st' (k.frame ns nl vals).loc w' ∧ FRel g' w' (k.frame ns nl vals) a'.tmps ∧ Ext g w g' w' ∧ a'.defers = a.defers ∧ a'.tmps.size = a.tmps.size) ?_ ?_
      · obtain ⟨m, hm⟩ := allC_start h2 h1.2
        obtain ⟨w1, w2⟩ := Keep.weak (ns := ns) h1.1 s hf hn
        exact ⟨m, _, st, g, hm, w1, w2, Ext.refl _ _, rfl, rfl⟩
      · rintro m a' w' ⟨vals, st', g', q1, q2, q3, q4, q5⟩
        refine wp_mono (ih hx _ _ st' g' w' a' q1 q2 q3 (q5.2.trans hn)) fun e a'' w'' hq => ?_
        obtain ⟨fr2, st2, g2, r1, r2, r3, r4, r5⟩ := hq
        cases e with
        | normal =>
          have r1' : need (k.ok nl fr2) (decL2 k.tys (k.vals fr2) I M fun p q => p st2 ∧ q st2 < m) := r1
          rw [need_iff] at r1'
          obtain ⟨m', hlt, hB⟩ := allC_next h2 r1'.2
          obtain ⟨w1, w2⟩ := Keep.weak (ns := ns) r1'.1 r2 r3 (r5.2.trans (q5.2.trans hn))
          exact ⟨m', hlt, _, st2, g2, hB, w1, w2, q4.trans r4, r5.1.trans q5.1, r5.2.trans q5.2⟩
        | _ => exact ⟨fr2, st2, g2, r1, r2, r3, q4.trans r4, r5.1.trans q5.1, r5.2.trans q5.2⟩
    | _ => exact hc.elim
  | exit id => intro h Q fr st g w a hc s hf hn; exact wp_exit ⟨fr, st, g, hc, s, hf, Ext.refl _ _, rfl, rfl⟩
  | ret => intro h Q fr st g w a hc s hf hn; exact wp_ret ⟨fr, st, g, hc, s, hf, Ext.refl _ _, rfl, rfl⟩
  | _ => intro h Q fr st g w a hc s hf hn; exact hc.elim

/-! Functions. -/

def resOne (P : Program) (fr : Fr) (st : St) : ResultVar → Option TV
  | .tmp t => some (slotTV fr t)
  | .cell a t => match aggK P t with
    | some true => match P.cellsOf t with
      | 0 => none
      | n => match fr.slots[a]? with | some p => (ldCells st fr.loc p 0 n).map .agg | none => none
    | some false => match fr.slots[a]? with | some p => ldCell st fr.loc p 0 | none => none
    | none => none

def resAll (P : Program) (fr : Fr) (st : St) : List ResultVar → Option (List TV)
  | [] => some []
  | r :: rs => match resOne P fr st r with
    | some v => (resAll P fr st rs).map (v :: ·)
    | none => none

def tupT : List TV → TV
  | [v] => v
  | vs => .tuple vs

def resT (P : Program) (fn : Func) (fr : Fr) (st : St) : Option TV := (resAll P fr st fn.results.toList).map tupT

def resOneK (P : Program) (fr : Fr) (st : St) (r : ResultVar) (k : TV → Prop) : Prop :=
  match r with
  | .tmp t => k (slotTV fr t)
  | .cell a t => match aggK P t with
    | some true => match P.cellsOf t with
      | 0 => False
      | n => match fr.slots[a]? with | some p => optK ((ldCells st fr.loc p 0 n).map .agg) k | none => False
    | some false => match fr.slots[a]? with | some p => optK (ldCell st fr.loc p 0) k | none => False
    | none => False
def resAllK (P : Program) (fr : Fr) (st : St) : List ResultVar → (List TV → Prop) → Prop
  | [], k => k []
  | r :: rs, k => resOneK P fr st r fun v => resAllK P fr st rs fun vs => k (v :: vs)

theorem resOneK_sound {P : Program} {fr : Fr} {st : St} {r : ResultVar} {k : TV → Prop} (h : resOneK P fr st r k) : ∃ v, resOne P fr st r = some v ∧ k v := by
  cases r with
  | tmp t => exact ⟨_, rfl, h⟩
  | cell a t =>
    unfold resOneK at h
    unfold resOne
    simp only at h ⊢
    cases ha : aggK P t with
    | none => rw [ha] at h; exact h.elim
    | some b =>
      rw [ha] at h
      cases b with
      | true =>
        simp only at h ⊢
        cases hn : P.cellsOf t with
        | zero => rw [hn] at h; exact h.elim
        | succ n =>
          rw [hn] at h
          simp only at h ⊢
          cases hp : fr.slots[a]? with
          | none => rw [hp] at h; exact h.elim
          | some p => rw [hp] at h; exact optK_iff.1 h
      | false =>
        simp only at h ⊢
        cases hp : fr.slots[a]? with
        | none => rw [hp] at h; exact h.elim
        | some p => rw [hp] at h; exact optK_iff.1 h
theorem resAllK_sound {P : Program} {fr : Fr} {st : St} : ∀ {rs : List ResultVar} {k : List TV → Prop}, resAllK P fr st rs k → ∃ vs, resAll P fr st rs = some vs ∧ k vs
  | [], k, h => ⟨[], rfl, h⟩
  | r :: rs, k, h => by
    obtain ⟨v, h1, h2⟩ := resOneK_sound h
    obtain ⟨vs, h3, h4⟩ := resAllK_sound h2
    exact ⟨v :: vs, by simp [resAll, h1, h3], h4⟩

def retQ (P : Program) (fn : Func) (R : TV → St → Prop) : Exit → Fr → St → Prop
  | .normal, fr, st => resAllK P fr st fn.results.toList fun vs => R (tupT vs) st
  | .ret, fr, st => resAllK P fr st fn.results.toList fun vs => R (tupT vs) st
  | _, _, _ => False

def initFr (cfg : Cfg) (fn : Func) (args : List TV) : Fr := ⟨args.map SV.t ++ List.replicate (fn.ntmps - args.length) (.t .undef), cfg.loc.map fun _ => none⟩

theorem resOne_sound {g : Ghost} {st : St} {w : World} {fr : Fr} {tmps : Array Value} (s : Sim g st fr.loc w) (hf : FRel g w fr tmps) {r : ResultVar} {v : TV} (h : resOne P fr st r = some v) :
    ∃ u, (match r with | .tmp t => pure (tmps.getD t Go.undef) | .cell a t => do loadVar t (← asAddr (tmps.getD a Go.undef)) : Sem Value).run P w = .ok u w ∧ Rel g w v u := by
  have hs : ∀ a p, fr.slots[a]? = some p → SRel g w fr.loc p (tmps.getD a Go.undef) := by
    intro a p hp
    obtain ⟨hlt, rfl⟩ := List.getElem?_eq_some_iff.1 hp
    exact hf.2 a hlt
  cases r with
  | tmp t =>
    simp only [resOne, Option.some.injEq] at h
    subst h
    refine ⟨_, rfl, ?_⟩
    unfold slotTV
    rw [List.getD_eq_getElem?_getD]
    cases hq : fr.slots[t]? with
    | none => exact .junk _
    | some p => exact (hs t p hq).tv
  | cell a t =>
    simp only [resOne] at h
    have hld : ∀ p, SRel g w fr.loc p (tmps.getD a Go.undef) → (loadN P st fr.loc t p).Is (.t v) → ∃ u, (do loadVar t (← asAddr (tmps.getD a Go.undef)) : Sem Value).run P w = .ok u w ∧ Rel g w v u := by
      intro p hp hl
      have hl' := hl
      obtain ⟨u, hu, hr⟩ := load_gives (P := P) s hp hl'
      have hsa : (Instr.loadAt t (tmps.getD a Go.undef)).run P w = (do loadVar t (← asAddr (tmps.getD a Go.undef)) : Sem Value).run P w := by
        generalize hq : tmps.getD a Go.undef = q at hp hu
        simp only [Instr.loadAt, Sem.run_bind]
        cases q with
        | pointer o => cases o with
          | none => simp [Instr.loadAt, Instr.sureAddr] at hu
          | some ad => simp [Instr.sureAddr, asAddr]
        | _ => simp [Instr.loadAt, Instr.sureAddr] at hu
      exact ⟨u, by rw [← hsa]; exact hu, hr⟩
    split at h
    · rename_i ha
      split at h
      · cases h
      · rename_i n hn
        split at h
        · rename_i p hp
          refine hld p (hs a p hp) ?_
          unfold loadN
          rw [ha]
          exact ⟨v, by
            split
            · rename_i h0; exact absurd h0 hn
            · exact h, rfl⟩
        · cases h
    · rename_i ha
      split at h
      · rename_i p hp
        refine hld p (hs a p hp) ?_
        unfold loadN
        rw [ha]
        exact ⟨v, h, rfl⟩
      · cases h
    · cases h

theorem resAll_sound {g : Ghost} {st : St} {w : World} {fr : Fr} {tmps : Array Value} (s : Sim g st fr.loc w) (hf : FRel g w fr tmps) : ∀ {rs : List ResultVar} {vs : List TV}, resAll P fr st rs = some vs →
    ∃ us : List Value, (rs.mapM (fun r => match r with | .tmp t => pure (tmps.getD t Go.undef) | .cell a t => do loadVar t (← asAddr (tmps.getD a Go.undef))) : Sem (List Value)).run P w = .ok us w ∧ RelL g w vs us
  | [], vs, h => by simp only [resAll, Option.some.injEq] at h; subst h; exact ⟨[], rfl, .nil _ _⟩
  | r :: rs, vs, h => by
    simp only [resAll] at h
    split at h
    · rename_i v hv
      obtain ⟨vs', hvs', rfl⟩ := Option.map_eq_some_iff.1 h
      obtain ⟨u, hu, hr⟩ := resOne_sound s hf hv
      obtain ⟨us, hus, hrs⟩ := resAll_sound s hf hvs'
      refine ⟨u :: us, ?_, .cons hr hrs⟩
      rw [List.mapM_cons]
      simp only [Sem.run_bind, hu, Result.andThen_ok, hus, Sem.run_pure]
    · cases h

theorem resT_sound {g : Ghost} {st : St} {w : World} {fr : Fr} {tmps : Array Value} (s : Sim g st fr.loc w) (hf : FRel g w fr tmps) {fn : Func} {v : TV} (h : resT P fn fr st = some v) : ∃ u, (results fn tmps).run P w = .ok u w ∧ Rel g w v u := by
  unfold resT at h
  cases hr : resAll P fr st fn.results.toList with
  | none => rw [hr] at h; cases h
  | some vs =>
    rw [hr] at h
    obtain ⟨us, hus, hrel⟩ := resAll_sound s hf hr
    have hrun : (fn.results.mapM (fun r => match r with | .tmp t => pure (tmps.getD t Go.undef) | .cell a t => do loadVar t (← asAddr (tmps.getD a Go.undef))) : Sem (Array Value)).run P w = .ok us.toArray w := by
      rw [← Array.toArray_toList (xs := fn.results), List.mapM_toArray]
      simp only [Sem.run_map, hus, Result.andThen_ok]
    refine ⟨if h : us.toArray.size = 1 then us.toArray[0] else .tuple us.toArray, ?_, ?_⟩
    · have hres : results fn tmps = (do
          let vs ← (fn.results.mapM (fun r => match r with | .tmp t => pure (tmps.getD t Go.undef) | .cell a t => do loadVar t (← asAddr (tmps.getD a Go.undef))) : Sem (Array Value))
          pure (if h : vs.size = 1 then vs[0] else .tuple vs)) := rfl
      rw [hres, Sem.run_bind, hrun]
      rfl
    · cases vs with
      | nil =>
        simp only [Option.map_some, Option.some.injEq, tupT] at h; subst h
        have : us = [] := List.eq_nil_of_length_eq_zero hrel.1.symm
        subst this
        exact Rel.tuple [] [] rfl (fun i hi => absurd hi (Nat.not_lt_zero _))
      | cons v1 vs1 => cases vs1 with
        | nil =>
          simp only [Option.map_some, Option.some.injEq, tupT] at h; subst h
          cases us with
          | nil => have := hrel.1; simp at this
          | cons u1 us1 =>
            have : us1 = [] := List.eq_nil_of_length_eq_zero (by have := hrel.1; simpa using this.symm)
            subst this
            simpa using hrel.2 0 (by simp)
        | cons v2 vs2 =>
          simp only [Option.map_some, Option.some.injEq, tupT] at h; subst h
          have hl : us.toArray.size ≠ 1 := by have := hrel.1; simp at this ⊢; omega
          rw [dif_neg hl]
          exact Rel.tuple _ us hrel.1 hrel.2

/-- A function by its text. -/
theorem tcalls_of (hm : P.follows .mixedOrders = true) {f : FuncId} {fn : Func} {c : Code} (hcall : ∀ (vs : Array Value) (w : World), (callFunc f vs).run P w = .ok (.enter f vs) w) (hf : P.funcs[f]? = some fn) (hb : fn.body = some c)
    (cfg : Cfg) (h : Hint) {args : List TV} {st : St} {R : TV → St → Prop} (hn : args.length ≤ fn.ntmps)
    (hc : cwp cfg P fn.ntmps cfg.loc.length c h (retQ P fn R) (initFr cfg fn args) st) : TCalls P f args st R := by
  refine tcalls_enter hcall fun g w vargs s hr => ?_
  refine calls_of_wp hf hb ?_
  have hlen : vargs.length = args.length := hr.1.symm
  have hsize : (vargs.toArray ++ Array.replicate (fn.ntmps - vargs.toArray.size) Go.undef).size = fn.ntmps := by simp; omega
  have hsim : Sim g st (initFr cfg fn args).loc w := s.weakLoc fun j x' hx' => by
    simp only [initFr, List.getElem?_map] at hx'
    cases hq : cfg.loc[j]? with
    | none => rw [hq] at hx'; cases hx'
    | some q => rw [hq] at hx'; simp at hx'
  have hfr : FRel g w (initFr cfg fn args) (vargs.toArray ++ Array.replicate (fn.ntmps - vargs.toArray.size) Go.undef) := by
    refine ⟨by rw [hsize]; simp [initFr]; omega, fun i hi => ?_⟩
    have hin : i < fn.ntmps := by simp [initFr] at hi; omega
    by_cases hia : i < args.length
    · have h1 : (initFr cfg fn args).slots[i] = .t args[i] := by simp [initFr, List.getElem_append, hia]
      have h2 : (vargs.toArray ++ Array.replicate (fn.ntmps - vargs.toArray.size) Go.undef).getD i Go.undef = vargs.getD i Go.undef := by
        have : i < vargs.length := by omega
        simp [Array.getD, Array.getElem_append, this, hin, List.getD_eq_getElem?_getD]
        omega
      rw [h1, h2]
      exact hr.2 i hia
    · have h1 : (initFr cfg fn args).slots[i] = .t .undef := by simp [initFr, List.getElem_append, hia]
      have h2 : (vargs.toArray ++ Array.replicate (fn.ntmps - vargs.toArray.size) Go.undef).getD i Go.undef = Go.undef := by
        have : ¬ i < vargs.length := by omega
        simp [Array.getD, Array.getElem_append, this]
      rw [h1, h2]
      exact Rel.undef
  refine wp_mono (cwp_sound hm c h _ _ st g w { tmps := vargs.toArray ++ Array.replicate (fn.ntmps - vargs.toArray.size) Go.undef, defers := [] } hc hsim hfr hsize) fun e a' w' hq => ?_
  obtain ⟨fr', st', g', h1, h2, h3, h4, h5, h6⟩ := hq
  have fin : resAllK P fr' st' fn.results.toList (fun vs => R (tupT vs) st') → a'.defers = [] ∧ ∃ v, (results fn a'.tmps).run P w' = .ok v w' ∧ ∃ v', Ending.returned v = .returned v' ∧ ∃ r st' g', R r st' ∧ Sim g' st' [] w' ∧ Rel g' w' r v' ∧ Ext g w g' w' := by
    intro ho
    obtain ⟨vs, hvs, hR⟩ := resAllK_sound ho
    obtain ⟨u, hu, hrel⟩ := resT_sound (fn := fn) h2 h3 (by unfold resT; rw [hvs]; rfl)
    exact ⟨h5, u, hu, u, rfl, _, st', g', hR, h2.dropLoc (fun j x hx => by simp at hx), hrel, h4⟩
  cases e with
  | normal => exact fin h1
  | ret => exact fin h1
  | _ => exact h1.elim

/-! The start. -/

def St.zero : St := { nb := 0, box := fun _ => .dead, nt := 0, live := fun _ => false, ty := fun _ => none, bt := fun _ => none }

def Ghost.start (w : World) : Ghost := { base := w.heap.size, w0 := w, nb := 0, bk := fun _ => 0, lam := fun _ => 0, nt := 0, sp := fun _ => none, S := fun a => a.spot = none ∧ ∃ v, w.cell? a = some v, prot := fun _ => False }

theorem Sim.start (w : World) (hG : ∀ w', Below w.heap.size w w' → GlobOK w') : Sim (Ghost.start w) St.zero [] w := by
  have hd : ∀ k, ¬ Dom St.zero [] k := by
    intro k d
    cases k with
    | box i => exact absurd d (Nat.not_lt_zero _)
    | loc i => obtain ⟨x, hx⟩ := d; simp at hx
  exact ⟨rfl, rfl, Below.refl _ _, Nat.le_refl _, fun k d => absurd d (hd k), fun k k' d => absurd d (hd k), fun k d => absurd d (hd k), fun id h => absurd h (Nat.not_lt_zero _),
    fun id b l h hh => (by cases hh), fun i j b l h l' h' _ hh => (by cases hh), fun id _ => rfl, fun a ha => ⟨ha.1, ha.2, fun k d => absurd d (hd k), fun id l h hh => (by cases hh)⟩, fun b hb => hb.elim, fun id b l h hh => (by cases hh), fun id b l h T hh => (by cases hh), fun b T hb => absurd hb (Nat.not_lt_zero _), hG⟩

/-- The law's call. -/
theorem calls_true {f : FuncId} {args : List TV} (hcall : ∀ (vs : Array Value) (w : World), (callFunc f vs).run P w = .ok (.enter f vs) w) (h : TCalls P f args St.zero fun r _ => r = .bool true) (w : World) (hG : ∀ w', Below w.heap.size w w' → GlobOK w') (vargs : List Value) (hr : RelL (Ghost.start w) w args vargs) :
    Calls P f vargs.toArray w fun e w' => e = .returned (.bool true) ∧ Below w.heap.size w w' := by
  have h1 := h.run (Ghost.start w) w vargs (Sim.start w hG) hr
  unfold Done at h1
  rw [hcall] at h1
  refine Calls.mono h1 ?_
  rintro e w' ⟨v, rfl, r, st', g', rfl, s', hrel, e'⟩
  have hb := s'.below
  rw [e'.base, e'.w0] at hb
  cases hrel
  exact ⟨rfl, hb⟩

end

def bodyOf (fn : Func) : Code := match fn.body with | some c => c | none => .skip

/-- A function by its text, as a program's fact has it. -/
def Fw (cfg : Cfg) (P : Program) (h : Hint) (fn : Func) (args : List TV) (st : St) (R : TV → St → Prop) : Prop :=
  cwp cfg P fn.ntmps cfg.loc.length (bodyOf fn) h (retQ P fn R) (initFr cfg fn args) st

def fits (fn : Func) (args : List TV) : Bool := (fn.body.isSome).and (args.length.ble fn.ntmps)

theorem tcalls_fw {P : Program} (hm : P.follows .mixedOrders = true) {f : FuncId} {fn : Func} (hcall : ∀ (vs : Array Value) (w : World), (callFunc f vs).run P w = .ok (.enter f vs) w) (hf : P.funcs[f]? = some fn)
    {cfg : Cfg} {h : Hint} {args : List TV} {st : St} {R : TV → St → Prop} (hn : fits fn args = true) {V : Prop} (he : Fw cfg P h fn args st R = V) (hV : V) : TCalls P f args st R := by
  simp only [fits, Bool.and_eq_true] at hn
  obtain ⟨c, hc⟩ := Option.isSome_iff_exists.1 hn.1
  have hb : fn.body = some (bodyOf fn) := by rw [bodyOf, hc]
  rw [← he] at hV
  exact tcalls_of hm hcall hf hb cfg h (Nat.le_of_ble_eq_true hn.2) hV

/-- An aggregate, cell by cell. -/
def decA (cs : List CTy) (v : TV) (f : Fun cs Prop) : Prop :=
  match v with
  | .agg l => decL cs l f
  | _ => False

/-- A store through a pointer to a box. -/
def stB (st : St) (p : TV) (xs : List TV) (k : St → Prop) : Prop :=
  match p with
  | .box b off => ∃ l, st.box b = .cells l ∧ off + xs.length ≤ l.length ∧ k (st.put b (.cells (setAll l off xs)))
  | _ => False

theorem BIf_intro {p : Prop} [Decidable p] {x y : Prop} (h1 : p → x) (h2 : ¬ p → y) : BIf (decide p) x y := by
  by_cases h : p
  · simp only [h, decide_true, BIf]; exact h1 h
  · simp only [h, decide_false, BIf]; exact h2 h
theorem BIf_bool {b : Bool} {x y : Prop} (h1 : b = true → x) (h2 : b = false → y) : BIf b x y := by
  cases b
  · exact h2 rfl
  · exact h1 rfl

end Go.TVF
