/- What the laws below rest on: a framework for Go programs, and contracts of the functions that they reach. -/
import Derived.Test.YtagglahlkknacaaGreatDoorDfB
import Derived.Deep.Slices
import Derived.WideShapes
import Derived.ChangeArms
import Derived.OpenShut
import Derived.Lib.DecodeN
import Derived.Test.YtagglahlkknacaaGreatDoorProg
import Derived.KernelRfl
section
set_option linter.unusedVariables false
set_option linter.unusedSimpArgs false
namespace Go.TVF
open Go.RowKit (Below)
/-- A loop whose measure stands beside the relation. -/
theorem wp_loop_rel {P : Program} {Q : Exit → Act → World → Prop} {a : Act} {w : World} {c : Code} (I : Nat → Act → World → Prop) (h₀ : ∃ m, I m a w)
    (round : ∀ m a w, I m a w → c.wp P (Exit.then (fun a' w' => ∃ m', m' < m ∧ I m' a' w') Q) a w) : (Code.loop c).wp P Q a w := by
  intro b k cs
  have key : ∀ m a w, I m a w → ∃ e a' w', Q e a' w' ∧ Arrives P (lone (b.at a (.code c :: .inLoop c :: k)) cs w) b k cs e a' w' := by
    intro m
    induction m using Nat.strongRecOn with
    | _ m ih =>
      intro a w hI
      obtain ⟨e, a₁, w₁, hq, harr⟩ := round m a w hI b (.inLoop c :: k) cs
      cases e with
      | normal =>
        obtain ⟨m', hlt, hI₁⟩ := hq
        obtain ⟨e₂, a₂, w₂, hq₂, harr₂⟩ := ih m' hlt a₁ w₁ hI₁
        exact ⟨e₂, a₂, w₂, hq₂, .of_steps (Steps.trans harr (.one step_inLoop)) harr₂⟩
      | exit id => exact ⟨_, a₁, w₁, hq, .pass (x := .inLoop c) rfl (fun _ _ => .inl (by simp)) harr⟩
      | goto l => exact ⟨_, a₁, w₁, hq, .pass (x := .inLoop c) rfl (fun _ _ => .inl (by simp)) harr⟩
      | ret => exact ⟨_, a₁, w₁, hq, .pass (x := .inLoop c) rfl (fun _ _ => .inl (by simp)) harr⟩
      | panic ch => exact ⟨_, a₁, w₁, hq, .pass (x := .inLoop c) rfl (fun _ _ => .inl (by simp)) harr⟩
      | outgrown => exact ⟨_, a₁, w₁, hq, .pass (x := .inLoop c) rfl (fun _ _ => .inl (by simp)) harr⟩
  obtain ⟨m, hm⟩ := h₀
  obtain ⟨e, a', w', hq, harr⟩ := key m a w hm
  exact ⟨e, a', w', hq, .of_steps (.one step_loop) harr⟩
theorem allC_start : ∀ {cs : List CTy} {vs : List TV} {I : Fun cs (St → Prop)} {M : Fun cs (St → Nat)} {B : List TV → Nat → St → Prop} {st : St}, AllC cs I M B → decLk cs vs I (fun p => p st) → ∃ m, B vs m st
  | [], [], I, M, B, st, h, hd => ⟨_, h st hd⟩
  | [], _ :: _, I, M, B, st, h, hd => hd.elim
  | _ :: _, [], I, M, B, st, h, hd => hd.elim
  | c :: cs, v :: vs, I, M, B, st, h, hd => by
    obtain ⟨y, rfl, hd2⟩ := decT_sound hd
    exact allC_start (B := fun l => B (enc c y :: l)) (h y) hd2
theorem allC_next : ∀ {cs : List CTy} {vs : List TV} {I : Fun cs (St → Prop)} {M : Fun cs (St → Nat)} {B : List TV → Nat → St → Prop} {st : St} {m : Nat}, AllC cs I M B → decL2 cs vs I M (fun p q => p st ∧ q st < m) → ∃ m', m' < m ∧ B vs m' st
  | [], [], I, M, B, st, m, h, hd => ⟨_, hd.2, h st hd.1⟩
  | [], _ :: _, I, M, B, st, m, h, hd => hd.elim
  | _ :: _, [], I, M, B, st, m, h, hd => hd.elim
  | c :: cs, v :: vs, I, M, B, st, m, h, hd => by
    obtain ⟨y, rfl, hd2⟩ := decT_sound hd
    exact allC_next (B := fun l => B (enc c y :: l)) (h y) hd2
theorem allC1_start : ∀ {cs : List CTy} {vs : List TV} {I : Fun cs (St → Prop)} {B : List TV → St → Prop} {st : St}, AllC1 cs I B → decLk cs vs I (fun p => p st) → B vs st
  | [], [], I, B, st, h, hd => h st hd
  | [], _ :: _, I, B, st, h, hd => hd.elim
  | _ :: _, [], I, B, st, h, hd => hd.elim
  | c :: cs, v :: vs, I, B, st, h, hd => by
    obtain ⟨y, rfl, hd2⟩ := decT_sound hd
    exact allC1_start (B := fun l => B (enc c y :: l)) (h y) hd2
/-- What holds where code is left. -/
def QPost (g : Ghost) (w : World) (a0 : Act) (Q : Exit → Fr → St → Prop) (e : Exit) (a : Act) (w' : World) : Prop := RPost g w a0 (Q e) a w'
section
variable {P : Program} {cfg : Cfg} {ns nl : Nat}
theorem cwp_sound (hm : P.follows .mixedOrders = true) : ∀ (c : Code) (h : Hint) (Q : Exit → Fr → St → Prop) (fr : Fr) (st : St) (g : Ghost) (w : World) (a : Act), cwp cfg P ns nl c h Q fr st → Sim g st fr.loc w → FRel g w fr a.tmps → a.tmps.size = ns →
    c.wp P (QPost g w a Q) a w := by
  intro c
  induction c with
  | skip => intro h Q fr st g w a hc s hf hn; exact wp_skip ⟨fr, st, g, hc, s, hf, Ext.refl _ _, rfl, rfl⟩
  | region id ops draw =>
    intro h Q fr st g w a hc s hf hn
    cases draw with
    | false => exact wp_region_list (regWp_sound ops.toList fr st g w a hc s hf fun a' w' hp => hp)
    | true => exact drawWp_sound hm hc s hf fun a' w' hp => hp
  | seq x y ihx ihy =>
    intro h Q fr st g w a hc s hf hn
    have key : ∀ (hx hy : Hint), cwp cfg P ns nl x hx (thenQ (cwp cfg P ns nl y hy Q) Q) fr st → (Code.seq x y).wp P (QPost g w a Q) a w := by
      intro hx hy hcx
      refine wp_seq (wp_mono (ihx hx _ fr st g w a hcx s hf hn) fun e a' w' hq => ?_)
      obtain ⟨fr', st', g', h1, h2, h3, h4, h5⟩ := hq
      cases e with
      | normal =>
        refine wp_mono (ihy hy Q fr' st' g' w' a' h1 h2 h3 (h5.2.trans hn)) fun e a'' w'' hq2 => ?_
        exact hq2.ext h4 h5
      | _ => exact ⟨fr', st', g', h1, h2, h3, h4, h5⟩
    cases h with
    | cut k hx hy =>
      obtain ⟨R, h1, h2⟩ := hc
      refine wp_seq (wp_mono (ihx hx _ fr st g w a h1 s hf hn) fun e a' w' hq => ?_)
      obtain ⟨fr', st', g', q1, q2, q3, q4, q5⟩ := hq
      cases e with
      | normal =>
        have q1' : need (k.ok nl fr') (decLk k.tys (k.vals fr') R fun p => p st') := q1
        rw [need_iff] at q1'
        obtain ⟨w1, w2⟩ := Keep.weak (ns := ns) q1'.1 q2 q3 (q5.2.trans hn)
        have hb := allC1_start h2 q1'.2
        exact wp_mono (ihy hy Q _ st' g' w' a' hb w1 w2 (q5.2.trans hn)) fun e a'' w'' hq2 => hq2.ext q4 q5
      | _ => exact ⟨fr', st', g', q1, q2, q3, q4, q5⟩
    | none => exact key _ _ hc
    | seq p q => exact key _ _ hc
    | cond p q => exact key _ _ hc
    | block p => exact key _ _ hc
    | loop k p => exact key _ _ hc
  | cond c x y ihx ihy =>
    intro h Q fr st g w a hc s hf hn
    simp only [cwp] at hc
    split at hc
    · rename_i b hb
      have hr := sRel_op hf c
      rw [hb] at hr
      have hr' : Rel g w (.bool b) (a.eval c) := hr
      have hev : a.eval c = .bool b := by generalize a.eval c = q at hr'; cases hr'; rfl
      cases b with
      | true => exact wp_cond_true hev (ihx h.l Q fr st g w a hc s hf hn)
      | false => exact wp_cond_false hev (ihy h.r Q fr st g w a hc s hf hn)
    · exact hc.elim
  | block id x ih =>
    intro h Q fr st g w a hc s hf hn
    refine wp_block (wp_mono (ih h.l (blockQ id Q) fr st g w a hc s hf hn) fun e a' w' hq => ?_)
    obtain ⟨fr', st', g', h1, h2, h3, h4, h5⟩ := hq
    cases e with
    | exit id' =>
      simp only [blockQ] at h1
      by_cases hid : id' = id
      · subst hid
        have hbe : (id'.beq id') = true := Nat.beq_refl id'
        simp only [hbe] at h1
        simp only [Exit.inBlock, if_true]
        exact ⟨fr', st', g', h1, h2, h3, h4, h5⟩
      · have hbe : (id'.beq id) = false := by
          cases hq : id'.beq id with
          | false => rfl
          | true => exact absurd (Nat.eq_of_beq_eq_true hq) hid
        simp only [hbe] at h1
        simp only [Exit.inBlock, hid, if_false]
        exact ⟨fr', st', g', h1, h2, h3, h4, h5⟩
    | _ => exact ⟨fr', st', g', h1, h2, h3, h4, h5⟩
  | loop x ih =>
    intro h Q fr st g w a hc s hf hn
    cases h with
    | loop k hx =>
      obtain ⟨I, M, h1, h2⟩ := hc
      rw [need_iff] at h1
      refine wp_loop_rel (fun m a' w' => ∃ vals st' g', cwp cfg P ns nl x hx (thenQ (fun fr st => need (k.ok nl fr) (decL2 k.tys (k.vals fr) I M fun p q => p st ∧ q st < m)) Q) (k.frame ns nl vals) st' ∧
        Sim g' st' (k.frame ns nl vals).loc w' ∧ FRel g' w' (k.frame ns nl vals) a'.tmps ∧ Ext g w g' w' ∧ a'.defers = a.defers ∧ a'.tmps.size = a.tmps.size) ?_ ?_
      · obtain ⟨m, hm⟩ := allC_start h2 h1.2
        obtain ⟨w1, w2⟩ := Keep.weak (ns := ns) h1.1 s hf hn
        exact ⟨m, _, st, g, hm, w1, w2, Ext.refl _ _, rfl, rfl⟩
      · rintro m a' w' ⟨vals, st', g', q1, q2, q3, q4, q5⟩
        refine wp_mono (ih hx _ _ st' g' w' a' q1 q2 q3 (q5.2.trans hn)) fun e a'' w'' hq => ?_
        obtain ⟨fr2, st2, g2, r1, r2, r3, r4, r5⟩ := hq
        cases e with
        | normal =>
          have r1' : need (k.ok nl fr2) (decL2 k.tys (k.vals fr2) I M fun p q => p st2 ∧ q st2 < m) := r1
          rw [need_iff] at r1'
          obtain ⟨m', hlt, hB⟩ := allC_next h2 r1'.2
          obtain ⟨w1, w2⟩ := Keep.weak (ns := ns) r1'.1 r2 r3 (r5.2.trans (q5.2.trans hn))
          exact ⟨m', hlt, _, st2, g2, hB, w1, w2, q4.trans r4, r5.1.trans q5.1, r5.2.trans q5.2⟩
        | _ => exact ⟨fr2, st2, g2, r1, r2, r3, q4.trans r4, r5.1.trans q5.1, r5.2.trans q5.2⟩
    | _ => exact hc.elim
  | exit id => intro h Q fr st g w a hc s hf hn; exact wp_exit ⟨fr, st, g, hc, s, hf, Ext.refl _ _, rfl, rfl⟩
  | ret => intro h Q fr st g w a hc s hf hn; exact wp_ret ⟨fr, st, g, hc, s, hf, Ext.refl _ _, rfl, rfl⟩
  | _ => intro h Q fr st g w a hc s hf hn; exact hc.elim
def resOne (P : Program) (fr : Fr) (st : St) : ResultVar → Option TV
  | .tmp t => some (slotTV fr t)
  | .cell a t => match aggK P t with
    | some true => match P.cellsOf t with
      | 0 => none
      | n => (ldCells st fr.loc (fr.slots.f a) 0 n).map .agg
    | some false => ldCell st fr.loc (fr.slots.f a) 0
    | none => none
def resAll (P : Program) (fr : Fr) (st : St) : List ResultVar → Option (List TV)
  | [] => some []
  | r :: rs => match resOne P fr st r with
    | some v => (resAll P fr st rs).map (v :: ·)
    | none => none
def tupT : List TV → TV
  | [v] => v
  | vs => .tuple vs
def resT (P : Program) (fn : Func) (fr : Fr) (st : St) : Option TV := (resAll P fr st fn.results.toList).map tupT
def resOneK (P : Program) (fr : Fr) (st : St) (r : ResultVar) (k : TV → Prop) : Prop :=
  match r with
  | .tmp t => k (slotTV fr t)
  | .cell a t => match aggK P t with
    | some true => match P.cellsOf t with
      | 0 => False
      | n => optK ((ldCells st fr.loc (fr.slots.f a) 0 n).map .agg) k
    | some false => optK (ldCell st fr.loc (fr.slots.f a) 0) k
    | none => False
def resAllK (P : Program) (fr : Fr) (st : St) : List ResultVar → (List TV → Prop) → Prop
  | [], k => k []
  | r :: rs, k => resOneK P fr st r fun v => resAllK P fr st rs fun vs => k (v :: vs)
theorem resOneK_sound {P : Program} {fr : Fr} {st : St} {r : ResultVar} {k : TV → Prop} (h : resOneK P fr st r k) : ∃ v, resOne P fr st r = some v ∧ k v := by
  cases r with
  | tmp t => exact ⟨_, rfl, h⟩
  | cell a t =>
    unfold resOneK at h
    unfold resOne
    simp only at h ⊢
    cases ha : aggK P t with
    | none => rw [ha] at h; exact h.elim
    | some b =>
      rw [ha] at h
      cases b with
      | true =>
        simp only at h ⊢
        cases hn : P.cellsOf t with
        | zero => rw [hn] at h; exact h.elim
        | succ n =>
          rw [hn] at h
          exact optK_iff.1 h
      | false => exact optK_iff.1 h
theorem resAllK_sound {P : Program} {fr : Fr} {st : St} : ∀ {rs : List ResultVar} {k : List TV → Prop}, resAllK P fr st rs k → ∃ vs, resAll P fr st rs = some vs ∧ k vs
  | [], k, h => ⟨[], rfl, h⟩
  | r :: rs, k, h => by
    obtain ⟨v, h1, h2⟩ := resOneK_sound h
    obtain ⟨vs, h3, h4⟩ := resAllK_sound h2
    exact ⟨v :: vs, by simp [resAll, h1, h3], h4⟩
def retQ (P : Program) (fn : Func) (R : TV → St → Prop) : Exit → Fr → St → Prop
  | .normal, fr, st => resAllK P fr st fn.results.toList fun vs => R (tupT vs) st
  | .ret, fr, st => resAllK P fr st fn.results.toList fun vs => R (tupT vs) st
  | _, _, _ => False
def initFr (cfg : Cfg) (fn : Func) (args : List TV) : Fr := ⟨⟨fn.ntmps, fun i => match args[i]? with | some v => .t v | none => .t .undef⟩, cfg.loc.map fun _ => none⟩
theorem resOne_sound {g : Ghost} {st : St} {w : World} {fr : Fr} {tmps : Array Value} (s : Sim g st fr.loc w) (hf : FRel g w fr tmps) {r : ResultVar} {v : TV} (h : resOne P fr st r = some v) :
    ∃ u, (match r with | .tmp t => pure (tmps.getD t Go.undef) | .cell a t => do loadVar t (← asAddr (tmps.getD a Go.undef)) : Sem Value).run P w = .ok u w ∧ Rel g w v u := by
  cases r with
  | tmp t =>
    simp only [resOne, Option.some.injEq] at h
    subst h
    exact ⟨_, rfl, (hf.2 t).tv⟩
  | cell a t =>
    simp only [resOne] at h
    have hld : ∀ p, SRel g w fr.loc p (tmps.getD a Go.undef) → (loadN P st fr.loc t p).Is (.t v) → ∃ u, (do loadVar t (← asAddr (tmps.getD a Go.undef)) : Sem Value).run P w = .ok u w ∧ Rel g w v u := by
      intro p hp hl
      have hl' := hl
      obtain ⟨u, hu, hr⟩ := load_gives (P := P) s hp hl'
      have hsa : (Instr.loadAt t (tmps.getD a Go.undef)).run P w = (do loadVar t (← asAddr (tmps.getD a Go.undef)) : Sem Value).run P w := by
        generalize hq : tmps.getD a Go.undef = q at hp hu
        simp only [Instr.loadAt, Sem.run_bind]
        cases q with
        | pointer o => cases o with
          | none => simp [Instr.loadAt, Instr.sureAddr] at hu
          | some ad => simp [Instr.sureAddr, asAddr]
        | _ => simp [Instr.loadAt, Instr.sureAddr] at hu
      exact ⟨u, by rw [← hsa]; exact hu, hr⟩
    split at h
    · rename_i ha
      split at h
      · cases h
      · rename_i n hn
        refine hld _ (hf.2 a) ?_
        unfold loadN
        rw [ha]
        exact ⟨v, by
          split
          · rename_i h0; exact absurd h0 hn
          · exact h, rfl⟩
    · rename_i ha
      refine hld _ (hf.2 a) ?_
      unfold loadN
      rw [ha]
      exact ⟨v, h, rfl⟩
    · cases h
theorem resAll_sound {g : Ghost} {st : St} {w : World} {fr : Fr} {tmps : Array Value} (s : Sim g st fr.loc w) (hf : FRel g w fr tmps) : ∀ {rs : List ResultVar} {vs : List TV}, resAll P fr st rs = some vs →
    ∃ us : List Value, (rs.mapM (fun r => match r with | .tmp t => pure (tmps.getD t Go.undef) | .cell a t => do loadVar t (← asAddr (tmps.getD a Go.undef))) : Sem (List Value)).run P w = .ok us w ∧ RelL g w vs us
  | [], vs, h => by simp only [resAll, Option.some.injEq] at h; subst h; exact ⟨[], rfl, .nil _ _⟩
  | r :: rs, vs, h => by
    simp only [resAll] at h
    split at h
    · rename_i v hv
      obtain ⟨vs', hvs', rfl⟩ := Option.map_eq_some_iff.1 h
      obtain ⟨u, hu, hr⟩ := resOne_sound s hf hv
      obtain ⟨us, hus, hrs⟩ := resAll_sound s hf hvs'
      refine ⟨u :: us, ?_, .cons hr hrs⟩
      rw [List.mapM_cons]
      simp only [Sem.run_bind, hu, Result.andThen_ok, hus, Sem.run_pure]
    · cases h
theorem resT_sound {g : Ghost} {st : St} {w : World} {fr : Fr} {tmps : Array Value} (s : Sim g st fr.loc w) (hf : FRel g w fr tmps) {fn : Func} {v : TV} (h : resT P fn fr st = some v) : ∃ u, (results fn tmps).run P w = .ok u w ∧ Rel g w v u := by
  unfold resT at h
  cases hr : resAll P fr st fn.results.toList with
  | none => rw [hr] at h; cases h
  | some vs =>
    rw [hr] at h
    obtain ⟨us, hus, hrel⟩ := resAll_sound s hf hr
    have hrun : (fn.results.mapM (fun r => match r with | .tmp t => pure (tmps.getD t Go.undef) | .cell a t => do loadVar t (← asAddr (tmps.getD a Go.undef))) : Sem (Array Value)).run P w = .ok us.toArray w := by
      rw [← Array.toArray_toList (xs := fn.results), List.mapM_toArray]
      simp only [Sem.run_map, hus, Result.andThen_ok]
    refine ⟨if h : us.toArray.size = 1 then us.toArray[0] else .tuple us.toArray, ?_, ?_⟩
    · have hres : results fn tmps = (do
          let vs ← (fn.results.mapM (fun r => match r with | .tmp t => pure (tmps.getD t Go.undef) | .cell a t => do loadVar t (← asAddr (tmps.getD a Go.undef))) : Sem (Array Value))
          pure (if h : vs.size = 1 then vs[0] else .tuple vs)) := rfl
      rw [hres, Sem.run_bind, hrun]
      rfl
    · cases vs with
      | nil =>
        simp only [Option.map_some, Option.some.injEq, tupT] at h; subst h
        have : us = [] := List.eq_nil_of_length_eq_zero hrel.1.symm
        subst this
        exact Rel.tuple [] [] rfl (fun i hi => absurd hi (Nat.not_lt_zero _))
      | cons v1 vs1 => cases vs1 with
        | nil =>
          simp only [Option.map_some, Option.some.injEq, tupT] at h; subst h
          cases us with
          | nil => have := hrel.1; simp at this
          | cons u1 us1 =>
            have : us1 = [] := List.eq_nil_of_length_eq_zero (by have := hrel.1; simpa using this.symm)
            subst this
            simpa using hrel.2 0 (by simp)
        | cons v2 vs2 =>
          simp only [Option.map_some, Option.some.injEq, tupT] at h; subst h
          have hl : us.toArray.size ≠ 1 := by have := hrel.1; simp at this ⊢; omega
          rw [dif_neg hl]
          exact Rel.tuple _ us hrel.1 hrel.2
/-- A function by its text. -/
theorem tcalls_of (hm : P.follows .mixedOrders = true) {f : FuncId} {fn : Func} {c : Code} (hcall : ∀ (vs : Array Value) (w : World), (callFunc f vs).run P w = .ok (.enter f vs) w) (hf : P.funcs[f]? = some fn) (hb : fn.body = some c)
    (cfg : Cfg) (h : Hint) {args : List TV} {st : St} {R : TV → St → Prop} (hn : args.length ≤ fn.ntmps)
    (hc : cwp cfg P fn.ntmps cfg.loc.length c h (retQ P fn R) (initFr cfg fn args) st) : TCalls P f args st R := by
  refine tcalls_enter hcall fun g w vargs s hr => ?_
  refine calls_of_wp hf hb ?_
  have hlen : vargs.length = args.length := hr.1.symm
  have hsize : (vargs.toArray ++ Array.replicate (fn.ntmps - vargs.toArray.size) Go.undef).size = fn.ntmps := by simp; omega
  have hsim : Sim g st (initFr cfg fn args).loc w := s.weakLoc fun j x' hx' => by
    simp only [initFr, List.getElem?_map] at hx'
    cases hq : cfg.loc[j]? with
    | none => rw [hq] at hx'; cases hx'
    | some q => rw [hq] at hx'; simp at hx'
  have hfr : FRel g w (initFr cfg fn args) (vargs.toArray ++ Array.replicate (fn.ntmps - vargs.toArray.size) Go.undef) := by
    refine ⟨by rw [hsize]; rfl, fun i => ?_⟩
    by_cases hia : i < args.length
    · have h1 : (initFr cfg fn args).slots.f i = .t args[i] := by simp [initFr, hia]
      have h2 : (vargs.toArray ++ Array.replicate (fn.ntmps - vargs.toArray.size) Go.undef).getD i Go.undef = vargs.getD i Go.undef := by
        have : i < vargs.length := by omega
        have hin : i < fn.ntmps := by omega
        simp [Array.getD, Array.getElem_append, this, hin, List.getD_eq_getElem?_getD]
        omega
      rw [h1, h2]
      exact hr.2 i hia
    · have h1 : (initFr cfg fn args).slots.f i = .t .undef := by simp [initFr, hia]
      have h2 : (vargs.toArray ++ Array.replicate (fn.ntmps - vargs.toArray.size) Go.undef).getD i Go.undef = Go.undef := by
        have : ¬ i < vargs.length := by omega
        simp [Array.getD, Array.getElem_append, this]
      rw [h1, h2]
      exact Rel.undef
  refine wp_mono (cwp_sound hm c h _ _ st g w { tmps := vargs.toArray ++ Array.replicate (fn.ntmps - vargs.toArray.size) Go.undef, defers := [] } hc hsim hfr hsize) fun e a' w' hq => ?_
  obtain ⟨fr', st', g', h1, h2, h3, h4, h5, h6⟩ := hq
  have fin : resAllK P fr' st' fn.results.toList (fun vs => R (tupT vs) st') → a'.defers = [] ∧ ∃ v, (results fn a'.tmps).run P w' = .ok v w' ∧ ∃ v', Ending.returned v = .returned v' ∧ ∃ r st' g', R r st' ∧ Sim g' st' [] w' ∧ Rel g' w' r v' ∧ Ext g w g' w' := by
    intro ho
    obtain ⟨vs, hvs, hR⟩ := resAllK_sound ho
    obtain ⟨u, hu, hrel⟩ := resT_sound (fn := fn) h2 h3 (by unfold resT; rw [hvs]; rfl)
    exact ⟨h5, u, hu, u, rfl, _, st', g', hR, h2.dropLoc (fun j x hx => by simp at hx), hrel, h4⟩
  cases e with
  | normal => exact fin h1
  | ret => exact fin h1
  | _ => exact h1.elim
def St.zero : St := { nb := 0, box := fun _ => .dead, nt := 0, live := fun _ => false, ty := fun _ => none, bt := fun _ => none }
def Ghost.start (w : World) : Ghost := { base := w.heap.size, w0 := w, nb := 0, bk := fun _ => 0, lam := fun _ => 0, nt := 0, sp := fun _ => none, S := fun a => a.spot = none ∧ ∃ v, w.cell? a = some v, prot := fun _ => False }
theorem Sim.start (w : World) (hG : ∀ w', Below w.heap.size w w' → GlobOK w') : Sim (Ghost.start w) St.zero [] w := by
  have hd : ∀ k, ¬ Dom St.zero [] k := by
    intro k d
    cases k with
    | box i => exact absurd d (Nat.not_lt_zero _)
    | loc i => obtain ⟨x, hx⟩ := d; simp at hx
  exact ⟨rfl, rfl, Below.refl _ _, Nat.le_refl _, fun k d => absurd d (hd k), fun k k' d => absurd d (hd k), fun k d => absurd d (hd k), fun id h => absurd h (Nat.not_lt_zero _),
    fun id b l h hh => (by cases hh), fun i j b l h l' h' _ hh => (by cases hh), fun id _ => rfl, fun a ha => ⟨ha.1, ha.2, fun k d => absurd d (hd k), fun id l h hh => (by cases hh)⟩, fun b hb => hb.elim, fun id b l h hh => (by cases hh), fun id b l h T hh => (by cases hh), fun b T hb => absurd hb (Nat.not_lt_zero _), hG⟩
/-- The law's call. -/
theorem calls_true {f : FuncId} {args : List TV} (hcall : ∀ (vs : Array Value) (w : World), (callFunc f vs).run P w = .ok (.enter f vs) w) (h : TCalls P f args St.zero fun r _ => r = .bool true) (w : World) (hG : ∀ w', Below w.heap.size w w' → GlobOK w') (vargs : List Value) (hr : RelL (Ghost.start w) w args vargs) :
    Calls P f vargs.toArray w fun e w' => e = .returned (.bool true) ∧ Below w.heap.size w w' := by
  have h1 := h.run (Ghost.start w) w vargs (Sim.start w hG) hr
  unfold Done at h1
  rw [hcall] at h1
  refine Calls.mono h1 ?_
  rintro e w' ⟨v, rfl, r, st', g', rfl, s', hrel, e'⟩
  have hb := s'.below
  rw [e'.base, e'.w0] at hb
  cases hrel
  exact ⟨rfl, hb⟩
end
def bodyOf (fn : Func) : Code := match fn.body with | some c => c | none => .skip
/-- A function by its text, as a program's fact has it. -/
def Fw (cfg : Cfg) (P : Program) (h : Hint) (fn : Func) (args : List TV) (st : St) (R : TV → St → Prop) : Prop :=
  cwp cfg P fn.ntmps cfg.loc.length (bodyOf fn) h (retQ P fn R) (initFr cfg fn args) st
def fits (fn : Func) (args : List TV) : Bool := (fn.body.isSome).and (args.length.ble fn.ntmps)
theorem tcalls_fw {P : Program} (hm : P.follows .mixedOrders = true) {f : FuncId} {fn : Func} (hcall : ∀ (vs : Array Value) (w : World), (callFunc f vs).run P w = .ok (.enter f vs) w) (hf : P.funcs[f]? = some fn)
    {cfg : Cfg} {h : Hint} {args : List TV} {st : St} {R : TV → St → Prop} (hn : fits fn args = true) {V : Prop} (he : Fw cfg P h fn args st R = V) (hV : V) : TCalls P f args st R := by
  simp only [fits, Bool.and_eq_true] at hn
  obtain ⟨c, hc⟩ := Option.isSome_iff_exists.1 hn.1
  have hb : fn.body = some (bodyOf fn) := by rw [bodyOf, hc]
  rw [← he] at hV
  exact tcalls_of hm hcall hf hb cfg h (Nat.le_of_ble_eq_true hn.2) hV
/-- An aggregate, cell by cell. -/
def decA (cs : List CTy) (v : TV) (f : Fun cs Prop) : Prop :=
  match v with
  | .agg l => decL cs l f
  | _ => False
/-- A store through a pointer to a box. -/
def stB (st : St) (p : TV) (xs : List TV) (k : St → Prop) : Prop :=
  match p with
  | .box b off => ∃ l, st.box b = .cells l ∧ off + xs.length ≤ l.length ∧ k (st.put b (.cells (setAll l off xs)))
  | _ => False
theorem BIf_intro {p : Prop} [Decidable p] {x y : Prop} (h1 : p → x) (h2 : ¬ p → y) : BIf (decide p) x y := by
  by_cases h : p
  · simp only [h, decide_true, BIf]; exact h1 h
  · simp only [h, decide_false, BIf]; exact h2 h
theorem BIf_bool {b : Bool} {x y : Prop} (h1 : b = true → x) (h2 : b = false → y) : BIf b x y := by
  cases b
  · exact h2 rfl
  · exact h1 rfl
end Go.TVF
end

section
set_option linter.unusedVariables false
set_option linter.unusedSimpArgs false
namespace Go.TVF
/-- The state has grown; what was there is as it was. -/
structure StExt (a b : St) : Prop where
  nb : a.nb ≤ b.nb
  box : ∀ i, i < a.nb → b.box i = a.box i
  nt : a.nt ≤ b.nt
  live : ∀ i, i < a.nt → b.live i = a.live i
  ty : ∀ i, i < a.nt → b.ty i = a.ty i
  bt : ∀ i, i < a.nb → b.bt i = a.bt i
theorem StExt.refl (a : St) : StExt a a := ⟨Nat.le_refl _, fun _ _ => rfl, Nat.le_refl _, fun _ _ => rfl, fun _ _ => rfl, fun _ _ => rfl⟩
theorem StExt.trans {a b c : St} (h : StExt a b) (k : StExt b c) : StExt a c :=
  ⟨Nat.le_trans h.nb k.nb, fun i hi => (k.box i (Nat.lt_of_lt_of_le hi h.nb)).trans (h.box i hi), Nat.le_trans h.nt k.nt, fun i hi => (k.live i (Nat.lt_of_lt_of_le hi h.nt)).trans (h.live i hi), fun i hi => (k.ty i (Nat.lt_of_lt_of_le hi h.nt)).trans (h.ty i hi), fun i hi => (k.bt i (Nat.lt_of_lt_of_le hi h.nb)).trans (h.bt i hi)⟩
theorem StExt.fresh {a b : St} (h : StExt a b) (T : Option Nat) : StExt a (b.fresh T) :=
  h.trans ⟨Nat.le_refl _, fun _ _ => rfl, Nat.le_succ _, fun i hi => by simp only [St.fresh]; rw [if_neg (by omega)], fun i hi => by simp only [St.fresh]; rw [if_neg (by omega)], fun _ _ => rfl⟩
theorem StExt.push {a b : St} (h : StExt a b) (o : AObj) (T : Option Nat) : StExt a (b.push o T) :=
  h.trans ⟨Nat.le_succ _, fun i hi => by simp only [St.push]; rw [if_neg (by omega)], Nat.le_refl _, fun _ _ => rfl, fun _ _ => rfl, fun i hi => by simp only [St.push]; rw [if_neg (by omega)]⟩
theorem StExt.retire {a b : St} (h : StExt a b) {id : Nat} (hid : a.nt ≤ id) : StExt a (b.retire id) :=
  ⟨h.nb, h.box, h.nt, fun i hi => by simp only [St.retire]; rw [if_neg (by omega)]; exact h.live i hi, h.ty, h.bt⟩
theorem StExt.put {a b : St} (h : StExt a b) {i : Nat} (hi : a.nb ≤ i) (o : AObj) : StExt a (b.put i o) :=
  ⟨h.nb, fun j hj => by simp only [St.put]; rw [if_neg (by omega)]; exact h.box j hj, h.nt, h.live, h.ty, h.bt⟩
theorem length_bytesT (l : List UInt8) : (bytesT l).length = l.length := by simp [bytesT]
theorem asBytes_bytesT : ∀ l : List UInt8, asBytes (bytesT l) = some l
  | [] => rfl
  | c :: l => by
    have := asBytes_bytesT l
    simp only [bytesT] at this
    simp [bytesT, asBytes, byteT, asByte, this]
theorem bytesT_append (a b : List UInt8) : bytesT a ++ bytesT b = bytesT (a ++ b) := by simp [bytesT]
/-- A slice that reads as n elements of sz cells. -/
def Rd (sz : Nat) (v : TV) (n : Nat) (xs : List TV) : Prop :=
  (v = .nilSlice ∧ n = 0 ∧ xs = []) ∨ ∃ tip, v = .list sz tip n xs
def RdB (v : TV) (l : List UInt8) : Prop := Rd 1 v l.length (bytesT l)
/-- A slice that the call may append to: its own from number b on. -/
def Own (b sz : Nat) (st : St) (v : TV) (n : Nat) (xs : List TV) : Prop :=
  (v = .nilSlice ∧ n = 0 ∧ xs = []) ∨ ∃ tip, v = .list sz tip n xs ∧ (tip = .full ∨ ∃ id, tip = .own id ∧ b ≤ id ∧ id < st.nt ∧ st.live id = true)
def OwnB (b : Nat) (st : St) (v : TV) (l : List UInt8) : Prop := Own b 1 st v l.length (bytesT l)
theorem Own.rd {b sz : Nat} {st : St} {v : TV} {n : Nat} {xs : List TV} (h : Own b sz st v n xs) : Rd sz v n xs := by
  rcases h with h | ⟨tip, h, _⟩
  · exact .inl h
  · exact .inr ⟨tip, h⟩
theorem OwnB.rd {b : Nat} {st : St} {v : TV} {l : List UInt8} (h : OwnB b st v l) : RdB v l := Own.rd h
theorem Own.mono {b b' sz : Nat} {st : St} {v : TV} {n : Nat} {xs : List TV} (h : Own b sz st v n xs) (hb : b' ≤ b) : Own b' sz st v n xs := by
  rcases h with h | ⟨tip, h, ht | ⟨id, h1, h2, h3, h4⟩⟩
  · exact .inl h
  · exact .inr ⟨tip, h, .inl ht⟩
  · exact .inr ⟨tip, h, .inr ⟨id, h1, Nat.le_trans hb h2, h3, h4⟩⟩
theorem Own.ext {b sz : Nat} {st st' : St} {v : TV} {n : Nat} {xs : List TV} (h : Own b sz st v n xs) (e : StExt st st') : Own b sz st' v n xs := by
  rcases h with h | ⟨tip, h, ht | ⟨id, h1, h2, h3, h4⟩⟩
  · exact .inl h
  · exact .inr ⟨tip, h, .inl ht⟩
  · exact .inr ⟨tip, h, .inr ⟨id, h1, h2, Nat.lt_of_lt_of_le h3 e.nt, (e.live id h3).trans h4⟩⟩
theorem Own.nil (b sz : Nat) (st : St) : Own b sz st .nilSlice 0 [] := .inl ⟨rfl, rfl, rfl⟩
theorem OwnB.nil (b : Nat) (st : St) : OwnB b st .nilSlice [] := Own.nil b 1 st
theorem Own.full (b sz : Nat) (st : St) (n : Nat) (xs : List TV) : Own b sz st (.list sz .full n xs) n xs := .inr ⟨_, rfl, .inl rfl⟩
theorem Own.fresh {b sz : Nat} {st : St} {T : Option Nat} (n : Nat) (xs : List TV) (hb : b ≤ st.nt) : Own b sz (st.fresh T) (.list sz (.own st.nt) n xs) n xs :=
  .inr ⟨_, rfl, .inr ⟨st.nt, rfl, hb, Nat.lt_succ_self _, by simp [St.fresh]⟩⟩
theorem OwnB.fresh {b : Nat} {st : St} {T : Option Nat} (l : List UInt8) (hb : b ≤ st.nt) : OwnB b (st.fresh T) (.list 1 (.own st.nt) l.length (bytesT l)) l := Own.fresh l.length (bytesT l) hb
theorem Rd.isSl {sz : Nat} {v : TV} {n : Nat} {xs : List TV} (h : Rd sz v n xs) : TVF.isSl v = true := by
  rcases h with ⟨rfl, _⟩ | ⟨tip, rfl⟩ <;> rfl
theorem Rd.lenS {sz : Nat} {v : TV} {n : Nat} {xs : List TV} (h : Rd sz v n xs) : TVF.lenS v = n := by
  rcases h with ⟨rfl, rfl, _⟩ | ⟨tip, rfl⟩ <;> rfl
theorem Rd.lenZ {sz : Nat} {v : TV} {n : Nat} {xs : List TV} (h : Rd sz v n xs) : TVF.lenZ sz v = n := by
  rcases h with ⟨rfl, rfl, _⟩ | ⟨tip, rfl⟩
  · rfl
  · simp [TVF.lenZ]
theorem Rd.isLst {sz : Nat} {v : TV} {n : Nat} {xs : List TV} (h : Rd sz v n xs) : TVF.isLst sz v = true := by
  rcases h with ⟨rfl, rfl, _⟩ | ⟨tip, rfl⟩
  · rfl
  · simp [TVF.isLst]
theorem Rd.one {sz : Nat} {v : TV} {n : Nat} {xs : List TV} (h : Rd sz v n xs) : oneT v = true := by
  rcases h with ⟨rfl, rfl, _⟩ | ⟨tip, rfl⟩ <;> rfl
theorem Rd.ld {sz : Nat} {v : TV} {n : Nat} {xs : List TV} (h : Rd sz v n xs) (st : St) (i j : Nat) (hi : i * sz + j < xs.length) : ldCell st [] (.t (ixT sz v i)) j = some xs[i * sz + j] := by
  rcases h with ⟨rfl, rfl, rfl⟩ | ⟨tip, rfl⟩
  · simp at hi
  · simp [ldCell, ixT, hi]
theorem Rd.ldf {sz : Nat} {v : TV} {n : Nat} {xs : List TV} (h : Rd sz v n xs) (st : St) (i f : Nat) (hi : i * sz + f < xs.length) : ldCell st [] (.t (fldT (ixT sz v i) f)) 0 = some xs[i * sz + f] := by
  rcases h with ⟨rfl, rfl, rfl⟩ | ⟨tip, rfl⟩
  · simp at hi
  · simp [ldCell, ixT, fldT, hi]
theorem RdB.ld {v : TV} {l : List UInt8} (h : RdB v l) (st : St) (i : Nat) (hi : i < l.length) : ldCell st [] (.t (ixT 1 v i)) 0 = some (byteT l[i]) := by
  have := Rd.ld h st i 0 (by simp [length_bytesT, hi])
  simpa [bytesT] using this
theorem RdB.toBytes {v : TV} {l : List UInt8} (h : RdB v l) (st : St) : TVF.toBytes st v = some l := by
  rcases h with ⟨rfl, h1, h2⟩ | ⟨tip, rfl⟩
  · have : l = [] := List.eq_nil_of_length_eq_zero h1
    subst this; rfl
  · simp [TVF.toBytes, asBytes_bytesT]
theorem RdB.src {v : TV} {l : List UInt8} (h : RdB v l) (st : St) : appSrc st 1 v = some (l.length, bytesT l) := by
  rcases h with ⟨rfl, h1, h2⟩ | ⟨tip, rfl⟩
  · have : l = [] := List.eq_nil_of_length_eq_zero h1
    subst this; rfl
  · simp [appSrc]
theorem src_str (st : St) (l : List UInt8) : appSrc st 1 (.str l) = some (l.length, bytesT l) := rfl
theorem appK_own {T b sz bytes : Nat} {st0 st : St} {v : TV} {n k : Nat} {xs ys : List TV} {K : TV → St → Prop} (e : StExt st0 st) (hb : b = st0.nt) (h : Own b sz st v n xs) (hby : (n + k) * bytes ≤ 140737488355328) (hys : k = 0 → ys = [])
    (hK : ∀ v' st', StExt st0 st' → st'.box = st.box → Own b sz st' v' (n + k) (xs ++ ys) → K v' st') : appK T sz bytes v k ys st K := by
  subst hb
  rcases h with ⟨rfl, rfl, rfl⟩ | ⟨tip, rfl, ht⟩
  · simp only [appK]
    cases k with
    | zero => rw [hys rfl] at hK; exact hK _ _ e rfl (.nil _ _ _)
    | succ m =>
      simp only [need_iff]
      refine ⟨by simpa using hby, hK _ _ (e.fresh _) rfl ?_⟩
      simp only [List.nil_append, Nat.zero_add]
      exact Own.fresh _ _ e.nt
  · simp only [appK, Nat.beq_refl]
    refine ⟨hby, ?_⟩
    rcases ht with rfl | ⟨id, rfl, h1, h2, h3⟩
    · cases k with
      | zero => rw [hys rfl] at hK; simp only [List.append_nil] at hK; exact hK _ _ e rfl (Own.full _ _ _ _ _)
      | succ m => exact hK _ _ (e.fresh _) rfl (Own.fresh _ _ e.nt)
    · exact ⟨h3, hK _ _ ((e.retire h1).fresh _) rfl (Own.fresh (st := st.retire id) _ _ e.nt)⟩
theorem appK_bytes {T : Nat} {st0 st : St} {v : TV} {l ys : List UInt8} {K : TV → St → Prop} (e : StExt st0 st) (h : OwnB st0.nt st v l) (hby : l.length + ys.length ≤ 140737488355328)
    (hK : ∀ v' st', StExt st0 st' → st'.box = st.box → OwnB st0.nt st' v' (l ++ ys) → K v' st') : appK T 1 1 v ys.length (bytesT ys) st K :=
  appK_own e rfl h (by omega) (fun h0 => by rw [List.eq_nil_of_length_eq_zero h0]; rfl) fun v' st' h1 h2 h3 => hK v' st' h1 h2 (by
    unfold OwnB
    rw [List.length_append, ← bytesT_append]; exact h3)
theorem need_intro {b : Bool} {k : Prop} (h : b = true) (hk : k) : need b k := need_iff.2 ⟨h, hk⟩
theorem optK_intro {α : Type} {o : Option α} {x : α} {k : α → Prop} (h : o = some x) (hk : k x) : optK o k := by rw [h]; exact hk
/-- Results handed on. -/
theorem CallT.mono {P : Go.Program} {f : Nat} {args : List TV} {sh : List RTy} {st : St} {K K' : FunR sh (St → Prop)} (h : CallT P f args sh st K) (hk : ∀ r st', decRet sh r K (fun p => p st') → decRet sh r K' (fun p => p st')) : CallT P f args sh st K' :=
  TCalls.mono h hk
/-- Sums that fit. -/
theorem wrap64 (x : Int) (h1 : -9223372036854775808 ≤ x) (h2 : x ≤ 9223372036854775807) : IntKind.wrap .i64 x = x := by
  unfold IntKind.wrap
  simp only [IntKind.signed, IntKind.bits]
  simp
  omega
theorem wrapU8 (x : Int) (h1 : 0 ≤ x) (h2 : x ≤ 255) : IntKind.wrap .u8 x = x := by
  unfold IntKind.wrap
  simp only [IntKind.signed, IntKind.bits]
  simp
  omega
end Go.TVF
end

section
set_option linter.unusedVariables false
set_option linter.unusedSimpArgs false
namespace Go.TVF
open Go.RowKit (Below)
theorem bool_ret {r : TV} {st' : St} (h : decRet [.one .bool] r (fun (b : Bool) (_ : St) => b = true) (fun p => p st')) : r = .bool true := by
  cases r <;> simp only [decRet, decRs, decT] at h <;> first | exact h.elim | skip
  subst h; rfl
theorem calls_law {P : Program} {f : FuncId} {args : List TV} (hcall : ∀ (vs : Array Value) (w : World), (callFunc f vs).run P w = .ok (.enter f vs) w) (h : CallT P f args [.one .bool] St.zero (fun r _ => r = true)) (w : World) (hG : ∀ w', Below w.heap.size w w' → GlobOK w') (vargs : List Value) (hr : RelL (Ghost.start w) w args vargs) :
    Calls P f vargs.toArray w fun e w' => e = .returned (.bool true) ∧ Below w.heap.size w w' :=
  calls_true hcall (TCalls.mono h fun r st' hd => bool_ret hd) w hG vargs hr
theorem rel_string (g : Ghost) (w : World) (s : ByteArray) : Rel g w (.str s.data.toList) (.string s) := by
  have := Rel.str (g := g) (w := w) s.data.toList
  simpa using this
def flatIs : List CTy → List TV → Prop
  | [], xs => xs = []
  | .int k :: cs, xs => ∃ n ys, xs = .int k n :: ys ∧ (Lit.int k n).wf = true ∧ flatIs cs ys
  | .str :: cs, xs => ∃ l ys, xs = .str l :: ys ∧ l.length ≤ maxLen ∧ flatIs cs ys
  | .bool :: cs, xs => ∃ b ys, xs = .bool b :: ys ∧ flatIs cs ys
  | .tv :: _, _ => False
def CellTy (P : Program) : CTy → TypeId → Prop
  | .int k, t => P.underlying t = some (.int k)
  | .bool, t => P.underlying t = some .bool
  | .str, t => P.underlying t = some .string
  | .tv, _ => False
section
variable {H : Type} {enc : TypeId × Value → H} {P : Program} {w : World} {base : Nat} {sp : Nat → Bool} {held : Bool}
theorem open_cell {c : CTy} {t : TypeId} {fuel : Nat} {cs : List Value} {x : DataW H × List MemPlace} (g : Ghost) (hc : CellTy P c t) (h : DataW.trod enc P w base sp held fuel t cs = some x) :
    ∃ v u, cs = [u] ∧ Rel g w v u ∧ flatIs [c] [v] := by
  cases c with
  | int k =>
    obtain ⟨n, rfl, _, hw⟩ := DataW.trod_int hc h
    exact ⟨_, _, rfl, .int k n, n, [], rfl, hw, rfl⟩
  | bool =>
    obtain ⟨b, rfl, _⟩ := DataW.trod_bool hc h
    exact ⟨_, _, rfl, .bool b, b, [], rfl, rfl⟩
  | str =>
    obtain ⟨s, rfl, _, hs⟩ := DataW.trod_string hc h
    exact ⟨_, _, rfl, rel_string g w s, _, [], rfl, by rw [Array.length_toList]; exact hs, rfl⟩
  | tv => exact hc.elim
theorem flatIs.cons {c : CTy} {cs : List CTy} {v : TV} {xs : List TV} (h : flatIs [c] [v]) (k : flatIs cs xs) : flatIs (c :: cs) (v :: xs) := by
  cases c with
  | int _ =>
    obtain ⟨n, ys, h1, h2, _⟩ := h
    simp only [List.cons.injEq] at h1
    exact ⟨n, xs, by rw [h1.1], h2, k⟩
  | bool =>
    obtain ⟨b, ys, h1, _⟩ := h
    simp only [List.cons.injEq] at h1
    exact ⟨b, xs, by rw [h1.1], k⟩
  | str =>
    obtain ⟨l, ys, h1, h2, _⟩ := h
    simp only [List.cons.injEq] at h1
    exact ⟨l, xs, by rw [h1.1], h2, k⟩
  | tv => exact h.elim
theorem add_plain0 (b off i : Nat) : (⟨b, off, none⟩ : Addr).add i = ⟨b, off + i, none⟩ := by
  unfold Addr.add; split
  · rename_i h; subst h; rfl
  · rfl
end
end Go.TVF
end

section
namespace Go.TVF
open Go Go.Proofs Go.ChangeShapes
set_option linter.unusedVariables false
section
variable {H : Type} {enc : TypeId × Value → H} {P : Program} {w : World} {base : Nat} {held : Bool}
/-- With this fuel, the cells of a value of this type open to cells of this look. -/
def Op (enc : TypeId × Value → H) (P : Program) (w : World) (base : Nat) (held : Bool) (n c : Nat) (S : List TV → Prop) (e : TypeId) : Prop :=
  P.cellsOf e = c ∧ ∀ vs x, DataW.trod enc P w base (fun _ => true) held n e vs = some x → ∃ tv, RelL (Ghost.start w) w tv vs ∧ tv.length = c ∧ S tv
end
end Go.TVF
end

section
namespace Go.TVF
open Go Go.Proofs Go.ChangeShapes
set_option linter.unusedVariables false
/-- A measure of data: letters, and what is in it. -/
structure Blk {H : Type} (bk : DataW H → Nat) : Prop where
  one : ∀ d, 1 ≤ bk d
  str : ∀ b, b.length + 1 ≤ bk (.lit (.string b))
  sl : ∀ e s, (e.map bk).sum + 1 ≤ bk (.slice e s)
  agg : ∀ p, (p.map bk).sum + 1 ≤ bk (.agg p)
section
variable {H : Type} {enc : TypeId × Value → H} {P : Program} {w : World} {base : Nat} {held : Bool} {bk : DataW H → Nat}
def OpQ (bk : DataW H → Nat) (enc : TypeId × Value → H) (P : Program) (w : World) (base : Nat) (held : Bool) (n c : Nat) (S : Nat → List TV → Prop) (e : TypeId) : Prop :=
  P.cellsOf e = c ∧ ∀ vs x, DataW.trod enc P w base (fun _ => true) held n e vs = some x → ∃ tv, RelL (Ghost.start w) w tv vs ∧ tv.length = c ∧ S (bk x.1) tv
def cellQ (c : CTy) (k : Nat) (tv : List TV) : Prop := flatIs [c] tv ∧ 1 ≤ k
def strQ (k : Nat) (tv : List TV) : Prop := ∃ l : List UInt8, tv = [.str l] ∧ l.length ≤ maxLen ∧ l.length + 1 ≤ k
theorem opq_cell {n : Nat} {c : CTy} {e : TypeId} (hb : Blk bk) (h : CellTy P c e) (hc : P.cellsOf e = 1) : OpQ bk enc P w base held n 1 (cellQ c) e := ⟨hc, fun vs x hd => by
  obtain ⟨v, u, rfl, hr, hf⟩ := open_cell (Ghost.start w) h hd
  exact ⟨[v], .cons hr (.nil _ _), rfl, hf, hb.one _⟩⟩
theorem opq_str {n : Nat} {e : TypeId} (hb : Blk bk) (h : P.underlying e = some .string) (hc : P.cellsOf e = 1) : OpQ bk enc P w base held n 1 strQ e := ⟨hc, fun vs x hd => by
  obtain ⟨s, rfl, rfl, hs⟩ := DataW.trod_string h hd
  exact ⟨[_], .cons (rel_string (Ghost.start w) w s) (.nil _ _), rfl, _, rfl, by rw [Array.length_toList]; exact hs, hb.str _⟩⟩
/-- A slice that came in: its elements' cells, one after another, each with its measure. -/
def SlQ (c : Nat) (S : Nat → List TV → Prop) (k : Nat) (v : TV) : Prop :=
  v = .nilSlice ∨ ∃ ps : List (List TV × Nat), v = .list c .non ps.length (ps.map (·.1)).flatten ∧ (∀ p, p ∈ ps → p.1.length = c ∧ S p.2 p.1) ∧ (ps.map (·.2)).sum + 1 ≤ k
theorem opq_slice {n c : Nat} {S : Nat → List TV → Prop} {t e : TypeId} (hb : Blk bk) (ht : P.underlying t = some (.slice e)) (ht1 : P.cellsOf t = 1) (hc1 : 1 ≤ c) (hE : ∀ m, m < n → OpQ bk enc P w base held m c S e) :
    OpQ bk enc P w base held n 1 (fun k tv => ∃ v, tv = [v] ∧ SlQ c S k v) t := by
  refine ⟨ht1, fun vs x h => ?_⟩
  rcases DataW.trod_slice ht h with ⟨rfl, _⟩ | ⟨a, len, cap, elems, rest, m, rfl, rfl, rfl, hbk, hl, hm, hel, hi, hsp, _⟩
  · exact ⟨[.nilSlice], .cons .nilSlice (.nil _ _), rfl, _, rfl, .inl rfl⟩
  · obtain ⟨hcE, hE⟩ := hE m (by omega)
    rw [hcE] at hi hsp
    have hbs := hb.sl (elems.map (·.1)) (rest.map (·.1))
    rw [List.map_map] at hbs
    by_cases hcap : cap = 0
    · subst hcap
      obtain rfl : len = 0 := by omega
      exact ⟨[.list c .non 0 []], .cons (.listE _ _ _ (fun id h => by cases h)) (.nil _ _), rfl, _, rfl, .inr ⟨[], rfl, (fun ck h => by cases h), by simp only [List.map_nil, List.sum_nil]; omega⟩⟩
    · obtain ⟨b, o, spot⟩ := a
      have hspot : spot = none := by
        have key : ∀ (i : Nat) (l : List (DataW H × List MemPlace)) (k : Nat), k < l.length → i = 0 → (w.cells? base ((⟨b, o, spot⟩ : Addr).add (i * c)) c).bind (DataW.trod enc P w base (fun _ => true) held m e) = l[k]? → spot = none := by
          intro i l k hk hi0 h
          subst hi0
          rw [List.getElem?_eq_getElem hk] at h
          obtain ⟨vs, h1, _⟩ := Option.bind_eq_some_iff.1 h
          obtain ⟨_, hvl, hvc⟩ := World.cells?_some h1
          have := World.cell?_spot ((hvc 0 (by omega)).trans (List.getElem?_eq_getElem (show 0 < vs.length by omega)))
          rw [Nat.zero_mul] at this
          exact this
        by_cases h0 : 0 < len
        · exact key 0 elems 0 (by omega) rfl (hi 0 h0)
        · obtain ⟨hr, hs⟩ := hsp rfl
          exact key _ rest 0 (by omega) (by omega) (hs 0 (by omega))
      subst hspot
      have each : ∀ i (hil : i < len), ∃ tv vs, RelL (Ghost.start w) w tv vs ∧ tv.length = c ∧ S (bk (elems[i]'(by omega)).1) tv ∧ vs.length = c ∧ ∀ j, j < c → w.cell? ⟨b, o + (i * c + j), none⟩ = some (vs.getD j Go.undef) := by
        intro i hil
        have h := hi i hil
        rw [List.getElem?_eq_getElem (by omega)] at h
        obtain ⟨vs, h1, h2⟩ := Option.bind_eq_some_iff.1 h
        obtain ⟨tv, hr, htl, hf⟩ := hE vs _ h2
        obtain ⟨_, hvl, hvc⟩ := World.cells?_some h1
        refine ⟨tv, vs, hr, htl, hf, hvl, fun j hj => ?_⟩
        have := hvc j (by omega)
        rw [Deep.add_add, add_plain0] at this
        rw [this]
        simp [List.getD, show j < vs.length by omega]
      have build : ∀ k, k ≤ len → ∃ ps : List (List TV × Nat), ps.length = k ∧ (∀ p, p ∈ ps → p.1.length = c ∧ S p.2 p.1) ∧ ps.map (·.2) = (elems.take k).map (fun y => bk y.1) ∧ (ps.map (·.1)).flatten.length = k * c ∧ ∀ i (h : i < (ps.map (·.1)).flatten.length), ∃ u, w.cell? ⟨b, o + i, none⟩ = some u ∧ Rel (Ghost.start w) w (ps.map (·.1)).flatten[i] u := by
        intro k
        induction k with
        | zero => intro _; exact ⟨[], rfl, (fun ck h => by cases h), by simp, by simp, fun i h => absurd h (Nat.not_lt_zero _)⟩
        | succ k ih =>
          intro hk
          obtain ⟨ps, h0, h1, hm1, h2, h3⟩ := ih (by omega)
          obtain ⟨tv, vs, hr, htl, hf, hvl, hvc⟩ := each k (by omega)
          have hfl : ((ps ++ [(tv, bk (elems[k]'(by omega)).1)]).map (·.1)).flatten = (ps.map (·.1)).flatten ++ tv := by simp
          refine ⟨ps ++ [(tv, bk (elems[k]'(by omega)).1)], by simp [h0], fun p h => ?_, ?_, by rw [hfl, List.length_append, h2, htl, Nat.succ_mul], fun i h => ?_⟩
          · rcases List.mem_append.1 h with h | h
            · exact h1 p h
            · rw [List.mem_singleton.1 h]; exact ⟨htl, hf⟩
          · rw [List.map_append, hm1, List.take_succ_eq_append_getElem (by omega), List.map_append]; rfl
          · simp only [hfl] at h ⊢
            by_cases hix : i < (ps.map (·.1)).flatten.length
            · rw [List.getElem_append_left hix]; exact h3 i hix
            · rw [List.getElem_append_right (by omega)]
              rw [List.length_append] at h
              have hj : i - (ps.map (·.1)).flatten.length < tv.length := by omega
              refine ⟨vs.getD (i - (ps.map (·.1)).flatten.length) Go.undef, ?_, hr.2 _ hj⟩
              have := hvc (i - (ps.map (·.1)).flatten.length) (by omega)
              rw [show o + i = o + (k * c + (i - (ps.map (·.1)).flatten.length)) by rw [← h2]; omega]
              exact this
      obtain ⟨ps, h0, h1, hm1, h2, h3⟩ := build len (Nat.le_refl _)
      refine ⟨[.list c .non ps.length (ps.map (·.1)).flatten], .cons ?_ (.nil _ _), rfl, _, rfl, .inr ⟨ps, rfl, h1, ?_⟩⟩
      · have hu : ∀ i, ∃ u, (h : i < (ps.map (·.1)).flatten.length) → w.cell? ⟨b, o + i, none⟩ = some u ∧ Rel (Ghost.start w) w (ps.map (·.1)).flatten[i] u := fun i => by
          by_cases h : i < (ps.map (·.1)).flatten.length
          · obtain ⟨u, hu⟩ := h3 i h
            exact ⟨u, fun _ => hu⟩
          · exact ⟨Go.undef, fun h' => absurd h' h⟩
        rw [h0]
        refine .list _ _ _ _ b o cap (fun i => Classical.choose (hu i)) h2 hl (fun i hi => ?_) (fun i hi => (Classical.choose_spec (hu i) hi).2) trivial
        have := (Classical.choose_spec (hu i) hi).1
        exact ⟨⟨rfl, _, this⟩, this⟩
      · rw [hm1, List.take_of_length_le (by omega)]
        exact hbs
/-- The fields of a struct, each of some cells. -/
def FieldsQ (bk : DataW H → Nat) (enc : TypeId × Value → H) (P : Program) (w : World) (base : Nat) (held : Bool) (n : Nat) : List (Nat × (Nat → List TV → Prop)) → List Field → Nat → Prop
  | [], [], _ => True
  | S :: Ss, f :: fs, o => f.offset = o ∧ OpQ bk enc P w base held n S.1 S.2 f.type ∧ FieldsQ bk enc P w base held n Ss fs (o + S.1)
  | _, _, _ => False
def EachQ : List (Nat × (Nat → List TV → Prop)) → Nat → List TV → Prop
  | [], _, xs => xs = []
  | S :: Ss, k, xs => ∃ a b k1 k2, xs = a ++ b ∧ a.length = S.1 ∧ S.2 k1 a ∧ EachQ Ss k2 b ∧ k1 + k2 ≤ k
def totQ : List (Nat × (Nat → List TV → Prop)) → Nat
  | [] => 0
  | S :: Ss => S.1 + totQ Ss
theorem opq_fields {n : Nat} {vs : List Value} : ∀ (Ss : List (Nat × (Nat → List TV → Prop))) (fs : List Field) (o : Nat) (xs : List (DataW H × List MemPlace)), FieldsQ bk enc P w base held n Ss fs o → xs.length = fs.length → vs.length = o + totQ Ss →
    (∀ (i : Nat) (f : Field), fs[i]? = some f → DataW.trod enc P w base (fun _ => true) held n f.type ((vs.drop f.offset).take (P.cellsOf f.type)) = xs[i]?) → ∃ tv, RelL (Ghost.start w) w tv (vs.drop o) ∧ tv.length = totQ Ss ∧ EachQ Ss (xs.map (fun y => bk y.1)).sum tv
  | [], [], o, xs, _, _, hl, _ => ⟨[], by rw [List.drop_of_length_le (by simp [totQ] at hl; omega)]; exact .nil _ _, rfl, rfl⟩
  | S :: Ss, f :: fs, o, [], _, hx, _, _ => by simp at hx
  | S :: Ss, f :: fs, o, x :: xs, ht, hx, hl, hd => by
    obtain ⟨h1, ⟨h2, h3⟩, h4⟩ := ht
    have hd0 := hd 0 f rfl
    rw [h1, h2] at hd0
    obtain ⟨tv0, hr, htl, hf⟩ := h3 _ _ hd0
    obtain ⟨tv, hr', hl', hf'⟩ := opq_fields (n := n) (vs := vs) Ss fs (o + S.1) xs h4 (by simpa using hx) (by simp only [totQ] at hl; omega) (fun i f' hi => by simpa using hd (i + 1) f' (by simpa using hi))
    refine ⟨tv0 ++ tv, ?_, by simp [hl', htl, totQ], tv0, tv, _, _, rfl, htl, hf, hf', by simp only [List.map_cons, List.sum_cons]; exact Nat.le_refl _⟩
    have hlt : o + S.1 ≤ vs.length := by simp only [totQ] at hl; omega
    have e : vs.drop o = (vs.drop o).take S.1 ++ vs.drop (o + S.1) := by rw [← List.drop_drop, List.take_append_drop]
    rw [e]
    exact RelL.append hr hr'
  | [], f :: fs, o, xs, ht, _, _, _ => ht.elim
  | S :: Ss, [], o, xs, ht, _, _, _ => ht.elim
theorem opq_struct {n c : Nat} {Ss : List (Nat × (Nat → List TV → Prop))} {e : TypeId} {fs : Array Field} (hb : Blk bk) (ht : P.underlying e = some (.struct fs)) (hc : P.cellsOf e = c) (hl : totQ Ss = c) (hf : ∀ m, m < n → FieldsQ bk enc P w base held m Ss fs.toList 0) :
    OpQ bk enc P w base held n c (fun k tv => ∃ k', k' + 1 ≤ k ∧ EachQ Ss k' tv) e := ⟨hc, fun vs x hd => by
  obtain ⟨xs, m, rfl, rfl, hvl, hx, hi⟩ := DataW.trod_struct ht hd
  obtain ⟨tv, h1, h2, h3⟩ := opq_fields (bk := bk) (enc := enc) (P := P) (w := w) (base := base) (held := held) (n := m) (vs := vs) Ss fs.toList 0 xs (hf m (by omega)) (by simpa using hx) (by omega) (fun i f h => hi i f (by simpa using h))
  refine ⟨tv, by simpa using h1, by omega, _, ?_, h3⟩
  have := hb.agg (xs.map (·.1))
  rw [List.map_map] at this
  exact this⟩
end
end Go.TVF
end

section
namespace Go.TVF
set_option linter.unusedVariables false
section
variable {α : Type}
/-- Two elements change places. -/
def swp (l : List α) (i j : Nat) : List α := match l[i]?, l[j]? with | some x, some y => (l.set i y).set j x | _, _ => l
theorem swp_mid {P Y Q : List α} {x z : α} : swp (P ++ x :: (Y ++ z :: Q)) P.length (P.length + 1 + Y.length) = P ++ z :: (Y ++ x :: Q) := by
  have h1 : (P ++ x :: (Y ++ z :: Q))[P.length]? = some x := by simp
  have h2 : (P ++ x :: (Y ++ z :: Q))[P.length + 1 + Y.length]? = some z := by
    rw [List.getElem?_append_right (by omega)]
    rw [show P.length + 1 + Y.length - P.length = Y.length + 1 by omega, List.getElem?_cons_succ, List.getElem?_append_right (by omega)]
    simp
  unfold swp
  rw [h1, h2]
  simp only
  rw [List.set_append_right _ _ (by omega), Nat.sub_self, List.set_cons_zero, List.set_append_right _ _ (by omega)]
  rw [show P.length + 1 + Y.length - P.length = Y.length + 1 by omega, List.set_cons_succ, List.set_append_right _ _ (by omega), Nat.sub_self, List.set_cons_zero]
/-- Runs that change places, element by element. -/
theorem swp_run {P X Y Z Q : List α} {i : Nat} (hi : i < X.length) (hz : Z.length = X.length) :
    swp (P ++ (Z.take i ++ X.drop i) ++ Y ++ (X.take i ++ Z.drop i) ++ Q) (P.length + i) (P.length + X.length + Y.length + i) = P ++ (Z.take (i + 1) ++ X.drop (i + 1)) ++ Y ++ (X.take (i + 1) ++ Z.drop (i + 1)) ++ Q := by
  have hx : X.drop i = X[i] :: X.drop (i + 1) := List.drop_eq_getElem_cons hi
  have hzd : Z.drop i = Z[i]'(by omega) :: Z.drop (i + 1) := List.drop_eq_getElem_cons (by omega)
  have e1 : P ++ (Z.take i ++ X.drop i) ++ Y ++ (X.take i ++ Z.drop i) ++ Q = (P ++ Z.take i) ++ X[i] :: ((X.drop (i + 1) ++ Y ++ X.take i) ++ Z[i]'(by omega) :: (Z.drop (i + 1) ++ Q)) := by
    have h1 : P ++ (Z.take i ++ X.drop i) ++ Y ++ (X.take i ++ Z.drop i) ++ Q = P ++ Z.take i ++ X.drop i ++ (Y ++ X.take i ++ (Z.drop i ++ Q)) := by simp only [List.append_assoc]
    rw [h1, hx, hzd]
    simp only [List.append_assoc, List.cons_append]
  have l1 : (P ++ Z.take i).length = P.length + i := by simp; omega
  have l2 : (X.drop (i + 1) ++ Y ++ X.take i).length = X.length - 1 + Y.length := by simp; omega
  rw [e1]
  have := swp_mid (P := P ++ Z.take i) (Y := X.drop (i + 1) ++ Y ++ X.take i) (Q := Z.drop (i + 1) ++ Q) (x := X[i]) (z := Z[i]'(by omega))
  rw [l1, l2, show P.length + i + 1 + (X.length - 1 + Y.length) = P.length + X.length + Y.length + i by omega] at this
  rw [this]
  have t1 : X.take (i + 1) = X.take i ++ [X[i]] := by rw [List.take_succ_eq_append_getElem hi]
  have t2 : Z.take (i + 1) = Z.take i ++ [Z[i]'(by omega)] := by rw [List.take_succ_eq_append_getElem (by omega)]
  simp only [t1, t2, List.append_assoc, List.cons_append, List.nil_append]
variable (le : α → α → Prop)
def Srt (l : List α) : Prop := l.Pairwise le
variable {le}
theorem srt_app (tr : ∀ x y z, le x y → le y z → le x z) {A B : List α} (ha : Srt le A) (hb : Srt le B) (h : ∀ x, A.getLast? = some x → ∀ y, B.head? = some y → le x y) (rf : ∀ x, le x x) : Srt le (A ++ B) := by
  refine List.pairwise_append.2 ⟨ha, hb, fun x hx y hy => ?_⟩
  rcases List.eq_nil_or_concat A with rfl | ⟨A', a, hA⟩
  · simp at hx
  rw [List.concat_eq_append] at hA
  subst hA
  cases B with
  | nil => simp at hy
  | cons b B =>
    have hab := h a (by simp) b rfl
    have h1 : le x a := by
      rcases List.mem_append.1 hx with h | h
      · exact (List.pairwise_append.1 ha).2.2 x h a (by simp)
      · simp at h; subst h; exact rf x
    have h2 : le b y := by
      rcases List.mem_cons.1 hy with h | h
      · subst h; exact rf y
      · exact (List.pairwise_cons.1 hb).1 y h
    exact tr _ _ _ h1 (tr _ _ _ hab h2)
/-- Two halves, each merged by itself. -/
theorem srt_halves (tr : ∀ x y z, le x y → le y z → le x z) {L1 L2 R1 R2 M1 M2 : List α} (rf : ∀ x, le x x) (hL : Srt le (L1 ++ L2)) (hR : Srt le (R1 ++ R2)) (h1 : ∀ x, R1.getLast? = some x → ∀ y, L2.head? = some y → le x y) (h2 : ∀ x, L1.getLast? = some x → ∀ y, R2.head? = some y → le x y)
    (p1 : M1.Perm (L1 ++ R1)) (p2 : M2.Perm (L2 ++ R2)) (s1 : Srt le M1) (s2 : Srt le M2) : (M1 ++ M2).Perm (L1 ++ L2 ++ (R1 ++ R2)) ∧ Srt le (M1 ++ M2) := by
  obtain ⟨a1, a2, a3⟩ := List.pairwise_append.1 hL
  obtain ⟨b1, b2, b3⟩ := List.pairwise_append.1 hR
  have c1 := List.pairwise_append.1 (srt_app tr b1 a2 h1 rf)
  have c2 := List.pairwise_append.1 (srt_app tr a1 b2 h2 rf)
  constructor
  · refine (p1.append p2).trans ?_
    simp only [List.append_assoc]
    refine List.Perm.append_left _ ?_
    rw [← List.append_assoc, ← List.append_assoc]
    exact List.Perm.append_right _ List.perm_append_comm
  · refine List.pairwise_append.2 ⟨s1, s2, fun x hx y hy => ?_⟩
    rcases List.mem_append.1 (p1.mem_iff.1 hx) with hx | hx <;> rcases List.mem_append.1 (p2.mem_iff.1 hy) with hy | hy
    · exact a3 x hx y hy
    · exact c2.2.2 x hx y hy
    · exact c1.2.2 x hx y hy
    · exact b3 x hx y hy
/-- One element put into a sorted run. -/
theorem srt_put (tr : ∀ x y z, le x y → le y z → le x z) {A B : List α} {x : α} (rf : ∀ x, le x x) (h : Srt le (A ++ B)) (h1 : ∀ y, A.getLast? = some y → le y x) (h2 : ∀ y, B.head? = some y → le x y) : Srt le (A ++ x :: B) := by
  obtain ⟨a, b, c⟩ := List.pairwise_append.1 h
  refine srt_app tr a ?_ (fun y hy z hz => by simp at hz; subst hz; exact h1 y hy) rf
  exact srt_app (A := [x]) tr (List.pairwise_singleton _ _) b (fun y hy z hz => by simp at hy; subst hy; exact h2 z hz) rf
end
end Go.TVF
end

section
namespace Go.TVF
open Go Go.Proofs
set_option linter.unusedVariables false
/-- What a value has but for the values in it. -/
structure Sc where
  kind : Int
  b : Bool
  neg : Bool
  dg : List UInt8
  ex : Int
  tk : Int
  td : Int
  tn : Int
  tz : Int
  text : List UInt8
  bytes : List UInt8
mutual
inductive Vl where
  | mk (s : Sc) (l : List Vl) (f : List Fd)
inductive Fd where
  | mk (k : List UInt8) (v : Vl)
end
def Vl.sc : Vl → Sc | .mk s _ _ => s
def Vl.list : Vl → List Vl | .mk _ l _ => l
def Vl.flds : Vl → List Fd | .mk _ _ f => f
def Fd.key : Fd → List UInt8 | .mk k _ => k
def Fd.val : Fd → Vl | .mk _ v => v
/-- A slice that reads, in a state, as these cells: settled, or over a box. -/
def SlR (st : St) (sz : Nat) (v : TV) (n : Nat) (xs : List TV) : Prop :=
  Rd sz v n xs ∨ ∃ b off cap l, v = .ms sz b off n cap ∧ b < st.nb ∧ st.box b = .cells l ∧ off + cap * sz ≤ l.length ∧ n ≤ cap ∧ xs = (l.drop off).take (n * sz)
theorem SlR.of_rd {st : St} {sz n : Nat} {v : TV} {xs : List TV} (h : Rd sz v n xs) : SlR st sz v n xs := .inl h
/-- What a state keeps. -/
def Keeps (st st' : St) : Prop := st.nb ≤ st'.nb ∧ ∀ b, b < st.nb → st'.box b = st.box b
theorem SlR.keep {st st' : St} (k : Keeps st st') {sz n : Nat} {v : TV} {xs : List TV} (h : SlR st sz v n xs) : SlR st' sz v n xs := by
  rcases h with h | ⟨b, off, cap, l, h1, h2, h3, h4, h5, h6⟩
  · exact .inl h
  · exact .inr ⟨b, off, cap, l, h1, Nat.lt_of_lt_of_le h2 k.1, (k.2 b h2).trans h3, h4, h5, h6⟩
mutual
def VlR (st : St) : Vl → List TV → Prop
  | .mk s l f, cs => ∃ ub ul uf xl xf, cs = [.int .i64 s.kind, .bool s.b, .bool s.neg, .str s.dg, .int .i64 s.ex, .int .i64 s.tk, .int .i64 s.td, .int .i64 s.tn, .int .i64 s.tz, .str s.text, ub, ul, uf] ∧
      SlR st 1 ub s.bytes.length (bytesT s.bytes) ∧ SlR st 13 ul l.length xl ∧ VsR st l xl ∧ SlR st 14 uf f.length xf ∧ FsR st f xf
def VsR (st : St) : List Vl → List TV → Prop
  | [], xs => xs = []
  | v :: r, xs => ∃ a b, xs = a ++ b ∧ VlR st v a ∧ VsR st r b
def FdR (st : St) : Fd → List TV → Prop
  | .mk k v, xs => ∃ cs, xs = .str k :: cs ∧ VlR st v cs
def FsR (st : St) : List Fd → List TV → Prop
  | [], xs => xs = []
  | d :: r, xs => ∃ a b, xs = a ++ b ∧ FdR st d a ∧ FsR st r b
end
mutual
theorem VlR.keep {st st' : St} (k : Keeps st st') : ∀ {v : Vl} {cs : List TV}, VlR st v cs → VlR st' v cs
  | .mk s l f, cs, h => by
    unfold VlR at h ⊢
    obtain ⟨ub, ul, uf, xl, xf, h0, h1, h2, h3, h4, h5⟩ := h
    exact ⟨ub, ul, uf, xl, xf, h0, h1.keep k, h2.keep k, VsR.keep k h3, h4.keep k, FsR.keep k h5⟩
theorem VsR.keep {st st' : St} (k : Keeps st st') : ∀ {l : List Vl} {cs : List TV}, VsR st l cs → VsR st' l cs
  | [], cs, h => by unfold VsR at h ⊢; exact h
  | v :: r, cs, h => by
    unfold VsR at h ⊢
    obtain ⟨a, b, h0, h1, h2⟩ := h
    exact ⟨a, b, h0, VlR.keep k h1, VsR.keep k h2⟩
theorem FdR.keep {st st' : St} (k : Keeps st st') : ∀ {d : Fd} {cs : List TV}, FdR st d cs → FdR st' d cs
  | .mk key v, cs, h => by
    unfold FdR at h ⊢
    obtain ⟨c, h0, h1⟩ := h
    exact ⟨c, h0, VlR.keep k h1⟩
theorem FsR.keep {st st' : St} (k : Keeps st st') : ∀ {l : List Fd} {cs : List TV}, FsR st l cs → FsR st' l cs
  | [], cs, h => by unfold FsR at h ⊢; exact h
  | d :: r, cs, h => by
    unfold FsR at h ⊢
    obtain ⟨a, b, h0, h1, h2⟩ := h
    exact ⟨a, b, h0, FdR.keep k h1, FsR.keep k h2⟩
end
theorem VlR.len {st : St} {v : Vl} {cs : List TV} (h : VlR st v cs) : cs.length = 13 := by
  cases v; unfold VlR at h; obtain ⟨ub, ul, uf, xl, xf, rfl, _⟩ := h; rfl
theorem FdR.len {st : St} {v : Fd} {cs : List TV} (h : FdR st v cs) : cs.length = 14 := by
  cases v; unfold FdR at h; obtain ⟨c, rfl, h⟩ := h; simp [h.len]
theorem VsR.len {st : St} : ∀ {l : List Vl} {xs : List TV}, VsR st l xs → xs.length = l.length * 13
  | [], xs, h => by unfold VsR at h; subst h; rfl
  | v :: r, xs, h => by
    unfold VsR at h
    obtain ⟨a, b, rfl, h1, h2⟩ := h
    rw [List.length_append, h1.len, VsR.len h2, List.length_cons]; omega
theorem FsR.len {st : St} : ∀ {l : List Fd} {xs : List TV}, FsR st l xs → xs.length = l.length * 14
  | [], xs, h => by unfold FsR at h; subst h; rfl
  | v :: r, xs, h => by
    unfold FsR at h
    obtain ⟨a, b, rfl, h1, h2⟩ := h
    rw [List.length_append, h1.len, FsR.len h2, List.length_cons]; omega
theorem VsR.get {st : St} : ∀ {l : List Vl} {xs : List TV} {i : Nat} {v : Vl}, VsR st l xs → l[i]? = some v → ∃ cs, VlR st v cs ∧ (xs.drop (i * 13)).take 13 = cs ∧ cs.length = 13
  | [], xs, i, v, h, hi => by simp at hi
  | w :: r, xs, i, v, h, hi => by
    unfold VsR at h
    obtain ⟨a, b, rfl, h1, h2⟩ := h
    cases i with
    | zero =>
      simp only [List.getElem?_cons_zero, Option.some.injEq] at hi
      subst hi
      refine ⟨a, h1, ?_, h1.len⟩
      rw [Nat.zero_mul, List.drop_zero, ← h1.len, List.take_left]
    | succ i =>
      obtain ⟨cs, h3, h4, h5⟩ := VsR.get h2 (by simpa using hi)
      refine ⟨cs, h3, ?_, h5⟩
      rw [show (i + 1) * 13 = a.length + i * 13 by rw [h1.len]; omega, List.drop_append]
      simp only [Nat.add_sub_cancel_left]
      rw [List.drop_of_length_le (by omega), List.nil_append]; exact h4
theorem FsR.get {st : St} : ∀ {l : List Fd} {xs : List TV} {i : Nat} {v : Fd}, FsR st l xs → l[i]? = some v → ∃ cs, FdR st v cs ∧ (xs.drop (i * 14)).take 14 = cs ∧ cs.length = 14
  | [], xs, i, v, h, hi => by simp at hi
  | w :: r, xs, i, v, h, hi => by
    unfold FsR at h
    obtain ⟨a, b, rfl, h1, h2⟩ := h
    cases i with
    | zero =>
      simp only [List.getElem?_cons_zero, Option.some.injEq] at hi
      subst hi
      refine ⟨a, h1, ?_, h1.len⟩
      rw [Nat.zero_mul, List.drop_zero, ← h1.len, List.take_left]
    | succ i =>
      obtain ⟨cs, h3, h4, h5⟩ := FsR.get h2 (by simpa using hi)
      refine ⟨cs, h3, ?_, h5⟩
      rw [show (i + 1) * 14 = a.length + i * 14 by rw [h1.len]; omega, List.drop_append]
      simp only [Nat.add_sub_cancel_left]
      rw [List.drop_of_length_le (by omega), List.nil_append]; exact h4
mutual
def Vl.cnt : Vl → Nat
  | .mk _ l f => 1 + vsCnt l + fsCnt f
def vsCnt : List Vl → Nat
  | [] => 0
  | v :: r => v.cnt + vsCnt r
def Fd.cnt : Fd → Nat
  | .mk _ v => v.cnt
def fsCnt : List Fd → Nat
  | [] => 0
  | d :: r => d.cnt + fsCnt r
end
end Go.TVF
end

section
set_option linter.unusedVariables false
set_option linter.unusedSimpArgs false
namespace Go.TVF
open Go
theorem or_i64 (x y : Nat) (hx : x < 2 ^ 63) (hy : y < 2 ^ 63) : bitsI .or .i64 (x : Int) (y : Int) = ((x ||| y : Nat) : Int) := by
  have h : x ||| y < 2 ^ 63 := Nat.or_lt_two_pow hx hy
  show IntKind.wrap .i64 ((BitVec.ofInt 64 (x : Int) ||| BitVec.ofInt 64 (y : Int)).toNat : Int) = _
  simp only [BitVec.ofInt_natCast, BitVec.toNat_or, BitVec.toNat_ofNat]
  rw [Nat.mod_eq_of_lt (by omega), Nat.mod_eq_of_lt (by omega), wrap64 _ (by omega) (by omega)]
theorem and_i64 (x y : Nat) (hx : x < 2 ^ 63) (hy : y < 2 ^ 63) : bitsI .and .i64 (x : Int) (y : Int) = ((x &&& y : Nat) : Int) := by
  have h : x &&& y < 2 ^ 63 := Nat.and_lt_two_pow _ hy
  show IntKind.wrap .i64 ((BitVec.ofInt 64 (x : Int) &&& BitVec.ofInt 64 (y : Int)).toNat : Int) = _
  simp only [BitVec.ofInt_natCast, BitVec.toNat_and, BitVec.toNat_ofNat]
  rw [Nat.mod_eq_of_lt (by omega), Nat.mod_eq_of_lt (by omega), wrap64 _ (by omega) (by omega)]
theorem and_u8 (x y : Nat) (hx : x < 2 ^ 8) (hy : y < 2 ^ 8) : bitsI .and .u8 (x : Int) (y : Int) = ((x &&& y : Nat) : Int) := by
  have h : x &&& y < 2 ^ 8 := Nat.and_lt_two_pow _ hy
  show IntKind.wrap .u8 ((BitVec.ofInt 8 (x : Int) &&& BitVec.ofInt 8 (y : Int)).toNat : Int) = _
  simp only [BitVec.ofInt_natCast, BitVec.toNat_and, BitVec.toNat_ofNat]
  rw [Nat.mod_eq_of_lt (by omega), Nat.mod_eq_of_lt (by omega), wrapU8 _ (by omega) (by omega)]
theorem or_add (a b m : Nat) (hb : b < 2 ^ m) (h : a * 2 ^ m + b < 2 ^ 63) : bitsI .or .i64 ((a * 2 ^ m : Nat) : Int) (b : Int) = ((a * 2 ^ m + b : Nat) : Int) := by
  have hb' : b < 2 ^ 63 := by omega
  rw [or_i64 _ _ (by omega) hb', Nat.mul_comm a, Nat.two_pow_add_eq_or_of_lt hb]
theorem and_mask (a m : Nat) (ha : a < 2 ^ 63) (hm : m < 63) : bitsI .and .i64 (a : Int) ((2 ^ m - 1 : Nat) : Int) = ((a % 2 ^ m : Nat) : Int) := by
  have : 2 ^ m < 2 ^ 63 := Nat.pow_lt_pow_right (by decide) hm
  rw [and_i64 _ _ ha (by omega), Nat.and_two_pow_sub_one_eq_mod]
theorem byteLe (x : UInt8) : x.toNat ≤ 255 := by have := x.toNat_lt; omega
theorem wrapB8 (n : Nat) (h : n ≤ 255) : IntKind.wrap .i64 (n : Int) = n := wrap64 _ (by omega) (by omega)
theorem getD_take {α : Type} (l : List α) (i : Nat) (d : α) (h : i < l.length) : l.take (i + 1) = l.take i ++ [l.getD i d] := by
  rw [List.take_add_one, List.getElem?_eq_getElem h, List.getD, List.getElem?_eq_getElem h]; rfl
theorem shr_i64 (x m : Nat) (h : m ≤ 64) : Int.fdiv (x : Int) (2 ^ (min m (IntKind.bits .i64))) = ((x / 2 ^ m : Nat) : Int) := by
  rw [show min m (IntKind.bits .i64) = m from Nat.min_eq_left h, show (2 : Int) ^ m = ((2 ^ m : Nat) : Int) by simp, Int.fdiv_eq_ediv_of_nonneg _ (Int.natCast_nonneg _)]
  rfl
theorem getD_drop {α : Type} (l : List α) (i j : Nat) (d : α) : (l.drop i).getD j d = l.getD (i + j) d := by
  simp [List.getD, List.getElem?_drop]
theorem take_drop_sub {α : Type} (l : List α) (i j : Nat) : (l.take j).drop i = (l.drop i).take (j - i) := by
  rw [List.drop_take]
/-- The number of a byte of a text (0 behind its end). -/
def bt (l : List UInt8) (i : Nat) : Nat := (l.getD i 0).toNat
theorem bt_lt (l : List UInt8) (i : Nat) : bt l i < 256 := (l.getD i 0).toNat_lt
theorem bt_drop (l : List UInt8) (i j : Nat) : bt (l.drop i) j = bt l (i + j) := by simp [bt, getD_drop]
/-- Decoding at the head: the character and how many bytes; (65533, 1) where none begins. -/
def dN (l : List UInt8) : Nat × Nat := Lib.decodeN l.length (bt l 0) (bt l 1) (bt l 2) (bt l 3)
/-- How many bytes the character at the head has; 0: none begins there. -/
def ul (l : List UInt8) : Nat := if l = [] ∨ dN l = (65533, 1) then 0 else (dN l).2
def ur (l : List UInt8) : Nat := (dN l).1
def isChar (r : Nat) : Prop := r ≤ 1114111 ∧ (r < 55296 ∨ 57343 < r)
instance (r : Nat) : Decidable (isChar r) := by unfold isChar; infer_instance
def encU (r : Nat) : List UInt8 :=
  if r < 128 then [UInt8.ofNat r] else if r < 2048 then [UInt8.ofNat (192 + r / 64), UInt8.ofNat (128 + r % 64)]
  else if r < 65536 then [UInt8.ofNat (224 + r / 4096), UInt8.ofNat (128 + r / 64 % 64), UInt8.ofNat (128 + r % 64)]
  else [UInt8.ofNat (240 + r / 262144), UInt8.ofNat (128 + r / 4096 % 64), UInt8.ofNat (128 + r / 64 % 64), UInt8.ofNat (128 + r % 64)]
theorem ofNat_eq (n : Nat) (c : UInt8) : UInt8.ofNat n = c ↔ n % 256 = c.toNat := by
  rw [← UInt8.toNat_inj]; simp
theorem take_one (l : List UInt8) (h : 1 ≤ l.length) : l.take 1 = [l.getD 0 0] := by
  rw [getD_take l 0 0 (by omega)]; rfl
theorem take_two (l : List UInt8) (h : 2 ≤ l.length) : l.take 2 = [l.getD 0 0, l.getD 1 0] := by
  rw [getD_take l 1 0 (by omega), take_one l (by omega)]; rfl
theorem take_three (l : List UInt8) (h : 3 ≤ l.length) : l.take 3 = [l.getD 0 0, l.getD 1 0, l.getD 2 0] := by
  rw [getD_take l 2 0 (by omega), take_two l (by omega)]; rfl
theorem take_four (l : List UInt8) (h : 4 ≤ l.length) : l.take 4 = [l.getD 0 0, l.getD 1 0, l.getD 2 0, l.getD 3 0] := by
  rw [getD_take l 3 0 (by omega), take_three l (by omega)]; rfl
/-- The size that a first byte announces, and its bits. -/
def rsz (b0 : Nat) : Nat := if 240 ≤ b0 then 4 else if 224 ≤ b0 then 3 else if 192 ≤ b0 then 2 else 1
def rb0 (b0 : Nat) : Nat := if 240 ≤ b0 then b0 % 8 else if 224 ≤ b0 then b0 % 16 else if 192 ≤ b0 then b0 % 32 else b0
def racc (l : List UInt8) (r0 : Nat) : Nat → Nat
  | 0 => r0
  | j + 1 => racc l r0 j * 64 + bt l (j + 1) % 64
theorem racc_lt (l : List UInt8) (r0 : Nat) (h : r0 < 256) : ∀ j, racc l r0 j < 256 * 64 ^ j
  | 0 => by simpa [racc] using h
  | j + 1 => by
    have := racc_lt l r0 h j
    have h2 := Nat.mod_lt (bt l (j + 1)) (show 0 < 64 by omega)
    simp only [racc, Nat.pow_succ]
    omega
theorem rb0_lt (b0 : Nat) (h : b0 < 256) : rb0 b0 < 256 := by
  unfold rb0
  repeat' split
  all_goals omega
theorem rsz_le (b0 : Nat) : 1 ≤ rsz b0 ∧ rsz b0 ≤ 4 := by
  unfold rsz
  repeat' split
  all_goals omega
/-- Decoding by encoding again. -/
def refU (l : List UInt8) : Nat × Nat :=
  let size := rsz (bt l 0)
  let r := racc l (rb0 (bt l 0)) (size - 1)
  if l.length < size then (0, 0) else if isChar r ∧ encU r = l.take size then (r, size) else (0, 0)
theorem cons_eq2 {a b : UInt8} {x y : List UInt8} : (a :: x = b :: y) ↔ a = b ∧ x = y := by simp
set_option maxHeartbeats 4000000 in
theorem refU_eq (l : List UInt8) (h : l ≠ []) : refU l = if ul l = 0 then (0, 0) else (ur l, ul l) := by
  have hl : 1 ≤ l.length := by cases l with | nil => exact absurd rfl h | cons a r => simp
  have h0 := bt_lt l 0
  have h1 := bt_lt l 1
  have h2 := bt_lt l 2
  have h3 := bt_lt l 3
  have e0 : (l.getD 0 0).toNat = bt l 0 := rfl
  have e1 : (l.getD 1 0).toNat = bt l 1 := rfl
  have e2 : (l.getD 2 0).toNat = bt l 2 := rfl
  have e3 : (l.getD 3 0).toNat = bt l 3 := rfl
  have hul : ul l = if dN l = (65533, 1) then 0 else (dN l).2 := by simp [ul, h]
  rw [hul, ur]
  unfold dN
  generalize hb0 : bt l 0 = b0 at *
  generalize hb1 : bt l 1 = b1 at *
  generalize hb2 : bt l 2 = b2 at *
  generalize hb3 : bt l 3 = b3 at *
  unfold refU
  simp only [hb0]
  by_cases c4 : 240 ≤ b0
  · have r4 : rsz b0 = 4 := by unfold rsz; rw [if_pos c4]
    have rb : rb0 b0 = b0 % 8 := by unfold rb0; rw [if_pos c4]
    rw [r4, rb]
    simp only [Nat.reduceSub, racc, hb1, hb2, hb3, Nat.zero_add, Nat.reduceAdd]
    by_cases hn : l.length < 4
    · rw [if_pos hn]
      have : Lib.decodeN l.length b0 b1 b2 b3 = (65533, 1) := by
        unfold Lib.decodeN
        rw [if_neg (by omega), if_neg (by omega), if_neg (by omega), if_neg (by omega)]
      rw [this]; simp
    · rw [if_neg hn]
      have hEnc : (isChar (((b0 % 8 * 64 + b1 % 64) * 64 + b2 % 64) * 64 + b3 % 64) ∧ encU (((b0 % 8 * 64 + b1 % 64) * 64 + b2 % 64) * 64 + b3 % 64) = l.take 4) ↔ (b0 / 8 = 30 ∧ b1 / 64 = 2 ∧ b2 / 64 = 2 ∧ b3 / 64 = 2 ∧ 65536 ≤ ((b0 % 8 * 64 + b1 % 64) * 64 + b2 % 64) * 64 + b3 % 64 ∧ ((b0 % 8 * 64 + b1 % 64) * 64 + b2 % 64) * 64 + b3 % 64 ≤ 1114111) := by
        rw [take_four l (by omega)]
        generalize hr : ((b0 % 8 * 64 + b1 % 64) * 64 + b2 % 64) * 64 + b3 % 64 = r
        unfold isChar encU
        by_cases k1 : r < 128
        · rw [if_pos k1]; simp; omega
        · rw [if_neg k1]
          by_cases k2 : r < 2048
          · rw [if_pos k2]; simp; omega
          · rw [if_neg k2]
            by_cases k3 : r < 65536
            · rw [if_pos k3]; simp; omega
            · rw [if_neg k3]
              simp only [cons_eq2, ofNat_eq, e0, e1, e2, e3, and_true]
              omega
      by_cases hE : b0 / 8 = 30 ∧ b1 / 64 = 2 ∧ b2 / 64 = 2 ∧ b3 / 64 = 2 ∧ 65536 ≤ ((b0 % 8 * 64 + b1 % 64) * 64 + b2 % 64) * 64 + b3 % 64 ∧ ((b0 % 8 * 64 + b1 % 64) * 64 + b2 % 64) * 64 + b3 % 64 ≤ 1114111
      · rw [if_pos (hEnc.2 hE)]
        have : Lib.decodeN l.length b0 b1 b2 b3 = (((b0 % 8 * 64 + b1 % 64) * 64 + b2 % 64) * 64 + b3 % 64, 4) := by
          unfold Lib.decodeN
          rw [if_neg (by omega), if_neg (by omega), if_neg (by omega), if_pos (by omega), if_pos (by omega)]
          simp only [Prod.mk.injEq, and_true]; omega
        rw [this]; simp
      · rw [if_neg (fun hh => hE (hEnc.1 hh))]
        have : Lib.decodeN l.length b0 b1 b2 b3 = (65533, 1) := by
          unfold Lib.decodeN
          rw [if_neg (by omega), if_neg (by omega), if_neg (by omega)]
          split
          · rw [if_neg (by omega)]
          · rfl
        rw [this]; simp
  · by_cases c3 : 224 ≤ b0
    · have r4 : rsz b0 = 3 := by unfold rsz; rw [if_neg c4, if_pos c3]
      have rb : rb0 b0 = b0 % 16 := by unfold rb0; rw [if_neg c4, if_pos c3]
      rw [r4, rb]
      simp only [Nat.reduceSub, racc, hb1, hb2, Nat.zero_add, Nat.reduceAdd]
      by_cases hn : l.length < 3
      · rw [if_pos hn]
        have : Lib.decodeN l.length b0 b1 b2 b3 = (65533, 1) := by
          unfold Lib.decodeN
          rw [if_neg (by omega), if_neg (by omega), if_neg (by omega), if_neg (by omega)]
        rw [this]; simp
      · rw [if_neg hn]
        have hEnc : (isChar ((b0 % 16 * 64 + b1 % 64) * 64 + b2 % 64) ∧ encU ((b0 % 16 * 64 + b1 % 64) * 64 + b2 % 64) = l.take 3) ↔ (b1 / 64 = 2 ∧ b2 / 64 = 2 ∧ 2048 ≤ (b0 % 16 * 64 + b1 % 64) * 64 + b2 % 64 ∧ isChar ((b0 % 16 * 64 + b1 % 64) * 64 + b2 % 64)) := by
          rw [take_three l (by omega)]
          generalize hr : (b0 % 16 * 64 + b1 % 64) * 64 + b2 % 64 = r
          unfold isChar encU
          by_cases k1 : r < 128
          · rw [if_pos k1]; simp; omega
          · rw [if_neg k1]
            by_cases k2 : r < 2048
            · rw [if_pos k2]; simp; omega
            · rw [if_neg k2]
              by_cases k3 : r < 65536
              · rw [if_pos k3]
                simp only [cons_eq2, ofNat_eq, e0, e1, e2, and_true]
                omega
              · omega
        by_cases hE : b1 / 64 = 2 ∧ b2 / 64 = 2 ∧ 2048 ≤ (b0 % 16 * 64 + b1 % 64) * 64 + b2 % 64 ∧ isChar ((b0 % 16 * 64 + b1 % 64) * 64 + b2 % 64)
        · rw [if_pos (hEnc.2 hE)]
          have : Lib.decodeN l.length b0 b1 b2 b3 = ((b0 % 16 * 64 + b1 % 64) * 64 + b2 % 64, 3) := by
            unfold isChar at hE
            unfold Lib.decodeN
            rw [if_neg (by omega), if_neg (by omega), if_pos (by omega), if_pos (by omega)]
            simp only [Prod.mk.injEq, and_true]; omega
          rw [this]; simp
        · rw [if_neg (fun hh => hE (hEnc.1 hh))]
          have : Lib.decodeN l.length b0 b1 b2 b3 = (65533, 1) := by
            unfold isChar at hE
            unfold Lib.decodeN
            rw [if_neg (by omega), if_neg (by omega)]
            split
            · rw [if_neg (by omega)]
            · rw [if_neg (by omega)]
          rw [this]; simp
    · by_cases c2 : 192 ≤ b0
      · have r4 : rsz b0 = 2 := by unfold rsz; rw [if_neg c4, if_neg c3, if_pos c2]
        have rb : rb0 b0 = b0 % 32 := by unfold rb0; rw [if_neg c4, if_neg c3, if_pos c2]
        rw [r4, rb]
        simp only [Nat.reduceSub, racc, hb1, Nat.zero_add, Nat.reduceAdd]
        by_cases hn : l.length < 2
        · rw [if_pos hn]
          have : Lib.decodeN l.length b0 b1 b2 b3 = (65533, 1) := by
            unfold Lib.decodeN
            rw [if_neg (by omega), if_neg (by omega), if_neg (by omega), if_neg (by omega)]
          rw [this]; simp
        · rw [if_neg hn]
          have hEnc : (isChar (b0 % 32 * 64 + b1 % 64) ∧ encU (b0 % 32 * 64 + b1 % 64) = l.take 2) ↔ (b1 / 64 = 2 ∧ 128 ≤ b0 % 32 * 64 + b1 % 64) := by
            rw [take_two l (by omega)]
            generalize hr : b0 % 32 * 64 + b1 % 64 = r
            unfold isChar encU
            by_cases k1 : r < 128
            · rw [if_pos k1]; simp; omega
            · rw [if_neg k1, if_pos (by omega)]
              simp only [cons_eq2, ofNat_eq, e0, e1, and_true]
              omega
          by_cases hE : b1 / 64 = 2 ∧ 128 ≤ b0 % 32 * 64 + b1 % 64
          · rw [if_pos (hEnc.2 hE)]
            have : Lib.decodeN l.length b0 b1 b2 b3 = (b0 % 32 * 64 + b1 % 64, 2) := by
              unfold Lib.decodeN
              rw [if_neg (by omega), if_pos (by omega), if_pos (by omega)]
            rw [this]; simp
          · rw [if_neg (fun hh => hE (hEnc.1 hh))]
            have : Lib.decodeN l.length b0 b1 b2 b3 = (65533, 1) := by
              unfold Lib.decodeN
              rw [if_neg (by omega)]
              split
              · rw [if_neg (by omega)]
              · rw [if_neg (by omega), if_neg (by omega)]
            rw [this]; simp
      · have r4 : rsz b0 = 1 := by unfold rsz; rw [if_neg c4, if_neg c3, if_neg c2]
        have rb : rb0 b0 = b0 := by unfold rb0; rw [if_neg c4, if_neg c3, if_neg c2]
        rw [r4, rb]
        simp only [Nat.reduceSub, racc]
        rw [if_neg (by omega), take_one l hl]
        have hEnc : (isChar b0 ∧ encU b0 = [l.getD 0 0]) ↔ b0 < 128 := by
          unfold isChar encU
          by_cases k1 : b0 < 128
          · rw [if_pos k1]; simp only [cons_eq2, ofNat_eq, e0, and_true]; omega
          · rw [if_neg k1, if_pos (by omega)]; simp; omega
        by_cases hE : b0 < 128
        · rw [if_pos (hEnc.2 hE)]
          have : Lib.decodeN l.length b0 b1 b2 b3 = (b0, 1) := by unfold Lib.decodeN; rw [if_pos hE]
          rw [this, if_neg (by simp; omega)]
          simp only [Prod.mk.injEq]
          rw [if_neg (by omega)]
          simp
        · rw [if_neg (fun hh => hE (hEnc.1 hh))]
          have : Lib.decodeN l.length b0 b1 b2 b3 = (65533, 1) := by
            unfold Lib.decodeN
            rw [if_neg (by omega), if_neg (by omega), if_neg (by omega), if_neg (by omega)]
          rw [this]; simp
theorem ul_char (l : List UInt8) (h : ul l ≠ 0) : isChar (ur l) ∧ encU (ur l) = l.take (ul l) ∧ ul l ≤ l.length ∧ ul l ≤ 4 := by
  have hne : l ≠ [] := fun h0 => h (by simp [ul, h0])
  have e := refU_eq l hne
  rw [if_neg h] at e
  unfold refU at e
  simp only at e
  split at e
  · simp only [Prod.mk.injEq] at e; omega
  · split at e
    · rename_i hn hc
      simp only [Prod.mk.injEq] at e
      rw [← e.1, ← e.2]
      exact ⟨hc.1, hc.2, by omega, (rsz_le _).2⟩
    · simp only [Prod.mk.injEq] at e; omega
theorem ul_le (l : List UInt8) : ul l ≤ l.length := by
  by_cases h : ul l = 0
  · omega
  · exact (ul_char l h).2.2.1
/-- The length of the longest valid beginning. -/
def vlen (l : List UInt8) : Nat := if h : ul l = 0 then 0 else ul l + vlen (l.drop (ul l))
termination_by l.length
decreasing_by
  have := ul_le l
  simp only [List.length_drop]; omega
theorem vlen_zero (l : List UInt8) (h : ul l = 0) : vlen l = 0 := by rw [vlen, dif_pos h]
theorem vlen_step (l : List UInt8) (h : ul l ≠ 0) : vlen l = ul l + vlen (l.drop (ul l)) := by rw [vlen, dif_neg h]
theorem vlen_le : ∀ (n : Nat) (l : List UInt8), l.length ≤ n → vlen l ≤ l.length
  | 0, l, h => by
    have : l = [] := List.eq_nil_of_length_eq_zero (by omega)
    subst this
    rw [vlen_zero _ (by simp [ul])]; simp
  | n + 1, l, h => by
    by_cases h0 : ul l = 0
    · rw [vlen_zero l h0]; omega
    · have h1 := ul_le l
      have h2 := vlen_le n (l.drop (ul l)) (by simp only [List.length_drop]; omega)
      rw [vlen_step l h0]
      simp only [List.length_drop] at h2; omega
end Go.TVF
end

section
namespace Go.TVF
open Go Go.Proofs
set_option linter.unusedVariables false
set_option linter.unusedSimpArgs false
/-- The decimal digits of a natural, no zero ahead. -/
def natD (n : Nat) : List UInt8 := if h : n = 0 then [] else natD (n / 10) ++ [(48 + n % 10).toUInt8]
termination_by n
decreasing_by omega
theorem natD_zero : natD 0 = [] := by unfold natD; rw [dif_pos rfl]
theorem natD_step {n : Nat} (h : 0 < n) : natD n = natD (n / 10) ++ [(48 + n % 10).toUInt8] := by
  rw [natD.eq_def, dif_neg (by omega)]
theorem natD_len : ∀ (k n : Nat), n < 10 ^ k → (natD n).length ≤ k
  | 0, n, h => by rw [show n = 0 by simpa using h, natD_zero]; simp
  | k + 1, n, h => by
    by_cases h0 : n = 0
    · rw [h0, natD_zero]; simp
    · rw [natD_step (by omega), List.length_append]
      have := natD_len k (n / 10) (by rw [Nat.div_lt_iff_lt_mul (by omega)]; rw [Nat.pow_succ] at h; exact h)
      simp only [List.length_cons, List.length_nil]; omega
def whN (n : Nat) : List UInt8 := if n = 0 then [48] else natD n
/-- The exponent that stands behind a number. -/
def expT (p : Int) : List UInt8 := 101 :: (if p < 1 then 45 :: whN (1 - p).toNat else whN (p - 1).toNat)
/-- The text of a decimal. -/
def dcT (neg : Bool) (dg : List UInt8) (ex : Int) : List UInt8 :=
  if dg = [] then [48] else (if neg then [45] else []) ++
    (if 0 ≤ ex ∧ dg.length + ex ≤ 21 then dg ++ List.replicate ex.toNat 48
    else if ex < 0 ∧ 1 ≤ dg.length + ex ∧ dg.length + ex ≤ 21 then dg.take (dg.length + ex).toNat ++ 46 :: dg.drop (dg.length + ex).toNat
    else if -5 ≤ dg.length + ex ∧ dg.length + ex ≤ 0 then 48 :: 46 :: (List.replicate (-(dg.length + ex)).toNat 48 ++ dg)
    else dg.take 1 ++ ((if 1 < dg.length then 46 :: dg.drop 1 else []) ++ expT (dg.length + ex)))
/-- The last w decimal digits. -/
def padD : Nat → Nat → List UInt8
  | 0, _ => []
  | w + 1, n => padD w (n / 10) ++ [(48 + n % 10).toUInt8]
theorem padD_len : ∀ w n, (padD w n).length = w
  | 0, _ => rfl
  | w + 1, n => by simp [padD, padD_len w]
def isDg (c : UInt8) : Prop := 48 ≤ c.toNat ∧ c.toNat ≤ 57
instance (c : UInt8) : Decidable (isDg c) := inferInstanceAs (Decidable (_ ∧ _))
/-- The zeros at the end. -/
def zerosN (l : List UInt8) : Nat := (l.reverse.takeWhile (· == 48)).length
/-- A valid decimal. -/
def DecOk (neg : Bool) (dg : List UInt8) (ex : Int) : Prop :=
  (dg = [] → neg = false ∧ ex = 0) ∧ (dg ≠ [] → dg.length ≤ 120 ∧ (∀ c, c ∈ dg → isDg c) ∧ dg.getD 0 0 ≠ 48 ∧ zerosN dg = 0 ∧ -400 ≤ ex ∧ ex ≤ 400)
instance (neg : Bool) (dg : List UInt8) (ex : Int) : Decidable (DecOk neg dg ex) := inferInstanceAs (Decidable ((_ → _) ∧ (_ → _)))
/-- A valid time. -/
def TimeOk (k d n z : Int) : Prop :=
  1 ≤ k ∧ k ≤ 4 ∧ 0 ≤ d ∧ d ≤ 3652058 ∧ 0 ≤ n ∧ n ≤ 86399999999999 ∧ -1439 ≤ z ∧ z ≤ 1439 ∧ (k = 2 → d = 0) ∧ (k = 1 → n = 0) ∧ (k ≠ 4 → z = 0)
instance (k d n z : Int) : Decidable (TimeOk k d n z) := inferInstanceAs (Decidable (_ ∧ _ ∧ _ ∧ _ ∧ _ ∧ _ ∧ _ ∧ _ ∧ (_ → _) ∧ (_ → _) ∧ (_ → _)))
theorem dg_byte (k : Nat) (h : k < 10) : (48 + k).toUInt8.toNat = 48 + k := by simp; omega
theorem padD_dg : ∀ w n c, c ∈ padD w n → isDg c
  | 0, _, c, h => by cases h
  | w + 1, n, c, h => by
    unfold padD at h
    rcases List.mem_append.1 h with h | h
    · exact padD_dg w _ c h
    · rw [List.mem_singleton.1 h]; unfold isDg; rw [dg_byte _ (by omega)]; omega
theorem natD_dg : ∀ (n : Nat) c, c ∈ natD n → isDg c := by
  intro n
  induction n using Nat.strongRecOn with
  | _ n ih =>
    intro c h
    by_cases h0 : n = 0
    · rw [h0, natD_zero] at h; cases h
    · rw [natD_step (by omega)] at h
      rcases List.mem_append.1 h with h | h
      · exact ih (n / 10) (by omega) c h
      · rw [List.mem_singleton.1 h]; unfold isDg; rw [dg_byte _ (by omega)]; omega
/-- Without the zeros at the end. -/
def cut0 (l : List UInt8) : List UInt8 := (l.reverse.dropWhile (· == 48)).reverse
theorem cut0_snoc (l : List UInt8) (c : UInt8) : cut0 (l ++ [c]) = if c = 48 then cut0 l else l ++ [c] := by
  unfold cut0
  rw [List.reverse_append, List.reverse_singleton, List.singleton_append, List.dropWhile_cons]
  by_cases h : c = 48
  · rw [if_pos h, if_pos (by simp [h])]
  · rw [if_neg h, if_neg (by simp [h])]; simp
theorem cut0_mem {l : List UInt8} {c : UInt8} (h : c ∈ cut0 l) : c ∈ l := by
  unfold cut0 at h
  exact List.mem_reverse.1 ((List.dropWhile_sublist _).mem (List.mem_reverse.1 h))
theorem cut0_len (l : List UInt8) : (cut0 l).length ≤ l.length := by
  unfold cut0
  rw [List.length_reverse]
  have := (List.dropWhile_sublist (l := l.reverse) (fun x : UInt8 => x == 48)).length_le
  rw [List.length_reverse] at this; exact this
/-- A time of day, in nanoseconds. -/
def clkT (n : Nat) : List UInt8 := padD 2 (n / 1000000000 / 3600) ++ 58 :: (padD 2 (n / 1000000000 / 60 % 60) ++ 58 :: (padD 2 (n / 1000000000 % 60) ++ (if n % 1000000000 = 0 then [] else 46 :: cut0 (padD 9 (n % 1000000000)))))
/-- An offset, in minutes. -/
def offT (z : Int) : List UInt8 := if z = 0 then [90] else (if z < 0 then 45 else 43) :: (padD 2 (z.natAbs / 60) ++ 58 :: padD 2 (z.natAbs % 60))
def leapY (y : Nat) : Prop := y % 4 = 0 ∧ (y % 100 ≠ 0 ∨ y % 400 = 0)
instance (y : Nat) : Decidable (leapY y) := inferInstanceAs (Decidable (_ ∧ _))
def monD (y m : Nat) : Nat := if m = 2 then (if leapY y then 29 else 28) else if m = 4 ∨ m = 6 ∨ m = 9 ∨ m = 11 then 30 else 31
/-- The days of a year ahead of a month. -/
def monS (y : Nat) : Nat → Nat
  | 0 => 0
  | 1 => 0
  | m + 2 => monS y (m + 1) + monD y (m + 1)
def yrS (y : Nat) : Nat := 365 * (y - 1) + (y - 1) / 4 - (y - 1) / 100 + (y - 1) / 400
def IsDate (n y m d : Nat) : Prop := 1 ≤ y ∧ y ≤ 9999 ∧ 1 ≤ m ∧ m ≤ 12 ∧ 1 ≤ d ∧ d ≤ monD y m ∧ n = yrS y + monS y m + (d - 1)
theorem yrS_mono {a b : Nat} (h1 : 1 ≤ a) (h : a ≤ b) : yrS a ≤ yrS b := by
  rcases Nat.eq_or_lt_of_le h with rfl | h
  · exact Nat.le_refl _
  · unfold yrS; omega
theorem monS_12 (y : Nat) : monS y 12 + monD y 12 = if leapY y then 366 else 365 := by
  simp only [monS, monD]
  by_cases h : leapY y <;> simp [h]
theorem div_up (k q : Nat) (h : 0 < q) : (k + 1) / q = k / q + (if (k + 1) % q = 0 then 1 else 0) := by
  rw [Nat.succ_div]
  congr 1
  simp only [Nat.dvd_iff_mod_eq_zero]
theorem yrS_succ {y : Nat} (h : 1 ≤ y) : yrS (y + 1) = yrS y + (monS y 12 + monD y 12) := by
  rw [monS_12]
  obtain ⟨k, rfl⟩ : ∃ k, y = k + 1 := ⟨y - 1, by omega⟩
  unfold yrS
  simp only [Nat.add_sub_cancel]
  rw [div_up k 4 (by omega), div_up k 100 (by omega), div_up k 400 (by omega)]
  have m1 : (k + 1) % 400 = 0 → (k + 1) % 100 = 0 := fun h => by omega
  have m2 : (k + 1) % 100 = 0 → (k + 1) % 4 = 0 := fun h => by omega
  have m3 : k / 100 ≤ k / 4 := by omega
  by_cases a4 : (k + 1) % 4 = 0
  · rw [if_pos a4]
    by_cases a100 : (k + 1) % 100 = 0
    · rw [if_pos a100]
      by_cases a400 : (k + 1) % 400 = 0
      · rw [if_pos a400, if_pos ⟨a4, .inr a400⟩]; omega
      · rw [if_neg a400, if_neg (fun h => h.2.elim (fun h => h a100) a400)]; omega
    · rw [if_neg a100, if_neg (fun h => a100 (m1 h)), if_pos ⟨a4, .inl a100⟩]; omega
  · rw [if_neg a4, if_neg (fun h => a4 (m2 h)), if_neg (fun h => a4 (m2 (m1 h))), if_neg (fun h => a4 h.1)]; omega
theorem monS_mono (y : Nat) : ∀ {a b : Nat}, a ≤ b → monS y a ≤ monS y b := by
  intro a b h
  induction b with
  | zero => rw [show a = 0 by omega]; exact Nat.le_refl _
  | succ b ih =>
    by_cases hab : a = b + 1
    · rw [hab]; exact Nat.le_refl _
    · refine Nat.le_trans (ih (by omega)) ?_
      cases b with
      | zero => exact Nat.le_refl _
      | succ b => simp only [monS]; omega
theorem monS_succ (y : Nat) {m : Nat} (h : 1 ≤ m) : monS y (m + 1) = monS y m + monD y m := by
  cases m with
  | zero => omega
  | succ m => rfl
theorem IsDate.uniq {n y m d y' m' d' : Nat} (h : IsDate n y m d) (h' : IsDate n y' m' d') : y = y' ∧ m = m' ∧ d = d' := by
  obtain ⟨a1, a2, a3, a4, a5, a6, a7⟩ := h
  obtain ⟨b1, b2, b3, b4, b5, b6, b7⟩ := h'
  have within : ∀ {y m d : Nat}, 1 ≤ y → 1 ≤ m → m ≤ 12 → 1 ≤ d → d ≤ monD y m → monS y m + (d - 1) < monS y 12 + monD y 12 := by
    intro y m d h1 h2 h3 h4 h5
    by_cases hm : m = 12
    · subst hm; omega
    · have := monS_mono y (a := m + 1) (b := 12) (by omega)
      rw [monS_succ y h2] at this; omega
  have w1 := within a1 a3 a4 a5 a6
  have w2 := within b1 b3 b4 b5 b6
  have hy : y = y' := by
    rcases Nat.lt_trichotomy y y' with h | h | h
    · have := yrS_mono (a := y + 1) (b := y') (by omega) (by omega)
      rw [yrS_succ a1] at this; omega
    · exact h
    · have := yrS_mono (a := y' + 1) (b := y) (by omega) (by omega)
      rw [yrS_succ b1] at this; omega
  subst hy
  have hm : m = m' := by
    rcases Nat.lt_trichotomy m m' with h | h | h
    · have := monS_mono y (a := m + 1) (b := m') (by omega)
      rw [monS_succ y a3] at this; omega
    · exact h
    · have := monS_mono y (a := m' + 1) (b := m) (by omega)
      rw [monS_succ y b3] at this; omega
  subst hm
  exact ⟨rfl, rfl, by omega⟩
open Classical in
noncomputable def dateOf (n : Nat) : Nat × Nat × Nat := if h : ∃ p : Nat × Nat × Nat, IsDate n p.1 p.2.1 p.2.2 then h.choose else (0, 0, 0)
theorem dateOf_eq {n y m d : Nat} (h : IsDate n y m d) : dateOf n = (y, m, d) := by
  have hex : ∃ p : Nat × Nat × Nat, IsDate n p.1 p.2.1 p.2.2 := ⟨(y, m, d), h⟩
  unfold dateOf
  rw [dif_pos hex]
  obtain ⟨h1, h2, h3⟩ := hex.choose_spec.uniq h
  exact Prod.ext h1 (Prod.ext h2 h3)
noncomputable def datT (n : Nat) : List UInt8 := padD 4 (dateOf n).1 ++ 45 :: (padD 2 (dateOf n).2.1 ++ 45 :: padD 2 (dateOf n).2.2)
/-- The text of a valid time. -/
noncomputable def timT (k td tn tz : Int) : List UInt8 :=
  if k = 1 then datT td.toNat else if k = 2 then clkT tn.toNat else if k = 3 then datT td.toNat ++ 84 :: clkT tn.toNat else datT td.toNat ++ 84 :: (clkT tn.toNat ++ offT tz)
def hxD (n : Nat) : UInt8 := if n < 10 then (48 + n).toUInt8 else (87 + n).toUInt8
def escB (c : UInt8) : List UInt8 := if c = 34 ∨ c = 92 then [92, c] else if c = 8 then [92, 98] else if c = 12 then [92, 102] else if c = 10 then [92, 110] else if c = 13 then [92, 114] else if c = 9 then [92, 116]
  else if c.toNat < 32 then [92, 117, 48, 48, hxD (c.toNat / 16), hxD (c.toNat % 16)] else [c]
def quB (s : List UInt8) : List UInt8 := 34 :: (s.flatMap escB ++ [34])
theorem escB_len (c : UInt8) : (escB c).length ≤ 6 := by
  have ite : ∀ {p : Prop} [Decidable p] {a b : List UInt8}, a.length ≤ 6 → b.length ≤ 6 → (if p then a else b).length ≤ 6 := fun h1 h2 => by split <;> assumption
  unfold escB
  exact ite (by simp) (ite (by simp) (ite (by simp) (ite (by simp) (ite (by simp) (ite (by simp) (ite (by simp) (by simp)))))))
theorem quB_len (s : List UInt8) : (quB s).length ≤ 6 * s.length + 2 := by
  have : (s.flatMap escB).length ≤ 6 * s.length := by
    induction s with
    | nil => simp
    | cons c r ih =>
      rw [List.flatMap_cons, List.length_append, List.length_cons]
      have := escB_len c
      omega
  unfold quB; simp only [List.length_cons, List.length_append, List.length_nil]; omega
/-- Bytes that stand for themselves. -/
def Safe (s : List UInt8) : Prop := ∀ c, c ∈ s → escB c = [c]
theorem Safe.quB {s : List UInt8} (h : Safe s) : quB s = 34 :: (s ++ [34]) := by
  have : s.flatMap escB = s := by
    induction s with
    | nil => rfl
    | cons c r ih => rw [List.flatMap_cons, h c (List.mem_cons_self), ih fun x hx => h x (List.mem_cons_of_mem _ hx), List.singleton_append]
  unfold TVF.quB; rw [this]
theorem safe_of {c : UInt8} (h1 : 32 ≤ c.toNat) (h2 : c ≠ 34) (h3 : c ≠ 92) : escB c = [c] := by
  have ne : ∀ k : UInt8, k.toNat < 32 → c ≠ k := fun k hk e => by subst e; omega
  unfold escB
  rw [if_neg (by simp [h2, h3]), if_neg (ne 8 (by decide)), if_neg (ne 12 (by decide)), if_neg (ne 10 (by decide)), if_neg (ne 13 (by decide)), if_neg (ne 9 (by decide)), if_neg (by omega)]
theorem isDg.safe {c : UInt8} (h : isDg c) : escB c = [c] := by
  obtain ⟨h1, h2⟩ := h
  exact safe_of (by omega) (fun e => by subst e; simp at h1) (fun e => by subst e; simp at h2)
end Go.TVF
end

section
namespace Go.TVF
open Go Go.Proofs
set_option linter.unusedVariables false
set_option linter.unusedSimpArgs false
def dgRun (s : List UInt8) : List UInt8 := s.takeWhile fun c => decide (isDg c)
def valF (n : Nat) (l : List UInt8) : Nat := l.foldl (fun n c => 10 * n + (c.toNat - 48)) n
/-- The number of digits. -/
def valN (l : List UInt8) : Nat := valF 0 l
def strip0 (l : List UInt8) : List UInt8 := l.dropWhile (· == 48)
/-- The normal form of a number whose digits have no zero ahead: sign, digits, exponent, error. -/
def dcN (neg : Bool) (s : List UInt8) (ex : Int) : Bool × List UInt8 × Int × Int :=
  if s = [] then (false, [], 0, 0) else if 400 < ex + zerosN s ∨ ex + zerosN s < -400 ∨ 120 < s.length - zerosN s then (false, [], 0, 2) else (neg, s.take (s.length - zerosN s), ex + zerosN s, 0)
def dcBad : Bool × List UInt8 × Int × Int := (false, [], 0, 3)
/-- The exponent: behind the e. -/
def dcX (neg : Bool) (all : List UInt8) (ex : Int) (less : Bool) (r : List UInt8) : Bool × List UInt8 × Int × Int :=
  if r = [] ∨ (dgRun r).length ≠ r.length then dcBad else dcN neg (strip0 all) (if less then ex - valN r else ex + valN r)
def dcE (neg : Bool) (all : List UInt8) (ex : Int) (r : List UInt8) : Bool × List UInt8 × Int × Int :=
  if r = [] then dcN neg (strip0 all) ex else if r.getD 0 0 = 101 ∨ r.getD 0 0 = 69 then
    (if (r.drop 1).getD 0 0 = 45 then dcX neg all ex true (r.drop 2) else if (r.drop 1).getD 0 0 = 43 then dcX neg all ex false (r.drop 2) else dcX neg all ex false (r.drop 1))
  else dcBad
def dcF (neg : Bool) (a : List UInt8) (r : List UInt8) : Bool × List UInt8 × Int × Int :=
  if r.getD 0 0 = 46 then (if dgRun (r.drop 1) = [] then dcBad else dcE neg (a ++ dgRun (r.drop 1)) (-(dgRun (r.drop 1)).length) (r.drop (1 + (dgRun (r.drop 1)).length)))
  else dcE neg a 0 r
def dcQ (neg : Bool) (s : List UInt8) : Bool × List UInt8 × Int × Int :=
  if dgRun s = [] ∨ (1 < (dgRun s).length ∧ s.getD 0 0 = 48) then dcBad else dcF neg (dgRun s) (s.drop (dgRun s).length)
/-- The decimal of a text. -/
def dcP (s : List UInt8) : Bool × List UInt8 × Int × Int := if s.getD 0 0 = 45 then dcQ true (s.drop 1) else dcQ false s
theorem dgRun_app {a r : List UInt8} (ha : ∀ c, c ∈ a → isDg c) (hr : ¬ isDg (r.getD 0 0)) : dgRun (a ++ r) = a := by
  induction a with
  | nil =>
    cases r with
    | nil => rfl
    | cons c r => exact List.takeWhile_cons_of_neg (by simpa using hr)
  | cons c a ih =>
    unfold dgRun at ih ⊢
    rw [List.cons_append, List.takeWhile_cons_of_pos (by simpa using ha c List.mem_cons_self), ih fun x hx => ha x (List.mem_cons_of_mem _ hx)]
theorem dgRun_all {a : List UInt8} (ha : ∀ c, c ∈ a → isDg c) : dgRun a = a := by
  have := dgRun_app (r := []) ha (by unfold isDg; simp)
  rwa [List.append_nil] at this
theorem zerosN_snoc (l : List UInt8) (c : UInt8) : zerosN (l ++ [c]) = if c = 48 then zerosN l + 1 else 0 := by
  unfold zerosN
  rw [List.reverse_append, List.reverse_singleton, List.singleton_append, List.takeWhile_cons]
  by_cases h : c = 48
  · rw [if_pos h, if_pos (by simp [h])]; rfl
  · rw [if_neg h, if_neg (by simp [h])]; rfl
theorem zerosN_rep (l : List UInt8) (k : Nat) : zerosN (l ++ List.replicate k 48) = zerosN l + k := by
  induction k with
  | zero => simp
  | succ k ih => rw [List.replicate_succ', ← List.append_assoc, zerosN_snoc, if_pos rfl, ih]; omega
theorem strip0_cons {c : UInt8} {l : List UInt8} (h : c ≠ 48) : strip0 (c :: l) = c :: l := by
  unfold strip0; rw [List.dropWhile_cons, if_neg (by simpa using h)]
theorem strip0_of {l : List UInt8} (h : l.getD 0 0 ≠ 48) : strip0 l = l := by
  cases l with
  | nil => rfl
  | cons c l => exact strip0_cons (by simpa using h)
theorem strip0_rep (k : Nat) (l : List UInt8) : strip0 (List.replicate k 48 ++ l) = strip0 l := by
  induction k with
  | zero => rfl
  | succ k ih => rw [List.replicate_succ, List.cons_append]; unfold strip0 at ih ⊢; rw [List.dropWhile_cons, if_pos (by simp), ih]
theorem valF_app (n : Nat) (a b : List UInt8) : valF n (a ++ b) = valF (valF n a) b := by
  unfold valF; rw [List.foldl_append]
theorem valN_natD : ∀ n : Nat, valN (natD n) = n := by
  intro n
  induction n using Nat.strongRecOn with
  | _ n ih =>
    by_cases h : n = 0
    · subst h; rw [natD_zero]; rfl
    · rw [natD_step (by omega)]
      unfold valN at ih ⊢
      rw [valF_app, ih (n / 10) (by omega)]
      unfold valF
      rw [List.foldl_cons, List.foldl_nil, dg_byte _ (by omega)]; omega
theorem valN_whN (n : Nat) : valN (whN n) = n := by
  unfold whN; split
  · rename_i h; subst h; rfl
  · exact valN_natD n
theorem whN_dg (n : Nat) : ∀ c, c ∈ whN n → isDg c := by
  unfold whN; split
  · intro c h; rw [List.mem_singleton.1 h]; decide
  · exact natD_dg n
theorem natD_ne {n : Nat} (h : 0 < n) : natD n ≠ [] := by rw [natD_step h]; simp
theorem whN_ne (n : Nat) : whN n ≠ [] := by
  unfold whN; split
  · simp
  · exact natD_ne (by omega)
theorem whN_head (n : Nat) : isDg ((whN n).getD 0 0) := by
  have h := whN_ne n
  have h2 := whN_dg n
  generalize whN n = l at h h2
  cases l with
  | nil => exact absurd rfl h
  | cons c l => exact h2 c List.mem_cons_self
theorem dcN_of {neg : Bool} {dg : List UInt8} {ex ex' : Int} (k : Nat) (h : DecOk neg dg ex) (hne : dg ≠ []) (he : ex' + k = ex) : dcN neg (dg ++ List.replicate k 48) ex' = (neg, dg, ex, 0) := by
  obtain ⟨h1, h2, h3, h4, h5, h6⟩ := h.2 hne
  unfold dcN
  have hz : zerosN (dg ++ List.replicate k 48) = k := by rw [zerosN_rep, h4]; omega
  rw [if_neg (by simp [hne]), hz, if_neg (by rw [List.length_append, List.length_replicate]; omega), List.length_append, List.length_replicate, Nat.add_sub_cancel, List.take_left, he]
theorem dcX_of {neg : Bool} {all : List UInt8} {ex : Int} {less : Bool} (n : Nat) : dcX neg all ex less (whN n) = dcN neg (strip0 all) (if less then ex - n else ex + n) := by
  unfold dcX
  rw [if_neg, valN_whN]
  intro h
  rcases h with h | h
  · exact whN_ne n h
  · exact h (by rw [dgRun_all (whN_dg n)])
theorem dcE_exp {neg : Bool} {all : List UInt8} {ex p : Int} : dcE neg all ex (expT p) = dcN neg (strip0 all) (ex + (p - 1)) := by
  unfold expT dcE
  rw [if_neg (by simp), if_pos (by simp)]
  split
  · rw [if_pos (by simp)]
    show dcX neg all ex true (whN _) = _
    rw [dcX_of, if_pos rfl]
    congr 1; omega
  · have hh := whN_head (p - 1).toNat
    have hd : ((101 : UInt8) :: whN (p - 1).toNat).drop 1 = whN (p - 1).toNat := rfl
    rw [hd, if_neg (fun e => by rw [e] at hh; revert hh; decide), if_neg (fun e => by rw [e] at hh; revert hh; decide), dcX_of, if_neg (by simp)]
    congr 1; omega
theorem dcE_nil {neg : Bool} {all : List UInt8} {ex : Int} : dcE neg all ex [] = dcN neg (strip0 all) ex := if_pos rfl
theorem dcF_frac {neg : Bool} {a f r : List UInt8} (hf : ∀ c, c ∈ f → isDg c) (hne : f ≠ []) (hr : ¬ isDg (r.getD 0 0)) : dcF neg a (46 :: (f ++ r)) = dcE neg (a ++ f) (-f.length) r := by
  unfold dcF
  rw [if_pos (show (46 :: (f ++ r)).getD 0 0 = 46 from rfl), List.drop_succ_cons, List.drop_zero, dgRun_app hf hr, if_neg hne, Nat.add_comm, List.drop_succ_cons, List.drop_left]
theorem dcF_no {neg : Bool} {a r : List UInt8} (h : r.getD 0 0 ≠ 46) : dcF neg a r = dcE neg a 0 r := if_neg h
theorem dcQ_of {neg : Bool} {a r : List UInt8} (ha : ∀ c, c ∈ a → isDg c) (hne : a ≠ []) (h0 : a.length = 1 ∨ a.getD 0 0 ≠ 48) (hr : ¬ isDg (r.getD 0 0)) : dcQ neg (a ++ r) = dcF neg a r := by
  unfold dcQ
  rw [dgRun_app ha hr, if_neg, List.drop_left]
  rintro (h | ⟨h1, h2⟩)
  · exact hne h
  · have : (a ++ r).getD 0 0 = a.getD 0 0 := by cases a with | nil => exact absurd rfl hne | cons c a => rfl
    rw [this] at h2
    rcases h0 with h0 | h0
    · omega
    · exact h0 h2
theorem nd46 : ¬ isDg 46 := by decide
theorem nd101 : ¬ isDg 101 := by decide
theorem nd0 : ¬ isDg 0 := by decide
theorem dcP_text {neg : Bool} {dg : List UInt8} {ex : Int} (h : DecOk neg dg ex) : dcP (dcT neg dg ex) = (neg, dg, ex, 0) := by
  by_cases hne : dg = []
  · subst hne
    obtain ⟨rfl, rfl⟩ := h.1 rfl
    unfold dcT
    rw [if_pos rfl]; decide
  · obtain ⟨h1, h2, h3, h4, h5, h6⟩ := h.2 hne
    have hpos : 0 < dg.length := List.length_pos_iff.2 hne
    have key : ∀ body : List UInt8, isDg (body.getD 0 0) → dcP ((if neg then [45] else []) ++ body) = dcQ neg body := by
      intro body hb
      cases neg with
      | true =>
        show dcP (45 :: body) = _
        unfold dcP
        rw [if_pos (show (45 :: body).getD 0 0 = 45 from rfl)]; rfl
      | false =>
        show dcP body = _
        unfold dcP
        rw [if_neg (fun e => by rw [e] at hb; revert hb; decide)]
    have hd0 : isDg (dg.getD 0 0) := by
      cases dg with
      | nil => exact absurd rfl hne
      | cons c r => exact h2 c List.mem_cons_self
    unfold dcT
    rw [if_neg hne, key]
    · split
      · rename_i g
        have := dcQ_of (neg := neg) (a := dg ++ List.replicate ex.toNat 48) (r := []) (fun c hc => by
          rcases List.mem_append.1 hc with hc | hc
          · exact h2 c hc
          · rw [List.eq_of_mem_replicate hc]; decide) (by simp [hne]) (.inr (by cases dg with | nil => exact absurd rfl hne | cons c r => exact h3)) (by simpa using nd0)
        rw [List.append_nil] at this
        rw [this, dcF_no (by decide), dcE_nil, strip0_of (by cases dg with | nil => exact absurd rfl hne | cons c r => exact h3)]
        exact dcN_of _ h hne (by omega)
      · split
        · rename_i g0 g
          have htk : (dg.take (dg.length + ex).toNat).length = (dg.length + ex).toNat := by rw [List.length_take]; omega
          have hdr : (dg.drop (dg.length + ex).toNat).length = dg.length - (dg.length + ex).toNat := List.length_drop
          rw [dcQ_of (fun c hc => h2 c (List.mem_of_mem_take hc)) (fun e => by rw [e] at htk; simp at htk; omega) (.inr ?_) (by simpa using nd46)]
          · have := dcF_frac (neg := neg) (a := dg.take (dg.length + ex).toNat) (f := dg.drop (dg.length + ex).toNat) (r := []) (fun c hc => h2 c (List.mem_of_mem_drop hc)) (fun e => by rw [e] at hdr; simp at hdr; omega) (by simpa using nd0)
            rw [List.append_nil] at this
            rw [this, dcE_nil, List.take_append_drop, strip0_of h3]
            have h9 := dcN_of 0 (ex' := ex) h hne (by simp)
            rw [List.replicate_zero, List.append_nil] at h9
            rw [show (-((dg.drop (dg.length + ex).toNat).length : Int)) = ex by rw [hdr]; omega]
            exact h9
          · obtain ⟨m, hm⟩ : ∃ m, (dg.length + ex).toNat = m + 1 := ⟨(dg.length + ex).toNat - 1, by omega⟩
            rw [hm]
            cases dg with
            | nil => exact absurd rfl hne
            | cons c r => exact h3
        · split
          · rename_i g0 g1 g
            show dcQ neg ([48] ++ 46 :: (List.replicate (-(dg.length + ex)).toNat 48 ++ dg)) = _
            rw [dcQ_of (fun c hc => by rw [List.mem_singleton.1 hc]; decide) (by simp) (.inl rfl) (by simpa using nd46)]
            have := dcF_frac (neg := neg) (a := [48]) (f := List.replicate (-(dg.length + ex)).toNat 48 ++ dg) (r := []) (fun c hc => by
              rcases List.mem_append.1 hc with hc | hc
              · rw [List.eq_of_mem_replicate hc]; decide
              · exact h2 c hc) (by simp [hne]) (by simpa using nd0)
            rw [List.append_nil] at this
            rw [this, dcE_nil]
            have h8 : strip0 ([48] ++ (List.replicate (-(dg.length + ex)).toNat 48 ++ dg)) = dg := by
              rw [← List.append_assoc, show [48] ++ List.replicate (-(dg.length + ex)).toNat (48 : UInt8) = List.replicate ((-(dg.length + ex)).toNat + 1) 48 from rfl, strip0_rep, strip0_of h3]
            have h9 := dcN_of 0 (ex' := ex) h hne (by simp)
            rw [List.replicate_zero, List.append_nil] at h9
            rw [h8, show (-((List.replicate (-(dg.length + ex)).toNat (48 : UInt8) ++ dg).length : Int)) = ex by rw [List.length_append, List.length_replicate]; omega]
            exact h9
          · obtain ⟨c, r, rfl⟩ : ∃ c r, dg = c :: r := by
              cases dg with
              | nil => exact absurd rfl hne
              | cons c r => exact ⟨c, r, rfl⟩
            have h9 := dcN_of 0 (ex' := ex) h hne (by simp)
            rw [List.replicate_zero, List.append_nil] at h9
            have e101 : (expT (((c :: r).length : Nat) + ex)).getD 0 0 = 101 := rfl
            show dcQ neg ([c] ++ ((if 1 < (c :: r).length then 46 :: r else []) ++ expT (((c :: r).length : Nat) + ex))) = _
            have hst : ¬ isDg (((if 1 < (c :: r).length then 46 :: r else []) ++ expT (((c :: r).length : Nat) + ex)).getD 0 0) := by
              split
              · exact nd46
              · exact nd101
            rw [dcQ_of (fun x hx => by rw [List.mem_singleton.1 hx]; exact hd0) (by simp) (.inl rfl) hst]
            cases r with
            | nil =>
              rw [if_neg (by simp), List.nil_append, dcF_no (by rw [e101]; decide), dcE_exp, strip0_of h3, show (0 : Int) + ((([c] : List UInt8).length : Nat) + ex - 1) = ex by simp only [List.length_cons, List.length_nil]; omega]
              exact h9
            | cons d r =>
              rw [if_pos (by simp), List.cons_append, dcF_frac (fun x hx => h2 x (List.mem_cons_of_mem _ hx)) (by simp) (by rw [e101]; exact nd101), dcE_exp]
              rw [show [c] ++ d :: r = c :: d :: r from rfl, strip0_of h3, show (-((d :: r).length : Int)) + (((c :: d :: r).length : Nat) + ex - 1) = ex by simp only [List.length_cons]; omega]
              exact h9
    · have app : ∀ t, isDg ((dg ++ t).getD 0 0) := fun t => by
        cases dg with
        | nil => exact absurd rfl hne
        | cons c r => exact hd0
      split
      · exact app _
      · split
        · rename_i g
          obtain ⟨m, hm⟩ : ∃ m, (dg.length + ex).toNat = m + 1 := ⟨(dg.length + ex).toNat - 1, by omega⟩
          rw [hm]
          cases dg with
          | nil => exact absurd rfl hne
          | cons c r => exact hd0
        · split
          · exact (by decide : isDg 48)
          · cases dg with
            | nil => exact absurd rfl hne
            | cons c r => exact hd0
end Go.TVF
end

section
namespace Go.TVF
open Go Go.Proofs
set_option linter.unusedVariables false
set_option linter.unusedSimpArgs false
def b0 (s : List UInt8) (k : Nat) : UInt8 := s.getD k 0
def dv (s : List UInt8) (k : Nat) : Nat := (b0 s k).toNat - 48
def d2 (s : List UInt8) (k : Nat) : Nat := dv s k * 10 + dv s (k + 1)
def dd (s : List UInt8) (k : Nat) : Prop := isDg (b0 s k) ∧ isDg (b0 s (k + 1))
instance (s : List UInt8) (k : Nat) : Decidable (dd s k) := inferInstanceAs (Decidable (_ ∧ _))
def formC (s : List UInt8) : Prop := dd s 0 ∧ b0 s 2 = 58 ∧ dd s 3 ∧ b0 s 5 = 58 ∧ dd s 6
instance (s : List UInt8) : Decidable (formC s) := inferInstanceAs (Decidable (_ ∧ _ ∧ _ ∧ _ ∧ _))
def formD (s : List UInt8) : Prop := dd s 0 ∧ dd s 2 ∧ b0 s 4 = 45 ∧ dd s 5 ∧ b0 s 7 = 45 ∧ dd s 8
instance (s : List UInt8) : Decidable (formD s) := inferInstanceAs (Decidable (_ ∧ _ ∧ _ ∧ _ ∧ _ ∧ _))
def fracN (f : List UInt8) : Nat := valN (f ++ List.replicate (9 - f.length) 48)
/-- A time of day: its numbers, and the rest. -/
def clkP (s : List UInt8) : Option (Nat × Nat × Nat × Nat × List UInt8) :=
  if formC s then
    (if b0 s 8 = 46 then (if dgRun (s.drop 9) = [] ∨ 9 < (dgRun (s.drop 9)).length then none else some (d2 s 0, d2 s 3, d2 s 6, fracN (dgRun (s.drop 9)), s.drop (9 + (dgRun (s.drop 9)).length)))
    else some (d2 s 0, d2 s 3, d2 s 6, 0, s.drop 8))
  else none
/-- An offset, all of the text: the sign is less, hours, minutes. -/
def offP (s : List UInt8) : Option (Bool × Nat × Nat) :=
  if s = [90] ∨ s = [122] then some (false, 0, 0) else if s.length = 6 ∧ (b0 s 0 = 43 ∨ b0 s 0 = 45) ∧ dd s 1 ∧ b0 s 3 = 58 ∧ dd s 4 then some (decide (b0 s 0 = 45), d2 s 1, d2 s 4) else none
def okD (y m d : Nat) : Prop := 1 ≤ y ∧ y ≤ 9999 ∧ 1 ≤ m ∧ m ≤ 12 ∧ 1 ≤ d ∧ d ≤ monD y m
instance (y m d : Nat) : Decidable (okD y m d) := inferInstanceAs (Decidable (_ ∧ _ ∧ _ ∧ _ ∧ _ ∧ _))
def dayN (y m d : Nat) : Nat := yrS y + monS y m + (d - 1)
abbrev TmR := Int × Int × Int × Int × Int
def tmBad : TmR := (0, 0, 0, 0, 3)
def tmOut : TmR := (0, 0, 0, 0, 2)
def okC (h m s : Nat) : Prop := h ≤ 23 ∧ m ≤ 59 ∧ s ≤ 59
instance (h m s : Nat) : Decidable (okC h m s) := inferInstanceAs (Decidable (_ ∧ _ ∧ _))
def nanoN (h m s f : Nat) : Nat := ((h * 60 + m) * 60 + s) * 1000000000 + f
def tmO (y mo d h m s f : Nat) (r : List UInt8) : TmR :=
  if r = [] then (if okD y mo d ∧ okC h m s then (3, (dayN y mo d : Nat), (nanoN h m s f : Nat), 0, 0) else tmOut)
  else match offP r with
    | none => tmBad
    | some (ls, oh, om) => if okD y mo d ∧ okC h m s ∧ oh ≤ 23 ∧ om ≤ 59 then (4, (dayN y mo d : Nat), (nanoN h m s f : Nat), if ls then -((oh * 60 + om : Nat) : Int) else ((oh * 60 + om : Nat) : Int), 0) else tmOut
def tmD (y mo d : Nat) (r : List UInt8) : TmR :=
  if r = [] then (if okD y mo d then (1, (dayN y mo d : Nat), 0, 0, 0) else tmOut)
  else if b0 r 0 = 84 ∨ b0 r 0 = 116 ∨ b0 r 0 = 32 then
    match clkP (r.drop 1) with
    | none => tmBad
    | some (h, m, s, f, r') => tmO y mo d h m s f r'
  else tmBad
/-- The time of a text: kind, day, nanoseconds, offset; error. -/
def tmP (s : List UInt8) : TmR :=
  if formD s then tmD (d2 s 0 * 100 + d2 s 2) (d2 s 5) (d2 s 8) (s.drop 10)
  else match clkP s with
    | none => tmBad
    | some (h, m, sc, f, r) => if r = [] then (if okC h m sc then (2, 0, (nanoN h m sc f : Nat), 0, 0) else tmOut) else tmBad
theorem dg_of (k : Nat) (h : k < 10) : isDg (48 + k).toUInt8 := by unfold isDg; rw [dg_byte _ h]; omega
theorem padD_two (n : Nat) : padD 2 n = [(48 + n / 10 % 10).toUInt8, (48 + n % 10).toUInt8] := by
  simp [padD]
theorem padD_four (n : Nat) : padD 4 n = [(48 + n / 10 / 10 / 10 % 10).toUInt8, (48 + n / 10 / 10 % 10).toUInt8, (48 + n / 10 % 10).toUInt8, (48 + n % 10).toUInt8] := by
  simp [padD]
theorem two_val (n : Nat) (h : n < 100) : ((48 + n / 10 % 10).toUInt8.toNat - 48) * 10 + ((48 + n % 10).toUInt8.toNat - 48) = n := by
  rw [dg_byte _ (by omega), dg_byte _ (by omega)]; omega
theorem valN_padD : ∀ (w n : Nat), n < 10 ^ w → valN (padD w n) = n
  | 0, n, h => by rw [show n = 0 by simpa using h]; rfl
  | w + 1, n, h => by
    have := valN_padD w (n / 10) (by rw [Nat.div_lt_iff_lt_mul (by omega)]; rw [Nat.pow_succ] at h; exact h)
    unfold valN at this ⊢
    rw [padD, valF_app, this]
    unfold valF
    rw [List.foldl_cons, List.foldl_nil, dg_byte _ (by omega)]; omega
theorem cut0_rep : ∀ (l : List UInt8), ∃ k, l = cut0 l ++ List.replicate k 48 := by
  intro l
  have : ∀ n (l : List UInt8), l.length = n → ∃ k, l = cut0 l ++ List.replicate k 48 := by
    intro n
    induction n with
    | zero => intro l h; rw [List.eq_nil_of_length_eq_zero h]; exact ⟨0, rfl⟩
    | succ n ih =>
      intro l h
      have hne : l ≠ [] := fun e => by rw [e] at h; simp at h
      have hl := List.dropLast_concat_getLast hne
      generalize l.dropLast = a at hl
      generalize l.getLast hne = c at hl
      rw [← hl, cut0_snoc]
      rw [← hl, List.length_append] at h
      by_cases h0 : c = 48
      · obtain ⟨k, hk⟩ := ih a (by simpa using h)
        rw [if_pos h0]
        refine ⟨k + 1, ?_⟩
        rw [List.replicate_succ', ← List.append_assoc, ← hk, h0]
      · rw [if_neg h0]; exact ⟨0, by simp⟩
  exact this _ l rfl
theorem fracN_cut {n : Nat} (h : n < 1000000000) : fracN (cut0 (padD 9 n)) = n := by
  obtain ⟨k, hk⟩ := cut0_rep (padD 9 n)
  have hl := congrArg List.length hk
  rw [padD_len, List.length_append, List.length_replicate] at hl
  unfold fracN
  rw [show 9 - (cut0 (padD 9 n)).length = k by omega, ← hk]
  exact valN_padD 9 n h
theorem cut0_ne {n : Nat} (h : n < 1000000000) (h0 : n ≠ 0) : cut0 (padD 9 n) ≠ [] := by
  intro e
  have := fracN_cut h
  rw [e] at this
  exact h0 (this.symm.trans (by decide))
theorem cut0_padD_dg (n : Nat) : ∀ c, c ∈ cut0 (padD 9 n) → isDg c := fun c hc => padD_dg 9 n c (cut0_mem hc)
/-- A time of day is read back. -/
theorem clkP_text {n : Nat} (h : n ≤ 86399999999999) {r : List UInt8} (hr : ¬ isDg (b0 r 0)) (hr2 : b0 r 0 ≠ 46) :
    clkP (clkT n ++ r) = some (n / 1000000000 / 3600, n / 1000000000 / 60 % 60, n / 1000000000 % 60, n % 1000000000, r) := by
  have h1 := two_val (n / 1000000000 / 3600) (by omega)
  have h2 := two_val (n / 1000000000 / 60 % 60) (by omega)
  have h3 := two_val (n / 1000000000 % 60) (by omega)
  have dg1 := fun k => dg_of (k % 10) (by omega)
  unfold clkT
  generalize hf : (if n % 1000000000 = 0 then ([] : List UInt8) else 46 :: cut0 (padD 9 (n % 1000000000))) = f
  generalize n / 1000000000 / 3600 = hh at *
  generalize n / 1000000000 / 60 % 60 = mm at *
  generalize n / 1000000000 % 60 = ss at *
  simp only [padD_two, List.cons_append, List.nil_append]
  unfold clkP
  rw [if_pos]
  · have e8 : ∀ (a b c d e f' g i : UInt8) (l : List UInt8), b0 (a :: b :: c :: d :: e :: f' :: g :: i :: l) 8 = b0 l 0 := fun _ _ _ _ _ _ _ _ _ => rfl
    rw [e8]
    have v1 : ∀ (a b c d e f' g i : UInt8) (l : List UInt8), d2 (a :: b :: c :: d :: e :: f' :: g :: i :: l) 0 = (a.toNat - 48) * 10 + (b.toNat - 48) := fun _ _ _ _ _ _ _ _ _ => rfl
    have v2 : ∀ (a b c d e f' g i : UInt8) (l : List UInt8), d2 (a :: b :: c :: d :: e :: f' :: g :: i :: l) 3 = (d.toNat - 48) * 10 + (e.toNat - 48) := fun _ _ _ _ _ _ _ _ _ => rfl
    have v3 : ∀ (a b c d e f' g i : UInt8) (l : List UInt8), d2 (a :: b :: c :: d :: e :: f' :: g :: i :: l) 6 = (g.toNat - 48) * 10 + (i.toNat - 48) := fun _ _ _ _ _ _ _ _ _ => rfl
    rw [v1, v2, v3, h1, h2, h3]
    subst hf
    by_cases h0 : n % 1000000000 = 0
    · rw [if_pos h0, List.nil_append, if_neg hr2, h0]; rfl
    · rw [if_neg h0]
      have hdr := dgRun_app (r := r) (cut0_padD_dg (n % 1000000000)) hr
      have hd9 : ∀ (a b c d e f' g i x : UInt8) (l : List UInt8), (a :: b :: c :: d :: e :: f' :: g :: i :: x :: l).drop 9 = l := fun _ _ _ _ _ _ _ _ _ _ => rfl
      rw [if_pos (show b0 (46 :: cut0 (padD 9 (n % 1000000000)) ++ r) 0 = 46 from rfl), List.cons_append, ← List.drop_drop, hd9, hdr, if_neg, fracN_cut (by omega), List.drop_left]
      rintro (e | e)
      · exact cut0_ne (by omega) h0 e
      · have := cut0_len (padD 9 (n % 1000000000))
        rw [padD_len] at this; omega
  · exact ⟨⟨dg1 _, dg1 _⟩, rfl, ⟨dg1 _, dg1 _⟩, rfl, ⟨dg1 _, dg1 _⟩⟩
theorem nano_back (n : Nat) : nanoN (n / 1000000000 / 3600) (n / 1000000000 / 60 % 60) (n / 1000000000 % 60) (n % 1000000000) = n := by unfold nanoN; omega
theorem okC_back {n : Nat} (h : n ≤ 86399999999999) : okC (n / 1000000000 / 3600) (n / 1000000000 / 60 % 60) (n / 1000000000 % 60) := by unfold okC; omega
theorem offP_text {z : Int} (h1 : -1439 ≤ z) (h2 : z ≤ 1439) : offP (offT z) = some (decide (z < 0), z.natAbs / 60, z.natAbs % 60) := by
  have t1 := two_val (z.natAbs / 60) (by omega)
  have t2 := two_val (z.natAbs % 60) (by omega)
  have dg1 := fun k => dg_of (k % 10) (by omega)
  unfold offT
  by_cases h0 : z = 0
  · subst h0; decide
  · rw [if_neg h0]
    generalize z.natAbs / 60 = hh at *
    generalize z.natAbs % 60 = mm at *
    simp only [padD_two, List.cons_append, List.nil_append]
    unfold offP
    rw [if_neg (by simp), if_pos]
    · have v1 : ∀ (a b c d e f : UInt8), d2 [a, b, c, d, e, f] 1 = (b.toNat - 48) * 10 + (c.toNat - 48) := fun _ _ _ _ _ _ => rfl
      have v2 : ∀ (a b c d e f : UInt8), d2 [a, b, c, d, e, f] 4 = (e.toNat - 48) * 10 + (f.toNat - 48) := fun _ _ _ _ _ _ => rfl
      rw [v1, v2, t1, t2]
      by_cases hz : z < 0
      · rw [if_pos hz, decide_eq_true hz]; rfl
      · rw [if_neg hz, decide_eq_false hz]; rfl
    · refine ⟨rfl, ?_, ⟨dg1 _, dg1 _⟩, rfl, ⟨dg1 _, dg1 _⟩⟩
      by_cases hz : z < 0
      · rw [if_pos hz]; exact .inr rfl
      · rw [if_neg hz]; exact .inl rfl
theorem monD_le (y m : Nat) : monD y m ≤ 31 := by
  have ite : ∀ {p : Prop} [Decidable p] {a b : Nat}, a ≤ 31 → b ≤ 31 → (if p then a else b) ≤ 31 := fun h1 h2 => by split <;> assumption
  unfold monD
  exact ite (ite (by omega) (by omega)) (ite (by omega) (by omega))
theorem datT_eq {n y m d : Nat} (h : IsDate n y m d) : datT n = padD 4 y ++ 45 :: (padD 2 m ++ 45 :: padD 2 d) := by unfold datT; rw [dateOf_eq h]
theorem tmP_date {n y m d : Nat} (h : IsDate n y m d) (r : List UInt8) : tmP (datT n ++ r) = tmD y m d r := by
  obtain ⟨a1, a2, a3, a4, a5, a6, a7⟩ := h
  have hd : d ≤ 31 := Nat.le_trans a6 (monD_le y m)
  rw [datT_eq ⟨a1, a2, a3, a4, a5, a6, a7⟩]
  have t1 := two_val m (by omega)
  have t2 := two_val d (by omega)
  have dg1 := fun k => dg_of (k % 10) (by omega)
  have t3 : ((((48 + y / 10 / 10 / 10 % 10).toUInt8.toNat - 48) * 10 + ((48 + y / 10 / 10 % 10).toUInt8.toNat - 48)) * 100 + (((48 + y / 10 % 10).toUInt8.toNat - 48) * 10 + ((48 + y % 10).toUInt8.toNat - 48))) = y := by
    rw [dg_byte _ (by omega), dg_byte _ (by omega), dg_byte _ (by omega), dg_byte _ (by omega)]; omega
  simp only [padD_two, padD_four, List.cons_append, List.nil_append]
  unfold tmP
  rw [if_pos]
  · have v0 : ∀ (a b c d e f g i j k : UInt8) (l : List UInt8), d2 (a :: b :: c :: d :: e :: f :: g :: i :: j :: k :: l) 0 = (a.toNat - 48) * 10 + (b.toNat - 48) := fun _ _ _ _ _ _ _ _ _ _ _ => rfl
    have v2 : ∀ (a b c d e f g i j k : UInt8) (l : List UInt8), d2 (a :: b :: c :: d :: e :: f :: g :: i :: j :: k :: l) 2 = (c.toNat - 48) * 10 + (d.toNat - 48) := fun _ _ _ _ _ _ _ _ _ _ _ => rfl
    have v5 : ∀ (a b c d e f g i j k : UInt8) (l : List UInt8), d2 (a :: b :: c :: d :: e :: f :: g :: i :: j :: k :: l) 5 = (f.toNat - 48) * 10 + (g.toNat - 48) := fun _ _ _ _ _ _ _ _ _ _ _ => rfl
    have v8 : ∀ (a b c d e f g i j k : UInt8) (l : List UInt8), d2 (a :: b :: c :: d :: e :: f :: g :: i :: j :: k :: l) 8 = (j.toNat - 48) * 10 + (k.toNat - 48) := fun _ _ _ _ _ _ _ _ _ _ _ => rfl
    rw [v0, v2, v5, v8, t1, t2, t3]; rfl
  · exact ⟨⟨dg1 _, dg1 _⟩, ⟨dg1 _, dg1 _⟩, rfl, ⟨dg1 _, dg1 _⟩, rfl, ⟨dg1 _, dg1 _⟩⟩
theorem not_formD_clk (n : Nat) (r : List UInt8) : ¬ formD (clkT n ++ r) := by
  unfold clkT
  simp only [padD_two, List.cons_append, List.nil_append]
  rintro ⟨_, ⟨h, _⟩, _⟩
  exact absurd h (by show ¬ isDg 58; decide)
/-- Every day has a date. -/
def HasDate (n : Nat) : Prop := ∃ y m d, IsDate n y m d
theorem has_yr : ∀ (k n : Nat), n < yrS (k + 1) → ∃ y, 1 ≤ y ∧ y ≤ k ∧ yrS y ≤ n ∧ n < yrS (y + 1)
  | 0, n, h => absurd h (by show ¬ n < 0; omega)
  | k + 1, n, h => by
    by_cases g : yrS (k + 1) ≤ n
    · exact ⟨k + 1, by omega, Nat.le_refl _, g, h⟩
    · obtain ⟨y, h1, h2, h3⟩ := has_yr k n (by omega)
      exact ⟨y, h1, by omega, h3⟩
theorem has_mon (y : Nat) : ∀ (k r : Nat), r < monS y (k + 1) → ∃ m, 1 ≤ m ∧ m ≤ k ∧ monS y m ≤ r ∧ r < monS y (m + 1)
  | 0, r, h => absurd h (by show ¬ r < 0; omega)
  | k + 1, r, h => by
    by_cases g : monS y (k + 1) ≤ r
    · exact ⟨k + 1, by omega, Nat.le_refl _, g, h⟩
    · obtain ⟨m, h1, h2, h3⟩ := has_mon y k r (by omega)
      exact ⟨m, h1, by omega, h3⟩
theorem has_date {n : Nat} (h : n ≤ 3652058) : HasDate n := by
  obtain ⟨y, h1, h2, h3, h4⟩ := has_yr 9999 n (by show n < 3652059; omega)
  rw [yrS_succ h1] at h4
  obtain ⟨m, m1, m2, m3, m4⟩ := has_mon y 12 (n - yrS y) (by rw [monS_succ y (by omega)]; omega)
  rw [monS_succ y m1] at m4
  exact ⟨y, m, n - yrS y - monS y m + 1, h1, h2, m1, m2, by omega, by omega, by omega⟩
theorem off_back {z : Int} : (if decide (z < 0) = true then -((z.natAbs / 60 * 60 + z.natAbs % 60 : Nat) : Int) else ((z.natAbs / 60 * 60 + z.natAbs % 60 : Nat) : Int)) = z := by
  by_cases h : z < 0
  · rw [if_pos (by simpa using h)]; omega
  · rw [if_neg (by simpa using h)]; omega
theorem tmP_text {k td tn tz : Int} (h : TimeOk k td tn tz) (hd : k ≠ 2 → HasDate td.toNat) : tmP (timT k td tn tz) = (k, td, tn, tz, 0) := by
  obtain ⟨h1, h2, h3, h4, h5, h6, h7, h8, h9, h10, h11⟩ := h
  have etn : ((tn.toNat : Nat) : Int) = tn := by omega
  have etd : ((td.toNat : Nat) : Int) = td := by omega
  have clk := fun r hr hr2 => clkP_text (n := tn.toNat) (r := r) (by omega) hr hr2
  unfold timT
  by_cases k1 : k = 1
  · obtain ⟨y, m, d, hD⟩ := hd (by omega)
    have := tmP_date hD []
    rw [List.append_nil] at this
    rw [if_pos k1, this]
    obtain ⟨a1, a2, a3, a4, a5, a6, a7⟩ := hD
    unfold tmD
    rw [if_pos rfl, if_pos ⟨a1, a2, a3, a4, a5, a6⟩, show dayN y m d = td.toNat from a7.symm, etd, h10 k1, h11 (by omega), k1]
  · rw [if_neg k1]
    by_cases k2 : k = 2
    · have hc := clk [] (by simpa [b0] using nd0) (by simp [b0])
      have hn := not_formD_clk tn.toNat []
      rw [List.append_nil] at hc hn
      rw [if_pos k2]
      unfold tmP
      rw [if_neg hn, hc]
      dsimp only
      rw [if_pos rfl, if_pos (okC_back (by omega)), nano_back, etn, h9 k2, h11 (by omega), k2]
    · rw [if_neg k2]
      obtain ⟨y, m, d, hD⟩ := hd k2
      have hD0 := hD
      obtain ⟨a1, a2, a3, a4, a5, a6, a7⟩ := hD
      have a7' : dayN y m d = td.toNat := a7.symm
      by_cases k3 : k = 3
      · have hc := clk [] (by simpa [b0] using nd0) (by simp [b0])
        rw [List.append_nil] at hc
        rw [if_pos k3, tmP_date hD0]
        unfold tmD
        rw [if_neg (by simp), if_pos (.inl rfl), List.drop_succ_cons, List.drop_zero, hc]
        dsimp only
        unfold tmO
        rw [if_pos rfl, if_pos ⟨⟨a1, a2, a3, a4, a5, a6⟩, okC_back (by omega)⟩, nano_back, etn, a7', etd, h11 (by omega), k3]
      · have o1 : isDg (b0 (offT tz) 0) → False := by
          unfold offT; split
          · exact (by decide : ¬ isDg 90)
          · split
            · exact (by decide : ¬ isDg 45)
            · exact (by decide : ¬ isDg 43)
        have o2 : b0 (offT tz) 0 ≠ 46 := by
          unfold offT; split
          · exact (by decide : (90 : UInt8) ≠ 46)
          · split
            · exact (by decide : (45 : UInt8) ≠ 46)
            · exact (by decide : (43 : UInt8) ≠ 46)
        have o3 : offT tz ≠ [] := by unfold offT; split <;> simp
        have hc := clk (offT tz) o1 o2
        rw [if_neg k3, tmP_date hD0]
        unfold tmD
        rw [if_neg (by simp), if_pos (.inl rfl), List.drop_succ_cons, List.drop_zero, hc]
        dsimp only
        unfold tmO
        rw [if_neg o3, offP_text h7 h8]
        dsimp only
        rw [if_pos ⟨⟨a1, a2, a3, a4, a5, a6⟩, okC_back (by omega), by omega, by omega⟩, nano_back, etn, a7', etd, off_back, show k = 4 by omega]
end Go.TVF
end

section
namespace Go.TVF
open Go Go.Proofs
set_option linter.unusedVariables false
set_option linter.unusedSimpArgs false
def b64A : List UInt8 := [65, 66, 67, 68, 69, 70, 71, 72, 73, 74, 75, 76, 77, 78, 79, 80, 81, 82, 83, 84, 85, 86, 87, 88, 89, 90, 97, 98, 99, 100, 101, 102, 103, 104, 105, 106, 107, 108, 109, 110, 111, 112, 113, 114, 115, 116, 117, 118, 119, 120, 121, 122, 48, 49, 50, 51, 52, 53, 54, 55, 56, 57, 43, 47]
def fnd : List UInt8 → UInt8 → Int
  | [], _ => -1
  | a :: al, c => if a = c then 0 else if fnd al c < 0 then -1 else fnd al c + 1
theorem fnd_lt (al : List UInt8) (c : UInt8) : fnd al c < al.length := by
  induction al with
  | nil => simp [fnd]
  | cons a al ih => simp only [fnd, List.length_cons]; split <;> (try split) <;> omega
/-- The first k bytes as a number. -/
def wB (d : List UInt8) : Nat → Nat
  | 0 => 0
  | k + 1 => wB d k * 256 + (d.getD k 0).toNat
theorem W_lt (d : List UInt8) : ∀ k, wB d k < 256 ^ k
  | 0 => by simp [wB]
  | k + 1 => by
    have h1 := W_lt d k
    have h2 := byteLe (d.getD k 0)
    rw [wB, Nat.pow_succ]; omega
def grpk (d : List UInt8) (pad : Bool) (k : Nat) : List UInt8 :=
  if k ≤ min 3 d.length then [b64A.getD (wB d 3 / 2 ^ (18 - 6 * k) % 64) 0] else if pad = true then [61] else []
def grp (d : List UInt8) (pad : Bool) (k : Nat) : List UInt8 := (List.range k).flatMap (grpk d pad)
theorem grp_succ (d : List UInt8) (pad : Bool) (k : Nat) : grp d pad (k + 1) = grp d pad k ++ grpk d pad k := by
  simp [grp, List.range_succ]
theorem grpk_le (d : List UInt8) (pad : Bool) (k : Nat) : (grpk d pad k).length ≤ 1 := by
  unfold grpk; split <;> (try split) <;> simp
theorem grp_le (d : List UInt8) (pad : Bool) : ∀ k, (grp d pad k).length ≤ k
  | 0 => by simp [grp]
  | k + 1 => by
    rw [grp_succ, List.length_append]
    have := grp_le d pad k
    have := grpk_le d pad k
    omega
def encG (pad : Bool) : List UInt8 → List UInt8
  | [] => []
  | a :: r => grp (a :: r) pad 4 ++ encG pad ((a :: r).drop 3)
termination_by l => l.length
decreasing_by simp; omega
theorem encG_nil (pad : Bool) : encG pad [] = [] := by rw [encG]
theorem encG_step (pad : Bool) (d : List UInt8) (h : 0 < d.length) : encG pad d = grp d pad 4 ++ encG pad (d.drop 3) := by
  cases d with
  | nil => simp at h
  | cons a r => rw [encG]
def bitL (l : List UInt8) (i : Nat) : Nat := (l.getD (i / 8) 0).toNat / 2 ^ (7 - i % 8) % 2
/-- m bits from i on. -/
def bdg (l : List UInt8) (i : Nat) : Nat → Nat
  | 0 => 0
  | m + 1 => bdg l i m * 2 + bitL l (i + m)
theorem dg_lt (l : List UInt8) (i : Nat) : ∀ m, bdg l i m < 2 ^ m
  | 0 => by simp [bdg]
  | m + 1 => by
    have := dg_lt l i m
    have h2 : bitL l (i + m) < 2 := Nat.mod_lt _ (by decide)
    rw [bdg, Nat.pow_succ]; omega
def ltr (l : List UInt8) (j : Nat) : UInt8 := b64A.getD (bdg l (6 * j) 6) 0
def digs (l : List UInt8) (n : Nat) : List UInt8 := (List.range n).map (ltr l)
def ndig (len : Nat) : Nat := (8 * len + 5) / 6
def encR (pad : Bool) (l : List UInt8) : List UInt8 := digs l (ndig l.length) ++ (if pad = true then List.replicate ((4 - ndig l.length % 4) % 4) 61 else [])
theorem bitL_drop (l : List UInt8) (i : Nat) : bitL (l.drop 3) i = bitL l (24 + i) := by
  unfold bitL
  rw [show (24 + i) / 8 = 3 + i / 8 by omega, show (24 + i) % 8 = i % 8 by omega]
  simp [List.getD]
theorem dg_drop (l : List UInt8) (i : Nat) : ∀ m, bdg (l.drop 3) i m = bdg l (24 + i) m
  | 0 => rfl
  | m + 1 => by rw [bdg, bdg, dg_drop l i m, bitL_drop, Nat.add_assoc]
theorem ltr_drop (l : List UInt8) (j : Nat) : ltr (l.drop 3) j = ltr l (4 + j) := by
  rw [ltr, ltr, dg_drop, show 24 + 6 * j = 6 * (4 + j) by omega]
theorem digs_drop (l : List UInt8) (n : Nat) : digs l (4 + n) = digs l 4 ++ digs (l.drop 3) n := by
  unfold digs
  rw [List.range_add, List.map_append, List.map_map]
  congr 1
  exact List.map_congr_left fun j _ => (ltr_drop l j).symm
theorem W3 (d : List UInt8) : wB d 3 = ((d.getD 0 0).toNat * 256 + (d.getD 1 0).toNat) * 256 + (d.getD 2 0).toNat := by
  simp [wB]
theorem dg6 (l : List UInt8) (i : Nat) : bdg l i 6 = ((((bitL l i * 2 + bitL l (i + 1)) * 2 + bitL l (i + 2)) * 2 + bitL l (i + 3)) * 2 + bitL l (i + 4)) * 2 + bitL l (i + 5) := by
  simp [bdg]
theorem six (x s : Nat) : x / 2 ^ s % 64 = ((((x / 2 ^ (s + 5) % 2 * 2 + x / 2 ^ (s + 4) % 2) * 2 + x / 2 ^ (s + 3) % 2) * 2 + x / 2 ^ (s + 2) % 2) * 2 + x / 2 ^ (s + 1) % 2) * 2 + x / 2 ^ s % 2 := by
  rw [Nat.pow_add, Nat.pow_add, Nat.pow_add, Nat.pow_add, Nat.pow_add, ← Nat.div_div_eq_div_mul, ← Nat.div_div_eq_div_mul, ← Nat.div_div_eq_div_mul, ← Nat.div_div_eq_div_mul, ← Nat.div_div_eq_div_mul]
  generalize x / 2 ^ s = y
  simp only [Nat.reducePow]
  omega
theorem bitW (d : List UInt8) (j : Nat) (h : j < 24) : wB d 3 / 2 ^ (23 - j) % 2 = bitL d j := by
  have ha := byteLe (d.getD 0 0)
  have hb := byteLe (d.getD 1 0)
  have hc := byteLe (d.getD 2 0)
  have hw : wB d 3 = 2 ^ 16 * (d.getD 0 0).toNat + (2 ^ 8 * (d.getD 1 0).toNat + (d.getD 2 0).toNat) := by rw [W3]; omega
  unfold bitL
  rw [hw, ← Nat.toNat_testBit, ← Nat.toNat_testBit, Nat.testBit_two_pow_mul_add _ (by omega)]
  by_cases h1 : j < 8
  · rw [if_neg (by omega), show j / 8 = 0 by omega, show 23 - j - 16 = 7 - j % 8 by omega]
  · rw [if_pos (by omega), Nat.testBit_two_pow_mul_add _ (by omega)]
    by_cases h2 : j < 16
    · rw [if_neg (by omega), show j / 8 = 1 by omega, show 23 - j - 8 = 7 - j % 8 by omega]
    · rw [if_pos (by omega), show j / 8 = 2 by omega, show 23 - j = 7 - j % 8 by omega]
theorem word_dig (d : List UInt8) (k : Nat) (h : k < 4) : wB d 3 / 2 ^ (18 - 6 * k) % 64 = bdg d (6 * k) 6 := by
  rw [six, dg6, ← bitW d _ (by omega), ← bitW d _ (by omega), ← bitW d _ (by omega), ← bitW d _ (by omega), ← bitW d _ (by omega), ← bitW d _ (by omega)]
  rw [show 18 - 6 * k + 5 = 23 - 6 * k by omega, show 18 - 6 * k + 4 = 23 - (6 * k + 1) by omega, show 18 - 6 * k + 3 = 23 - (6 * k + 2) by omega, show 18 - 6 * k + 2 = 23 - (6 * k + 3) by omega, show 18 - 6 * k + 1 = 23 - (6 * k + 4) by omega, show 23 - (6 * k + 5) = 18 - 6 * k by omega]
theorem grpk_dig (d : List UInt8) (pad : Bool) (k : Nat) (h : k < 4) : grpk d pad k = if k ≤ min 3 d.length then [ltr d k] else if pad = true then [61] else [] := by
  rw [grpk, word_dig d k h]; rfl
theorem grp4 (d : List UInt8) (pad : Bool) : grp d pad 4 = grpk d pad 0 ++ (grpk d pad 1 ++ (grpk d pad 2 ++ grpk d pad 3)) := by
  simp [grp, List.range_succ]
theorem digs_four (d : List UInt8) : digs d 4 = [ltr d 0, ltr d 1, ltr d 2, ltr d 3] := by simp [digs, List.range_succ]
theorem enc_eq (pad : Bool) : ∀ (n : Nat) (l : List UInt8), l.length ≤ n → encG pad l = encR pad l
  | 0, l, h => by
    have : l = [] := List.eq_nil_of_length_eq_zero (by omega)
    subst this
    rw [encG_nil]
    cases pad <;> simp [encR, digs, ndig]
  | n + 1, l, h => by
    by_cases h0 : 0 < l.length
    · rw [encG_step pad l h0, enc_eq pad n _ (by simp; omega), grp4]
      rw [grpk_dig l pad 0 (by decide), grpk_dig l pad 1 (by decide), grpk_dig l pad 2 (by decide), grpk_dig l pad 3 (by decide)]
      by_cases h3 : 3 ≤ l.length
      · rw [if_pos (by omega), if_pos (by omega), if_pos (by omega), if_pos (by omega)]
        unfold encR
        have hn : ndig l.length = 4 + ndig (l.drop 3).length := by unfold ndig; simp; omega
        rw [hn, digs_drop, digs_four, show (4 + ndig (l.drop 3).length) % 4 = ndig (l.drop 3).length % 4 by omega]
        simp
      · have hd : l.drop 3 = [] := List.drop_of_length_le (by omega)
        have he : encR pad [] = [] := by cases pad <;> simp [encR, digs, ndig]
        rw [hd, he]
        rcases (by omega : l.length = 1 ∨ l.length = 2) with h1 | h1
        · unfold encR
          rw [h1]
          cases pad <;> simp [ndig, digs, List.range_succ, List.replicate]
        · unfold encR
          rw [h1]
          cases pad <;> simp [ndig, digs, List.range_succ, List.replicate]
    · have : l = [] := List.eq_nil_of_length_eq_zero (by omega)
      subst this
      rw [encG_nil]
      cases pad <;> simp [encR, digs, ndig]
end Go.TVF
end

section
namespace Go.TVF
open Go Go.Proofs
set_option linter.unusedVariables false
set_option linter.unusedSimpArgs false
def v64 (c : UInt8) : Nat := (fnd b64A c).toNat
theorem v64_lt (c : UInt8) : fnd b64A c < 64 := fnd_lt b64A c
theorem v64_lt' (c : UInt8) : v64 c < 64 := by have := v64_lt c; unfold v64; omega
/-- After n digits: the bytes, and what is left over, and how many bits that is. -/
def DS (s : List UInt8) : Nat → List UInt8 × Nat × Nat
  | 0 => ([], 0, 0)
  | n + 1 =>
    if 8 ≤ (DS s n).2.2 + 6 then ((DS s n).1 ++ [UInt8.ofNat (((DS s n).2.1 * 64 + v64 (s.getD n 0)) / 2 ^ ((DS s n).2.2 - 2))], ((DS s n).2.1 * 64 + v64 (s.getD n 0)) % 2 ^ ((DS s n).2.2 - 2), (DS s n).2.2 - 2)
    else ((DS s n).1, (DS s n).2.1 * 64 + v64 (s.getD n 0), (DS s n).2.2 + 6)
/-- The end's cases. -/
def fin (k eq w : Nat) (pad : Bool) (o : List UInt8) : List UInt8 × Int :=
  if k % 4 = 0 ∧ eq = 0 then (o, 0)
  else if 0 < eq ∧ (k % 4 < 2 ∨ 4 - k % 4 < eq ∨ w ≠ 0) then ([], 3)
  else if k % 4 = 1 ∨ w ≠ 0 ∨ (pad = true ∧ eq < 4 - k % 4) then ([], 4)
  else (o, 0)
def allEq (s : List UInt8) (k : Nat) (pad : Bool) : Prop := ∀ j, k ≤ j → j < s.length → s.getD j 0 = 61 ∧ pad = true
open Classical in
noncomputable def decP (s : List UInt8) (k : Nat) (pad : Bool) : List UInt8 × Int :=
  if allEq s k pad then fin k (s.length - k) (DS s k).2.1 pad (DS s k).1 else ([], 3)
def isD (c : UInt8) : Bool := decide (0 ≤ fnd b64A c)
def lead (s : List UInt8) : Nat := (s.takeWhile isD).length
theorem lead_at : ∀ (s : List UInt8) (k : Nat), k ≤ s.length → (∀ j, j < k → 0 ≤ fnd b64A (s.getD j 0)) → (k = s.length ∨ ¬ 0 ≤ fnd b64A (s.getD k 0)) → lead s = k
  | [], k, h, _, _ => by simp at h; subst h; rfl
  | a :: s, 0, _, _, h => by
    have : ¬ 0 ≤ fnd b64A a := by simpa [List.getD] using h
    simp [lead, isD, List.takeWhile, this]
  | a :: s, k + 1, h1, h2, h3 => by
    have ha : 0 ≤ fnd b64A a := by simpa [List.getD] using h2 0 (by omega)
    have := lead_at s k (by simpa using h1) (fun j hj => by simpa [List.getD] using h2 (j + 1) (by omega)) (by simpa [List.getD] using h3)
    simp only [lead] at this ⊢
    simp [isD, List.takeWhile, ha]
    exact this
/-- A number of m bits from i on, of a run of bits. -/
def bn (f : Nat → Nat) (i : Nat) : Nat → Nat
  | 0 => 0
  | m + 1 => bn f i m * 2 + f (i + m)
theorem bn_add (f : Nat → Nat) (i a : Nat) : ∀ b, bn f i (a + b) = bn f i a * 2 ^ b + bn f (i + a) b
  | 0 => by simp [bn]
  | b + 1 => by
    rw [← Nat.add_assoc, bn, bn_add f i a b, bn, Nat.pow_succ, Nat.add_assoc i a b]
    rw [Nat.add_mul, Nat.mul_assoc]; omega
theorem bn_lt (f : Nat → Nat) (hf : ∀ i, f i < 2) (i : Nat) : ∀ m, bn f i m < 2 ^ m
  | 0 => by simp [bn]
  | m + 1 => by
    have := bn_lt f hf i m
    have := hf (i + m)
    rw [bn, Nat.pow_succ]; omega
theorem bn_congr (f g : Nat → Nat) (i : Nat) : ∀ m, (∀ j, i ≤ j → j < i + m → f j = g j) → bn f i m = bn g i m
  | 0, _ => rfl
  | m + 1, h => by rw [bn, bn, bn_congr f g i m (fun j h1 h2 => h j h1 (by omega)), h (i + m) (by omega) (by omega)]
theorem dg_bn (l : List UInt8) (i : Nat) : ∀ m, bdg l i m = bn (bitL l) i m
  | 0 => rfl
  | m + 1 => by rw [bdg, bn, dg_bn l i m]
/-- Bit i of the digits' text. -/
def bitS (s : List UInt8) (i : Nat) : Nat := v64 (s.getD (i / 6) 0) / 2 ^ (5 - i % 6) % 2
theorem bitS_lt (s : List UInt8) (i : Nat) : bitS s i < 2 := Nat.mod_lt _ (by decide)
theorem bitL_lt (s : List UInt8) (i : Nat) : bitL s i < 2 := Nat.mod_lt _ (by decide)
theorem bn_digit (s : List UInt8) (j : Nat) : bn (bitS s) (6 * j) 6 = v64 (s.getD j 0) := by
  have h := v64_lt' (s.getD j 0)
  simp only [bn, bitS, show 6 * j / 6 = j by omega, show 6 * j % 6 = 0 by omega, show (6 * j + 0) / 6 = j by omega, show (6 * j + 0) % 6 = 0 by omega, show (6 * j + 1) / 6 = j by omega, show (6 * j + 1) % 6 = 1 by omega, show (6 * j + 2) / 6 = j by omega, show (6 * j + 2) % 6 = 2 by omega, show (6 * j + 3) / 6 = j by omega, show (6 * j + 3) % 6 = 3 by omega, show (6 * j + 4) / 6 = j by omega, show (6 * j + 4) % 6 = 4 by omega, show (6 * j + 5) / 6 = j by omega, show (6 * j + 5) % 6 = 5 by omega]
  generalize v64 (s.getD j 0) = v at *
  simp only [Nat.reduceSub, Nat.reducePow, Nat.zero_mul, Nat.zero_add]
  omega
theorem bn_byte (l : List UInt8) (q : Nat) : bn (bitL l) (8 * q) 8 = (l.getD q 0).toNat := by
  have h := byteLe (l.getD q 0)
  simp only [bn, bitL, show (8 * q + 0) / 8 = q by omega, show (8 * q + 0) % 8 = 0 by omega, show (8 * q + 1) / 8 = q by omega, show (8 * q + 1) % 8 = 1 by omega, show (8 * q + 2) / 8 = q by omega, show (8 * q + 2) % 8 = 2 by omega, show (8 * q + 3) / 8 = q by omega, show (8 * q + 3) % 8 = 3 by omega, show (8 * q + 4) / 8 = q by omega, show (8 * q + 4) % 8 = 4 by omega, show (8 * q + 5) / 8 = q by omega, show (8 * q + 5) % 8 = 5 by omega, show (8 * q + 6) / 8 = q by omega, show (8 * q + 6) % 8 = 6 by omega, show (8 * q + 7) / 8 = q by omega, show (8 * q + 7) % 8 = 7 by omega]
  generalize (l.getD q 0).toNat = v at *
  simp only [Nat.reduceSub, Nat.reducePow, Nat.zero_mul, Nat.zero_add]
  omega
/-- The bytes that a run of bits says. -/
def bys (f : Nat → Nat) (n : Nat) : List UInt8 := (List.range n).map fun q => UInt8.ofNat (bn f (8 * q) 8)
theorem bys_succ (f : Nat → Nat) (n : Nat) : bys f (n + 1) = bys f n ++ [UInt8.ofNat (bn f (8 * n) 8)] := by simp [bys, List.range_succ]
/-- What the program's loop has, said in bits. -/
theorem DS_bits (s : List UInt8) : ∀ n, DS s n = (bys (bitS s) (6 * n / 8), bn (bitS s) (8 * (6 * n / 8)) (6 * n % 8), 6 * n % 8)
  | 0 => rfl
  | n + 1 => by
    have ih := DS_bits s n
    have hX : bn (bitS s) (8 * (6 * n / 8)) (6 * n % 8) * 64 + v64 (s.getD n 0) = bn (bitS s) (8 * (6 * n / 8)) (6 * n % 8 + 6) := by
      rw [bn_add, ← bn_digit s n, show 8 * (6 * n / 8) + 6 * n % 8 = 6 * n by omega]
    unfold DS
    rw [ih]
    dsimp only
    rw [hX]
    by_cases h8 : 8 ≤ 6 * n % 8 + 6
    · rw [if_pos h8]
      have hsplit : bn (bitS s) (8 * (6 * n / 8)) (6 * n % 8 + 6) = bn (bitS s) (8 * (6 * n / 8)) 8 * 2 ^ (6 * n % 8 - 2) + bn (bitS s) (8 * (6 * n / 8) + 8) (6 * n % 8 - 2) := by
        rw [← bn_add, show 8 + (6 * n % 8 - 2) = 6 * n % 8 + 6 by omega]
      have hlt := bn_lt (bitS s) (bitS_lt s) (8 * (6 * n / 8) + 8) (6 * n % 8 - 2)
      rw [hsplit, show 6 * (n + 1) / 8 = 6 * n / 8 + 1 by omega, show 6 * (n + 1) % 8 = 6 * n % 8 - 2 by omega, bys_succ, show 8 * (6 * n / 8 + 1) = 8 * (6 * n / 8) + 8 by omega]
      rw [Nat.mul_comm (bn (bitS s) (8 * (6 * n / 8)) 8), Nat.mul_add_div (Nat.two_pow_pos _), Nat.div_eq_of_lt hlt, Nat.add_zero, Nat.mul_add_mod, Nat.mod_eq_of_lt hlt]
    · rw [if_neg h8, show 6 * (n + 1) / 8 = 6 * n / 8 by omega, show 6 * (n + 1) % 8 = 6 * n % 8 + 6 by omega]
theorem fnd64 : ∀ n, n < 64 → fnd b64A (b64A.getD n 0) = (n : Int) := by decide +kernel
theorem fnd61 : fnd b64A 61 = -1 := by decide +kernel
theorem bn_bit (f : Nat → Nat) (hf : ∀ i, f i < 2) (i j : Nat) (h : j < 6) : bn f i 6 / 2 ^ (5 - j) % 2 = f (i + j) := by
  have h0 := hf (i + 0)
  have h1 := hf (i + 1)
  have h2 := hf (i + 2)
  have h3 := hf (i + 3)
  have h4 := hf (i + 4)
  have h5 := hf (i + 5)
  simp only [bn, Nat.zero_mul, Nat.zero_add]
  rcases (by omega : j = 0 ∨ j = 1 ∨ j = 2 ∨ j = 3 ∨ j = 4 ∨ j = 5) with rfl | rfl | rfl | rfl | rfl | rfl
  all_goals
    simp only [Nat.reduceSub, Nat.reducePow]
    generalize f (i + 0) = a0 at *
    generalize f (i + 1) = a1 at *
    generalize f (i + 2) = a2 at *
    generalize f (i + 3) = a3 at *
    generalize f (i + 4) = a4 at *
    generalize f (i + 5) = a5 at *
    omega
theorem digs_get (l t : List UInt8) (n j : Nat) (h : j < n) : (digs l n ++ t).getD j 0 = ltr l j := by
  simp [List.getD, digs, List.getElem?_append, h]
theorem v64_ltr (l : List UInt8) (j : Nat) : fnd b64A (ltr l j) = (bdg l (6 * j) 6 : Nat) := fnd64 _ (dg_lt l (6 * j) 6)
theorem bitS_digs (l t : List UInt8) (n i : Nat) (h : i < 6 * n) : bitS (digs l n ++ t) i = bitL l i := by
  rw [bitS, digs_get l t n _ (by omega), v64, v64_ltr]
  show bdg l (6 * (i / 6)) 6 / _ % 2 = _
  rw [dg_bn, bn_bit _ (bitL_lt l) _ _ (Nat.mod_lt _ (by decide)), show 6 * (i / 6) + i % 6 = i by omega]
theorem bys_bitL (l : List UInt8) : bys (bitL l) l.length = l := by
  apply List.ext_getElem
  · simp [bys]
  · intro i h1 h2
    simp only [bys, List.getElem_map, List.getElem_range, bn_byte]
    simp [List.getD, h2]
theorem bitL_out (l : List UInt8) (i : Nat) (h : 8 * l.length ≤ i) : bitL l i = 0 := by
  have : l.getD (i / 8) 0 = 0 := by
    simp only [List.getD]
    rw [List.getElem?_eq_none (by omega)]; rfl
  rw [bitL, this]
  show 0 / _ % 2 = 0
  simp
theorem bn_zero (f : Nat → Nat) (i : Nat) : ∀ m, (∀ j, i ≤ j → f j = 0) → bn f i m = 0
  | 0, _ => rfl
  | m + 1, h => by rw [bn, bn_zero f i m h, h (i + m) (by omega)]
theorem bys_congr (f g : Nat → Nat) (n : Nat) (h : ∀ j, j < 8 * n → f j = g j) : bys f n = bys g n := by
  unfold bys
  refine List.map_congr_left fun q hq => ?_
  have : q < n := by simpa using hq
  rw [bn_congr f g (8 * q) 8 (fun j h1 h2 => h j (by omega))]
def padsOf (pad : Bool) (n : Nat) : List UInt8 := if pad = true then List.replicate ((4 - n % 4) % 4) 61 else []
theorem encR_eq (pad : Bool) (l : List UInt8) : encR pad l = digs l (ndig l.length) ++ padsOf pad (ndig l.length) := rfl
theorem digs_len (l : List UInt8) (n : Nat) : (digs l n).length = n := by simp [digs]
theorem padsOf_len (pad : Bool) (n : Nat) : (padsOf pad n).length = if pad = true then (4 - n % 4) % 4 else 0 := by
  unfold padsOf; split <;> simp
theorem pads_get (pad : Bool) (n j : Nat) (h : j < (padsOf pad n).length) : (padsOf pad n).getD j 0 = 61 ∧ pad = true := by
  rw [padsOf_len] at h
  split at h
  · rename_i hp
    rw [padsOf, if_pos hp]
    exact ⟨by simp [List.getD, h], hp⟩
  · exact absurd h (Nat.not_lt_zero _)
theorem lead_encR (pad : Bool) (l : List UInt8) : lead (encR pad l) = ndig l.length := by
  rw [encR_eq]
  refine lead_at _ _ (by rw [List.length_append, digs_len]; omega) (fun j hj => ?_) ?_
  · rw [digs_get l _ _ j hj, v64_ltr]; omega
  · by_cases h : (padsOf pad (ndig l.length)).length = 0
    · left; rw [List.length_append, digs_len, h]; omega
    · right
      have hg := pads_get pad (ndig l.length) 0 (by omega)
      have : (digs l (ndig l.length) ++ padsOf pad (ndig l.length)).getD (ndig l.length) 0 = (padsOf pad (ndig l.length)).getD 0 0 := by
        simp only [List.getD]
        rw [List.getElem?_append_right (by rw [digs_len]; omega), digs_len, Nat.sub_self]
      rw [this, hg.1, fnd61]; omega
theorem dec_enc (pad : Bool) (l : List UInt8) : decP (encR pad l) (lead (encR pad l)) pad = (l, 0) := by
  rw [lead_encR]
  have hlen : (encR pad l).length = ndig l.length + (if pad = true then (4 - ndig l.length % 4) % 4 else 0) := by
    rw [encR_eq, List.length_append, digs_len, padsOf_len]
  have hall : allEq (encR pad l) (ndig l.length) pad := fun j h1 h2 => by
    have h3 : (encR pad l).getD j 0 = (padsOf pad (ndig l.length)).getD (j - ndig l.length) 0 := by
      rw [encR_eq]
      simp only [List.getD]
      rw [List.getElem?_append_right (by rw [digs_len]; omega), digs_len]
    rw [h3]
    exact pads_get _ _ _ (by rw [padsOf_len]; omega)
  rw [decP, if_pos hall, DS_bits]
  have hq : 6 * ndig l.length / 8 = l.length := by unfold ndig; omega
  have h1 : bys (bitS (encR pad l)) l.length = l := by
    rw [bys_congr _ (bitL l) _ (fun j hj => by rw [encR_eq]; exact bitS_digs l _ _ j (by unfold ndig; omega)), bys_bitL]
  have h2 : bn (bitS (encR pad l)) (8 * l.length) (6 * ndig l.length % 8) = 0 := by
    rw [bn_congr _ (bitL l) _ _ (fun j hj hj2 => by rw [encR_eq]; exact bitS_digs l _ _ j (by omega))]
    exact bn_zero _ _ _ fun j hj => bitL_out l j hj
  rw [hq]
  dsimp only
  rw [h1, h2, hlen]
  have hr : ndig l.length % 4 ≠ 1 := by unfold ndig; omega
  generalize ndig l.length = n at *
  unfold fin
  cases pad
  · simp only [Bool.false_eq_true, if_false, false_and, or_false]
    rw [show n + 0 - n = 0 by omega]
    (repeat' split) <;> first | rfl | (exfalso; omega)
  · simp only [if_true, true_and]
    rw [show n + (4 - n % 4) % 4 - n = (4 - n % 4) % 4 by omega]
    (repeat' split) <;> first | rfl | (exfalso; omega)
end Go.TVF
end

section
set_option linter.unusedVariables false
namespace Go.TVF
open Go Go.Proofs
theorem mixed : Tryz.prog.follows .mixedOrders = true := by kernel_rfl
noncomputable def PR : Program := Tryz.prog
def fn_datakitlaw10_CanonUnique : Nat := 10
def fn_datakitref07_Same : Nat := 18
def fn_datakitref07_Small : Nat := 35
def fn_canon_Text : Nat := 36
def fn_datakitref07_Check : Nat := 38
def fn_canon_Encode : Nat := 39
def fn_datakitref07_Equal : Nat := 40
def fn_datakitref10_SameBytes : Nat := 41
def fn_value_Copy : Nat := 48
def fn_value_Check : Nat := 53
def fn_decimal_Text : Nat := 71
def fn_moment_Text : Nat := 72
def fn_datakitref07_room : Nat := 80
def fn_canon_text : Nat := 81
def fn_datakitref07_look : Nat := 83
def fn_canon_put : Nat := 84
def fn_value_Sorted : Nat := 85
def fn_datakitref07_Sorted : Nat := 86
def fn_utf_Valid : Nat := 90
def fn_value_copied : Nat := 96
def fn_value_check : Nat := 99
def fn_datakitref07_Kids : Nat := 107
def fn_datakitref03_Valid : Nat := 109
def fn_decimal_Valid : Nat := 131
def fn_strings_Repeat : Nat := 132
def fn_decimal_whole : Nat := 133
def fn_moment_Valid : Nat := 134
def fn_moment_dateText : Nat := 135
def fn_moment_clockText : Nat := 136
def fn_moment_offsetText : Nat := 137
def fn_datakitref05_Valid : Nat := 141
def fn_value_sorted : Nat := 148
def fn_canon_write : Nat := 153
def fn_strings_Builder_String : Nat := 154
def fn_datakitref07_Fields : Nat := 157
def fn_datakitref07_one : Nat := 158
def fn_canon_number : Nat := 159
def fn_canon_natural : Nat := 160
def fn_canon_fold : Nat := 161
def fn_canon_str : Nat := 162
def fn_canon_count_byte_ : Nat := 163
def fn_canon_count_api_Value_ : Nat := 164
def fn_canon_count_api_Field_ : Nat := 165
def fn_value_arranged : Nat := 166
def fn_utf_Len : Nat := 170
def fn_slices_Clone___byte_byte_ : Nat := 190
def fn_value_extra : Nat := 198
def fn_value_keys : Nat := 199
def fn_datakitref03_Boundaries : Nat := 204
def fn_calendar_Month : Nat := 222
def fn_calendar_start : Nat := 223
def fn_datakitref03_Decode : Nat := 225
def fn_datakitref01_Zeros : Nat := 229
def fn_digits_Valid : Nat := 232
def fn_digits_Zeros : Nat := 233
def fn_strings_Builder_WriteString : Nat := 236
def fn_digits_FromInt : Nat := 238
def fn_calendar_Date : Nat := 239
def fn_moment_digits : Nat := 240
def fn_datakitref05_dated : Nat := 243
def fn_datakitref05_clocked : Nat := 244
def fn_slices_Clone___api_Field_api_Field_ : Nat := 248
def fn_slices_SortStableFunc___api_Field_api_Field_ : Nat := 249
def fn_value_sorted_1 : Nat := 250
def fn_strings_Compare : Nat := 251
def fn_canon_quote : Nat := 252
def fn_base_Encode : Nat := 253
def fn_strings_Builder_WriteByte : Nat := 254
def fn_datakitref07_own : Nat := 257
def fn_datakitref02_Valid : Nat := 258
def fn_datakitref07_Keys : Nat := 259
def fn_utf_Decode : Nat := 261
def fn_value_key : Nat := 276
def fn_strings_TrimRight : Nat := 284
def fn_calendar_valid : Nat := 287
def fn_calendar_Leap : Nat := 288
def fn_datakitref03_Encode : Nat := 290
def fn_datakitref01_Valid : Nat := 291
def fn_digits_all : Nat := 293
def fn_strings_Builder_copyCheck : Nat := 296
def fn_digits_reverse : Nat := 298
def fn_calendar_known : Nat := 299
def fn_slices_stableCmpFunc_api_Field_ : Nat := 301
def fn_canon_short : Nat := 303
def fn_utf_head : Nat := 304
def fn_utf_scalar : Nat := 305
def fn_utf_width : Nat := 306
def fn_datakitref03_character : Nat := 318
def fn_datakitref01_Digits : Nat := 319
def fn_abi_NoEscape : Nat := 320
def fn_slices_insertionSortCmpFunc_api_Field_ : Nat := 322
def fn_slices_symMergeCmpFunc_api_Field_ : Nat := 323
def fn_slices_rotateCmpFunc_api_Field_ : Nat := 332
def fn_slices_swapRangeCmpFunc_api_Field_ : Nat := 335
def str7 : List UInt8 := [116, 114, 117, 101]
def str8 : List UInt8 := [102, 97, 108, 115, 101]
def str9 : List UInt8 := [45]
def str10 : List UInt8 := [46]
def str11 : List UInt8 := [43]
def str12 : List UInt8 := [48]
def str14 : List UInt8 := [48, 46]
def str15 : List UInt8 := [101, 45]
def str16 : List UInt8 := [101]
def str17 : List UInt8 := [84]
def str20 : List UInt8 := [48, 49, 50, 51, 52, 53, 54, 55, 56, 57, 97, 98, 99, 100, 101, 102]
def str21 : List UInt8 := [110, 117, 108, 108]
def str30 : List UInt8 := [90]
def str34 : List UInt8 := [58]
def str35 : List UInt8 := [34]
def str43 : List UInt8 := [92, 117, 48, 48]
def str44 : List UInt8 := [116, 34]
def str45 : List UInt8 := [98, 34]
def str46 : List UInt8 := [65, 66, 67, 68, 69, 70, 71, 72, 73, 74, 75, 76, 77, 78, 79, 80, 81, 82, 83, 84, 85, 86, 87, 88, 89, 90, 97, 98, 99, 100, 101, 102, 103, 104, 105, 106, 107, 108, 109, 110, 111, 112, 113, 114, 115, 116, 117, 118, 119, 120, 121, 122, 48, 49, 50, 51, 52, 53, 54, 55, 56, 57, 43, 47]
end Go.TVF
end

section
set_option linter.unusedVariables false
namespace Go.TVF
open Go Go.Proofs
set_option maxRecDepth 100000 in
theorem vc_datakitlaw10_CanonUnique (a_0 : Int) (a_1 : Bool) (a_2 : Bool) (a_3 : List UInt8) (a_4 : Int) (a_5 : Int) (a_6 : Int) (a_7 : Int) (a_8 : Int) (a_9 : List UInt8) (a_10 : TV) (a_11 : TV) (a_12 : TV) (b_0 : Int) (b_1 : Bool) (b_2 : Bool) (b_3 : List UInt8) (b_4 : Int) (b_5 : Int) (b_6 : Int) (b_7 : Int) (b_8 : Int) (b_9 : List UInt8) (b_10 : TV) (b_11 : TV) (b_12 : TV) (st : St) (K : Bool → St → Prop) (h : CallT PR fn_datakitref07_Small [(.agg [(.int .i64 a_0), (.bool a_1), (.bool a_2), (.str a_3), (.int .i64 a_4), (.int .i64 a_5), (.int .i64 a_6), (.int .i64 a_7), (.int .i64 a_8), (.str a_9), a_10, a_11, a_12]), (.int .i64 (300 : Int)), (.int .i64 (60 : Int))] [.one (.bool)] st (fun (b1 : Bool) (st1 : St) => BIf (!b1) (K (true) st1) (CallT PR fn_datakitref07_Small [(.agg [(.int .i64 b_0), (.bool b_1), (.bool b_2), (.str b_3), (.int .i64 b_4), (.int .i64 b_5), (.int .i64 b_6), (.int .i64 b_7), (.int .i64 b_8), (.str b_9), b_10, b_11, b_12]), (.int .i64 (300 : Int)), (.int .i64 (60 : Int))] [.one (.bool)] st1 (fun (b2 : Bool) (st2 : St) => BIf (!b2) (K (true) st2) (CallT PR fn_datakitref07_Check [(.agg [(.int .i64 a_0), (.bool a_1), (.bool a_2), (.str a_3), (.int .i64 a_4), (.int .i64 a_5), (.int .i64 a_6), (.int .i64 a_7), (.int .i64 a_8), (.str a_9), a_10, a_11, a_12])] [.one (.int .i64)] st2 (fun (n1 : Int) (st3 : St) => BIf (decide (n1 ≠ (0 : Int))) (K (true) st3) (CallT PR fn_datakitref07_Check [(.agg [(.int .i64 b_0), (.bool b_1), (.bool b_2), (.str b_3), (.int .i64 b_4), (.int .i64 b_5), (.int .i64 b_6), (.int .i64 b_7), (.int .i64 b_8), (.str b_9), b_10, b_11, b_12])] [.one (.int .i64)] st3 (fun (n2 : Int) (st4 : St) => BIf (decide (n2 ≠ (0 : Int))) (K (true) st4) (CallT PR fn_canon_Encode [(.agg [(.int .i64 a_0), (.bool a_1), (.bool a_2), (.str a_3), (.int .i64 a_4), (.int .i64 a_5), (.int .i64 a_6), (.int .i64 a_7), (.int .i64 a_8), (.str a_9), a_10, a_11, a_12])] [.one (.tv), .one (.int .i64)] st4 (fun (v1 : TV) (n3 : Int) (st5 : St) => CallT PR fn_canon_Encode [(.agg [(.int .i64 b_0), (.bool b_1), (.bool b_2), (.str b_3), (.int .i64 b_4), (.int .i64 b_5), (.int .i64 b_6), (.int .i64 b_7), (.int .i64 b_8), (.str b_9), b_10, b_11, b_12])] [.one (.tv), .one (.int .i64)] st5 (fun (v2 : TV) (n4 : Int) (st6 : St) => CallT PR fn_canon_Text [(.agg [(.int .i64 a_0), (.bool a_1), (.bool a_2), (.str a_3), (.int .i64 a_4), (.int .i64 a_5), (.int .i64 a_6), (.int .i64 a_7), (.int .i64 a_8), (.str a_9), a_10, a_11, a_12])] [.one (.str), .one (.int .i64)] st6 (fun (s1 : List UInt8) (n5 : Int) (st7 : St) => CallT PR fn_canon_Text [(.agg [(.int .i64 b_0), (.bool b_1), (.bool b_2), (.str b_3), (.int .i64 b_4), (.int .i64 b_5), (.int .i64 b_6), (.int .i64 b_7), (.int .i64 b_8), (.str b_9), b_10, b_11, b_12])] [.one (.str), .one (.int .i64)] st7 (fun (s2 : List UInt8) (n6 : Int) (st8 : St) => BIf (decide (n3 ≠ (0 : Int))) (K (false) st8) (BIf (decide (n4 ≠ (0 : Int))) (K (false) st8) (BIf (decide (n5 ≠ (0 : Int))) (K (false) st8) (BIf (decide (n6 ≠ (0 : Int))) (K (false) st8) (CallT PR fn_datakitref07_Equal [(.agg [(.int .i64 a_0), (.bool a_1), (.bool a_2), (.str a_3), (.int .i64 a_4), (.int .i64 a_5), (.int .i64 a_6), (.int .i64 a_7), (.int .i64 a_8), (.str a_9), a_10, a_11, a_12]), (.agg [(.int .i64 b_0), (.bool b_1), (.bool b_2), (.str b_3), (.int .i64 b_4), (.int .i64 b_5), (.int .i64 b_6), (.int .i64 b_7), (.int .i64 b_8), (.str b_9), b_10, b_11, b_12])] [.one (.bool)] st8 (fun (b3 : Bool) (st9 : St) => CallT PR fn_datakitref10_SameBytes [v1, v2] [.one (.bool)] st9 (fun (b4 : Bool) (st10 : St) => BIf (b4 == b3) (K (((decide (s1 = s2)) == b3)) st10) (K (false) st10)))))))))))))))))))) : CallT PR fn_datakitlaw10_CanonUnique [(.agg [(.int .i64 a_0), (.bool a_1), (.bool a_2), (.str a_3), (.int .i64 a_4), (.int .i64 a_5), (.int .i64 a_6), (.int .i64 a_7), (.int .i64 a_8), (.str a_9), a_10, a_11, a_12]), (.agg [(.int .i64 b_0), (.bool b_1), (.bool b_2), (.str b_3), (.int .i64 b_4), (.int .i64 b_5), (.int .i64 b_6), (.int .i64 b_7), (.int .i64 b_8), (.str b_9), b_10, b_11, b_12])] [.one (.bool)] st K :=
  tcalls_fw (cfg := ⟨[2, 3], [], []⟩) (h := .none) mixed (fun _ _ => Tryz.call10 _ _) Tryz.func10 (by kernel_rfl) (by kernel_rfl) h
set_option maxRecDepth 100000 in
theorem vc_datakitref07_Same (a_0 : Int) (a_1 : Bool) (a_2 : Bool) (a_3 : List UInt8) (a_4 : Int) (a_5 : Int) (a_6 : Int) (a_7 : Int) (a_8 : Int) (a_9 : List UInt8) (a_10 : TV) (a_11 : TV) (a_12 : TV) (b_0 : Int) (b_1 : Bool) (b_2 : Bool) (b_3 : List UInt8) (b_4 : Int) (b_5 : Int) (b_6 : Int) (b_7 : Int) (b_8 : Int) (b_9 : List UInt8) (b_10 : TV) (b_11 : TV) (b_12 : TV) (st : St) (K : Bool → St → Prop) (h : BIf (decide (a_0 ≠ b_0)) (K (false) st) (BIf (!(a_1 == b_1)) (K (false) st) (BIf (!((a_2 == b_2) && (decide (a_3 = b_3) && (decide (a_4 = b_4) && true)))) (K (false) st) (BIf (!(decide (a_5 = b_5) && (decide (a_6 = b_6) && (decide (a_7 = b_7) && (decide (a_8 = b_8) && true))))) (K (false) st) (BIf (decide (a_9 ≠ b_9)) (K (false) st) (optK ((toBytes st a_10).map TV.str) (fun (x1 : TV) => decT (.str) x1 (fun (s1 : List UInt8) => optK ((toBytes st b_10).map TV.str) (fun (x2 : TV) => decT (.str) x2 (fun (s2 : List UInt8) => BIf (decide (s1 ≠ s2)) (K (false) st) (need (isSl a_11) (need (isSl b_11) (BIf (decide ((lenS a_11 : Int) ≠ (lenS b_11 : Int))) (K (false) st) (need (isSl a_12) (need (isSl b_12) (BIf (decide ((lenS a_12 : Int) ≠ (lenS b_12 : Int))) (K (false) st) (∃ (I1 : Int → Int → Bool → Bool → List UInt8 → Int → Int → Int → Int → Int → List UInt8 → TV → TV → TV → Int → Bool → Bool → List UInt8 → Int → Int → Int → Int → Int → List UInt8 → TV → TV → TV → St → Prop) (M1 : Int → Int → Bool → Bool → List UInt8 → Int → Int → Int → Int → Int → List UInt8 → TV → TV → TV → Int → Bool → Bool → List UInt8 → Int → Int → Int → Int → Int → List UInt8 → TV → TV → TV → St → Nat), (I1 ((0 : Int)) (a_0) (a_1) (a_2) (a_3) (a_4) (a_5) (a_6) (a_7) (a_8) (a_9) (a_10) (a_11) (a_12) (b_0) (b_1) (b_2) (b_3) (b_4) (b_5) (b_6) (b_7) (b_8) (b_9) (b_10) (b_11) (b_12) st) ∧ ∀ (i_1 : Int) (n1 : Int) (b1 : Bool) (b2 : Bool) (s3 : List UInt8) (n2 : Int) (n3 : Int) (n4 : Int) (n5 : Int) (n6 : Int) (s4 : List UInt8) (v1 : TV) (v2 : TV) (v3 : TV) (n7 : Int) (b3 : Bool) (b4 : Bool) (s5 : List UInt8) (n8 : Int) (n9 : Int) (n10 : Int) (n11 : Int) (n12 : Int) (s6 : List UInt8) (v4 : TV) (v5 : TV) (v6 : TV) (st1 : St), I1 i_1 n1 b1 b2 s3 n2 n3 n4 n5 n6 s4 v1 v2 v3 n7 b3 b4 s5 n8 n9 n10 n11 n12 s6 v4 v5 v6 st1 → (need (isSl v2) (BIf (decide (i_1 < (lenS v2 : Int))) (((0 ≤ i_1 ∧ i_1 < (lenZ 13 v2 : Int)) ∧ optK ((ldCells st1 [] (.t (ixT 13 v2 (Int.toNat i_1))) 0 13).map TV.agg) (fun (x3 : TV) => decA [.int .i64, .bool, .bool, .str, .int .i64, .int .i64, .int .i64, .int .i64, .int .i64, .str, .tv, .tv, .tv] x3 (fun (n13 : Int) (b5 : Bool) (b6 : Bool) (s7 : List UInt8) (n14 : Int) (n15 : Int) (n16 : Int) (n17 : Int) (n18 : Int) (s8 : List UInt8) (v7 : TV) (v8 : TV) (v9 : TV) => ((0 ≤ i_1 ∧ i_1 < (lenZ 13 v5 : Int)) ∧ optK ((ldCells st1 [] (.t (ixT 13 v5 (Int.toNat i_1))) 0 13).map TV.agg) (fun (x4 : TV) => decA [.int .i64, .bool, .bool, .str, .int .i64, .int .i64, .int .i64, .int .i64, .int .i64, .str, .tv, .tv, .tv] x4 (fun (n19 : Int) (b7 : Bool) (b8 : Bool) (s9 : List UInt8) (n20 : Int) (n21 : Int) (n22 : Int) (n23 : Int) (n24 : Int) (s10 : List UInt8) (v10 : TV) (v11 : TV) (v12 : TV) => CallT PR fn_datakitref07_Same [(.agg [(.int .i64 n13), (.bool b5), (.bool b6), (.str s7), (.int .i64 n14), (.int .i64 n15), (.int .i64 n16), (.int .i64 n17), (.int .i64 n18), (.str s8), v7, v8, v9]), (.agg [(.int .i64 n19), (.bool b7), (.bool b8), (.str s9), (.int .i64 n20), (.int .i64 n21), (.int .i64 n22), (.int .i64 n23), (.int .i64 n24), (.str s10), v10, v11, v12])] [.one (.bool)] st1 (fun (b9 : Bool) (st2 : St) => BIf (!b9) (K (false) st2) ((I1 ((IntKind.i64.wrap (i_1 + (1 : Int)))) (n1) (b1) (b2) (s3) (n2) (n3) (n4) (n5) (n6) (s4) (v1) (v2) (v3) (n7) (b3) (b4) (s5) (n8) (n9) (n10) (n11) (n12) (s6) (v4) (v5) (v6) st2 ∧ M1 ((IntKind.i64.wrap (i_1 + (1 : Int)))) (n1) (b1) (b2) (s3) (n2) (n3) (n4) (n5) (n6) (s4) (v1) (v2) (v3) (n7) (b3) (b4) (s5) (n8) (n9) (n10) (n11) (n12) (s6) (v4) (v5) (v6) st2 < M1 i_1 n1 b1 b2 s3 n2 n3 n4 n5 n6 s4 v1 v2 v3 n7 b3 b4 s5 n8 n9 n10 n11 n12 s6 v4 v5 v6 st1)))))))))) (∃ (I2 : Int → Int → Bool → Bool → List UInt8 → Int → Int → Int → Int → Int → List UInt8 → TV → TV → TV → Int → Bool → Bool → List UInt8 → Int → Int → Int → Int → Int → List UInt8 → TV → TV → TV → St → Prop) (M2 : Int → Int → Bool → Bool → List UInt8 → Int → Int → Int → Int → Int → List UInt8 → TV → TV → TV → Int → Bool → Bool → List UInt8 → Int → Int → Int → Int → Int → List UInt8 → TV → TV → TV → St → Nat), (I2 ((0 : Int)) (n1) (b1) (b2) (s3) (n2) (n3) (n4) (n5) (n6) (s4) (v1) (v2) (v3) (n7) (b3) (b4) (s5) (n8) (n9) (n10) (n11) (n12) (s6) (v4) (v5) (v6) st1) ∧ ∀ (i_2 : Int) (n25 : Int) (b10 : Bool) (b11 : Bool) (s11 : List UInt8) (n26 : Int) (n27 : Int) (n28 : Int) (n29 : Int) (n30 : Int) (s12 : List UInt8) (v13 : TV) (v14 : TV) (v15 : TV) (n31 : Int) (b12 : Bool) (b13 : Bool) (s13 : List UInt8) (n32 : Int) (n33 : Int) (n34 : Int) (n35 : Int) (n36 : Int) (s14 : List UInt8) (v16 : TV) (v17 : TV) (v18 : TV) (st3 : St), I2 i_2 n25 b10 b11 s11 n26 n27 n28 n29 n30 s12 v13 v14 v15 n31 b12 b13 s13 n32 n33 n34 n35 n36 s14 v16 v17 v18 st3 → (need (isSl v15) (BIf (decide (i_2 < (lenS v15 : Int))) (((0 ≤ i_2 ∧ i_2 < (lenZ 14 v15 : Int)) ∧ need (isPtr (ixT 14 v15 (Int.toNat i_2))) (optK (ldCell st3 [] (.t (fldT (ixT 14 v15 (Int.toNat i_2)) 0)) 0) (fun (x5 : TV) => decT (.str) x5 (fun (s15 : List UInt8) => ((0 ≤ i_2 ∧ i_2 < (lenZ 14 v18 : Int)) ∧ need (isPtr (ixT 14 v18 (Int.toNat i_2))) (optK (ldCell st3 [] (.t (fldT (ixT 14 v18 (Int.toNat i_2)) 0)) 0) (fun (x6 : TV) => decT (.str) x6 (fun (s16 : List UInt8) => BIf (decide (s15 ≠ s16)) ((ldCell st3 [] (.t (fldT (ixT 14 v18 (Int.toNat i_2)) 0)) 0 = some (.str s16) ∧ (ldCell st3 [] (.t (fldT (ixT 14 v15 (Int.toNat i_2)) 0)) 0 = some (.str s15) ∧ K (false) st3))) (((0 ≤ i_2 ∧ i_2 < (lenZ 14 v15 : Int)) ∧ need (isPtr (ixT 14 v15 (Int.toNat i_2))) (optK ((ldCells st3 [] (.t (fldT (ixT 14 v15 (Int.toNat i_2)) 1)) 0 13).map TV.agg) (fun (x7 : TV) => decA [.int .i64, .bool, .bool, .str, .int .i64, .int .i64, .int .i64, .int .i64, .int .i64, .str, .tv, .tv, .tv] x7 (fun (n37 : Int) (b14 : Bool) (b15 : Bool) (s17 : List UInt8) (n38 : Int) (n39 : Int) (n40 : Int) (n41 : Int) (n42 : Int) (s18 : List UInt8) (v19 : TV) (v20 : TV) (v21 : TV) => ((0 ≤ i_2 ∧ i_2 < (lenZ 14 v18 : Int)) ∧ need (isPtr (ixT 14 v18 (Int.toNat i_2))) (optK ((ldCells st3 [] (.t (fldT (ixT 14 v18 (Int.toNat i_2)) 1)) 0 13).map TV.agg) (fun (x8 : TV) => decA [.int .i64, .bool, .bool, .str, .int .i64, .int .i64, .int .i64, .int .i64, .int .i64, .str, .tv, .tv, .tv] x8 (fun (n43 : Int) (b16 : Bool) (b17 : Bool) (s19 : List UInt8) (n44 : Int) (n45 : Int) (n46 : Int) (n47 : Int) (n48 : Int) (s20 : List UInt8) (v22 : TV) (v23 : TV) (v24 : TV) => CallT PR fn_datakitref07_Same [(.agg [(.int .i64 n37), (.bool b14), (.bool b15), (.str s17), (.int .i64 n38), (.int .i64 n39), (.int .i64 n40), (.int .i64 n41), (.int .i64 n42), (.str s18), v19, v20, v21]), (.agg [(.int .i64 n43), (.bool b16), (.bool b17), (.str s19), (.int .i64 n44), (.int .i64 n45), (.int .i64 n46), (.int .i64 n47), (.int .i64 n48), (.str s20), v22, v23, v24])] [.one (.bool)] st3 (fun (b18 : Bool) (st4 : St) => (ldCell st4 [] (.t (fldT (ixT 14 v18 (Int.toNat i_2)) 0)) 0 = some (.str s16) ∧ (ldCell st4 [] (.t (fldT (ixT 14 v15 (Int.toNat i_2)) 0)) 0 = some (.str s15) ∧ BIf (!b18) (K (false) st4) ((I2 ((IntKind.i64.wrap (i_2 + (1 : Int)))) (n25) (b10) (b11) (s11) (n26) (n27) (n28) (n29) (n30) (s12) (v13) (v14) (v15) (n31) (b12) (b13) (s13) (n32) (n33) (n34) (n35) (n36) (s14) (v16) (v17) (v18) st4 ∧ M2 ((IntKind.i64.wrap (i_2 + (1 : Int)))) (n25) (b10) (b11) (s11) (n26) (n27) (n28) (n29) (n30) (s12) (v13) (v14) (v15) (n31) (b12) (b13) (s13) (n32) (n33) (n34) (n35) (n36) (s14) (v16) (v17) (v18) st4 < M2 i_2 n25 b10 b11 s11 n26 n27 n28 n29 n30 s12 v13 v14 v15 n31 b12 b13 s13 n32 n33 n34 n35 n36 s14 v16 v17 v18 st3))))))))))))))))))))))) (K (true) st3))))))))))))))))))))))) : CallT PR fn_datakitref07_Same [(.agg [(.int .i64 a_0), (.bool a_1), (.bool a_2), (.str a_3), (.int .i64 a_4), (.int .i64 a_5), (.int .i64 a_6), (.int .i64 a_7), (.int .i64 a_8), (.str a_9), a_10, a_11, a_12]), (.agg [(.int .i64 b_0), (.bool b_1), (.bool b_2), (.str b_3), (.int .i64 b_4), (.int .i64 b_5), (.int .i64 b_6), (.int .i64 b_7), (.int .i64 b_8), (.str b_9), b_10, b_11, b_12])] [.one (.bool)] st K :=
  tcalls_fw (cfg := ⟨[2, 3], [], [78, 83, 98, 104, 112, 118]⟩) (h := (.seq .none (.seq .none (.seq (.seq .none (.block (.loop ⟨[(5, .int .i64)], [(2, 0, 0), (3, 1, 0)], [(0, 13), (1, 13)], [(0, 0, .int .i64), (0, 1, .bool), (0, 2, .bool), (0, 3, .str), (0, 4, .int .i64), (0, 5, .int .i64), (0, 6, .int .i64), (0, 7, .int .i64), (0, 8, .int .i64), (0, 9, .str), (0, 10, .tv), (0, 11, .tv), (0, 12, .tv), (1, 0, .int .i64), (1, 1, .bool), (1, 2, .bool), (1, 3, .str), (1, 4, .int .i64), (1, 5, .int .i64), (1, 6, .int .i64), (1, 7, .int .i64), (1, 8, .int .i64), (1, 9, .str), (1, 10, .tv), (1, 11, .tv), (1, 12, .tv)]⟩ .none))) (.seq (.seq .none (.block (.loop ⟨[(6, .int .i64)], [(2, 0, 0), (3, 1, 0)], [(0, 13), (1, 13)], [(0, 0, .int .i64), (0, 1, .bool), (0, 2, .bool), (0, 3, .str), (0, 4, .int .i64), (0, 5, .int .i64), (0, 6, .int .i64), (0, 7, .int .i64), (0, 8, .int .i64), (0, 9, .str), (0, 10, .tv), (0, 11, .tv), (0, 12, .tv), (1, 0, .int .i64), (1, 1, .bool), (1, 2, .bool), (1, 3, .str), (1, 4, .int .i64), (1, 5, .int .i64), (1, 6, .int .i64), (1, 7, .int .i64), (1, 8, .int .i64), (1, 9, .str), (1, 10, .tv), (1, 11, .tv), (1, 12, .tv)]⟩ .none))) .none))))) mixed (fun _ _ => Tryz.call18 _ _) Tryz.func18 (by kernel_rfl) (by kernel_rfl) h
end Go.TVF
end

section
set_option linter.unusedVariables false
namespace Go.TVF
open Go Go.Proofs
set_option maxRecDepth 100000 in
theorem vc_datakitref07_Small (v_0 : Int) (v_1 : Bool) (v_2 : Bool) (v_3 : List UInt8) (v_4 : Int) (v_5 : Int) (v_6 : Int) (v_7 : Int) (v_8 : Int) (v_9 : List UInt8) (v_10 : TV) (v_11 : TV) (v_12 : TV) (most : Int) (depth : Int) (st : St) (K : Bool → St → Prop) (h : CallT PR fn_datakitref07_room [(.agg [(.int .i64 v_0), (.bool v_1), (.bool v_2), (.str v_3), (.int .i64 v_4), (.int .i64 v_5), (.int .i64 v_6), (.int .i64 v_7), (.int .i64 v_8), (.str v_9), v_10, v_11, v_12]), (.int .i64 most), (.int .i64 depth)] [.one (.int .i64)] st (fun (n1 : Int) (st1 : St) => K ((decide ((0 : Int) ≤ n1))) st1)) : CallT PR fn_datakitref07_Small [(.agg [(.int .i64 v_0), (.bool v_1), (.bool v_2), (.str v_3), (.int .i64 v_4), (.int .i64 v_5), (.int .i64 v_6), (.int .i64 v_7), (.int .i64 v_8), (.str v_9), v_10, v_11, v_12]), (.int .i64 most), (.int .i64 depth)] [.one (.bool)] st K :=
  tcalls_fw (cfg := ⟨[3], [], []⟩) (h := .none) mixed (fun _ _ => Tryz.call35 _ _) Tryz.func35 (by kernel_rfl) (by kernel_rfl) h
set_option maxRecDepth 100000 in
theorem vc_canon_Text (v_0 : Int) (v_1 : Bool) (v_2 : Bool) (v_3 : List UInt8) (v_4 : Int) (v_5 : Int) (v_6 : Int) (v_7 : Int) (v_8 : Int) (v_9 : List UInt8) (v_10 : TV) (v_11 : TV) (v_12 : TV) (st : St) (K : List UInt8 → Int → St → Prop) (h : CallT PR fn_value_Check [(.agg [(.int .i64 v_0), (.bool v_1), (.bool v_2), (.str v_3), (.int .i64 v_4), (.int .i64 v_5), (.int .i64 v_6), (.int .i64 v_7), (.int .i64 v_8), (.str v_9), v_10, v_11, v_12])] [.one (.int .i64)] st (fun (n1 : Int) (st1 : St) => BIf (decide (n1 ≠ (0 : Int))) (K (([] : List UInt8)) (n1) st1) (CallT PR fn_canon_text [(.agg [(.int .i64 v_0), (.bool v_1), (.bool v_2), (.str v_3), (.int .i64 v_4), (.int .i64 v_5), (.int .i64 v_6), (.int .i64 v_7), (.int .i64 v_8), (.str v_9), v_10, v_11, v_12])] [.one (.str)] st1 (fun (s1 : List UInt8) (st2 : St) => K (s1) ((0 : Int)) st2)))) : CallT PR fn_canon_Text [(.agg [(.int .i64 v_0), (.bool v_1), (.bool v_2), (.str v_3), (.int .i64 v_4), (.int .i64 v_5), (.int .i64 v_6), (.int .i64 v_7), (.int .i64 v_8), (.str v_9), v_10, v_11, v_12])] [.one (.str), .one (.int .i64)] st K :=
  tcalls_fw (cfg := ⟨[1], [], []⟩) (h := .none) mixed (fun _ _ => Tryz.call36 _ _) Tryz.func36 (by kernel_rfl) (by kernel_rfl) h
set_option maxRecDepth 100000 in
theorem vc_datakitref07_Check (v_0 : Int) (v_1 : Bool) (v_2 : Bool) (v_3 : List UInt8) (v_4 : Int) (v_5 : Int) (v_6 : Int) (v_7 : Int) (v_8 : Int) (v_9 : List UInt8) (v_10 : TV) (v_11 : TV) (v_12 : TV) (st : St) (K : Int → St → Prop) (h : CallT PR fn_datakitref07_look [(.agg [(.int .i64 v_0), (.bool v_1), (.bool v_2), (.str v_3), (.int .i64 v_4), (.int .i64 v_5), (.int .i64 v_6), (.int .i64 v_7), (.int .i64 v_8), (.str v_9), v_10, v_11, v_12]), (.int .i64 (1 : Int)), (.int .i64 (0 : Int))] [.one (.int .i64), .one (.int .i64)] st (fun (n1 : Int) (n2 : Int) (st1 : St) => K (n2) st1)) : CallT PR fn_datakitref07_Check [(.agg [(.int .i64 v_0), (.bool v_1), (.bool v_2), (.str v_3), (.int .i64 v_4), (.int .i64 v_5), (.int .i64 v_6), (.int .i64 v_7), (.int .i64 v_8), (.str v_9), v_10, v_11, v_12])] [.one (.int .i64)] st K :=
  tcalls_fw (cfg := ⟨[1], [], []⟩) (h := .none) mixed (fun _ _ => Tryz.call38 _ _) Tryz.func38 (by kernel_rfl) (by kernel_rfl) h
set_option maxRecDepth 100000 in
theorem vc_canon_Encode (v_0 : Int) (v_1 : Bool) (v_2 : Bool) (v_3 : List UInt8) (v_4 : Int) (v_5 : Int) (v_6 : Int) (v_7 : Int) (v_8 : Int) (v_9 : List UInt8) (v_10 : TV) (v_11 : TV) (v_12 : TV) (st : St) (K : TV → Int → St → Prop) (h : CallT PR fn_value_Check [(.agg [(.int .i64 v_0), (.bool v_1), (.bool v_2), (.str v_3), (.int .i64 v_4), (.int .i64 v_5), (.int .i64 v_6), (.int .i64 v_7), (.int .i64 v_8), (.str v_9), v_10, v_11, v_12])] [.one (.int .i64)] st (fun (n1 : Int) (st1 : St) => BIf (decide (n1 ≠ (0 : Int))) (K (.nilSlice) (n1) st1) (CallT PR fn_value_Sorted [(.agg [(.int .i64 v_0), (.bool v_1), (.bool v_2), (.str v_3), (.int .i64 v_4), (.int .i64 v_5), (.int .i64 v_6), (.int .i64 v_7), (.int .i64 v_8), (.str v_9), v_10, v_11, v_12])] [.agg [.int .i64, .bool, .bool, .str, .int .i64, .int .i64, .int .i64, .int .i64, .int .i64, .str, .tv, .tv, .tv]] st1 (fun (n2 : Int) (b1 : Bool) (b2 : Bool) (s1 : List UInt8) (n3 : Int) (n4 : Int) (n5 : Int) (n6 : Int) (n7 : Int) (s2 : List UInt8) (v1 : TV) (v2 : TV) (v3 : TV) (st2 : St) => CallT PR fn_canon_put [.nilSlice, (.agg [(.int .i64 n2), (.bool b1), (.bool b2), (.str s1), (.int .i64 n3), (.int .i64 n4), (.int .i64 n5), (.int .i64 n6), (.int .i64 n7), (.str s2), v1, v2, v3])] [.one (.tv)] st2 (fun (v4 : TV) (st3 : St) => K (v4) ((0 : Int)) st3))))) : CallT PR fn_canon_Encode [(.agg [(.int .i64 v_0), (.bool v_1), (.bool v_2), (.str v_3), (.int .i64 v_4), (.int .i64 v_5), (.int .i64 v_6), (.int .i64 v_7), (.int .i64 v_8), (.str v_9), v_10, v_11, v_12])] [.one (.tv), .one (.int .i64)] st K :=
  tcalls_fw (cfg := ⟨[1], [], []⟩) (h := .none) mixed (fun _ _ => Tryz.call39 _ _) Tryz.func39 (by kernel_rfl) (by kernel_rfl) h
set_option maxRecDepth 100000 in
theorem vc_datakitref07_Equal (a_0 : Int) (a_1 : Bool) (a_2 : Bool) (a_3 : List UInt8) (a_4 : Int) (a_5 : Int) (a_6 : Int) (a_7 : Int) (a_8 : Int) (a_9 : List UInt8) (a_10 : TV) (a_11 : TV) (a_12 : TV) (b_0 : Int) (b_1 : Bool) (b_2 : Bool) (b_3 : List UInt8) (b_4 : Int) (b_5 : Int) (b_6 : Int) (b_7 : Int) (b_8 : Int) (b_9 : List UInt8) (b_10 : TV) (b_11 : TV) (b_12 : TV) (st : St) (K : Bool → St → Prop) (h : CallT PR fn_datakitref07_Sorted [(.agg [(.int .i64 a_0), (.bool a_1), (.bool a_2), (.str a_3), (.int .i64 a_4), (.int .i64 a_5), (.int .i64 a_6), (.int .i64 a_7), (.int .i64 a_8), (.str a_9), a_10, a_11, a_12])] [.agg [.int .i64, .bool, .bool, .str, .int .i64, .int .i64, .int .i64, .int .i64, .int .i64, .str, .tv, .tv, .tv]] st (fun (n1 : Int) (b1 : Bool) (b2 : Bool) (s1 : List UInt8) (n2 : Int) (n3 : Int) (n4 : Int) (n5 : Int) (n6 : Int) (s2 : List UInt8) (v1 : TV) (v2 : TV) (v3 : TV) (st1 : St) => CallT PR fn_datakitref07_Sorted [(.agg [(.int .i64 b_0), (.bool b_1), (.bool b_2), (.str b_3), (.int .i64 b_4), (.int .i64 b_5), (.int .i64 b_6), (.int .i64 b_7), (.int .i64 b_8), (.str b_9), b_10, b_11, b_12])] [.agg [.int .i64, .bool, .bool, .str, .int .i64, .int .i64, .int .i64, .int .i64, .int .i64, .str, .tv, .tv, .tv]] st1 (fun (n7 : Int) (b3 : Bool) (b4 : Bool) (s3 : List UInt8) (n8 : Int) (n9 : Int) (n10 : Int) (n11 : Int) (n12 : Int) (s4 : List UInt8) (v4 : TV) (v5 : TV) (v6 : TV) (st2 : St) => CallT PR fn_datakitref07_Same [(.agg [(.int .i64 n1), (.bool b1), (.bool b2), (.str s1), (.int .i64 n2), (.int .i64 n3), (.int .i64 n4), (.int .i64 n5), (.int .i64 n6), (.str s2), v1, v2, v3]), (.agg [(.int .i64 n7), (.bool b3), (.bool b4), (.str s3), (.int .i64 n8), (.int .i64 n9), (.int .i64 n10), (.int .i64 n11), (.int .i64 n12), (.str s4), v4, v5, v6])] [.one (.bool)] st2 (fun (b5 : Bool) (st3 : St) => K (b5) st3)))) : CallT PR fn_datakitref07_Equal [(.agg [(.int .i64 a_0), (.bool a_1), (.bool a_2), (.str a_3), (.int .i64 a_4), (.int .i64 a_5), (.int .i64 a_6), (.int .i64 a_7), (.int .i64 a_8), (.str a_9), a_10, a_11, a_12]), (.agg [(.int .i64 b_0), (.bool b_1), (.bool b_2), (.str b_3), (.int .i64 b_4), (.int .i64 b_5), (.int .i64 b_6), (.int .i64 b_7), (.int .i64 b_8), (.str b_9), b_10, b_11, b_12])] [.one (.bool)] st K :=
  tcalls_fw (cfg := ⟨[2, 3], [], []⟩) (h := .none) mixed (fun _ _ => Tryz.call40 _ _) Tryz.func40 (by kernel_rfl) (by kernel_rfl) h
set_option maxRecDepth 100000 in
theorem vc_datakitref10_SameBytes (a : TV) (b : TV) (st : St) (K : Bool → St → Prop) (h : optK ((toBytes st a).map TV.str) (fun (x1 : TV) => decT (.str) x1 (fun (s1 : List UInt8) => optK ((toBytes st b).map TV.str) (fun (x2 : TV) => decT (.str) x2 (fun (s2 : List UInt8) => K ((decide (s1 = s2))) st))))) : CallT PR fn_datakitref10_SameBytes [a, b] [.one (.bool)] st K :=
  tcalls_fw (cfg := ⟨[], [], []⟩) (h := .none) mixed (fun _ _ => Tryz.call41 _ _) Tryz.func41 (by kernel_rfl) (by kernel_rfl) h
set_option maxRecDepth 100000 in
theorem vc_value_Copy (v_0 : Int) (v_1 : Bool) (v_2 : Bool) (v_3 : List UInt8) (v_4 : Int) (v_5 : Int) (v_6 : Int) (v_7 : Int) (v_8 : Int) (v_9 : List UInt8) (v_10 : TV) (v_11 : TV) (v_12 : TV) (st : St) (K : Int → Bool → Bool → List UInt8 → Int → Int → Int → Int → Int → List UInt8 → TV → TV → TV → St → Prop) (h : CallT PR fn_value_copied [(.agg [(.int .i64 v_0), (.bool v_1), (.bool v_2), (.str v_3), (.int .i64 v_4), (.int .i64 v_5), (.int .i64 v_6), (.int .i64 v_7), (.int .i64 v_8), (.str v_9), v_10, v_11, v_12]), (.int .i64 (65536 : Int))] [.agg [.int .i64, .bool, .bool, .str, .int .i64, .int .i64, .int .i64, .int .i64, .int .i64, .str, .tv, .tv, .tv]] st (fun (n1 : Int) (b1 : Bool) (b2 : Bool) (s1 : List UInt8) (n2 : Int) (n3 : Int) (n4 : Int) (n5 : Int) (n6 : Int) (s2 : List UInt8) (v1 : TV) (v2 : TV) (v3 : TV) (st1 : St) => need (List.all [(.int .i64 n1), (.bool b1), (.bool b2), (.str s1), (.int .i64 n2), (.int .i64 n3), (.int .i64 n4), (.int .i64 n5), (.int .i64 n6), (.str s2), v1, v2, v3] oneT) (K (n1) (b1) (b2) (s1) (n2) (n3) (n4) (n5) (n6) (s2) (v1) (v2) (v3) st1))) : CallT PR fn_value_Copy [(.agg [(.int .i64 v_0), (.bool v_1), (.bool v_2), (.str v_3), (.int .i64 v_4), (.int .i64 v_5), (.int .i64 v_6), (.int .i64 v_7), (.int .i64 v_8), (.str v_9), v_10, v_11, v_12])] [.agg [.int .i64, .bool, .bool, .str, .int .i64, .int .i64, .int .i64, .int .i64, .int .i64, .str, .tv, .tv, .tv]] st K :=
  tcalls_fw (cfg := ⟨[1, 2], [], []⟩) (h := .none) mixed (fun _ _ => Tryz.call48 _ _) Tryz.func48 (by kernel_rfl) (by kernel_rfl) h
set_option maxRecDepth 100000 in
theorem vc_value_Check (v_0 : Int) (v_1 : Bool) (v_2 : Bool) (v_3 : List UInt8) (v_4 : Int) (v_5 : Int) (v_6 : Int) (v_7 : Int) (v_8 : Int) (v_9 : List UInt8) (v_10 : TV) (v_11 : TV) (v_12 : TV) (st : St) (K : Int → St → Prop) (h : stB (st.push (.cells [(.int .i64 (0 : Int))]) (some 3)) (.box st.nb 0) [(.int .i64 (0 : Int))] (fun (st1 : St) => CallT PR fn_value_check [(.agg [(.int .i64 v_0), (.bool v_1), (.bool v_2), (.str v_3), (.int .i64 v_4), (.int .i64 v_5), (.int .i64 v_6), (.int .i64 v_7), (.int .i64 v_8), (.str v_9), v_10, v_11, v_12]), (.int .i64 (1 : Int)), (.box st.nb 0)] [.one (.int .i64)] st1 (fun (n1 : Int) (st2 : St) => K (n1) st2))) : CallT PR fn_value_Check [(.agg [(.int .i64 v_0), (.bool v_1), (.bool v_2), (.str v_3), (.int .i64 v_4), (.int .i64 v_5), (.int .i64 v_6), (.int .i64 v_7), (.int .i64 v_8), (.str v_9), v_10, v_11, v_12])] [.one (.int .i64)] st K :=
  tcalls_fw (cfg := ⟨[1], [], []⟩) (h := .none) mixed (fun _ _ => Tryz.call53 _ _) Tryz.func53 (by kernel_rfl) (by kernel_rfl) h
end Go.TVF
end

section
set_option linter.unusedVariables false
namespace Go.TVF
open Go Go.Proofs
set_option maxRecDepth 100000 in
theorem vc_decimal_Text (d_0 : Bool) (d_1 : List UInt8) (d_2 : Int) (st : St) (K : List UInt8 → St → Prop) (h : ∃ (C1 : Bool → List UInt8 → Int → St → Prop), (BIf (decide (d_1 = ([] : List UInt8))) (K (str12) st) (CallT PR fn_decimal_Valid [(.agg [(.bool d_0), (.str d_1), (.int .i64 d_2)])] [.one (.bool)] st (fun (b1 : Bool) (st1 : St) => BIf (!b1) (K (str12) st1) (C1 (d_0) (d_1) (d_2) st1)))) ∧ ∀ (b2 : Bool) (s1 : List UInt8) (n1 : Int) (st2 : St), C1 b2 s1 n1 st2 → (∃ (C2 : List UInt8 → Bool → List UInt8 → Int → St → Prop), (BIf b2 (C2 (str9) (b2) (s1) (n1) st2) (C2 (([] : List UInt8)) (b2) (s1) (n1) st2)) ∧ ∀ (s_1 : List UInt8) (b3 : Bool) (s2 : List UInt8) (n2 : Int) (st3 : St), C2 s_1 b3 s2 n2 st3 → (∃ (C3 : List UInt8 → Int → Int → Bool → List UInt8 → Int → St → Prop), (∃ (C4 : Bool → List UInt8 → Int → Int → Bool → List UInt8 → Int → St → Prop), (BIf (decide ((0 : Int) ≤ n2)) (C4 ((decide ((IntKind.i64.wrap (((s2).length : Int) + n2)) ≤ (21 : Int)))) (s_1) (((s2).length : Int)) ((IntKind.i64.wrap (((s2).length : Int) + n2))) (b3) (s2) (n2) st3) (C4 (false) (s_1) (((s2).length : Int)) ((IntKind.i64.wrap (((s2).length : Int) + n2))) (b3) (s2) (n2) st3)) ∧ ∀ (b_1 : Bool) (s_2 : List UInt8) (n_1 : Int) (p_1 : Int) (b4 : Bool) (s3 : List UInt8) (n3 : Int) (st4 : St), C4 b_1 s_2 n_1 p_1 b4 s3 n3 st4 → (BIf b_1 (((s_2).length + (s3).length ≤ 9223372036854775807 ∧ CallT PR fn_strings_Repeat [(.str str12), (.int .i64 n3)] [.one (.str)] st4 (fun (s4 : List UInt8) (st5 : St) => (((s_2 ++ s3)).length + (s4).length ≤ 9223372036854775807 ∧ K (((s_2 ++ s3) ++ s4)) st5)))) (∃ (C5 : Bool → List UInt8 → Int → Int → Bool → List UInt8 → Int → St → Prop), (BIf (decide (n3 < (0 : Int))) (BIf (decide ((1 : Int) ≤ p_1)) (C5 ((decide (p_1 ≤ (21 : Int)))) (s_2) (n_1) (p_1) (b4) (s3) (n3) st4) (C5 (false) (s_2) (n_1) (p_1) (b4) (s3) (n3) st4)) (C5 (false) (s_2) (n_1) (p_1) (b4) (s3) (n3) st4)) ∧ ∀ (b_2 : Bool) (s_3 : List UInt8) (n_2 : Int) (p_2 : Int) (b5 : Bool) (s5 : List UInt8) (n4 : Int) (st6 : St), C5 b_2 s_3 n_2 p_2 b5 s5 n4 st6 → (BIf b_2 (((0 ≤ p_2 ∧ p_2 ≤ ((s5).length : Int)) ∧ ((s_3).length + ((List.take (Int.toNat p_2) s5)).length ≤ 9223372036854775807 ∧ (((s_3 ++ (List.take (Int.toNat p_2) s5))).length + (str10).length ≤ 9223372036854775807 ∧ ((0 ≤ p_2 ∧ p_2 ≤ ((s5).length : Int)) ∧ ((((s_3 ++ (List.take (Int.toNat p_2) s5)) ++ str10)).length + ((List.drop (Int.toNat p_2) s5)).length ≤ 9223372036854775807 ∧ K ((((s_3 ++ (List.take (Int.toNat p_2) s5)) ++ str10) ++ (List.drop (Int.toNat p_2) s5))) st6)))))) (BIf (decide ((-5 : Int) ≤ p_2)) (BIf (decide (p_2 ≤ (0 : Int))) (((s_3).length + (str14).length ≤ 9223372036854775807 ∧ CallT PR fn_strings_Repeat [(.str str12), (.int .i64 (IntKind.i64.wrap (0 - p_2)))] [.one (.str)] st6 (fun (s6 : List UInt8) (st7 : St) => (((s_3 ++ str14)).length + (s6).length ≤ 9223372036854775807 ∧ ((((s_3 ++ str14) ++ s6)).length + (s5).length ≤ 9223372036854775807 ∧ K ((((s_3 ++ str14) ++ s6) ++ s5)) st7))))) (C3 (s_3) (n_2) (p_2) (b5) (s5) (n4) st6)) (C3 (s_3) (n_2) (p_2) (b5) (s5) (n4) st6)))))) ∧ ∀ (s_4 : List UInt8) (n_3 : Int) (p_3 : Int) (b6 : Bool) (s7 : List UInt8) (n5 : Int) (st8 : St), C3 s_4 n_3 p_3 b6 s7 n5 st8 → (((0 ≤ (1 : Int) ∧ (1 : Int) ≤ ((s7).length : Int)) ∧ ((s_4).length + ((List.take (Int.toNat (1 : Int)) s7)).length ≤ 9223372036854775807 ∧ ∃ (C6 : List UInt8 → Int → St → Prop), (BIf (decide ((1 : Int) < n_3)) (((0 ≤ (1 : Int) ∧ (1 : Int) ≤ ((s7).length : Int)) ∧ ((str10).length + ((List.drop (Int.toNat (1 : Int)) s7)).length ≤ 9223372036854775807 ∧ (((s_4 ++ (List.take (Int.toNat (1 : Int)) s7))).length + ((str10 ++ (List.drop (Int.toNat (1 : Int)) s7))).length ≤ 9223372036854775807 ∧ C6 (((s_4 ++ (List.take (Int.toNat (1 : Int)) s7)) ++ (str10 ++ (List.drop (Int.toNat (1 : Int)) s7)))) (p_3) st8)))) (C6 ((s_4 ++ (List.take (Int.toNat (1 : Int)) s7))) (p_3) st8)) ∧ ∀ (s_5 : List UInt8) (p_4 : Int) (st9 : St), C6 s_5 p_4 st9 → (BIf (decide (p_4 < (1 : Int))) (((s_5).length + (str15).length ≤ 9223372036854775807 ∧ CallT PR fn_decimal_whole [(.int .i64 (IntKind.i64.wrap ((1 : Int) - p_4)))] [.one (.str)] st9 (fun (s8 : List UInt8) (st10 : St) => (((s_5 ++ str15)).length + (s8).length ≤ 9223372036854775807 ∧ K (((s_5 ++ str15) ++ s8)) st10)))) (((s_5).length + (str16).length ≤ 9223372036854775807 ∧ CallT PR fn_decimal_whole [(.int .i64 (IntKind.i64.wrap (p_4 - (1 : Int))))] [.one (.str)] st9 (fun (s9 : List UInt8) (st11 : St) => (((s_5 ++ str16)).length + (s9).length ≤ 9223372036854775807 ∧ K (((s_5 ++ str16) ++ s9)) st11))))))))))) : CallT PR fn_decimal_Text [(.agg [(.bool d_0), (.str d_1), (.int .i64 d_2)])] [.one (.str)] st K :=
  tcalls_fw (cfg := ⟨[1], [], []⟩) (h := (.seq .none (.cut ⟨[], [(1, 0, 0)], [(0, 3)], [(0, 0, .bool), (0, 1, .str), (0, 2, .int .i64)]⟩ .none (.seq .none (.cut ⟨[(3, .str)], [(1, 0, 0)], [(0, 3)], [(0, 0, .bool), (0, 1, .str), (0, 2, .int .i64)]⟩ .none (.seq .none (.seq .none (.cut ⟨[(3, .str), (4, .int .i64), (5, .int .i64)], [(1, 0, 0)], [(0, 3)], [(0, 0, .bool), (0, 1, .str), (0, 2, .int .i64)]⟩ (.block (.cut ⟨[(23, .bool), (3, .str), (4, .int .i64), (5, .int .i64)], [(1, 0, 0)], [(0, 3)], [(0, 0, .bool), (0, 1, .str), (0, 2, .int .i64)]⟩ .none (.cond .none (.cut ⟨[(39, .bool), (3, .str), (4, .int .i64), (5, .int .i64)], [(1, 0, 0)], [(0, 3)], [(0, 0, .bool), (0, 1, .str), (0, 2, .int .i64)]⟩ .none .none)))) (.seq .none (.cut ⟨[(3, .str), (5, .int .i64)], [], [], []⟩ .none .none)))))))))) mixed (fun _ _ => Tryz.call71 _ _) Tryz.func71 (by kernel_rfl) (by kernel_rfl) h
set_option maxRecDepth 100000 in
theorem vc_moment_Text (t_0 : Int) (t_1 : Int) (t_2 : Int) (t_3 : Int) (st : St) (K : List UInt8 → St → Prop) (h : CallT PR fn_moment_Valid [(.agg [(.int .i64 t_0), (.int .i64 t_1), (.int .i64 t_2), (.int .i64 t_3)])] [.one (.bool)] st (fun (b1 : Bool) (st1 : St) => BIf (!b1) (K (([] : List UInt8)) st1) (BIf (decide (t_0 = (1 : Int))) (CallT PR fn_moment_dateText [(.int .i64 t_1)] [.one (.str)] st1 (fun (s1 : List UInt8) (st2 : St) => K (s1) st2)) (BIf (decide (t_0 = (2 : Int))) (CallT PR fn_moment_clockText [(.int .i64 t_2)] [.one (.str)] st1 (fun (s2 : List UInt8) (st3 : St) => K (s2) st3)) (BIf (decide (t_0 = (3 : Int))) (CallT PR fn_moment_dateText [(.int .i64 t_1)] [.one (.str)] st1 (fun (s3 : List UInt8) (st4 : St) => ((s3).length + (str17).length ≤ 9223372036854775807 ∧ CallT PR fn_moment_clockText [(.int .i64 t_2)] [.one (.str)] st4 (fun (s4 : List UInt8) (st5 : St) => (((s3 ++ str17)).length + (s4).length ≤ 9223372036854775807 ∧ K (((s3 ++ str17) ++ s4)) st5))))) (CallT PR fn_moment_dateText [(.int .i64 t_1)] [.one (.str)] st1 (fun (s5 : List UInt8) (st6 : St) => ((s5).length + (str17).length ≤ 9223372036854775807 ∧ CallT PR fn_moment_clockText [(.int .i64 t_2)] [.one (.str)] st6 (fun (s6 : List UInt8) (st7 : St) => (((s5 ++ str17)).length + (s6).length ≤ 9223372036854775807 ∧ CallT PR fn_moment_offsetText [(.int .i64 t_3)] [.one (.str)] st7 (fun (s7 : List UInt8) (st8 : St) => ((((s5 ++ str17) ++ s6)).length + (s7).length ≤ 9223372036854775807 ∧ K ((((s5 ++ str17) ++ s6) ++ s7)) st8)))))))))))) : CallT PR fn_moment_Text [(.agg [(.int .i64 t_0), (.int .i64 t_1), (.int .i64 t_2), (.int .i64 t_3)])] [.one (.str)] st K :=
  tcalls_fw (cfg := ⟨[1], [], []⟩) (h := .none) mixed (fun _ _ => Tryz.call72 _ _) Tryz.func72 (by kernel_rfl) (by kernel_rfl) h
end Go.TVF
end

section
set_option linter.unusedVariables false
namespace Go.TVF
open Go Go.Proofs
set_option maxRecDepth 100000 in
theorem vc_datakitref07_room (v_0 : Int) (v_1 : Bool) (v_2 : Bool) (v_3 : List UInt8) (v_4 : Int) (v_5 : Int) (v_6 : Int) (v_7 : Int) (v_8 : Int) (v_9 : List UInt8) (v_10 : TV) (v_11 : TV) (v_12 : TV) (left : Int) (depth : Int) (st : St) (K : Int → St → Prop) (h : BIf (decide (depth ≤ (0 : Int))) (K ((-1 : Int)) st) (need (isSl v_11) (BIf (decide ((IntKind.i64.wrap (left - (1 : Int))) < (lenS v_11 : Int))) (K ((-1 : Int)) st) (need (isSl v_12) (BIf (decide ((IntKind.i64.wrap (left - (1 : Int))) < (lenS v_12 : Int))) (K ((-1 : Int)) st) (∃ (I1 : Int → Int → Int → Int → Bool → Bool → List UInt8 → Int → Int → Int → Int → Int → List UInt8 → TV → TV → TV → St → Prop) (M1 : Int → Int → Int → Int → Bool → Bool → List UInt8 → Int → Int → Int → Int → Int → List UInt8 → TV → TV → TV → St → Nat), (I1 ((IntKind.i64.wrap (left - (1 : Int)))) ((0 : Int)) (depth) (v_0) (v_1) (v_2) (v_3) (v_4) (v_5) (v_6) (v_7) (v_8) (v_9) (v_10) (v_11) (v_12) st) ∧ ∀ (left_1 : Int) (i_1 : Int) (depth_1 : Int) (n1 : Int) (b1 : Bool) (b2 : Bool) (s1 : List UInt8) (n2 : Int) (n3 : Int) (n4 : Int) (n5 : Int) (n6 : Int) (s2 : List UInt8) (v1 : TV) (v2 : TV) (v3 : TV) (st1 : St), I1 left_1 i_1 depth_1 n1 b1 b2 s1 n2 n3 n4 n5 n6 s2 v1 v2 v3 st1 → (need (isSl v2) (BIf (decide (i_1 < (lenS v2 : Int))) (BIf (decide ((0 : Int) ≤ left_1)) (((0 ≤ i_1 ∧ i_1 < (lenZ 13 v2 : Int)) ∧ optK ((ldCells st1 [] (.t (ixT 13 v2 (Int.toNat i_1))) 0 13).map TV.agg) (fun (x1 : TV) => decA [.int .i64, .bool, .bool, .str, .int .i64, .int .i64, .int .i64, .int .i64, .int .i64, .str, .tv, .tv, .tv] x1 (fun (n7 : Int) (b3 : Bool) (b4 : Bool) (s3 : List UInt8) (n8 : Int) (n9 : Int) (n10 : Int) (n11 : Int) (n12 : Int) (s4 : List UInt8) (v4 : TV) (v5 : TV) (v6 : TV) => CallT PR fn_datakitref07_room [(.agg [(.int .i64 n7), (.bool b3), (.bool b4), (.str s3), (.int .i64 n8), (.int .i64 n9), (.int .i64 n10), (.int .i64 n11), (.int .i64 n12), (.str s4), v4, v5, v6]), (.int .i64 left_1), (.int .i64 (IntKind.i64.wrap (depth_1 - (1 : Int))))] [.one (.int .i64)] st1 (fun (n13 : Int) (st2 : St) => (I1 (n13) ((IntKind.i64.wrap (i_1 + (1 : Int)))) (depth_1) (n1) (b1) (b2) (s1) (n2) (n3) (n4) (n5) (n6) (s2) (v1) (v2) (v3) st2 ∧ M1 (n13) ((IntKind.i64.wrap (i_1 + (1 : Int)))) (depth_1) (n1) (b1) (b2) (s1) (n2) (n3) (n4) (n5) (n6) (s2) (v1) (v2) (v3) st2 < M1 left_1 i_1 depth_1 n1 b1 b2 s1 n2 n3 n4 n5 n6 s2 v1 v2 v3 st1)))))) (∃ (I2 : Int → Int → Int → Int → Bool → Bool → List UInt8 → Int → Int → Int → Int → Int → List UInt8 → TV → TV → TV → St → Prop) (M2 : Int → Int → Int → Int → Bool → Bool → List UInt8 → Int → Int → Int → Int → Int → List UInt8 → TV → TV → TV → St → Nat), (I2 (left_1) ((0 : Int)) (depth_1) (n1) (b1) (b2) (s1) (n2) (n3) (n4) (n5) (n6) (s2) (v1) (v2) (v3) st1) ∧ ∀ (left_2 : Int) (i_2 : Int) (depth_2 : Int) (n14 : Int) (b5 : Bool) (b6 : Bool) (s5 : List UInt8) (n15 : Int) (n16 : Int) (n17 : Int) (n18 : Int) (n19 : Int) (s6 : List UInt8) (v7 : TV) (v8 : TV) (v9 : TV) (st3 : St), I2 left_2 i_2 depth_2 n14 b5 b6 s5 n15 n16 n17 n18 n19 s6 v7 v8 v9 st3 → (need (isSl v9) (BIf (decide (i_2 < (lenS v9 : Int))) (BIf (decide ((0 : Int) ≤ left_2)) (((0 ≤ i_2 ∧ i_2 < (lenZ 14 v9 : Int)) ∧ need (isPtr (ixT 14 v9 (Int.toNat i_2))) (optK ((ldCells st3 [] (.t (fldT (ixT 14 v9 (Int.toNat i_2)) 1)) 0 13).map TV.agg) (fun (x2 : TV) => decA [.int .i64, .bool, .bool, .str, .int .i64, .int .i64, .int .i64, .int .i64, .int .i64, .str, .tv, .tv, .tv] x2 (fun (n20 : Int) (b7 : Bool) (b8 : Bool) (s7 : List UInt8) (n21 : Int) (n22 : Int) (n23 : Int) (n24 : Int) (n25 : Int) (s8 : List UInt8) (v10 : TV) (v11 : TV) (v12 : TV) => CallT PR fn_datakitref07_room [(.agg [(.int .i64 n20), (.bool b7), (.bool b8), (.str s7), (.int .i64 n21), (.int .i64 n22), (.int .i64 n23), (.int .i64 n24), (.int .i64 n25), (.str s8), v10, v11, v12]), (.int .i64 left_2), (.int .i64 (IntKind.i64.wrap (depth_2 - (1 : Int))))] [.one (.int .i64)] st3 (fun (n26 : Int) (st4 : St) => (I2 (n26) ((IntKind.i64.wrap (i_2 + (1 : Int)))) (depth_2) (n14) (b5) (b6) (s5) (n15) (n16) (n17) (n18) (n19) (s6) (v7) (v8) (v9) st4 ∧ M2 (n26) ((IntKind.i64.wrap (i_2 + (1 : Int)))) (depth_2) (n14) (b5) (b6) (s5) (n15) (n16) (n17) (n18) (n19) (s6) (v7) (v8) (v9) st4 < M2 left_2 i_2 depth_2 n14 b5 b6 s5 n15 n16 n17 n18 n19 s6 v7 v8 v9 st3))))))) (K (left_2) st3)) (K (left_2) st3))))) (∃ (I3 : Int → Int → Int → Int → Bool → Bool → List UInt8 → Int → Int → Int → Int → Int → List UInt8 → TV → TV → TV → St → Prop) (M3 : Int → Int → Int → Int → Bool → Bool → List UInt8 → Int → Int → Int → Int → Int → List UInt8 → TV → TV → TV → St → Nat), (I3 (left_1) ((0 : Int)) (depth_1) (n1) (b1) (b2) (s1) (n2) (n3) (n4) (n5) (n6) (s2) (v1) (v2) (v3) st1) ∧ ∀ (left_3 : Int) (i_3 : Int) (depth_3 : Int) (n27 : Int) (b9 : Bool) (b10 : Bool) (s9 : List UInt8) (n28 : Int) (n29 : Int) (n30 : Int) (n31 : Int) (n32 : Int) (s10 : List UInt8) (v13 : TV) (v14 : TV) (v15 : TV) (st5 : St), I3 left_3 i_3 depth_3 n27 b9 b10 s9 n28 n29 n30 n31 n32 s10 v13 v14 v15 st5 → (need (isSl v15) (BIf (decide (i_3 < (lenS v15 : Int))) (BIf (decide ((0 : Int) ≤ left_3)) (((0 ≤ i_3 ∧ i_3 < (lenZ 14 v15 : Int)) ∧ need (isPtr (ixT 14 v15 (Int.toNat i_3))) (optK ((ldCells st5 [] (.t (fldT (ixT 14 v15 (Int.toNat i_3)) 1)) 0 13).map TV.agg) (fun (x3 : TV) => decA [.int .i64, .bool, .bool, .str, .int .i64, .int .i64, .int .i64, .int .i64, .int .i64, .str, .tv, .tv, .tv] x3 (fun (n33 : Int) (b11 : Bool) (b12 : Bool) (s11 : List UInt8) (n34 : Int) (n35 : Int) (n36 : Int) (n37 : Int) (n38 : Int) (s12 : List UInt8) (v16 : TV) (v17 : TV) (v18 : TV) => CallT PR fn_datakitref07_room [(.agg [(.int .i64 n33), (.bool b11), (.bool b12), (.str s11), (.int .i64 n34), (.int .i64 n35), (.int .i64 n36), (.int .i64 n37), (.int .i64 n38), (.str s12), v16, v17, v18]), (.int .i64 left_3), (.int .i64 (IntKind.i64.wrap (depth_3 - (1 : Int))))] [.one (.int .i64)] st5 (fun (n39 : Int) (st6 : St) => (I3 (n39) ((IntKind.i64.wrap (i_3 + (1 : Int)))) (depth_3) (n27) (b9) (b10) (s9) (n28) (n29) (n30) (n31) (n32) (s10) (v13) (v14) (v15) st6 ∧ M3 (n39) ((IntKind.i64.wrap (i_3 + (1 : Int)))) (depth_3) (n27) (b9) (b10) (s9) (n28) (n29) (n30) (n31) (n32) (s10) (v13) (v14) (v15) st6 < M3 left_3 i_3 depth_3 n27 b9 b10 s9 n28 n29 n30 n31 n32 s10 v13 v14 v15 st5))))))) (K (left_3) st5)) (K (left_3) st5)))))))))))) : CallT PR fn_datakitref07_room [(.agg [(.int .i64 v_0), (.bool v_1), (.bool v_2), (.str v_3), (.int .i64 v_4), (.int .i64 v_5), (.int .i64 v_6), (.int .i64 v_7), (.int .i64 v_8), (.str v_9), v_10, v_11, v_12]), (.int .i64 left), (.int .i64 depth)] [.one (.int .i64)] st K :=
  tcalls_fw (cfg := ⟨[3], [], []⟩) (h := (.seq .none (.seq .none (.seq .none (.seq (.seq .none (.block (.loop ⟨[(1, .int .i64), (7, .int .i64), (2, .int .i64)], [(3, 0, 0)], [(0, 13)], [(0, 0, .int .i64), (0, 1, .bool), (0, 2, .bool), (0, 3, .str), (0, 4, .int .i64), (0, 5, .int .i64), (0, 6, .int .i64), (0, 7, .int .i64), (0, 8, .int .i64), (0, 9, .str), (0, 10, .tv), (0, 11, .tv), (0, 12, .tv)]⟩ .none))) (.seq (.seq .none (.block (.loop ⟨[(1, .int .i64), (8, .int .i64), (2, .int .i64)], [(3, 0, 0)], [(0, 13)], [(0, 0, .int .i64), (0, 1, .bool), (0, 2, .bool), (0, 3, .str), (0, 4, .int .i64), (0, 5, .int .i64), (0, 6, .int .i64), (0, 7, .int .i64), (0, 8, .int .i64), (0, 9, .str), (0, 10, .tv), (0, 11, .tv), (0, 12, .tv)]⟩ .none))) .none)))))) mixed (fun _ _ => Tryz.call80 _ _) Tryz.func80 (by kernel_rfl) (by kernel_rfl) h
set_option maxRecDepth 100000 in
theorem vc_canon_text (v_0 : Int) (v_1 : Bool) (v_2 : Bool) (v_3 : List UInt8) (v_4 : Int) (v_5 : Int) (v_6 : Int) (v_7 : Int) (v_8 : Int) (v_9 : List UInt8) (v_10 : TV) (v_11 : TV) (v_12 : TV) (st : St) (K : List UInt8 → St → Prop) (h : CallT PR fn_value_Sorted [(.agg [(.int .i64 v_0), (.bool v_1), (.bool v_2), (.str v_3), (.int .i64 v_4), (.int .i64 v_5), (.int .i64 v_6), (.int .i64 v_7), (.int .i64 v_8), (.str v_9), v_10, v_11, v_12])] [.agg [.int .i64, .bool, .bool, .str, .int .i64, .int .i64, .int .i64, .int .i64, .int .i64, .str, .tv, .tv, .tv]] (st.push (.cells [.nilPtr, .nilSlice]) (some 199)) (fun (n1 : Int) (b1 : Bool) (b2 : Bool) (s1 : List UInt8) (n2 : Int) (n3 : Int) (n4 : Int) (n5 : Int) (n6 : Int) (s2 : List UInt8) (v1 : TV) (v2 : TV) (v3 : TV) (st1 : St) => CallT PR fn_canon_write [(.box st.nb 0), (.agg [(.int .i64 n1), (.bool b1), (.bool b2), (.str s1), (.int .i64 n2), (.int .i64 n3), (.int .i64 n4), (.int .i64 n5), (.int .i64 n6), (.str s2), v1, v2, v3])] [] st1 (fun  (st2 : St) => CallT PR fn_strings_Builder_String [(.box st.nb 0)] [.one (.str)] st2 (fun (s3 : List UInt8) (st3 : St) => K (s3) st3)))) : CallT PR fn_canon_text [(.agg [(.int .i64 v_0), (.bool v_1), (.bool v_2), (.str v_3), (.int .i64 v_4), (.int .i64 v_5), (.int .i64 v_6), (.int .i64 v_7), (.int .i64 v_8), (.str v_9), v_10, v_11, v_12])] [.one (.str)] st K :=
  tcalls_fw (cfg := ⟨[1], [], []⟩) (h := .none) mixed (fun _ _ => Tryz.call81 _ _) Tryz.func81 (by kernel_rfl) (by kernel_rfl) h
set_option maxRecDepth 100000 in
theorem vc_datakitref07_look (v_0 : Int) (v_1 : Bool) (v_2 : Bool) (v_3 : List UInt8) (v_4 : Int) (v_5 : Int) (v_6 : Int) (v_7 : Int) (v_8 : Int) (v_9 : List UInt8) (v_10 : TV) (v_11 : TV) (v_12 : TV) (depth : Int) (seen : Int) (st : St) (K : Int → Int → St → Prop) (h : BIf (decide ((48 : Int) < depth)) (K (seen) ((9 : Int)) st) (BIf (decide ((65536 : Int) ≤ seen)) (K (seen) ((10 : Int)) st) (CallT PR fn_datakitref07_one [(.agg [(.int .i64 v_0), (.bool v_1), (.bool v_2), (.str v_3), (.int .i64 v_4), (.int .i64 v_5), (.int .i64 v_6), (.int .i64 v_7), (.int .i64 v_8), (.str v_9), v_10, v_11, v_12])] [.one (.int .i64)] st (fun (n1 : Int) (st1 : St) => BIf (decide (n1 ≠ (0 : Int))) (K (seen) (n1) st1) (CallT PR fn_datakitref07_Kids [(.agg [(.int .i64 v_0), (.bool v_1), (.bool v_2), (.str v_3), (.int .i64 v_4), (.int .i64 v_5), (.int .i64 v_6), (.int .i64 v_7), (.int .i64 v_8), (.str v_9), v_10, v_11, v_12])] [.one (.tv)] st1 (fun (v1 : TV) (st2 : St) => ∃ (I1 : Int → Int → Int → TV → St → Prop) (M1 : Int → Int → Int → TV → St → Nat), (I1 ((IntKind.i64.wrap (seen + (1 : Int)))) ((0 : Int)) (depth) (v1) st2) ∧ ∀ (seen_1 : Int) (i_1 : Int) (depth_1 : Int) (l_1 : TV) (st3 : St), I1 seen_1 i_1 depth_1 l_1 st3 → (need (isSl l_1) (BIf (decide (i_1 < (lenS l_1 : Int))) (((0 ≤ i_1 ∧ i_1 < (lenZ 13 l_1 : Int)) ∧ optK ((ldCells st3 [] (.t (ixT 13 l_1 (Int.toNat i_1))) 0 13).map TV.agg) (fun (x1 : TV) => decA [.int .i64, .bool, .bool, .str, .int .i64, .int .i64, .int .i64, .int .i64, .int .i64, .str, .tv, .tv, .tv] x1 (fun (n2 : Int) (b1 : Bool) (b2 : Bool) (s1 : List UInt8) (n3 : Int) (n4 : Int) (n5 : Int) (n6 : Int) (n7 : Int) (s2 : List UInt8) (v2 : TV) (v3 : TV) (v4 : TV) => CallT PR fn_datakitref07_look [(.agg [(.int .i64 n2), (.bool b1), (.bool b2), (.str s1), (.int .i64 n3), (.int .i64 n4), (.int .i64 n5), (.int .i64 n6), (.int .i64 n7), (.str s2), v2, v3, v4]), (.int .i64 (IntKind.i64.wrap (depth_1 + (1 : Int)))), (.int .i64 seen_1)] [.one (.int .i64), .one (.int .i64)] st3 (fun (n8 : Int) (n9 : Int) (st4 : St) => BIf (decide (n9 ≠ (0 : Int))) (K (n8) (n9) st4) ((I1 (n8) ((IntKind.i64.wrap (i_1 + (1 : Int)))) (depth_1) (l_1) st4 ∧ M1 (n8) ((IntKind.i64.wrap (i_1 + (1 : Int)))) (depth_1) (l_1) st4 < M1 seen_1 i_1 depth_1 l_1 st3))))))) (K (seen_1) ((0 : Int)) st3))))))))) : CallT PR fn_datakitref07_look [(.agg [(.int .i64 v_0), (.bool v_1), (.bool v_2), (.str v_3), (.int .i64 v_4), (.int .i64 v_5), (.int .i64 v_6), (.int .i64 v_7), (.int .i64 v_8), (.str v_9), v_10, v_11, v_12]), (.int .i64 depth), (.int .i64 seen)] [.one (.int .i64), .one (.int .i64)] st K :=
  tcalls_fw (cfg := ⟨[3], [], []⟩) (h := (.seq .none (.seq .none (.seq .none (.seq .none (.seq .none (.seq .none (.seq (.seq .none (.block (.loop ⟨[(2, .int .i64), (10, .int .i64), (1, .int .i64), (9, .tv)], [], [], []⟩ .none))) .none)))))))) mixed (fun _ _ => Tryz.call83 _ _) Tryz.func83 (by kernel_rfl) (by kernel_rfl) h
set_option maxRecDepth 100000 in
theorem vc_canon_put (b : TV) (v_0 : Int) (v_1 : Bool) (v_2 : Bool) (v_3 : List UInt8) (v_4 : Int) (v_5 : Int) (v_6 : Int) (v_7 : Int) (v_8 : Int) (v_9 : List UInt8) (v_10 : TV) (v_11 : TV) (v_12 : TV) (st : St) (K : TV → St → Prop) (h : appK 5 1 1 b 1 [(.int .u8 (IntKind.u8.wrap v_0))] st (fun (v1 : TV) (st1 : St) => BIf (decide (v_0 = (1 : Int))) (BIf v_1 (appK 5 1 1 v1 1 [(.int .u8 (1 : Int))] st1 (fun (v2 : TV) (st2 : St) => K (v2) st2)) (appK 5 1 1 v1 1 [(.int .u8 (0 : Int))] st1 (fun (v3 : TV) (st3 : St) => K (v3) st3))) (BIf (decide (v_0 = (2 : Int))) (CallT PR fn_canon_number [v1, (.agg [(.bool v_2), (.str v_3), (.int .i64 v_4)])] [.one (.tv)] st1 (fun (v4 : TV) (st4 : St) => K (v4) st4)) (BIf (decide (v_0 = (3 : Int))) (appK 5 1 1 v1 1 [(.int .u8 (IntKind.u8.wrap v_5))] st1 (fun (v5 : TV) (st5 : St) => CallT PR fn_canon_natural [v5, (.int .u64 (IntKind.u64.wrap v_6))] [.one (.tv)] st5 (fun (v6 : TV) (st6 : St) => CallT PR fn_canon_natural [v6, (.int .u64 (IntKind.u64.wrap v_7))] [.one (.tv)] st6 (fun (v7 : TV) (st7 : St) => CallT PR fn_canon_fold [(.int .i64 v_8)] [.one (.int .u64)] st7 (fun (n1 : Int) (st8 : St) => CallT PR fn_canon_natural [v7, (.int .u64 n1)] [.one (.tv)] st8 (fun (v8 : TV) (st9 : St) => K (v8) st9)))))) (BIf (decide (v_0 = (4 : Int))) (CallT PR fn_canon_str [v1, (.str v_9)] [.one (.tv)] st1 (fun (v9 : TV) (st10 : St) => K (v9) st10)) (BIf (decide (v_0 = (5 : Int))) (CallT PR fn_canon_count_byte_ [v1, v_10] [.one (.tv)] st1 (fun (v10 : TV) (st11 : St) => optK (appSrc st11 1 v_10) (fun (q1 : Nat × List TV) => need (List.all q1.2 oneT) (appK 5 1 1 v10 q1.1 q1.2 st11 (fun (v11 : TV) (st12 : St) => K (v11) st12))))) (BIf (decide (v_0 = (6 : Int))) (CallT PR fn_canon_count_api_Value_ [v1, v_11] [.one (.tv)] st1 (fun (v12 : TV) (st13 : St) => need (isSl v_11) (∃ (I1 : TV → Int → TV → Int → St → Prop) (M1 : TV → Int → TV → Int → St → Nat), (I1 (v12) ((0 : Int)) (v_11) ((lenS v_11 : Int)) st13) ∧ ∀ (b_1 : TV) (n_1 : Int) (v_1 : TV) (n_2 : Int) (st14 : St), I1 b_1 n_1 v_1 n_2 st14 → (BIf (decide (n_1 < n_2)) (((0 ≤ n_1 ∧ n_1 < (lenZ 13 v_1 : Int)) ∧ optK ((ldCells st14 [] (.t (ixT 13 v_1 (Int.toNat n_1))) 0 13).map TV.agg) (fun (x1 : TV) => decA [.int .i64, .bool, .bool, .str, .int .i64, .int .i64, .int .i64, .int .i64, .int .i64, .str, .tv, .tv, .tv] x1 (fun (n2 : Int) (b1 : Bool) (b2 : Bool) (s1 : List UInt8) (n3 : Int) (n4 : Int) (n5 : Int) (n6 : Int) (n7 : Int) (s2 : List UInt8) (v13 : TV) (v14 : TV) (v15 : TV) => need (List.all [(.int .i64 n2), (.bool b1), (.bool b2), (.str s1), (.int .i64 n3), (.int .i64 n4), (.int .i64 n5), (.int .i64 n6), (.int .i64 n7), (.str s2), v13, v14, v15] oneT) (CallT PR fn_canon_put [b_1, (.agg [(.int .i64 n2), (.bool b1), (.bool b2), (.str s1), (.int .i64 n3), (.int .i64 n4), (.int .i64 n5), (.int .i64 n6), (.int .i64 n7), (.str s2), v13, v14, v15])] [.one (.tv)] st14 (fun (v16 : TV) (st15 : St) => (I1 (v16) ((IntKind.i64.wrap (n_1 + (1 : Int)))) (v_1) (n_2) st15 ∧ M1 (v16) ((IntKind.i64.wrap (n_1 + (1 : Int)))) (v_1) (n_2) st15 < M1 b_1 n_1 v_1 n_2 st14))))))) (K (b_1) st14))))) (BIf (decide (v_0 = (7 : Int))) (CallT PR fn_canon_count_api_Field_ [v1, v_12] [.one (.tv)] st1 (fun (v17 : TV) (st16 : St) => need (isSl v_12) (∃ (I2 : TV → Int → TV → Int → St → Prop) (M2 : TV → Int → TV → Int → St → Nat), (I2 (v17) ((0 : Int)) (v_12) ((lenS v_12 : Int)) st16) ∧ ∀ (b_2 : TV) (n_3 : Int) (v_2 : TV) (n_4 : Int) (st17 : St), I2 b_2 n_3 v_2 n_4 st17 → (BIf (decide (n_3 < n_4)) (((0 ≤ n_3 ∧ n_3 < (lenZ 14 v_2 : Int)) ∧ optK ((ldCells st17 [] (.t (ixT 14 v_2 (Int.toNat n_3))) 0 14).map TV.agg) (fun (x2 : TV) => decA [.str, .int .i64, .bool, .bool, .str, .int .i64, .int .i64, .int .i64, .int .i64, .int .i64, .str, .tv, .tv, .tv] x2 (fun (s3 : List UInt8) (n8 : Int) (b3 : Bool) (b4 : Bool) (s4 : List UInt8) (n9 : Int) (n10 : Int) (n11 : Int) (n12 : Int) (n13 : Int) (s5 : List UInt8) (v18 : TV) (v19 : TV) (v20 : TV) => need (List.all [(.str s3), (.int .i64 n8), (.bool b3), (.bool b4), (.str s4), (.int .i64 n9), (.int .i64 n10), (.int .i64 n11), (.int .i64 n12), (.int .i64 n13), (.str s5), v18, v19, v20] oneT) (CallT PR fn_canon_str [b_2, (.str s3)] [.one (.tv)] st17 (fun (v21 : TV) (st18 : St) => CallT PR fn_canon_put [v21, (.agg [(.int .i64 n8), (.bool b3), (.bool b4), (.str s4), (.int .i64 n9), (.int .i64 n10), (.int .i64 n11), (.int .i64 n12), (.int .i64 n13), (.str s5), v18, v19, v20])] [.one (.tv)] st18 (fun (v22 : TV) (st19 : St) => (I2 (v22) ((IntKind.i64.wrap (n_3 + (1 : Int)))) (v_2) (n_4) st19 ∧ M2 (v22) ((IntKind.i64.wrap (n_3 + (1 : Int)))) (v_2) (n_4) st19 < M2 b_2 n_3 v_2 n_4 st17)))))))) (K (b_2) st17))))) (K (v1) st1))))))))) : CallT PR fn_canon_put [b, (.agg [(.int .i64 v_0), (.bool v_1), (.bool v_2), (.str v_3), (.int .i64 v_4), (.int .i64 v_5), (.int .i64 v_6), (.int .i64 v_7), (.int .i64 v_8), (.str v_9), v_10, v_11, v_12])] [.one (.tv)] st K :=
  tcalls_fw (cfg := ⟨[3, 6, 8], [], []⟩) (h := (.seq .none (.seq .none (.seq (.seq .none (.block (.seq .none (.cond .none (.seq .none (.cond .none (.seq .none (.cond .none (.seq .none (.cond .none (.seq .none (.cond .none (.seq .none (.cond (.seq .none (.seq .none (.block (.loop ⟨[(0, .tv), (84, .int .i64), (82, .tv), (83, .int .i64)], [], [], []⟩ .none)))) (.seq .none (.cond (.seq .none (.seq .none (.block (.loop ⟨[(0, .tv), (101, .int .i64), (99, .tv), (100, .int .i64)], [], [], []⟩ .none)))) .none)))))))))))))))) .none)))) mixed (fun _ _ => Tryz.call84 _ _) Tryz.func84 (by kernel_rfl) (by kernel_rfl) h
set_option maxRecDepth 100000 in
theorem vc_value_Sorted (v_0 : Int) (v_1 : Bool) (v_2 : Bool) (v_3 : List UInt8) (v_4 : Int) (v_5 : Int) (v_6 : Int) (v_7 : Int) (v_8 : Int) (v_9 : List UInt8) (v_10 : TV) (v_11 : TV) (v_12 : TV) (st : St) (K : Int → Bool → Bool → List UInt8 → Int → Int → Int → Int → Int → List UInt8 → TV → TV → TV → St → Prop) (h : CallT PR fn_value_Copy [(.agg [(.int .i64 v_0), (.bool v_1), (.bool v_2), (.str v_3), (.int .i64 v_4), (.int .i64 v_5), (.int .i64 v_6), (.int .i64 v_7), (.int .i64 v_8), (.str v_9), v_10, v_11, v_12])] [.agg [.int .i64, .bool, .bool, .str, .int .i64, .int .i64, .int .i64, .int .i64, .int .i64, .str, .tv, .tv, .tv]] st (fun (n1 : Int) (b1 : Bool) (b2 : Bool) (s1 : List UInt8) (n2 : Int) (n3 : Int) (n4 : Int) (n5 : Int) (n6 : Int) (s2 : List UInt8) (v1 : TV) (v2 : TV) (v3 : TV) (st1 : St) => CallT PR fn_value_arranged [(.agg [(.int .i64 n1), (.bool b1), (.bool b2), (.str s1), (.int .i64 n2), (.int .i64 n3), (.int .i64 n4), (.int .i64 n5), (.int .i64 n6), (.str s2), v1, v2, v3])] [.agg [.int .i64, .bool, .bool, .str, .int .i64, .int .i64, .int .i64, .int .i64, .int .i64, .str, .tv, .tv, .tv]] st1 (fun (n7 : Int) (b3 : Bool) (b4 : Bool) (s3 : List UInt8) (n8 : Int) (n9 : Int) (n10 : Int) (n11 : Int) (n12 : Int) (s4 : List UInt8) (v4 : TV) (v5 : TV) (v6 : TV) (st2 : St) => need (List.all [(.int .i64 n7), (.bool b3), (.bool b4), (.str s3), (.int .i64 n8), (.int .i64 n9), (.int .i64 n10), (.int .i64 n11), (.int .i64 n12), (.str s4), v4, v5, v6] oneT) (K (n7) (b3) (b4) (s3) (n8) (n9) (n10) (n11) (n12) (s4) (v4) (v5) (v6) st2)))) : CallT PR fn_value_Sorted [(.agg [(.int .i64 v_0), (.bool v_1), (.bool v_2), (.str v_3), (.int .i64 v_4), (.int .i64 v_5), (.int .i64 v_6), (.int .i64 v_7), (.int .i64 v_8), (.str v_9), v_10, v_11, v_12])] [.agg [.int .i64, .bool, .bool, .str, .int .i64, .int .i64, .int .i64, .int .i64, .int .i64, .str, .tv, .tv, .tv]] st K :=
  tcalls_fw (cfg := ⟨[1, 2], [], []⟩) (h := .none) mixed (fun _ _ => Tryz.call85 _ _) Tryz.func85 (by kernel_rfl) (by kernel_rfl) h
set_option maxRecDepth 100000 in
theorem vc_datakitref07_Sorted (v_0 : Int) (v_1 : Bool) (v_2 : Bool) (v_3 : List UInt8) (v_4 : Int) (v_5 : Int) (v_6 : Int) (v_7 : Int) (v_8 : Int) (v_9 : List UInt8) (v_10 : TV) (v_11 : TV) (v_12 : TV) (st : St) (K : Int → Bool → Bool → List UInt8 → Int → Int → Int → Int → Int → List UInt8 → TV → TV → TV → St → Prop) (h : need (List.all [(.int .i64 v_0), (.bool v_1), (.bool v_2), (.str v_3), (.int .i64 v_4), (.int .i64 v_5), (.int .i64 v_6), (.int .i64 v_7), (.int .i64 v_8), (.str v_9), v_10, v_11, v_12] oneT) (∃ (I1 : Int → Int → Bool → Bool → List UInt8 → Int → Int → Int → Int → Int → List UInt8 → TV → TV → TV → Int → Bool → Bool → List UInt8 → Int → Int → Int → Int → Int → List UInt8 → TV → TV → TV → Int → Bool → Bool → List UInt8 → Int → Int → Int → Int → Int → List UInt8 → TV → TV → TV → St → Prop) (M1 : Int → Int → Bool → Bool → List UInt8 → Int → Int → Int → Int → Int → List UInt8 → TV → TV → TV → Int → Bool → Bool → List UInt8 → Int → Int → Int → Int → Int → List UInt8 → TV → TV → TV → Int → Bool → Bool → List UInt8 → Int → Int → Int → Int → Int → List UInt8 → TV → TV → TV → St → Nat), (I1 ((0 : Int)) (v_0) (v_1) (v_2) (v_3) (v_4) (v_5) (v_6) (v_7) (v_8) (v_9) (v_10) (v_11) (v_12) ((0 : Int)) (false) (false) (([] : List UInt8)) ((0 : Int)) ((0 : Int)) ((0 : Int)) ((0 : Int)) ((0 : Int)) (([] : List UInt8)) (.nilSlice) (.nilSlice) (.nilSlice) (v_0) (v_1) (v_2) (v_3) (v_4) (v_5) (v_6) (v_7) (v_8) (v_9) (v_10) (.nilSlice) (.nilSlice) st) ∧ ∀ (i_1 : Int) (n1 : Int) (b1 : Bool) (b2 : Bool) (s1 : List UInt8) (n2 : Int) (n3 : Int) (n4 : Int) (n5 : Int) (n6 : Int) (s2 : List UInt8) (v1 : TV) (v2 : TV) (v3 : TV) (n7 : Int) (b3 : Bool) (b4 : Bool) (s3 : List UInt8) (n8 : Int) (n9 : Int) (n10 : Int) (n11 : Int) (n12 : Int) (s4 : List UInt8) (v4 : TV) (v5 : TV) (v6 : TV) (n13 : Int) (b5 : Bool) (b6 : Bool) (s5 : List UInt8) (n14 : Int) (n15 : Int) (n16 : Int) (n17 : Int) (n18 : Int) (s6 : List UInt8) (v7 : TV) (v8 : TV) (v9 : TV) (st1 : St), I1 i_1 n1 b1 b2 s1 n2 n3 n4 n5 n6 s2 v1 v2 v3 n7 b3 b4 s3 n8 n9 n10 n11 n12 s4 v4 v5 v6 n13 b5 b6 s5 n14 n15 n16 n17 n18 s6 v7 v8 v9 st1 → (need (isSl v2) (BIf (decide (i_1 < (lenS v2 : Int))) (((0 ≤ i_1 ∧ i_1 < (lenZ 13 v2 : Int)) ∧ optK ((ldCells st1 [] (.t (ixT 13 v2 (Int.toNat i_1))) 0 13).map TV.agg) (fun (x1 : TV) => decA [.int .i64, .bool, .bool, .str, .int .i64, .int .i64, .int .i64, .int .i64, .int .i64, .str, .tv, .tv, .tv] x1 (fun (n19 : Int) (b7 : Bool) (b8 : Bool) (s7 : List UInt8) (n20 : Int) (n21 : Int) (n22 : Int) (n23 : Int) (n24 : Int) (s8 : List UInt8) (v10 : TV) (v11 : TV) (v12 : TV) => CallT PR fn_datakitref07_Sorted [(.agg [(.int .i64 n19), (.bool b7), (.bool b8), (.str s7), (.int .i64 n20), (.int .i64 n21), (.int .i64 n22), (.int .i64 n23), (.int .i64 n24), (.str s8), v10, v11, v12])] [.agg [.int .i64, .bool, .bool, .str, .int .i64, .int .i64, .int .i64, .int .i64, .int .i64, .str, .tv, .tv, .tv]] st1 (fun (n25 : Int) (b9 : Bool) (b10 : Bool) (s9 : List UInt8) (n26 : Int) (n27 : Int) (n28 : Int) (n29 : Int) (n30 : Int) (s10 : List UInt8) (v13 : TV) (v14 : TV) (v15 : TV) (st2 : St) => need (List.all [(.int .i64 n25), (.bool b9), (.bool b10), (.str s9), (.int .i64 n26), (.int .i64 n27), (.int .i64 n28), (.int .i64 n29), (.int .i64 n30), (.str s10), v13, v14, v15] oneT) (appK 33 13 168 v8 1 [(.int .i64 n25), (.bool b9), (.bool b10), (.str s9), (.int .i64 n26), (.int .i64 n27), (.int .i64 n28), (.int .i64 n29), (.int .i64 n30), (.str s10), v13, v14, v15] st2 (fun (v16 : TV) (st3 : St) => need (List.all [v16] oneT) ((I1 ((IntKind.i64.wrap (i_1 + (1 : Int)))) (n1) (b1) (b2) (s1) (n2) (n3) (n4) (n5) (n6) (s2) (v1) (v2) (v3) (n7) (b3) (b4) (s3) (n8) (n9) (n10) (n11) (n12) (s4) (v4) (v5) (v6) (n13) (b5) (b6) (s5) (n14) (n15) (n16) (n17) (n18) (s6) (v7) (v16) (v9) st3 ∧ M1 ((IntKind.i64.wrap (i_1 + (1 : Int)))) (n1) (b1) (b2) (s1) (n2) (n3) (n4) (n5) (n6) (s2) (v1) (v2) (v3) (n7) (b3) (b4) (s3) (n8) (n9) (n10) (n11) (n12) (s4) (v4) (v5) (v6) (n13) (b5) (b6) (s5) (n14) (n15) (n16) (n17) (n18) (s6) (v7) (v16) (v9) st3 < M1 i_1 n1 b1 b2 s1 n2 n3 n4 n5 n6 s2 v1 v2 v3 n7 b3 b4 s3 n8 n9 n10 n11 n12 s4 v4 v5 v6 n13 b5 b6 s5 n14 n15 n16 n17 n18 s6 v7 v8 v9 st1))))))))) (CallT PR fn_datakitref07_Fields [v3] [.one (.tv)] st1 (fun (v17 : TV) (st4 : St) => ∃ (I2 : Int → TV → Int → Bool → Bool → List UInt8 → Int → Int → Int → Int → Int → List UInt8 → TV → TV → TV → Int → Bool → Bool → List UInt8 → Int → Int → Int → Int → Int → List UInt8 → TV → TV → TV → St → Prop) (M2 : Int → TV → Int → Bool → Bool → List UInt8 → Int → Int → Int → Int → Int → List UInt8 → TV → TV → TV → Int → Bool → Bool → List UInt8 → Int → Int → Int → Int → Int → List UInt8 → TV → TV → TV → St → Nat), (I2 ((0 : Int)) (v17) (n7) (b3) (b4) (s3) (n8) (n9) (n10) (n11) (n12) (s4) (v4) (v5) (v6) (n13) (b5) (b6) (s5) (n14) (n15) (n16) (n17) (n18) (s6) (v7) (v8) (v9) st4) ∧ ∀ (i_2 : Int) (l_1 : TV) (n31 : Int) (b11 : Bool) (b12 : Bool) (s11 : List UInt8) (n32 : Int) (n33 : Int) (n34 : Int) (n35 : Int) (n36 : Int) (s12 : List UInt8) (v18 : TV) (v19 : TV) (v20 : TV) (n37 : Int) (b13 : Bool) (b14 : Bool) (s13 : List UInt8) (n38 : Int) (n39 : Int) (n40 : Int) (n41 : Int) (n42 : Int) (s14 : List UInt8) (v21 : TV) (v22 : TV) (v23 : TV) (st5 : St), I2 i_2 l_1 n31 b11 b12 s11 n32 n33 n34 n35 n36 s12 v18 v19 v20 n37 b13 b14 s13 n38 n39 n40 n41 n42 s14 v21 v22 v23 st5 → (need (isSl l_1) (BIf (decide (i_2 < (lenS l_1 : Int))) (((0 ≤ i_2 ∧ i_2 < (lenZ 14 l_1 : Int)) ∧ need (isPtr (ixT 14 l_1 (Int.toNat i_2))) (optK (ldCell st5 [] (.t (fldT (ixT 14 l_1 (Int.toNat i_2)) 0)) 0) (fun (x2 : TV) => decT (.str) x2 (fun (s15 : List UInt8) => ((0 ≤ i_2 ∧ i_2 < (lenZ 14 l_1 : Int)) ∧ need (isPtr (ixT 14 l_1 (Int.toNat i_2))) (optK ((ldCells st5 [] (.t (fldT (ixT 14 l_1 (Int.toNat i_2)) 1)) 0 13).map TV.agg) (fun (x3 : TV) => decA [.int .i64, .bool, .bool, .str, .int .i64, .int .i64, .int .i64, .int .i64, .int .i64, .str, .tv, .tv, .tv] x3 (fun (n43 : Int) (b15 : Bool) (b16 : Bool) (s16 : List UInt8) (n44 : Int) (n45 : Int) (n46 : Int) (n47 : Int) (n48 : Int) (s17 : List UInt8) (v24 : TV) (v25 : TV) (v26 : TV) => CallT PR fn_datakitref07_Sorted [(.agg [(.int .i64 n43), (.bool b15), (.bool b16), (.str s16), (.int .i64 n44), (.int .i64 n45), (.int .i64 n46), (.int .i64 n47), (.int .i64 n48), (.str s17), v24, v25, v26])] [.agg [.int .i64, .bool, .bool, .str, .int .i64, .int .i64, .int .i64, .int .i64, .int .i64, .str, .tv, .tv, .tv]] st5 (fun (n49 : Int) (b17 : Bool) (b18 : Bool) (s18 : List UInt8) (n50 : Int) (n51 : Int) (n52 : Int) (n53 : Int) (n54 : Int) (s19 : List UInt8) (v27 : TV) (v28 : TV) (v29 : TV) (st6 : St) => (ldCell st6 [] (.t (fldT (ixT 14 l_1 (Int.toNat i_2)) 0)) 0 = some (.str s15) ∧ need (List.all [(.str s15), (.int .i64 n49), (.bool b17), (.bool b18), (.str s18), (.int .i64 n50), (.int .i64 n51), (.int .i64 n52), (.int .i64 n53), (.int .i64 n54), (.str s19), v27, v28, v29] oneT) (appK 82 14 184 v23 1 [(.str s15), (.int .i64 n49), (.bool b17), (.bool b18), (.str s18), (.int .i64 n50), (.int .i64 n51), (.int .i64 n52), (.int .i64 n53), (.int .i64 n54), (.str s19), v27, v28, v29] st6 (fun (v30 : TV) (st7 : St) => need (List.all [v30] oneT) ((I2 ((IntKind.i64.wrap (i_2 + (1 : Int)))) (l_1) (n31) (b11) (b12) (s11) (n32) (n33) (n34) (n35) (n36) (s12) (v18) (v19) (v20) (n37) (b13) (b14) (s13) (n38) (n39) (n40) (n41) (n42) (s14) (v21) (v22) (v30) st7 ∧ M2 ((IntKind.i64.wrap (i_2 + (1 : Int)))) (l_1) (n31) (b11) (b12) (s11) (n32) (n33) (n34) (n35) (n36) (s12) (v18) (v19) (v20) (n37) (b13) (b14) (s13) (n38) (n39) (n40) (n41) (n42) (s14) (v21) (v22) (v30) st7 < M2 i_2 l_1 n31 b11 b12 s11 n32 n33 n34 n35 n36 s12 v18 v19 v20 n37 b13 b14 s13 n38 n39 n40 n41 n42 s14 v21 v22 v23 st5))))))))))))))) (need (List.all [(.int .i64 n37), (.bool b13), (.bool b14), (.str s13), (.int .i64 n38), (.int .i64 n39), (.int .i64 n40), (.int .i64 n41), (.int .i64 n42), (.str s14), v21, v22, v23] oneT) (K (n37) (b13) (b14) (s13) (n38) (n39) (n40) (n41) (n42) (s14) (v21) (v22) (v23) st5)))))))))) : CallT PR fn_datakitref07_Sorted [(.agg [(.int .i64 v_0), (.bool v_1), (.bool v_2), (.str v_3), (.int .i64 v_4), (.int .i64 v_5), (.int .i64 v_6), (.int .i64 v_7), (.int .i64 v_8), (.str v_9), v_10, v_11, v_12])] [.agg [.int .i64, .bool, .bool, .str, .int .i64, .int .i64, .int .i64, .int .i64, .int .i64, .str, .tv, .tv, .tv]] st K :=
  tcalls_fw (cfg := ⟨[1, 2, 3], [], [23, 43, 48]⟩) (h := (.seq .none (.seq .none (.seq .none (.seq .none (.seq (.seq .none (.block (.loop ⟨[(4, .int .i64)], [(1, 0, 0), (2, 1, 0), (3, 2, 0)], [(0, 13), (1, 13), (2, 13)], [(0, 0, .int .i64), (0, 1, .bool), (0, 2, .bool), (0, 3, .str), (0, 4, .int .i64), (0, 5, .int .i64), (0, 6, .int .i64), (0, 7, .int .i64), (0, 8, .int .i64), (0, 9, .str), (0, 10, .tv), (0, 11, .tv), (0, 12, .tv), (1, 0, .int .i64), (1, 1, .bool), (1, 2, .bool), (1, 3, .str), (1, 4, .int .i64), (1, 5, .int .i64), (1, 6, .int .i64), (1, 7, .int .i64), (1, 8, .int .i64), (1, 9, .str), (1, 10, .tv), (1, 11, .tv), (1, 12, .tv), (2, 0, .int .i64), (2, 1, .bool), (2, 2, .bool), (2, 3, .str), (2, 4, .int .i64), (2, 5, .int .i64), (2, 6, .int .i64), (2, 7, .int .i64), (2, 8, .int .i64), (2, 9, .str), (2, 10, .tv), (2, 11, .tv), (2, 12, .tv)]⟩ .none))) (.seq .none (.seq (.seq .none (.block (.loop ⟨[(6, .int .i64), (5, .tv)], [(2, 1, 0), (3, 2, 0)], [(1, 13), (2, 13)], [(1, 0, .int .i64), (1, 1, .bool), (1, 2, .bool), (1, 3, .str), (1, 4, .int .i64), (1, 5, .int .i64), (1, 6, .int .i64), (1, 7, .int .i64), (1, 8, .int .i64), (1, 9, .str), (1, 10, .tv), (1, 11, .tv), (1, 12, .tv), (2, 0, .int .i64), (2, 1, .bool), (2, 2, .bool), (2, 3, .str), (2, 4, .int .i64), (2, 5, .int .i64), (2, 6, .int .i64), (2, 7, .int .i64), (2, 8, .int .i64), (2, 9, .str), (2, 10, .tv), (2, 11, .tv), (2, 12, .tv)]⟩ .none))) .none)))))))) mixed (fun _ _ => Tryz.call86 _ _) Tryz.func86 (by kernel_rfl) (by kernel_rfl) h
end Go.TVF
end

section
set_option linter.unusedVariables false
namespace Go.TVF
open Go Go.Proofs
set_option maxRecDepth 100000 in
theorem vc_utf_Valid (s : List UInt8) (st : St) (K : Bool → St → Prop) (h : CallT PR fn_utf_Len [(.str s)] [.one (.int .i64), .one (.int .i64)] st (fun (n1 : Int) (n2 : Int) (st1 : St) => K ((decide (n2 = (0 : Int)))) st1)) : CallT PR fn_utf_Valid [(.str s)] [.one (.bool)] st K :=
  tcalls_fw (cfg := ⟨[], [], []⟩) (h := .none) mixed (fun _ _ => Tryz.call90 _ _) Tryz.func90 (by kernel_rfl) (by kernel_rfl) h
set_option maxRecDepth 100000 in
theorem vc_value_copied (v_0 : Int) (v_1 : Bool) (v_2 : Bool) (v_3 : List UInt8) (v_4 : Int) (v_5 : Int) (v_6 : Int) (v_7 : Int) (v_8 : Int) (v_9 : List UInt8) (v_10 : TV) (v_11 : TV) (v_12 : TV) (left : Int) (st : St) (K : Int → Bool → Bool → List UInt8 → Int → Int → Int → Int → Int → List UInt8 → TV → TV → TV → St → Prop) (h : CallT PR fn_slices_Clone___byte_byte_ [v_10] [.one (.tv)] st (fun (v1 : TV) (st1 : St) => need (List.all [v1] oneT) (BIf (decide (left < (1 : Int))) (need (List.all [(.int .i64 v_0), (.bool v_1), (.bool v_2), (.str v_3), (.int .i64 v_4), (.int .i64 v_5), (.int .i64 v_6), (.int .i64 v_7), (.int .i64 v_8), (.str v_9), v1, .nilSlice, .nilSlice] oneT) (K (v_0) (v_1) (v_2) (v_3) (v_4) (v_5) (v_6) (v_7) (v_8) (v_9) (v1) (.nilSlice) (.nilSlice) st1)) (need (isSl v_11) (∃ (I1 : TV → Int → Int → TV → Int → Int → Bool → Bool → List UInt8 → Int → Int → Int → Int → Int → List UInt8 → TV → TV → TV → Int → Bool → Bool → List UInt8 → Int → Int → Int → Int → Int → List UInt8 → TV → TV → TV → St → Prop) (M1 : TV → Int → Int → TV → Int → Int → Bool → Bool → List UInt8 → Int → Int → Int → Int → Int → List UInt8 → TV → TV → TV → Int → Bool → Bool → List UInt8 → Int → Int → Int → Int → Int → List UInt8 → TV → TV → TV → St → Nat), (I1 (.nilSlice) ((0 : Int)) (left) (v_11) ((lenS v_11 : Int)) (v_0) (v_1) (v_2) (v_3) (v_4) (v_5) (v_6) (v_7) (v_8) (v_9) (v1) (v_11) (v_12) ((0 : Int)) (false) (false) (([] : List UInt8)) ((0 : Int)) ((0 : Int)) ((0 : Int)) ((0 : Int)) ((0 : Int)) (([] : List UInt8)) (.nilSlice) (.nilSlice) (.nilSlice) st1) ∧ ∀ (l_1 : TV) (n_1 : Int) (left_1 : Int) (v_1 : TV) (n_2 : Int) (n1 : Int) (b1 : Bool) (b2 : Bool) (s1 : List UInt8) (n2 : Int) (n3 : Int) (n4 : Int) (n5 : Int) (n6 : Int) (s2 : List UInt8) (v2 : TV) (v3 : TV) (v4 : TV) (n7 : Int) (b3 : Bool) (b4 : Bool) (s3 : List UInt8) (n8 : Int) (n9 : Int) (n10 : Int) (n11 : Int) (n12 : Int) (s4 : List UInt8) (v5 : TV) (v6 : TV) (v7 : TV) (st2 : St), I1 l_1 n_1 left_1 v_1 n_2 n1 b1 b2 s1 n2 n3 n4 n5 n6 s2 v2 v3 v4 n7 b3 b4 s3 n8 n9 n10 n11 n12 s4 v5 v6 v7 st2 → (BIf (decide (n_1 < n_2)) (((0 ≤ n_1 ∧ n_1 < (lenZ 13 v_1 : Int)) ∧ optK ((ldCells st2 [] (.t (ixT 13 v_1 (Int.toNat n_1))) 0 13).map TV.agg) (fun (x1 : TV) => decA [.int .i64, .bool, .bool, .str, .int .i64, .int .i64, .int .i64, .int .i64, .int .i64, .str, .tv, .tv, .tv] x1 (fun (n13 : Int) (b5 : Bool) (b6 : Bool) (s5 : List UInt8) (n14 : Int) (n15 : Int) (n16 : Int) (n17 : Int) (n18 : Int) (s6 : List UInt8) (v8 : TV) (v9 : TV) (v10 : TV) => need (List.all [(.int .i64 n13), (.bool b5), (.bool b6), (.str s5), (.int .i64 n14), (.int .i64 n15), (.int .i64 n16), (.int .i64 n17), (.int .i64 n18), (.str s6), v8, v9, v10] oneT) (CallT PR fn_value_copied [(.agg [(.int .i64 n13), (.bool b5), (.bool b6), (.str s5), (.int .i64 n14), (.int .i64 n15), (.int .i64 n16), (.int .i64 n17), (.int .i64 n18), (.str s6), v8, v9, v10]), (.int .i64 (IntKind.i64.wrap (left_1 - (1 : Int))))] [.agg [.int .i64, .bool, .bool, .str, .int .i64, .int .i64, .int .i64, .int .i64, .int .i64, .str, .tv, .tv, .tv]] st2 (fun (n19 : Int) (b7 : Bool) (b8 : Bool) (s7 : List UInt8) (n20 : Int) (n21 : Int) (n22 : Int) (n23 : Int) (n24 : Int) (s8 : List UInt8) (v11 : TV) (v12 : TV) (v13 : TV) (st3 : St) => need (List.all [(.int .i64 n19), (.bool b7), (.bool b8), (.str s7), (.int .i64 n20), (.int .i64 n21), (.int .i64 n22), (.int .i64 n23), (.int .i64 n24), (.str s8), v11, v12, v13] oneT) (appB 33 13 168 l_1 1 [(.int .i64 n19), (.bool b7), (.bool b8), (.str s7), (.int .i64 n20), (.int .i64 n21), (.int .i64 n22), (.int .i64 n23), (.int .i64 n24), (.str s8), v11, v12, v13] st3 (fun (v14 : TV) (st4 : St) => (I1 (v14) ((IntKind.i64.wrap (n_1 + (1 : Int)))) (left_1) (v_1) (n_2) (n1) (b1) (b2) (s1) (n2) (n3) (n4) (n5) (n6) (s2) (v2) (v3) (v4) (n7) (b3) (b4) (s3) (n8) (n9) (n10) (n11) (n12) (s4) (v5) (v6) (v7) st4 ∧ M1 (v14) ((IntKind.i64.wrap (n_1 + (1 : Int)))) (left_1) (v_1) (n_2) (n1) (b1) (b2) (s1) (n2) (n3) (n4) (n5) (n6) (s2) (v2) (v3) (v4) (n7) (b3) (b4) (s3) (n8) (n9) (n10) (n11) (n12) (s4) (v5) (v6) (v7) st4 < M1 l_1 n_1 left_1 v_1 n_2 n1 b1 b2 s1 n2 n3 n4 n5 n6 s2 v2 v3 v4 n7 b3 b4 s3 n8 n9 n10 n11 n12 s4 v5 v6 v7 st2))))))))) (need (isSl v4) (∃ (I2 : TV → Int → Int → TV → TV → Int → Int → Bool → Bool → List UInt8 → Int → Int → Int → Int → Int → List UInt8 → TV → TV → TV → Int → Bool → Bool → List UInt8 → Int → Int → Int → Int → Int → List UInt8 → TV → TV → TV → St → Prop) (M2 : TV → Int → Int → TV → TV → Int → Int → Bool → Bool → List UInt8 → Int → Int → Int → Int → Int → List UInt8 → TV → TV → TV → Int → Bool → Bool → List UInt8 → Int → Int → Int → Int → Int → List UInt8 → TV → TV → TV → St → Nat), (I2 (.nilSlice) ((0 : Int)) (left_1) (l_1) (v4) ((lenS v4 : Int)) (n1) (b1) (b2) (s1) (n2) (n3) (n4) (n5) (n6) (s2) (v2) (v3) (v4) (n7) (b3) (b4) (s3) (n8) (n9) (n10) (n11) (n12) (s4) (v5) (v6) (v7) st2) ∧ ∀ (f_1 : TV) (n_3 : Int) (left_2 : Int) (l_2 : TV) (v_2 : TV) (n_4 : Int) (n25 : Int) (b9 : Bool) (b10 : Bool) (s9 : List UInt8) (n26 : Int) (n27 : Int) (n28 : Int) (n29 : Int) (n30 : Int) (s10 : List UInt8) (v15 : TV) (v16 : TV) (v17 : TV) (n31 : Int) (b11 : Bool) (b12 : Bool) (s11 : List UInt8) (n32 : Int) (n33 : Int) (n34 : Int) (n35 : Int) (n36 : Int) (s12 : List UInt8) (v18 : TV) (v19 : TV) (v20 : TV) (st5 : St), I2 f_1 n_3 left_2 l_2 v_2 n_4 n25 b9 b10 s9 n26 n27 n28 n29 n30 s10 v15 v16 v17 n31 b11 b12 s11 n32 n33 n34 n35 n36 s12 v18 v19 v20 st5 → (BIf (decide (n_3 < n_4)) (((0 ≤ n_3 ∧ n_3 < (lenZ 14 v_2 : Int)) ∧ optK ((ldCells st5 [] (.t (ixT 14 v_2 (Int.toNat n_3))) 0 14).map TV.agg) (fun (x2 : TV) => decA [.str, .int .i64, .bool, .bool, .str, .int .i64, .int .i64, .int .i64, .int .i64, .int .i64, .str, .tv, .tv, .tv] x2 (fun (s13 : List UInt8) (n37 : Int) (b13 : Bool) (b14 : Bool) (s14 : List UInt8) (n38 : Int) (n39 : Int) (n40 : Int) (n41 : Int) (n42 : Int) (s15 : List UInt8) (v21 : TV) (v22 : TV) (v23 : TV) => need (List.all [(.str s13), (.int .i64 n37), (.bool b13), (.bool b14), (.str s14), (.int .i64 n38), (.int .i64 n39), (.int .i64 n40), (.int .i64 n41), (.int .i64 n42), (.str s15), v21, v22, v23] oneT) (CallT PR fn_value_copied [(.agg [(.int .i64 n37), (.bool b13), (.bool b14), (.str s14), (.int .i64 n38), (.int .i64 n39), (.int .i64 n40), (.int .i64 n41), (.int .i64 n42), (.str s15), v21, v22, v23]), (.int .i64 (IntKind.i64.wrap (left_2 - (1 : Int))))] [.agg [.int .i64, .bool, .bool, .str, .int .i64, .int .i64, .int .i64, .int .i64, .int .i64, .str, .tv, .tv, .tv]] st5 (fun (n43 : Int) (b15 : Bool) (b16 : Bool) (s16 : List UInt8) (n44 : Int) (n45 : Int) (n46 : Int) (n47 : Int) (n48 : Int) (s17 : List UInt8) (v24 : TV) (v25 : TV) (v26 : TV) (st6 : St) => need (List.all [(.str s13), (.int .i64 n43), (.bool b15), (.bool b16), (.str s16), (.int .i64 n44), (.int .i64 n45), (.int .i64 n46), (.int .i64 n47), (.int .i64 n48), (.str s17), v24, v25, v26] oneT) (appB 82 14 184 f_1 1 [(.str s13), (.int .i64 n43), (.bool b15), (.bool b16), (.str s16), (.int .i64 n44), (.int .i64 n45), (.int .i64 n46), (.int .i64 n47), (.int .i64 n48), (.str s17), v24, v25, v26] st6 (fun (v27 : TV) (st7 : St) => (I2 (v27) ((IntKind.i64.wrap (n_3 + (1 : Int)))) (left_2) (l_2) (v_2) (n_4) (n25) (b9) (b10) (s9) (n26) (n27) (n28) (n29) (n30) (s10) (v15) (v16) (v17) (n31) (b11) (b12) (s11) (n32) (n33) (n34) (n35) (n36) (s12) (v18) (v19) (v20) st7 ∧ M2 (v27) ((IntKind.i64.wrap (n_3 + (1 : Int)))) (left_2) (l_2) (v_2) (n_4) (n25) (b9) (b10) (s9) (n26) (n27) (n28) (n29) (n30) (s10) (v15) (v16) (v17) (n31) (b11) (b12) (s11) (n32) (n33) (n34) (n35) (n36) (s12) (v18) (v19) (v20) st7 < M2 f_1 n_3 left_2 l_2 v_2 n_4 n25 b9 b10 s9 n26 n27 n28 n29 n30 s10 v15 v16 v17 n31 b11 b12 s11 n32 n33 n34 n35 n36 s12 v18 v19 v20 st5))))))))) (need (List.all [l_2] oneT) (need (List.all [f_1] oneT) (need (List.all [(.int .i64 n25), (.bool b9), (.bool b10), (.str s9), (.int .i64 n26), (.int .i64 n27), (.int .i64 n28), (.int .i64 n29), (.int .i64 n30), (.str s10), v15, l_2, f_1] oneT) (K (n25) (b9) (b10) (s9) (n26) (n27) (n28) (n29) (n30) (s10) (v15) (l_2) (f_1) st5))))))))))))) : CallT PR fn_value_copied [(.agg [(.int .i64 v_0), (.bool v_1), (.bool v_2), (.str v_3), (.int .i64 v_4), (.int .i64 v_5), (.int .i64 v_6), (.int .i64 v_7), (.int .i64 v_8), (.str v_9), v_10, v_11, v_12]), (.int .i64 left)] [.agg [.int .i64, .bool, .bool, .str, .int .i64, .int .i64, .int .i64, .int .i64, .int .i64, .str, .tv, .tv, .tv]] st K :=
  tcalls_fw (cfg := ⟨[2, 4, 7, 10], [33, 52], []⟩) (h := (.seq .none (.seq .none (.seq .none (.seq .none (.seq (.seq .none (.block (.loop ⟨[(5, .tv), (23, .int .i64), (1, .int .i64), (21, .tv), (22, .int .i64)], [(2, 0, 0), (4, 1, 0)], [(0, 13), (1, 13)], [(0, 0, .int .i64), (0, 1, .bool), (0, 2, .bool), (0, 3, .str), (0, 4, .int .i64), (0, 5, .int .i64), (0, 6, .int .i64), (0, 7, .int .i64), (0, 8, .int .i64), (0, 9, .str), (0, 10, .tv), (0, 11, .tv), (0, 12, .tv), (1, 0, .int .i64), (1, 1, .bool), (1, 2, .bool), (1, 3, .str), (1, 4, .int .i64), (1, 5, .int .i64), (1, 6, .int .i64), (1, 7, .int .i64), (1, 8, .int .i64), (1, 9, .str), (1, 10, .tv), (1, 11, .tv), (1, 12, .tv)]⟩ .none))) (.seq .none (.seq (.seq .none (.block (.loop ⟨[(8, .tv), (38, .int .i64), (1, .int .i64), (5, .tv), (36, .tv), (37, .int .i64)], [(2, 0, 0), (4, 1, 0)], [(0, 13), (1, 13)], [(0, 0, .int .i64), (0, 1, .bool), (0, 2, .bool), (0, 3, .str), (0, 4, .int .i64), (0, 5, .int .i64), (0, 6, .int .i64), (0, 7, .int .i64), (0, 8, .int .i64), (0, 9, .str), (0, 10, .tv), (0, 11, .tv), (0, 12, .tv), (1, 0, .int .i64), (1, 1, .bool), (1, 2, .bool), (1, 3, .str), (1, 4, .int .i64), (1, 5, .int .i64), (1, 6, .int .i64), (1, 7, .int .i64), (1, 8, .int .i64), (1, 9, .str), (1, 10, .tv), (1, 11, .tv), (1, 12, .tv)]⟩ .none))) .none)))))))) mixed (fun _ _ => Tryz.call96 _ _) Tryz.func96 (by kernel_rfl) (by kernel_rfl) h
set_option maxRecDepth 100000 in
theorem vc_value_check (v_0 : Int) (v_1 : Bool) (v_2 : Bool) (v_3 : List UInt8) (v_4 : Int) (v_5 : Int) (v_6 : Int) (v_7 : Int) (v_8 : Int) (v_9 : List UInt8) (v_10 : TV) (v_11 : TV) (v_12 : TV) (depth : Int) (n : Nat) (st : St) (K : Int → St → Prop) (h : optK (ldCell st [] (.t (.box n 0)) 0) (fun (x1 : TV) => decT (.int .i64) x1 (fun (n1 : Int) => stB st (.box n 0) [(.int .i64 (IntKind.i64.wrap (n1 + (1 : Int))))] (fun (st1 : St) => ∃ (C1 : Int → TV → Int → Bool → Bool → List UInt8 → Int → Int → Int → Int → Int → List UInt8 → TV → TV → TV → St → Prop), (BIf (decide ((48 : Int) < depth)) (K ((9 : Int)) st1) (optK (ldCell st1 [] (.t (.box n 0)) 0) (fun (x2 : TV) => decT (.int .i64) x2 (fun (n2 : Int) => BIf (decide ((65536 : Int) < n2)) (K ((10 : Int)) st1) (∃ (C2 : Bool → Int → TV → Int → Bool → Bool → List UInt8 → Int → Int → Int → Int → Int → List UInt8 → TV → TV → TV → St → Prop), (BIf (decide (v_0 < (0 : Int))) (C2 (true) (depth) ((.box n 0)) (v_0) (v_1) (v_2) (v_3) (v_4) (v_5) (v_6) (v_7) (v_8) (v_9) (v_10) (v_11) (v_12) st1) (BIf (decide ((8 : Int) ≤ v_0)) (C2 (true) (depth) ((.box n 0)) (v_0) (v_1) (v_2) (v_3) (v_4) (v_5) (v_6) (v_7) (v_8) (v_9) (v_10) (v_11) (v_12) st1) (CallT PR fn_value_extra [(.agg [(.int .i64 v_0), (.bool v_1), (.bool v_2), (.str v_3), (.int .i64 v_4), (.int .i64 v_5), (.int .i64 v_6), (.int .i64 v_7), (.int .i64 v_8), (.str v_9), v_10, v_11, v_12])] [.one (.bool)] st1 (fun (b1 : Bool) (st2 : St) => C2 (b1) (depth) ((.box n 0)) (v_0) (v_1) (v_2) (v_3) (v_4) (v_5) (v_6) (v_7) (v_8) (v_9) (v_10) (v_11) (v_12) st2)))) ∧ ∀ (b_1 : Bool) (depth_1 : Int) (n_1 : TV) (n3 : Int) (b2 : Bool) (b3 : Bool) (s1 : List UInt8) (n4 : Int) (n5 : Int) (n6 : Int) (n7 : Int) (n8 : Int) (s2 : List UInt8) (v1 : TV) (v2 : TV) (v3 : TV) (st3 : St), C2 b_1 depth_1 n_1 n3 b2 b3 s1 n4 n5 n6 n7 n8 s2 v1 v2 v3 st3 → (BIf b_1 (K ((6 : Int)) st3) (∃ (C3 : Bool → Int → TV → Int → Bool → Bool → List UInt8 → Int → Int → Int → Int → Int → List UInt8 → TV → TV → TV → St → Prop), (BIf (decide (n3 = (2 : Int))) (CallT PR fn_decimal_Valid [(.agg [(.bool b3), (.str s1), (.int .i64 n4)])] [.one (.bool)] st3 (fun (b4 : Bool) (st4 : St) => BIf (!b4) (C3 (true) (depth_1) (n_1) (n3) (b2) (b3) (s1) (n4) (n5) (n6) (n7) (n8) (s2) (v1) (v2) (v3) st4) (BIf (decide (n3 = (3 : Int))) (CallT PR fn_moment_Valid [(.agg [(.int .i64 n5), (.int .i64 n6), (.int .i64 n7), (.int .i64 n8)])] [.one (.bool)] st4 (fun (b5 : Bool) (st5 : St) => C3 ((!b5)) (depth_1) (n_1) (n3) (b2) (b3) (s1) (n4) (n5) (n6) (n7) (n8) (s2) (v1) (v2) (v3) st5)) (C3 (false) (depth_1) (n_1) (n3) (b2) (b3) (s1) (n4) (n5) (n6) (n7) (n8) (s2) (v1) (v2) (v3) st4)))) (BIf (decide (n3 = (3 : Int))) (CallT PR fn_moment_Valid [(.agg [(.int .i64 n5), (.int .i64 n6), (.int .i64 n7), (.int .i64 n8)])] [.one (.bool)] st3 (fun (b6 : Bool) (st6 : St) => C3 ((!b6)) (depth_1) (n_1) (n3) (b2) (b3) (s1) (n4) (n5) (n6) (n7) (n8) (s2) (v1) (v2) (v3) st6)) (C3 (false) (depth_1) (n_1) (n3) (b2) (b3) (s1) (n4) (n5) (n6) (n7) (n8) (s2) (v1) (v2) (v3) st3))) ∧ ∀ (b_2 : Bool) (depth_2 : Int) (n_2 : TV) (n9 : Int) (b7 : Bool) (b8 : Bool) (s3 : List UInt8) (n10 : Int) (n11 : Int) (n12 : Int) (n13 : Int) (n14 : Int) (s4 : List UInt8) (v4 : TV) (v5 : TV) (v6 : TV) (st7 : St), C3 b_2 depth_2 n_2 n9 b7 b8 s3 n10 n11 n12 n13 n14 s4 v4 v5 v6 st7 → (BIf b_2 (K ((2 : Int)) st7) (BIf (decide (n9 = (4 : Int))) (CallT PR fn_utf_Valid [(.str s4)] [.one (.bool)] st7 (fun (b9 : Bool) (st8 : St) => BIf (!b9) (K ((5 : Int)) st8) (BIf (decide ((65536 : Int) < ((s4).length : Int))) (K ((10 : Int)) st8) (need (isSl v4) (BIf (decide ((65536 : Int) < (lenS v4 : Int))) (K ((10 : Int)) st8) (C1 (depth_2) (n_2) (n9) (b7) (b8) (s3) (n10) (n11) (n12) (n13) (n14) (s4) (v4) (v5) (v6) st8)))))) (BIf (decide ((65536 : Int) < ((s4).length : Int))) (K ((10 : Int)) st7) (need (isSl v4) (BIf (decide ((65536 : Int) < (lenS v4 : Int))) (K ((10 : Int)) st7) (C1 (depth_2) (n_2) (n9) (b7) (b8) (s3) (n10) (n11) (n12) (n13) (n14) (s4) (v4) (v5) (v6) st7))))))))))))) ∧ ∀ (depth_3 : Int) (n_3 : TV) (n15 : Int) (b10 : Bool) (b11 : Bool) (s5 : List UInt8) (n16 : Int) (n17 : Int) (n18 : Int) (n19 : Int) (n20 : Int) (s6 : List UInt8) (v7 : TV) (v8 : TV) (v9 : TV) (st9 : St), C1 depth_3 n_3 n15 b10 b11 s5 n16 n17 n18 n19 n20 s6 v7 v8 v9 st9 → (CallT PR fn_value_keys [v9] [.one (.int .i64)] st9 (fun (n21 : Int) (st10 : St) => BIf (decide (n21 ≠ (0 : Int))) (K (n21) st10) (need (isSl v8) (∃ (I1 : Int → Int → TV → TV → Int → Int → Bool → Bool → List UInt8 → Int → Int → Int → Int → Int → List UInt8 → TV → TV → TV → St → Prop) (M1 : Int → Int → TV → TV → Int → Int → Bool → Bool → List UInt8 → Int → Int → Int → Int → Int → List UInt8 → TV → TV → TV → St → Nat), (I1 ((0 : Int)) (depth_3) (n_3) (v8) ((lenS v8 : Int)) (n15) (b10) (b11) (s5) (n16) (n17) (n18) (n19) (n20) (s6) (v7) (v8) (v9) st10) ∧ ∀ (n_4 : Int) (depth_4 : Int) (n_5 : TV) (v_1 : TV) (n_6 : Int) (n22 : Int) (b12 : Bool) (b13 : Bool) (s7 : List UInt8) (n23 : Int) (n24 : Int) (n25 : Int) (n26 : Int) (n27 : Int) (s8 : List UInt8) (v10 : TV) (v11 : TV) (v12 : TV) (st11 : St), I1 n_4 depth_4 n_5 v_1 n_6 n22 b12 b13 s7 n23 n24 n25 n26 n27 s8 v10 v11 v12 st11 → (BIf (decide (n_4 < n_6)) (((0 ≤ n_4 ∧ n_4 < (lenZ 13 v_1 : Int)) ∧ optK ((ldCells st11 [] (.t (ixT 13 v_1 (Int.toNat n_4))) 0 13).map TV.agg) (fun (x3 : TV) => decA [.int .i64, .bool, .bool, .str, .int .i64, .int .i64, .int .i64, .int .i64, .int .i64, .str, .tv, .tv, .tv] x3 (fun (n28 : Int) (b14 : Bool) (b15 : Bool) (s9 : List UInt8) (n29 : Int) (n30 : Int) (n31 : Int) (n32 : Int) (n33 : Int) (s10 : List UInt8) (v13 : TV) (v14 : TV) (v15 : TV) => need (List.all [(.int .i64 n28), (.bool b14), (.bool b15), (.str s9), (.int .i64 n29), (.int .i64 n30), (.int .i64 n31), (.int .i64 n32), (.int .i64 n33), (.str s10), v13, v14, v15] oneT) (CallT PR fn_value_check [(.agg [(.int .i64 n28), (.bool b14), (.bool b15), (.str s9), (.int .i64 n29), (.int .i64 n30), (.int .i64 n31), (.int .i64 n32), (.int .i64 n33), (.str s10), v13, v14, v15]), (.int .i64 (IntKind.i64.wrap (depth_4 + (1 : Int)))), n_5] [.one (.int .i64)] st11 (fun (n34 : Int) (st12 : St) => BIf (decide (n34 ≠ (0 : Int))) (K (n34) st12) ((I1 ((IntKind.i64.wrap (n_4 + (1 : Int)))) (depth_4) (n_5) (v_1) (n_6) (n22) (b12) (b13) (s7) (n23) (n24) (n25) (n26) (n27) (s8) (v10) (v11) (v12) st12 ∧ M1 ((IntKind.i64.wrap (n_4 + (1 : Int)))) (depth_4) (n_5) (v_1) (n_6) (n22) (b12) (b13) (s7) (n23) (n24) (n25) (n26) (n27) (s8) (v10) (v11) (v12) st12 < M1 n_4 depth_4 n_5 v_1 n_6 n22 b12 b13 s7 n23 n24 n25 n26 n27 s8 v10 v11 v12 st11)))))))) (need (isSl v12) (∃ (I2 : Int → Int → TV → TV → Int → St → Prop) (M2 : Int → Int → TV → TV → Int → St → Nat), (I2 ((0 : Int)) (depth_4) (n_5) (v12) ((lenS v12 : Int)) st11) ∧ ∀ (n_7 : Int) (depth_5 : Int) (n_8 : TV) (v_2 : TV) (n_9 : Int) (st13 : St), I2 n_7 depth_5 n_8 v_2 n_9 st13 → (BIf (decide (n_7 < n_9)) (((0 ≤ n_7 ∧ n_7 < (lenZ 14 v_2 : Int)) ∧ optK ((ldCells st13 [] (.t (ixT 14 v_2 (Int.toNat n_7))) 0 14).map TV.agg) (fun (x4 : TV) => decA [.str, .int .i64, .bool, .bool, .str, .int .i64, .int .i64, .int .i64, .int .i64, .int .i64, .str, .tv, .tv, .tv] x4 (fun (s11 : List UInt8) (n35 : Int) (b16 : Bool) (b17 : Bool) (s12 : List UInt8) (n36 : Int) (n37 : Int) (n38 : Int) (n39 : Int) (n40 : Int) (s13 : List UInt8) (v16 : TV) (v17 : TV) (v18 : TV) => need (List.all [(.str s11), (.int .i64 n35), (.bool b16), (.bool b17), (.str s12), (.int .i64 n36), (.int .i64 n37), (.int .i64 n38), (.int .i64 n39), (.int .i64 n40), (.str s13), v16, v17, v18] oneT) (CallT PR fn_value_check [(.agg [(.int .i64 n35), (.bool b16), (.bool b17), (.str s12), (.int .i64 n36), (.int .i64 n37), (.int .i64 n38), (.int .i64 n39), (.int .i64 n40), (.str s13), v16, v17, v18]), (.int .i64 (IntKind.i64.wrap (depth_5 + (1 : Int)))), n_8] [.one (.int .i64)] st13 (fun (n41 : Int) (st14 : St) => BIf (decide (n41 ≠ (0 : Int))) (K (n41) st14) ((I2 ((IntKind.i64.wrap (n_7 + (1 : Int)))) (depth_5) (n_8) (v_2) (n_9) st14 ∧ M2 ((IntKind.i64.wrap (n_7 + (1 : Int)))) (depth_5) (n_8) (v_2) (n_9) st14 < M2 n_7 depth_5 n_8 v_2 n_9 st13)))))))) (K ((0 : Int)) st13))))))))))))) : CallT PR fn_value_check [(.agg [(.int .i64 v_0), (.bool v_1), (.bool v_2), (.str v_3), (.int .i64 v_4), (.int .i64 v_5), (.int .i64 v_6), (.int .i64 v_7), (.int .i64 v_8), (.str v_9), v_10, v_11, v_12]), (.int .i64 depth), (.box n 0)] [.one (.int .i64)] st K :=
  tcalls_fw (cfg := ⟨[3, 9, 12], [], []⟩) (h := (.seq .none (.seq .none (.cut ⟨[(1, .int .i64), (2, .tv)], [(3, 0, 0)], [(0, 13)], [(0, 0, .int .i64), (0, 1, .bool), (0, 2, .bool), (0, 3, .str), (0, 4, .int .i64), (0, 5, .int .i64), (0, 6, .int .i64), (0, 7, .int .i64), (0, 8, .int .i64), (0, 9, .str), (0, 10, .tv), (0, 11, .tv), (0, 12, .tv)]⟩ (.block (.seq .none (.cond .none (.seq .none (.cond .none (.cut ⟨[(27, .bool), (1, .int .i64), (2, .tv)], [(3, 0, 0)], [(0, 13)], [(0, 0, .int .i64), (0, 1, .bool), (0, 2, .bool), (0, 3, .str), (0, 4, .int .i64), (0, 5, .int .i64), (0, 6, .int .i64), (0, 7, .int .i64), (0, 8, .int .i64), (0, 9, .str), (0, 10, .tv), (0, 11, .tv), (0, 12, .tv)]⟩ .none (.cond .none (.cut ⟨[(40, .bool), (1, .int .i64), (2, .tv)], [(3, 0, 0)], [(0, 13)], [(0, 0, .int .i64), (0, 1, .bool), (0, 2, .bool), (0, 3, .str), (0, 4, .int .i64), (0, 5, .int .i64), (0, 6, .int .i64), (0, 7, .int .i64), (0, 8, .int .i64), (0, 9, .str), (0, 10, .tv), (0, 11, .tv), (0, 12, .tv)]⟩ .none .none)))))))) (.seq .none (.seq (.seq .none (.block (.loop ⟨[(91, .int .i64), (1, .int .i64), (2, .tv), (89, .tv), (90, .int .i64)], [(3, 0, 0)], [(0, 13)], [(0, 0, .int .i64), (0, 1, .bool), (0, 2, .bool), (0, 3, .str), (0, 4, .int .i64), (0, 5, .int .i64), (0, 6, .int .i64), (0, 7, .int .i64), (0, 8, .int .i64), (0, 9, .str), (0, 10, .tv), (0, 11, .tv), (0, 12, .tv)]⟩ .none))) (.seq (.seq .none (.block (.loop ⟨[(107, .int .i64), (1, .int .i64), (2, .tv), (105, .tv), (106, .int .i64)], [], [], []⟩ .none))) .none))))))) mixed (fun _ _ => Tryz.call99 _ _) Tryz.func99 (by kernel_rfl) (by kernel_rfl) h
end Go.TVF
end

section
set_option linter.unusedVariables false
namespace Go.TVF
open Go Go.Proofs
set_option maxRecDepth 100000 in
theorem vc_datakitref07_Kids (v_0 : Int) (v_1 : Bool) (v_2 : Bool) (v_3 : List UInt8) (v_4 : Int) (v_5 : Int) (v_6 : Int) (v_7 : Int) (v_8 : Int) (v_9 : List UInt8) (v_10 : TV) (v_11 : TV) (v_12 : TV) (st : St) (K : TV → St → Prop) (h : BIf (decide (v_0 ≠ (7 : Int))) (K (v_11) st) (∃ (I1 : TV → Int → Int → Bool → Bool → List UInt8 → Int → Int → Int → Int → Int → List UInt8 → TV → TV → TV → St → Prop) (M1 : TV → Int → Int → Bool → Bool → List UInt8 → Int → Int → Int → Int → Int → List UInt8 → TV → TV → TV → St → Nat), (I1 (.nilSlice) ((0 : Int)) (v_0) (v_1) (v_2) (v_3) (v_4) (v_5) (v_6) (v_7) (v_8) (v_9) (v_10) (v_11) (v_12) st) ∧ ∀ (out_1 : TV) (i_1 : Int) (n1 : Int) (b1 : Bool) (b2 : Bool) (s1 : List UInt8) (n2 : Int) (n3 : Int) (n4 : Int) (n5 : Int) (n6 : Int) (s2 : List UInt8) (v1 : TV) (v2 : TV) (v3 : TV) (st1 : St), I1 out_1 i_1 n1 b1 b2 s1 n2 n3 n4 n5 n6 s2 v1 v2 v3 st1 → (need (isSl v3) (BIf (decide (i_1 < (lenS v3 : Int))) (((0 ≤ i_1 ∧ i_1 < (lenZ 14 v3 : Int)) ∧ need (isPtr (ixT 14 v3 (Int.toNat i_1))) (optK ((ldCells st1 [] (.t (fldT (ixT 14 v3 (Int.toNat i_1)) 1)) 0 13).map TV.agg) (fun (x1 : TV) => decA [.int .i64, .bool, .bool, .str, .int .i64, .int .i64, .int .i64, .int .i64, .int .i64, .str, .tv, .tv, .tv] x1 (fun (n7 : Int) (b3 : Bool) (b4 : Bool) (s3 : List UInt8) (n8 : Int) (n9 : Int) (n10 : Int) (n11 : Int) (n12 : Int) (s4 : List UInt8) (v4 : TV) (v5 : TV) (v6 : TV) => need (List.all [(.int .i64 n7), (.bool b3), (.bool b4), (.str s3), (.int .i64 n8), (.int .i64 n9), (.int .i64 n10), (.int .i64 n11), (.int .i64 n12), (.str s4), v4, v5, v6] oneT) (appK 33 13 168 out_1 1 [(.int .i64 n7), (.bool b3), (.bool b4), (.str s3), (.int .i64 n8), (.int .i64 n9), (.int .i64 n10), (.int .i64 n11), (.int .i64 n12), (.str s4), v4, v5, v6] st1 (fun (v7 : TV) (st2 : St) => (I1 (v7) ((IntKind.i64.wrap (i_1 + (1 : Int)))) (n1) (b1) (b2) (s1) (n2) (n3) (n4) (n5) (n6) (s2) (v1) (v2) (v3) st2 ∧ M1 (v7) ((IntKind.i64.wrap (i_1 + (1 : Int)))) (n1) (b1) (b2) (s1) (n2) (n3) (n4) (n5) (n6) (s2) (v1) (v2) (v3) st2 < M1 out_1 i_1 n1 b1 b2 s1 n2 n3 n4 n5 n6 s2 v1 v2 v3 st1)))))))) (K (out_1) st1))))) : CallT PR fn_datakitref07_Kids [(.agg [(.int .i64 v_0), (.bool v_1), (.bool v_2), (.str v_3), (.int .i64 v_4), (.int .i64 v_5), (.int .i64 v_6), (.int .i64 v_7), (.int .i64 v_8), (.str v_9), v_10, v_11, v_12])] [.one (.tv)] st K :=
  tcalls_fw (cfg := ⟨[1], [], []⟩) (h := (.seq .none (.seq .none (.seq .none (.seq (.seq .none (.block (.loop ⟨[(3, .tv), (4, .int .i64)], [(1, 0, 0)], [(0, 13)], [(0, 0, .int .i64), (0, 1, .bool), (0, 2, .bool), (0, 3, .str), (0, 4, .int .i64), (0, 5, .int .i64), (0, 6, .int .i64), (0, 7, .int .i64), (0, 8, .int .i64), (0, 9, .str), (0, 10, .tv), (0, 11, .tv), (0, 12, .tv)]⟩ .none))) .none))))) mixed (fun _ _ => Tryz.call107 _ _) Tryz.func107 (by kernel_rfl) (by kernel_rfl) h
set_option maxRecDepth 100000 in
theorem vc_datakitref03_Valid (s : List UInt8) (st : St) (K : Bool → St → Prop) (h : CallT PR fn_datakitref03_Boundaries [(.str s)] [.one (.tv), .one (.bool)] st (fun (v1 : TV) (b1 : Bool) (st1 : St) => K (b1) st1)) : CallT PR fn_datakitref03_Valid [(.str s)] [.one (.bool)] st K :=
  tcalls_fw (cfg := ⟨[], [], []⟩) (h := .none) mixed (fun _ _ => Tryz.call109 _ _) Tryz.func109 (by kernel_rfl) (by kernel_rfl) h
end Go.TVF
end
