/- What the laws below rest on: a framework for Go programs, and contracts of the functions that they reach. -/
import Derived.Test.YtlbcpcdgpnppgaaDoorDgB
import Derived.Deep.Slices
import Derived.WideShapes
import Derived.ChangeArms
import Derived.OpenShut
import Derived.Lib.DecodeN
import Derived.Shelf.Small.Strs
import Derived.Shelf.Unicode.DecodeSlow
import Derived.Shelf.Unicode.DecodeAny
import Derived.Test.YtlbcpcdgpnppgaaDoorProg
import Derived.Shelf.Strings.Builder2
import Derived.Shelf.Strings.Replace
import Derived.KernelRfl
section
set_option linter.unusedVariables false
set_option linter.unusedSimpArgs false
namespace Go.TVF
open Go.RowKit (Below)
/-- A loop whose measure stands beside the relation. -/
theorem wp_loop_rel {P : Program} {Q : Exit → Act → World → Prop} {a : Act} {w : World} {c : Code} (I : Nat → Act → World → Prop) (h₀ : ∃ m, I m a w)
    (round : ∀ m a w, I m a w → c.wp P (Exit.then (fun a' w' => ∃ m', m' < m ∧ I m' a' w') Q) a w) : (Code.loop c).wp P Q a w := by
  intro b k cs
  have key : ∀ m a w, I m a w → ∃ e a' w', Q e a' w' ∧ Arrives P (lone (b.at a (.code c :: .inLoop c :: k)) cs w) b k cs e a' w' := by
    intro m
    induction m using Nat.strongRecOn with
    | _ m ih =>
      intro a w hI
      obtain ⟨e, a₁, w₁, hq, harr⟩ := round m a w hI b (.inLoop c :: k) cs
      cases e with
      | normal =>
        obtain ⟨m', hlt, hI₁⟩ := hq
        obtain ⟨e₂, a₂, w₂, hq₂, harr₂⟩ := ih m' hlt a₁ w₁ hI₁
        exact ⟨e₂, a₂, w₂, hq₂, .of_steps (Steps.trans harr (.one step_inLoop)) harr₂⟩
      | exit id => exact ⟨_, a₁, w₁, hq, .pass (x := .inLoop c) rfl (fun _ _ => .inl (by simp)) harr⟩
      | goto l => exact ⟨_, a₁, w₁, hq, .pass (x := .inLoop c) rfl (fun _ _ => .inl (by simp)) harr⟩
      | ret => exact ⟨_, a₁, w₁, hq, .pass (x := .inLoop c) rfl (fun _ _ => .inl (by simp)) harr⟩
      | panic ch => exact ⟨_, a₁, w₁, hq, .pass (x := .inLoop c) rfl (fun _ _ => .inl (by simp)) harr⟩
      | outgrown => exact ⟨_, a₁, w₁, hq, .pass (x := .inLoop c) rfl (fun _ _ => .inl (by simp)) harr⟩
  obtain ⟨m, hm⟩ := h₀
  obtain ⟨e, a', w', hq, harr⟩ := key m a w hm
  exact ⟨e, a', w', hq, .of_steps (.one step_loop) harr⟩
theorem allC_start : ∀ {cs : List CTy} {vs : List TV} {I : Fun cs (St → Prop)} {M : Fun cs (St → Nat)} {B : List TV → Nat → St → Prop} {st : St}, AllC cs I M B → decLk cs vs I (fun p => p st) → ∃ m, B vs m st
  | [], [], I, M, B, st, h, hd => ⟨_, h st hd⟩
  | [], _ :: _, I, M, B, st, h, hd => hd.elim
  | _ :: _, [], I, M, B, st, h, hd => hd.elim
  | c :: cs, v :: vs, I, M, B, st, h, hd => by
    obtain ⟨y, rfl, hd2⟩ := decT_sound hd
    exact allC_start (B := fun l => B (enc c y :: l)) (h y) hd2
theorem allC_next : ∀ {cs : List CTy} {vs : List TV} {I : Fun cs (St → Prop)} {M : Fun cs (St → Nat)} {B : List TV → Nat → St → Prop} {st : St} {m : Nat}, AllC cs I M B → decL2 cs vs I M (fun p q => p st ∧ q st < m) → ∃ m', m' < m ∧ B vs m' st
  | [], [], I, M, B, st, m, h, hd => ⟨_, hd.2, h st hd.1⟩
  | [], _ :: _, I, M, B, st, m, h, hd => hd.elim
  | _ :: _, [], I, M, B, st, m, h, hd => hd.elim
  | c :: cs, v :: vs, I, M, B, st, m, h, hd => by
    obtain ⟨y, rfl, hd2⟩ := decT_sound hd
    exact allC_next (B := fun l => B (enc c y :: l)) (h y) hd2
theorem allC1_start : ∀ {cs : List CTy} {vs : List TV} {I : Fun cs (St → Prop)} {B : List TV → St → Prop} {st : St}, AllC1 cs I B → decLk cs vs I (fun p => p st) → B vs st
  | [], [], I, B, st, h, hd => h st hd
  | [], _ :: _, I, B, st, h, hd => hd.elim
  | _ :: _, [], I, B, st, h, hd => hd.elim
  | c :: cs, v :: vs, I, B, st, h, hd => by
    obtain ⟨y, rfl, hd2⟩ := decT_sound hd
    exact allC1_start (B := fun l => B (enc c y :: l)) (h y) hd2
/-- What holds where code is left. -/
def QPost (g : Ghost) (w : World) (a0 : Act) (Q : Exit → Fr → St → Prop) (e : Exit) (a : Act) (w' : World) : Prop := RPost g w a0 (Q e) a w'
section
variable {P : Program} {cfg : Cfg} {ns nl : Nat}
theorem cwp_sound (hm : P.follows .mixedOrders = true) : ∀ (c : Code) (h : Hint) (Q : Exit → Fr → St → Prop) (fr : Fr) (st : St) (g : Ghost) (w : World) (a : Act), cwp cfg P ns nl c h Q fr st → Sim g st fr.loc w → FRel g w fr a.tmps → a.tmps.size = ns →
    c.wp P (QPost g w a Q) a w := by
  intro c
  induction c with
  | skip => intro h Q fr st g w a hc s hf hn; exact wp_skip ⟨fr, st, g, hc, s, hf, Ext.refl _ _, rfl, rfl⟩
  | region id ops draw =>
    intro h Q fr st g w a hc s hf hn
    cases draw with
    | false => exact wp_region_list (regWp_sound ops.toList fr st g w a hc s hf fun a' w' hp => hp)
    | true => exact drawWp_sound hm hc s hf fun a' w' hp => hp
  | seq x y ihx ihy =>
    intro h Q fr st g w a hc s hf hn
    have key : ∀ (hx hy : Hint), cwp cfg P ns nl x hx (thenQ (cwp cfg P ns nl y hy Q) Q) fr st → (Code.seq x y).wp P (QPost g w a Q) a w := by
      intro hx hy hcx
      refine wp_seq (wp_mono (ihx hx _ fr st g w a hcx s hf hn) fun e a' w' hq => ?_)
      obtain ⟨fr', st', g', h1, h2, h3, h4, h5⟩ := hq
      cases e with
      | normal =>
        refine wp_mono (ihy hy Q fr' st' g' w' a' h1 h2 h3 (h5.2.trans hn)) fun e a'' w'' hq2 => ?_
        exact hq2.ext h4 h5
      | _ => exact ⟨fr', st', g', h1, h2, h3, h4, h5⟩
    cases h with
    | cut k hx hy =>
      obtain ⟨R, h1, h2⟩ := hc
      refine wp_seq (wp_mono (ihx hx _ fr st g w a h1 s hf hn) fun e a' w' hq => ?_)
      obtain ⟨fr', st', g', q1, q2, q3, q4, q5⟩ := hq
      cases e with
      | normal =>
        have q1' : need (k.ok nl fr') (decLk k.tys (k.vals fr') R fun p => p st') := q1
        rw [need_iff] at q1'
        obtain ⟨w1, w2⟩ := Keep.weak (ns := ns) q1'.1 q2 q3 (q5.2.trans hn)
        have hb := allC1_start h2 q1'.2
        exact wp_mono (ihy hy Q _ st' g' w' a' hb w1 w2 (q5.2.trans hn)) fun e a'' w'' hq2 => hq2.ext q4 q5
      | _ => exact ⟨fr', st', g', q1, q2, q3, q4, q5⟩
    | none => exact key _ _ hc
    | seq p q => exact key _ _ hc
    | cond p q => exact key _ _ hc
    | block p => exact key _ _ hc
    | loop k p => exact key _ _ hc
  | cond c x y ihx ihy =>
    intro h Q fr st g w a hc s hf hn
    simp only [cwp] at hc
    split at hc
    · rename_i b hb
      have hr := sRel_op hf c
      rw [hb] at hr
      have hr' : Rel g w (.bool b) (a.eval c) := hr
      have hev : a.eval c = .bool b := by generalize a.eval c = q at hr'; cases hr'; rfl
      cases b with
      | true => exact wp_cond_true hev (ihx h.l Q fr st g w a hc s hf hn)
      | false => exact wp_cond_false hev (ihy h.r Q fr st g w a hc s hf hn)
    · exact hc.elim
  | block id x ih =>
    intro h Q fr st g w a hc s hf hn
    refine wp_block (wp_mono (ih h.l (blockQ id Q) fr st g w a hc s hf hn) fun e a' w' hq => ?_)
    obtain ⟨fr', st', g', h1, h2, h3, h4, h5⟩ := hq
    cases e with
    | exit id' =>
      simp only [blockQ] at h1
      by_cases hid : id' = id
      · subst hid
        have hbe : (id'.beq id') = true := Nat.beq_refl id'
        simp only [hbe] at h1
        simp only [Exit.inBlock, if_true]
        exact ⟨fr', st', g', h1, h2, h3, h4, h5⟩
      · have hbe : (id'.beq id) = false := by
          cases hq : id'.beq id with
          | false => rfl
          | true => exact absurd (Nat.eq_of_beq_eq_true hq) hid
        simp only [hbe] at h1
        simp only [Exit.inBlock, hid, if_false]
        exact ⟨fr', st', g', h1, h2, h3, h4, h5⟩
    | _ => exact ⟨fr', st', g', h1, h2, h3, h4, h5⟩
  | loop x ih =>
    intro h Q fr st g w a hc s hf hn
    cases h with
    | loop k hx =>
      obtain ⟨I, M, h1, h2⟩ := hc
      rw [need_iff] at h1
      refine wp_loop_rel (fun m a' w' => ∃ vals st' g', cwp cfg P ns nl x hx (thenQ (fun fr st => need (k.ok nl fr) (decL2 k.tys (k.vals fr) I M fun p q => p st ∧ q st < m)) Q) (k.frame ns nl vals) st' ∧
        Sim g' st' (k.frame ns nl vals).loc w' ∧ FRel g' w' (k.frame ns nl vals) a'.tmps ∧ Ext g w g' w' ∧ a'.defers = a.defers ∧ a'.tmps.size = a.tmps.size) ?_ ?_
      · obtain ⟨m, hm⟩ := allC_start h2 h1.2
        obtain ⟨w1, w2⟩ := Keep.weak (ns := ns) h1.1 s hf hn
        exact ⟨m, _, st, g, hm, w1, w2, Ext.refl _ _, rfl, rfl⟩
      · rintro m a' w' ⟨vals, st', g', q1, q2, q3, q4, q5⟩
        refine wp_mono (ih hx _ _ st' g' w' a' q1 q2 q3 (q5.2.trans hn)) fun e a'' w'' hq => ?_
        obtain ⟨fr2, st2, g2, r1, r2, r3, r4, r5⟩ := hq
        cases e with
        | normal =>
          have r1' : need (k.ok nl fr2) (decL2 k.tys (k.vals fr2) I M fun p q => p st2 ∧ q st2 < m) := r1
          rw [need_iff] at r1'
          obtain ⟨m', hlt, hB⟩ := allC_next h2 r1'.2
          obtain ⟨w1, w2⟩ := Keep.weak (ns := ns) r1'.1 r2 r3 (r5.2.trans (q5.2.trans hn))
          exact ⟨m', hlt, _, st2, g2, hB, w1, w2, q4.trans r4, r5.1.trans q5.1, r5.2.trans q5.2⟩
        | _ => exact ⟨fr2, st2, g2, r1, r2, r3, q4.trans r4, r5.1.trans q5.1, r5.2.trans q5.2⟩
    | _ => exact hc.elim
  | exit id => intro h Q fr st g w a hc s hf hn; exact wp_exit ⟨fr, st, g, hc, s, hf, Ext.refl _ _, rfl, rfl⟩
  | ret => intro h Q fr st g w a hc s hf hn; exact wp_ret ⟨fr, st, g, hc, s, hf, Ext.refl _ _, rfl, rfl⟩
  | _ => intro h Q fr st g w a hc s hf hn; exact hc.elim
def resOne (P : Program) (fr : Fr) (st : St) : ResultVar → Option TV
  | .tmp t => some (slotTV fr t)
  | .cell a t => match aggK P t with
    | some true => match P.cellsOf t with
      | 0 => none
      | n => (ldCells st fr.loc (fr.slots.f a) 0 n).map .agg
    | some false => ldCell st fr.loc (fr.slots.f a) 0
    | none => none
def resAll (P : Program) (fr : Fr) (st : St) : List ResultVar → Option (List TV)
  | [] => some []
  | r :: rs => match resOne P fr st r with
    | some v => (resAll P fr st rs).map (v :: ·)
    | none => none
def tupT : List TV → TV
  | [v] => v
  | vs => .tuple vs
def resT (P : Program) (fn : Func) (fr : Fr) (st : St) : Option TV := (resAll P fr st fn.results.toList).map tupT
def resOneK (P : Program) (fr : Fr) (st : St) (r : ResultVar) (k : TV → Prop) : Prop :=
  match r with
  | .tmp t => k (slotTV fr t)
  | .cell a t => match aggK P t with
    | some true => match P.cellsOf t with
      | 0 => False
      | n => optK ((ldCells st fr.loc (fr.slots.f a) 0 n).map .agg) k
    | some false => optK (ldCell st fr.loc (fr.slots.f a) 0) k
    | none => False
def resAllK (P : Program) (fr : Fr) (st : St) : List ResultVar → (List TV → Prop) → Prop
  | [], k => k []
  | r :: rs, k => resOneK P fr st r fun v => resAllK P fr st rs fun vs => k (v :: vs)
theorem resOneK_sound {P : Program} {fr : Fr} {st : St} {r : ResultVar} {k : TV → Prop} (h : resOneK P fr st r k) : ∃ v, resOne P fr st r = some v ∧ k v := by
  cases r with
  | tmp t => exact ⟨_, rfl, h⟩
  | cell a t =>
    unfold resOneK at h
    unfold resOne
    simp only at h ⊢
    cases ha : aggK P t with
    | none => rw [ha] at h; exact h.elim
    | some b =>
      rw [ha] at h
      cases b with
      | true =>
        simp only at h ⊢
        cases hn : P.cellsOf t with
        | zero => rw [hn] at h; exact h.elim
        | succ n =>
          rw [hn] at h
          exact optK_iff.1 h
      | false => exact optK_iff.1 h
theorem resAllK_sound {P : Program} {fr : Fr} {st : St} : ∀ {rs : List ResultVar} {k : List TV → Prop}, resAllK P fr st rs k → ∃ vs, resAll P fr st rs = some vs ∧ k vs
  | [], k, h => ⟨[], rfl, h⟩
  | r :: rs, k, h => by
    obtain ⟨v, h1, h2⟩ := resOneK_sound h
    obtain ⟨vs, h3, h4⟩ := resAllK_sound h2
    exact ⟨v :: vs, by simp [resAll, h1, h3], h4⟩
def retQ (P : Program) (fn : Func) (R : TV → St → Prop) : Exit → Fr → St → Prop
  | .normal, fr, st => resAllK P fr st fn.results.toList fun vs => R (tupT vs) st
  | .ret, fr, st => resAllK P fr st fn.results.toList fun vs => R (tupT vs) st
  | _, _, _ => False
def initFr (cfg : Cfg) (fn : Func) (args : List TV) : Fr := ⟨⟨fn.ntmps, fun i => match args[i]? with | some v => .t v | none => .t .undef⟩, cfg.loc.map fun _ => none⟩
theorem resOne_sound {g : Ghost} {st : St} {w : World} {fr : Fr} {tmps : Array Value} (s : Sim g st fr.loc w) (hf : FRel g w fr tmps) {r : ResultVar} {v : TV} (h : resOne P fr st r = some v) :
    ∃ u, (match r with | .tmp t => pure (tmps.getD t Go.undef) | .cell a t => do loadVar t (← asAddr (tmps.getD a Go.undef)) : Sem Value).run P w = .ok u w ∧ Rel g w v u := by
  cases r with
  | tmp t =>
    simp only [resOne, Option.some.injEq] at h
    subst h
    exact ⟨_, rfl, (hf.2 t).tv⟩
  | cell a t =>
    simp only [resOne] at h
    have hld : ∀ p, SRel g w fr.loc p (tmps.getD a Go.undef) → (loadN P st fr.loc t p).Is (.t v) → ∃ u, (do loadVar t (← asAddr (tmps.getD a Go.undef)) : Sem Value).run P w = .ok u w ∧ Rel g w v u := by
      intro p hp hl
      have hl' := hl
      obtain ⟨u, hu, hr⟩ := load_gives (P := P) s hp hl'
      have hsa : (Instr.loadAt t (tmps.getD a Go.undef)).run P w = (do loadVar t (← asAddr (tmps.getD a Go.undef)) : Sem Value).run P w := by
        generalize hq : tmps.getD a Go.undef = q at hp hu
        simp only [Instr.loadAt, Sem.run_bind]
        cases q with
        | pointer o => cases o with
          | none => simp [Instr.loadAt, Instr.sureAddr] at hu
          | some ad => simp [Instr.sureAddr, asAddr]
        | _ => simp [Instr.loadAt, Instr.sureAddr] at hu
      exact ⟨u, by rw [← hsa]; exact hu, hr⟩
    split at h
    · rename_i ha
      split at h
      · cases h
      · rename_i n hn
        refine hld _ (hf.2 a) ?_
        unfold loadN
        rw [ha]
        exact ⟨v, by
          split
          · rename_i h0; exact absurd h0 hn
          · exact h, rfl⟩
    · rename_i ha
      refine hld _ (hf.2 a) ?_
      unfold loadN
      rw [ha]
      exact ⟨v, h, rfl⟩
    · cases h
theorem resAll_sound {g : Ghost} {st : St} {w : World} {fr : Fr} {tmps : Array Value} (s : Sim g st fr.loc w) (hf : FRel g w fr tmps) : ∀ {rs : List ResultVar} {vs : List TV}, resAll P fr st rs = some vs →
    ∃ us : List Value, (rs.mapM (fun r => match r with | .tmp t => pure (tmps.getD t Go.undef) | .cell a t => do loadVar t (← asAddr (tmps.getD a Go.undef))) : Sem (List Value)).run P w = .ok us w ∧ RelL g w vs us
  | [], vs, h => by simp only [resAll, Option.some.injEq] at h; subst h; exact ⟨[], rfl, .nil _ _⟩
  | r :: rs, vs, h => by
    simp only [resAll] at h
    split at h
    · rename_i v hv
      obtain ⟨vs', hvs', rfl⟩ := Option.map_eq_some_iff.1 h
      obtain ⟨u, hu, hr⟩ := resOne_sound s hf hv
      obtain ⟨us, hus, hrs⟩ := resAll_sound s hf hvs'
      refine ⟨u :: us, ?_, .cons hr hrs⟩
      rw [List.mapM_cons]
      simp only [Sem.run_bind, hu, Result.andThen_ok, hus, Sem.run_pure]
    · cases h
theorem resT_sound {g : Ghost} {st : St} {w : World} {fr : Fr} {tmps : Array Value} (s : Sim g st fr.loc w) (hf : FRel g w fr tmps) {fn : Func} {v : TV} (h : resT P fn fr st = some v) : ∃ u, (results fn tmps).run P w = .ok u w ∧ Rel g w v u := by
  unfold resT at h
  cases hr : resAll P fr st fn.results.toList with
  | none => rw [hr] at h; cases h
  | some vs =>
    rw [hr] at h
    obtain ⟨us, hus, hrel⟩ := resAll_sound s hf hr
    have hrun : (fn.results.mapM (fun r => match r with | .tmp t => pure (tmps.getD t Go.undef) | .cell a t => do loadVar t (← asAddr (tmps.getD a Go.undef))) : Sem (Array Value)).run P w = .ok us.toArray w := by
      rw [← Array.toArray_toList (xs := fn.results), List.mapM_toArray]
      simp only [Sem.run_map, hus, Result.andThen_ok]
    refine ⟨if h : us.toArray.size = 1 then us.toArray[0] else .tuple us.toArray, ?_, ?_⟩
    · have hres : results fn tmps = (do
          let vs ← (fn.results.mapM (fun r => match r with | .tmp t => pure (tmps.getD t Go.undef) | .cell a t => do loadVar t (← asAddr (tmps.getD a Go.undef))) : Sem (Array Value))
          pure (if h : vs.size = 1 then vs[0] else .tuple vs)) := rfl
      rw [hres, Sem.run_bind, hrun]
      rfl
    · cases vs with
      | nil =>
        simp only [Option.map_some, Option.some.injEq, tupT] at h; subst h
        have : us = [] := List.eq_nil_of_length_eq_zero hrel.1.symm
        subst this
        exact Rel.tuple [] [] rfl (fun i hi => absurd hi (Nat.not_lt_zero _))
      | cons v1 vs1 => cases vs1 with
        | nil =>
          simp only [Option.map_some, Option.some.injEq, tupT] at h; subst h
          cases us with
          | nil => have := hrel.1; simp at this
          | cons u1 us1 =>
            have : us1 = [] := List.eq_nil_of_length_eq_zero (by have := hrel.1; simpa using this.symm)
            subst this
            simpa using hrel.2 0 (by simp)
        | cons v2 vs2 =>
          simp only [Option.map_some, Option.some.injEq, tupT] at h; subst h
          have hl : us.toArray.size ≠ 1 := by have := hrel.1; simp at this ⊢; omega
          rw [dif_neg hl]
          exact Rel.tuple _ us hrel.1 hrel.2
/-- A function by its text. -/
theorem tcalls_of (hm : P.follows .mixedOrders = true) {f : FuncId} {fn : Func} {c : Code} (hcall : ∀ (vs : Array Value) (w : World), (callFunc f vs).run P w = .ok (.enter f vs) w) (hf : P.funcs[f]? = some fn) (hb : fn.body = some c)
    (cfg : Cfg) (h : Hint) {args : List TV} {st : St} {R : TV → St → Prop} (hn : args.length ≤ fn.ntmps)
    (hc : cwp cfg P fn.ntmps cfg.loc.length c h (retQ P fn R) (initFr cfg fn args) st) : TCalls P f args st R := by
  refine tcalls_enter hcall fun g w vargs s hr => ?_
  refine calls_of_wp hf hb ?_
  have hlen : vargs.length = args.length := hr.1.symm
  have hsize : (vargs.toArray ++ Array.replicate (fn.ntmps - vargs.toArray.size) Go.undef).size = fn.ntmps := by simp; omega
  have hsim : Sim g st (initFr cfg fn args).loc w := s.weakLoc fun j x' hx' => by
    simp only [initFr, List.getElem?_map] at hx'
    cases hq : cfg.loc[j]? with
    | none => rw [hq] at hx'; cases hx'
    | some q => rw [hq] at hx'; simp at hx'
  have hfr : FRel g w (initFr cfg fn args) (vargs.toArray ++ Array.replicate (fn.ntmps - vargs.toArray.size) Go.undef) := by
    refine ⟨by rw [hsize]; rfl, fun i => ?_⟩
    by_cases hia : i < args.length
    · have h1 : (initFr cfg fn args).slots.f i = .t args[i] := by simp [initFr, hia]
      have h2 : (vargs.toArray ++ Array.replicate (fn.ntmps - vargs.toArray.size) Go.undef).getD i Go.undef = vargs.getD i Go.undef := by
        have : i < vargs.length := by omega
        have hin : i < fn.ntmps := by omega
        simp [Array.getD, Array.getElem_append, this, hin, List.getD_eq_getElem?_getD]
        omega
      rw [h1, h2]
      exact hr.2 i hia
    · have h1 : (initFr cfg fn args).slots.f i = .t .undef := by simp [initFr, hia]
      have h2 : (vargs.toArray ++ Array.replicate (fn.ntmps - vargs.toArray.size) Go.undef).getD i Go.undef = Go.undef := by
        have : ¬ i < vargs.length := by omega
        simp [Array.getD, Array.getElem_append, this]
      rw [h1, h2]
      exact Rel.undef
  refine wp_mono (cwp_sound hm c h _ _ st g w { tmps := vargs.toArray ++ Array.replicate (fn.ntmps - vargs.toArray.size) Go.undef, defers := [] } hc hsim hfr hsize) fun e a' w' hq => ?_
  obtain ⟨fr', st', g', h1, h2, h3, h4, h5, h6⟩ := hq
  have fin : resAllK P fr' st' fn.results.toList (fun vs => R (tupT vs) st') → a'.defers = [] ∧ ∃ v, (results fn a'.tmps).run P w' = .ok v w' ∧ ∃ v', Ending.returned v = .returned v' ∧ ∃ r st' g', R r st' ∧ Sim g' st' [] w' ∧ Rel g' w' r v' ∧ Ext g w g' w' := by
    intro ho
    obtain ⟨vs, hvs, hR⟩ := resAllK_sound ho
    obtain ⟨u, hu, hrel⟩ := resT_sound (fn := fn) h2 h3 (by unfold resT; rw [hvs]; rfl)
    exact ⟨h5, u, hu, u, rfl, _, st', g', hR, h2.dropLoc (fun j x hx => by simp at hx), hrel, h4⟩
  cases e with
  | normal => exact fin h1
  | ret => exact fin h1
  | _ => exact h1.elim
def St.zero : St := { nb := 0, box := fun _ => .dead, nt := 0, live := fun _ => false, ty := fun _ => none, bt := fun _ => none }
def Ghost.start (w : World) : Ghost := { base := w.heap.size, w0 := w, nb := 0, bk := fun _ => 0, lam := fun _ => 0, nt := 0, sp := fun _ => none, S := fun a => a.spot = none ∧ ∃ v, w.cell? a = some v, prot := fun _ => False }
theorem Sim.start (w : World) (hG : ∀ w', Below w.heap.size w w' → GlobOK w') : Sim (Ghost.start w) St.zero [] w := by
  have hd : ∀ k, ¬ Dom St.zero [] k := by
    intro k d
    cases k with
    | box i => exact absurd d (Nat.not_lt_zero _)
    | loc i => obtain ⟨x, hx⟩ := d; simp at hx
  exact ⟨rfl, rfl, Below.refl _ _, Nat.le_refl _, fun k d => absurd d (hd k), fun k k' d => absurd d (hd k), fun k d => absurd d (hd k), fun id h => absurd h (Nat.not_lt_zero _),
    fun id b l h hh => (by cases hh), fun i j b l h l' h' _ hh => (by cases hh), fun id _ => rfl, fun a ha => ⟨ha.1, ha.2, fun k d => absurd d (hd k), fun id l h hh => (by cases hh)⟩, fun b hb => hb.elim, fun id b l h hh => (by cases hh), fun id b l h T hh => (by cases hh), fun b T hb => absurd hb (Nat.not_lt_zero _), hG⟩
/-- The law's call. -/
theorem calls_true {f : FuncId} {args : List TV} (hcall : ∀ (vs : Array Value) (w : World), (callFunc f vs).run P w = .ok (.enter f vs) w) (h : TCalls P f args St.zero fun r _ => r = .bool true) (w : World) (hG : ∀ w', Below w.heap.size w w' → GlobOK w') (vargs : List Value) (hr : RelL (Ghost.start w) w args vargs) :
    Calls P f vargs.toArray w fun e w' => e = .returned (.bool true) ∧ Below w.heap.size w w' := by
  have h1 := h.run (Ghost.start w) w vargs (Sim.start w hG) hr
  unfold Done at h1
  rw [hcall] at h1
  refine Calls.mono h1 ?_
  rintro e w' ⟨v, rfl, r, st', g', rfl, s', hrel, e'⟩
  have hb := s'.below
  rw [e'.base, e'.w0] at hb
  cases hrel
  exact ⟨rfl, hb⟩
end
def bodyOf (fn : Func) : Code := match fn.body with | some c => c | none => .skip
/-- A function by its text, as a program's fact has it. -/
def Fw (cfg : Cfg) (P : Program) (h : Hint) (fn : Func) (args : List TV) (st : St) (R : TV → St → Prop) : Prop :=
  cwp cfg P fn.ntmps cfg.loc.length (bodyOf fn) h (retQ P fn R) (initFr cfg fn args) st
def fits (fn : Func) (args : List TV) : Bool := (fn.body.isSome).and (args.length.ble fn.ntmps)
theorem tcalls_fw {P : Program} (hm : P.follows .mixedOrders = true) {f : FuncId} {fn : Func} (hcall : ∀ (vs : Array Value) (w : World), (callFunc f vs).run P w = .ok (.enter f vs) w) (hf : P.funcs[f]? = some fn)
    {cfg : Cfg} {h : Hint} {args : List TV} {st : St} {R : TV → St → Prop} (hn : fits fn args = true) {V : Prop} (he : Fw cfg P h fn args st R = V) (hV : V) : TCalls P f args st R := by
  simp only [fits, Bool.and_eq_true] at hn
  obtain ⟨c, hc⟩ := Option.isSome_iff_exists.1 hn.1
  have hb : fn.body = some (bodyOf fn) := by rw [bodyOf, hc]
  rw [← he] at hV
  exact tcalls_of hm hcall hf hb cfg h (Nat.le_of_ble_eq_true hn.2) hV
/-- An aggregate, cell by cell. -/
def decA (cs : List CTy) (v : TV) (f : Fun cs Prop) : Prop :=
  match v with
  | .agg l => decL cs l f
  | _ => False
/-- A store through a pointer to a box. -/
def stB (st : St) (p : TV) (xs : List TV) (k : St → Prop) : Prop :=
  match p with
  | .box b off => ∃ l, st.box b = .cells l ∧ off + xs.length ≤ l.length ∧ k (st.put b (.cells (setAll l off xs)))
  | _ => False
theorem BIf_intro {p : Prop} [Decidable p] {x y : Prop} (h1 : p → x) (h2 : ¬ p → y) : BIf (decide p) x y := by
  by_cases h : p
  · simp only [h, decide_true, BIf]; exact h1 h
  · simp only [h, decide_false, BIf]; exact h2 h
theorem BIf_bool {b : Bool} {x y : Prop} (h1 : b = true → x) (h2 : b = false → y) : BIf b x y := by
  cases b
  · exact h2 rfl
  · exact h1 rfl
end Go.TVF
end

section
set_option linter.unusedVariables false
set_option linter.unusedSimpArgs false
namespace Go.TVF
/-- The state has grown; what was there is as it was. -/
structure StExt (a b : St) : Prop where
  nb : a.nb ≤ b.nb
  box : ∀ i, i < a.nb → b.box i = a.box i
  nt : a.nt ≤ b.nt
  live : ∀ i, i < a.nt → b.live i = a.live i
  ty : ∀ i, i < a.nt → b.ty i = a.ty i
  bt : ∀ i, i < a.nb → b.bt i = a.bt i
theorem StExt.refl (a : St) : StExt a a := ⟨Nat.le_refl _, fun _ _ => rfl, Nat.le_refl _, fun _ _ => rfl, fun _ _ => rfl, fun _ _ => rfl⟩
theorem StExt.trans {a b c : St} (h : StExt a b) (k : StExt b c) : StExt a c :=
  ⟨Nat.le_trans h.nb k.nb, fun i hi => (k.box i (Nat.lt_of_lt_of_le hi h.nb)).trans (h.box i hi), Nat.le_trans h.nt k.nt, fun i hi => (k.live i (Nat.lt_of_lt_of_le hi h.nt)).trans (h.live i hi), fun i hi => (k.ty i (Nat.lt_of_lt_of_le hi h.nt)).trans (h.ty i hi), fun i hi => (k.bt i (Nat.lt_of_lt_of_le hi h.nb)).trans (h.bt i hi)⟩
theorem StExt.fresh {a b : St} (h : StExt a b) (T : Option Nat) : StExt a (b.fresh T) :=
  h.trans ⟨Nat.le_refl _, fun _ _ => rfl, Nat.le_succ _, fun i hi => by simp only [St.fresh]; rw [if_neg (by omega)], fun i hi => by simp only [St.fresh]; rw [if_neg (by omega)], fun _ _ => rfl⟩
theorem StExt.push {a b : St} (h : StExt a b) (o : AObj) (T : Option Nat) : StExt a (b.push o T) :=
  h.trans ⟨Nat.le_succ _, fun i hi => by simp only [St.push]; rw [if_neg (by omega)], Nat.le_refl _, fun _ _ => rfl, fun _ _ => rfl, fun i hi => by simp only [St.push]; rw [if_neg (by omega)]⟩
theorem StExt.retire {a b : St} (h : StExt a b) {id : Nat} (hid : a.nt ≤ id) : StExt a (b.retire id) :=
  ⟨h.nb, h.box, h.nt, fun i hi => by simp only [St.retire]; rw [if_neg (by omega)]; exact h.live i hi, h.ty, h.bt⟩
theorem StExt.put {a b : St} (h : StExt a b) {i : Nat} (hi : a.nb ≤ i) (o : AObj) : StExt a (b.put i o) :=
  ⟨h.nb, fun j hj => by simp only [St.put]; rw [if_neg (by omega)]; exact h.box j hj, h.nt, h.live, h.ty, h.bt⟩
theorem length_bytesT (l : List UInt8) : (bytesT l).length = l.length := by simp [bytesT]
theorem asBytes_bytesT : ∀ l : List UInt8, asBytes (bytesT l) = some l
  | [] => rfl
  | c :: l => by
    have := asBytes_bytesT l
    simp only [bytesT] at this
    simp [bytesT, asBytes, byteT, asByte, this]
theorem one_bytesT (l : List UInt8) : (bytesT l).all oneT = true := by simp [bytesT, byteT, oneT]
theorem bytesT_append (a b : List UInt8) : bytesT a ++ bytesT b = bytesT (a ++ b) := by simp [bytesT]
/-- A slice that reads as n elements of sz cells. -/
def Rd (sz : Nat) (v : TV) (n : Nat) (xs : List TV) : Prop :=
  (v = .nilSlice ∧ n = 0 ∧ xs = []) ∨ ∃ tip, v = .list sz tip n xs
def RdB (v : TV) (l : List UInt8) : Prop := Rd 1 v l.length (bytesT l)
/-- A slice that the call may append to: its own from number b on. -/
def Own (b sz : Nat) (st : St) (v : TV) (n : Nat) (xs : List TV) : Prop :=
  (v = .nilSlice ∧ n = 0 ∧ xs = []) ∨ ∃ tip, v = .list sz tip n xs ∧ (tip = .full ∨ ∃ id, tip = .own id ∧ b ≤ id ∧ id < st.nt ∧ st.live id = true)
def OwnB (b : Nat) (st : St) (v : TV) (l : List UInt8) : Prop := Own b 1 st v l.length (bytesT l)
theorem Own.rd {b sz : Nat} {st : St} {v : TV} {n : Nat} {xs : List TV} (h : Own b sz st v n xs) : Rd sz v n xs := by
  rcases h with h | ⟨tip, h, _⟩
  · exact .inl h
  · exact .inr ⟨tip, h⟩
theorem OwnB.rd {b : Nat} {st : St} {v : TV} {l : List UInt8} (h : OwnB b st v l) : RdB v l := Own.rd h
theorem Own.mono {b b' sz : Nat} {st : St} {v : TV} {n : Nat} {xs : List TV} (h : Own b sz st v n xs) (hb : b' ≤ b) : Own b' sz st v n xs := by
  rcases h with h | ⟨tip, h, ht | ⟨id, h1, h2, h3, h4⟩⟩
  · exact .inl h
  · exact .inr ⟨tip, h, .inl ht⟩
  · exact .inr ⟨tip, h, .inr ⟨id, h1, Nat.le_trans hb h2, h3, h4⟩⟩
theorem Own.ext {b sz : Nat} {st st' : St} {v : TV} {n : Nat} {xs : List TV} (h : Own b sz st v n xs) (e : StExt st st') : Own b sz st' v n xs := by
  rcases h with h | ⟨tip, h, ht | ⟨id, h1, h2, h3, h4⟩⟩
  · exact .inl h
  · exact .inr ⟨tip, h, .inl ht⟩
  · exact .inr ⟨tip, h, .inr ⟨id, h1, h2, Nat.lt_of_lt_of_le h3 e.nt, (e.live id h3).trans h4⟩⟩
theorem Own.nil (b sz : Nat) (st : St) : Own b sz st .nilSlice 0 [] := .inl ⟨rfl, rfl, rfl⟩
theorem OwnB.nil (b : Nat) (st : St) : OwnB b st .nilSlice [] := Own.nil b 1 st
theorem Own.full (b sz : Nat) (st : St) (n : Nat) (xs : List TV) : Own b sz st (.list sz .full n xs) n xs := .inr ⟨_, rfl, .inl rfl⟩
theorem Own.fresh {b sz : Nat} {st : St} {T : Option Nat} (n : Nat) (xs : List TV) (hb : b ≤ st.nt) : Own b sz (st.fresh T) (.list sz (.own st.nt) n xs) n xs :=
  .inr ⟨_, rfl, .inr ⟨st.nt, rfl, hb, Nat.lt_succ_self _, by simp [St.fresh]⟩⟩
theorem OwnB.fresh {b : Nat} {st : St} {T : Option Nat} (l : List UInt8) (hb : b ≤ st.nt) : OwnB b (st.fresh T) (.list 1 (.own st.nt) l.length (bytesT l)) l := Own.fresh l.length (bytesT l) hb
theorem Rd.isSl {sz : Nat} {v : TV} {n : Nat} {xs : List TV} (h : Rd sz v n xs) : TVF.isSl v = true := by
  rcases h with ⟨rfl, _⟩ | ⟨tip, rfl⟩ <;> rfl
theorem Rd.lenS {sz : Nat} {v : TV} {n : Nat} {xs : List TV} (h : Rd sz v n xs) : TVF.lenS v = n := by
  rcases h with ⟨rfl, rfl, _⟩ | ⟨tip, rfl⟩ <;> rfl
theorem Rd.lenZ {sz : Nat} {v : TV} {n : Nat} {xs : List TV} (h : Rd sz v n xs) : TVF.lenZ sz v = n := by
  rcases h with ⟨rfl, rfl, _⟩ | ⟨tip, rfl⟩
  · rfl
  · simp [TVF.lenZ]
theorem Rd.isLst {sz : Nat} {v : TV} {n : Nat} {xs : List TV} (h : Rd sz v n xs) : TVF.isLst sz v = true := by
  rcases h with ⟨rfl, rfl, _⟩ | ⟨tip, rfl⟩
  · rfl
  · simp [TVF.isLst]
theorem Rd.one {sz : Nat} {v : TV} {n : Nat} {xs : List TV} (h : Rd sz v n xs) : oneT v = true := by
  rcases h with ⟨rfl, rfl, _⟩ | ⟨tip, rfl⟩ <;> rfl
theorem Rd.ld {sz : Nat} {v : TV} {n : Nat} {xs : List TV} (h : Rd sz v n xs) (st : St) (i j : Nat) (hi : i * sz + j < xs.length) : ldCell st [] (.t (ixT sz v i)) j = some xs[i * sz + j] := by
  rcases h with ⟨rfl, rfl, rfl⟩ | ⟨tip, rfl⟩
  · simp at hi
  · simp [ldCell, ixT, hi]
theorem Rd.ldf {sz : Nat} {v : TV} {n : Nat} {xs : List TV} (h : Rd sz v n xs) (st : St) (i f : Nat) (hi : i * sz + f < xs.length) : ldCell st [] (.t (fldT (ixT sz v i) f)) 0 = some xs[i * sz + f] := by
  rcases h with ⟨rfl, rfl, rfl⟩ | ⟨tip, rfl⟩
  · simp at hi
  · simp [ldCell, ixT, fldT, hi]
theorem RdB.ld {v : TV} {l : List UInt8} (h : RdB v l) (st : St) (i : Nat) (hi : i < l.length) : ldCell st [] (.t (ixT 1 v i)) 0 = some (byteT l[i]) := by
  have := Rd.ld h st i 0 (by simp [length_bytesT, hi])
  simpa [bytesT] using this
theorem RdB.toBytes {v : TV} {l : List UInt8} (h : RdB v l) (st : St) : TVF.toBytes st v = some l := by
  rcases h with ⟨rfl, h1, h2⟩ | ⟨tip, rfl⟩
  · have : l = [] := List.eq_nil_of_length_eq_zero h1
    subst this; rfl
  · simp [TVF.toBytes, asBytes_bytesT]
theorem RdB.src {v : TV} {l : List UInt8} (h : RdB v l) (st : St) : appSrc st 1 v = some (l.length, bytesT l) := by
  rcases h with ⟨rfl, h1, h2⟩ | ⟨tip, rfl⟩
  · have : l = [] := List.eq_nil_of_length_eq_zero h1
    subst this; rfl
  · simp [appSrc]
theorem src_str (st : St) (l : List UInt8) : appSrc st 1 (.str l) = some (l.length, bytesT l) := rfl
theorem appK_own {T b sz bytes : Nat} {st0 st : St} {v : TV} {n k : Nat} {xs ys : List TV} {K : TV → St → Prop} (e : StExt st0 st) (hb : b = st0.nt) (h : Own b sz st v n xs) (hby : (n + k) * bytes ≤ 140737488355328) (hys : k = 0 → ys = [])
    (hK : ∀ v' st', StExt st0 st' → st'.box = st.box → Own b sz st' v' (n + k) (xs ++ ys) → K v' st') : appK T sz bytes v k ys st K := by
  subst hb
  rcases h with ⟨rfl, rfl, rfl⟩ | ⟨tip, rfl, ht⟩
  · simp only [appK]
    cases k with
    | zero => rw [hys rfl] at hK; exact hK _ _ e rfl (.nil _ _ _)
    | succ m =>
      simp only [need_iff]
      refine ⟨by simpa using hby, hK _ _ (e.fresh _) rfl ?_⟩
      simp only [List.nil_append, Nat.zero_add]
      exact Own.fresh _ _ e.nt
  · simp only [appK, Nat.beq_refl]
    refine ⟨hby, ?_⟩
    rcases ht with rfl | ⟨id, rfl, h1, h2, h3⟩
    · cases k with
      | zero => rw [hys rfl] at hK; simp only [List.append_nil] at hK; exact hK _ _ e rfl (Own.full _ _ _ _ _)
      | succ m => exact hK _ _ (e.fresh _) rfl (Own.fresh _ _ e.nt)
    · exact ⟨h3, hK _ _ ((e.retire h1).fresh _) rfl (Own.fresh (st := st.retire id) _ _ e.nt)⟩
theorem need_intro {b : Bool} {k : Prop} (h : b = true) (hk : k) : need b k := need_iff.2 ⟨h, hk⟩
theorem optK_intro {α : Type} {o : Option α} {x : α} {k : α → Prop} (h : o = some x) (hk : k x) : optK o k := by rw [h]; exact hk
/-- Results handed on. -/
theorem CallT.mono {P : Go.Program} {f : Nat} {args : List TV} {sh : List RTy} {st : St} {K K' : FunR sh (St → Prop)} (h : CallT P f args sh st K) (hk : ∀ r st', decRet sh r K (fun p => p st') → decRet sh r K' (fun p => p st')) : CallT P f args sh st K' :=
  TCalls.mono h hk
/-- Sums that fit. -/
theorem wrap64 (x : Int) (h1 : -9223372036854775808 ≤ x) (h2 : x ≤ 9223372036854775807) : IntKind.wrap .i64 x = x := by
  unfold IntKind.wrap
  simp only [IntKind.signed, IntKind.bits]
  simp
  omega
theorem wrapU8 (x : Int) (h1 : 0 ≤ x) (h2 : x ≤ 255) : IntKind.wrap .u8 x = x := by
  unfold IntKind.wrap
  simp only [IntKind.signed, IntKind.bits]
  simp
  omega
end Go.TVF
end

section
set_option linter.unusedVariables false
set_option linter.unusedSimpArgs false
namespace Go.TVF
open Go.RowKit (Below)
theorem bool_ret {r : TV} {st' : St} (h : decRet [.one .bool] r (fun (b : Bool) (_ : St) => b = true) (fun p => p st')) : r = .bool true := by
  cases r <;> simp only [decRet, decRs, decT] at h <;> first | exact h.elim | skip
  subst h; rfl
theorem calls_law {P : Program} {f : FuncId} {args : List TV} (hcall : ∀ (vs : Array Value) (w : World), (callFunc f vs).run P w = .ok (.enter f vs) w) (h : CallT P f args [.one .bool] St.zero (fun r _ => r = true)) (w : World) (hG : ∀ w', Below w.heap.size w w' → GlobOK w') (vargs : List Value) (hr : RelL (Ghost.start w) w args vargs) :
    Calls P f vargs.toArray w fun e w' => e = .returned (.bool true) ∧ Below w.heap.size w w' :=
  calls_true hcall (TCalls.mono h fun r st' hd => bool_ret hd) w hG vargs hr
theorem rel_string (g : Ghost) (w : World) (s : ByteArray) : Rel g w (.str s.data.toList) (.string s) := by
  have := Rel.str (g := g) (w := w) s.data.toList
  simpa using this
def flatIs : List CTy → List TV → Prop
  | [], xs => xs = []
  | .int k :: cs, xs => ∃ n ys, xs = .int k n :: ys ∧ (Lit.int k n).wf = true ∧ flatIs cs ys
  | .str :: cs, xs => ∃ l ys, xs = .str l :: ys ∧ l.length ≤ maxLen ∧ flatIs cs ys
  | .bool :: cs, xs => ∃ b ys, xs = .bool b :: ys ∧ flatIs cs ys
  | .tv :: _, _ => False
def CellTy (P : Program) : CTy → TypeId → Prop
  | .int k, t => P.underlying t = some (.int k)
  | .bool, t => P.underlying t = some .bool
  | .str, t => P.underlying t = some .string
  | .tv, _ => False
def FieldsTy (P : Program) : List CTy → List Field → Nat → Prop
  | [], [], _ => True
  | c :: cs, f :: fs, o => f.offset = o ∧ P.cellsOf f.type = 1 ∧ CellTy P c f.type ∧ FieldsTy P cs fs (o + 1)
  | _, _, _ => False
section
variable {H : Type} {enc : TypeId × Value → H} {P : Program} {w : World} {base : Nat} {sp : Nat → Bool} {held : Bool}
theorem open_cell {c : CTy} {t : TypeId} {fuel : Nat} {cs : List Value} {x : DataW H × List MemPlace} (g : Ghost) (hc : CellTy P c t) (h : DataW.trod enc P w base sp held fuel t cs = some x) :
    ∃ v u, cs = [u] ∧ Rel g w v u ∧ flatIs [c] [v] := by
  cases c with
  | int k =>
    obtain ⟨n, rfl, _, hw⟩ := DataW.trod_int hc h
    exact ⟨_, _, rfl, .int k n, n, [], rfl, hw, rfl⟩
  | bool =>
    obtain ⟨b, rfl, _⟩ := DataW.trod_bool hc h
    exact ⟨_, _, rfl, .bool b, b, [], rfl, rfl⟩
  | str =>
    obtain ⟨s, rfl, _, hs⟩ := DataW.trod_string hc h
    exact ⟨_, _, rfl, rel_string g w s, _, [], rfl, by rw [Array.length_toList]; exact hs, rfl⟩
  | tv => exact hc.elim
theorem flatIs.cons {c : CTy} {cs : List CTy} {v : TV} {xs : List TV} (h : flatIs [c] [v]) (k : flatIs cs xs) : flatIs (c :: cs) (v :: xs) := by
  cases c with
  | int _ =>
    obtain ⟨n, ys, h1, h2, _⟩ := h
    simp only [List.cons.injEq] at h1
    exact ⟨n, xs, by rw [h1.1], h2, k⟩
  | bool =>
    obtain ⟨b, ys, h1, _⟩ := h
    simp only [List.cons.injEq] at h1
    exact ⟨b, xs, by rw [h1.1], k⟩
  | str =>
    obtain ⟨l, ys, h1, h2, _⟩ := h
    simp only [List.cons.injEq] at h1
    exact ⟨l, xs, by rw [h1.1], h2, k⟩
  | tv => exact h.elim
theorem open_fields {n : Nat} {vs : List Value} (g : Ghost) : ∀ (cs : List CTy) (fs : List Field) (o : Nat) (xs : List (DataW H × List MemPlace)), FieldsTy P cs fs o → xs.length = fs.length → vs.length = o + cs.length →
    (∀ (i : Nat) (f : Field), fs[i]? = some f → DataW.trod enc P w base sp held n f.type ((vs.drop f.offset).take (P.cellsOf f.type)) = xs[i]?) → ∃ tv, RelL g w tv (vs.drop o) ∧ flatIs cs tv
  | [], [], o, xs, _, _, hl, _ => ⟨[], by rw [List.drop_of_length_le (by simp at hl; omega)]; exact .nil _ _, rfl⟩
  | c :: cs, f :: fs, o, [], _, hx, _, _ => by simp at hx
  | c :: cs, f :: fs, o, x :: xs, ht, hx, hl, hd => by
    obtain ⟨h1, h2, h3, h4⟩ := ht
    have hd0 := hd 0 f rfl
    rw [h1, h2] at hd0
    obtain ⟨v, u, hu, hr, hf⟩ := open_cell g h3 hd0
    obtain ⟨tv, hr', hf'⟩ := open_fields (n := n) (vs := vs) g cs fs (o + 1) xs h4 (by simpa using hx) (by simp at hl; omega) (fun i f' hi => by simpa using hd (i + 1) f' (by simpa using hi))
    refine ⟨v :: tv, ?_, hf.cons hf'⟩
    have hlt : o < vs.length := by simp at hl; omega
    rw [List.drop_eq_getElem_cons hlt]
    rw [List.drop_eq_getElem_cons hlt] at hu
    simp only [List.take_succ_cons, List.take_zero, List.cons.injEq] at hu
    rw [hu.1]
    exact .cons hr hr'
  | [], f :: fs, o, xs, ht, _, _, _ => ht.elim
  | c :: cs, [], o, xs, ht, _, _, _ => ht.elim
theorem add_plain0 (b off i : Nat) : (⟨b, off, none⟩ : Addr).add i = ⟨b, off + i, none⟩ := by
  unfold Addr.add; split
  · rename_i h; subst h; rfl
  · rfl
/-- How the cells of a type's element are opened. -/
def Opens (enc : TypeId × Value → H) (P : Program) (w : World) (base : Nat) (sp : Nat → Bool) (held : Bool) (cs : List CTy) (e : TypeId) : Prop :=
  ∀ (g : Ghost) n vs x, DataW.trod enc P w base sp held n e vs = some x → ∃ tv, RelL g w tv vs ∧ flatIs cs tv
theorem opens_struct {cs : List CTy} {e : TypeId} {fs : Array Field} (ht : P.underlying e = some (.struct fs)) (hf : FieldsTy P cs fs.toList 0) (hc : P.cellsOf e = cs.length) : Opens enc P w base sp held cs e := fun g n vs x hd => by
  obtain ⟨xs, m, rfl, _, hl, hx, hi⟩ := DataW.trod_struct ht hd
  have := open_fields (enc := enc) (P := P) (w := w) (base := base) (sp := sp) (held := held) (n := m) (vs := vs) g cs fs.toList 0 xs hf (by simpa using hx) (by omega) (fun i f h => hi i f (by simpa using h))
  simpa using this
end
end Go.TVF
end

section
set_option linter.unusedVariables false
set_option linter.unusedSimpArgs false
namespace Go.TVF
open Go
theorem or_i64 (x y : Nat) (hx : x < 2 ^ 63) (hy : y < 2 ^ 63) : bitsI .or .i64 (x : Int) (y : Int) = ((x ||| y : Nat) : Int) := by
  have h : x ||| y < 2 ^ 63 := Nat.or_lt_two_pow hx hy
  show IntKind.wrap .i64 ((BitVec.ofInt 64 (x : Int) ||| BitVec.ofInt 64 (y : Int)).toNat : Int) = _
  simp only [BitVec.ofInt_natCast, BitVec.toNat_or, BitVec.toNat_ofNat]
  rw [Nat.mod_eq_of_lt (by omega), Nat.mod_eq_of_lt (by omega), wrap64 _ (by omega) (by omega)]
theorem and_i64 (x y : Nat) (hx : x < 2 ^ 63) (hy : y < 2 ^ 63) : bitsI .and .i64 (x : Int) (y : Int) = ((x &&& y : Nat) : Int) := by
  have h : x &&& y < 2 ^ 63 := Nat.and_lt_two_pow _ hy
  show IntKind.wrap .i64 ((BitVec.ofInt 64 (x : Int) &&& BitVec.ofInt 64 (y : Int)).toNat : Int) = _
  simp only [BitVec.ofInt_natCast, BitVec.toNat_and, BitVec.toNat_ofNat]
  rw [Nat.mod_eq_of_lt (by omega), Nat.mod_eq_of_lt (by omega), wrap64 _ (by omega) (by omega)]
theorem and_u8 (x y : Nat) (hx : x < 2 ^ 8) (hy : y < 2 ^ 8) : bitsI .and .u8 (x : Int) (y : Int) = ((x &&& y : Nat) : Int) := by
  have h : x &&& y < 2 ^ 8 := Nat.and_lt_two_pow _ hy
  show IntKind.wrap .u8 ((BitVec.ofInt 8 (x : Int) &&& BitVec.ofInt 8 (y : Int)).toNat : Int) = _
  simp only [BitVec.ofInt_natCast, BitVec.toNat_and, BitVec.toNat_ofNat]
  rw [Nat.mod_eq_of_lt (by omega), Nat.mod_eq_of_lt (by omega), wrapU8 _ (by omega) (by omega)]
theorem or_add (a b m : Nat) (hb : b < 2 ^ m) (h : a * 2 ^ m + b < 2 ^ 63) : bitsI .or .i64 ((a * 2 ^ m : Nat) : Int) (b : Int) = ((a * 2 ^ m + b : Nat) : Int) := by
  have hb' : b < 2 ^ 63 := by omega
  rw [or_i64 _ _ (by omega) hb', Nat.mul_comm a, Nat.two_pow_add_eq_or_of_lt hb]
theorem and_mask (a m : Nat) (ha : a < 2 ^ 63) (hm : m < 63) : bitsI .and .i64 (a : Int) ((2 ^ m - 1 : Nat) : Int) = ((a % 2 ^ m : Nat) : Int) := by
  have : 2 ^ m < 2 ^ 63 := Nat.pow_lt_pow_right (by decide) hm
  rw [and_i64 _ _ ha (by omega), Nat.and_two_pow_sub_one_eq_mod]
theorem wrapB8 (n : Nat) (h : n ≤ 255) : IntKind.wrap .i64 (n : Int) = n := wrap64 _ (by omega) (by omega)
theorem getD_take {α : Type} (l : List α) (i : Nat) (d : α) (h : i < l.length) : l.take (i + 1) = l.take i ++ [l.getD i d] := by
  rw [List.take_add_one, List.getElem?_eq_getElem h, List.getD, List.getElem?_eq_getElem h]; rfl
theorem shr_i64 (x m : Nat) (h : m ≤ 64) : Int.fdiv (x : Int) (2 ^ (min m (IntKind.bits .i64))) = ((x / 2 ^ m : Nat) : Int) := by
  rw [show min m (IntKind.bits .i64) = m from Nat.min_eq_left h, show (2 : Int) ^ m = ((2 ^ m : Nat) : Int) by simp, Int.fdiv_eq_ediv_of_nonneg _ (Int.natCast_nonneg _)]
  rfl
theorem getD_drop {α : Type} (l : List α) (i j : Nat) (d : α) : (l.drop i).getD j d = l.getD (i + j) d := by
  simp [List.getD, List.getElem?_drop]
theorem drop_cons {α : Type} (l : List α) (i : Nat) (d : α) (h : i < l.length) : l.drop i = l.getD i d :: l.drop (i + 1) := by
  rw [List.drop_eq_getElem_cons h, List.getD, List.getElem?_eq_getElem h]; rfl
theorem take_drop_sub {α : Type} (l : List α) (i j : Nat) : (l.take j).drop i = (l.drop i).take (j - i) := by
  rw [List.drop_take]
/-- The number of a byte of a text (0 behind its end). -/
def bt (l : List UInt8) (i : Nat) : Nat := (l.getD i 0).toNat
theorem bt_lt (l : List UInt8) (i : Nat) : bt l i < 256 := (l.getD i 0).toNat_lt
theorem bt_drop (l : List UInt8) (i j : Nat) : bt (l.drop i) j = bt l (i + j) := by simp [bt, getD_drop]
/-- Decoding at the head: the character and how many bytes; (65533, 1) where none begins. -/
def dN (l : List UInt8) : Nat × Nat := Lib.decodeN l.length (bt l 0) (bt l 1) (bt l 2) (bt l 3)
/-- How many bytes the character at the head has; 0: none begins there. -/
def ul (l : List UInt8) : Nat := if l = [] ∨ dN l = (65533, 1) then 0 else (dN l).2
def ur (l : List UInt8) : Nat := (dN l).1
def isChar (r : Nat) : Prop := r ≤ 1114111 ∧ (r < 55296 ∨ 57343 < r)
instance (r : Nat) : Decidable (isChar r) := by unfold isChar; infer_instance
def encU (r : Nat) : List UInt8 :=
  if r < 128 then [UInt8.ofNat r] else if r < 2048 then [UInt8.ofNat (192 + r / 64), UInt8.ofNat (128 + r % 64)]
  else if r < 65536 then [UInt8.ofNat (224 + r / 4096), UInt8.ofNat (128 + r / 64 % 64), UInt8.ofNat (128 + r % 64)]
  else [UInt8.ofNat (240 + r / 262144), UInt8.ofNat (128 + r / 4096 % 64), UInt8.ofNat (128 + r / 64 % 64), UInt8.ofNat (128 + r % 64)]
theorem ofNat_eq (n : Nat) (c : UInt8) : UInt8.ofNat n = c ↔ n % 256 = c.toNat := by
  rw [← UInt8.toNat_inj]; simp
theorem take_one (l : List UInt8) (h : 1 ≤ l.length) : l.take 1 = [l.getD 0 0] := by
  rw [getD_take l 0 0 (by omega)]; rfl
theorem take_two (l : List UInt8) (h : 2 ≤ l.length) : l.take 2 = [l.getD 0 0, l.getD 1 0] := by
  rw [getD_take l 1 0 (by omega), take_one l (by omega)]; rfl
theorem take_three (l : List UInt8) (h : 3 ≤ l.length) : l.take 3 = [l.getD 0 0, l.getD 1 0, l.getD 2 0] := by
  rw [getD_take l 2 0 (by omega), take_two l (by omega)]; rfl
theorem take_four (l : List UInt8) (h : 4 ≤ l.length) : l.take 4 = [l.getD 0 0, l.getD 1 0, l.getD 2 0, l.getD 3 0] := by
  rw [getD_take l 3 0 (by omega), take_three l (by omega)]; rfl
/-- The size that a first byte announces, and its bits. -/
def rsz (b0 : Nat) : Nat := if 240 ≤ b0 then 4 else if 224 ≤ b0 then 3 else if 192 ≤ b0 then 2 else 1
def rb0 (b0 : Nat) : Nat := if 240 ≤ b0 then b0 % 8 else if 224 ≤ b0 then b0 % 16 else if 192 ≤ b0 then b0 % 32 else b0
def racc (l : List UInt8) (r0 : Nat) : Nat → Nat
  | 0 => r0
  | j + 1 => racc l r0 j * 64 + bt l (j + 1) % 64
theorem racc_lt (l : List UInt8) (r0 : Nat) (h : r0 < 256) : ∀ j, racc l r0 j < 256 * 64 ^ j
  | 0 => by simpa [racc] using h
  | j + 1 => by
    have := racc_lt l r0 h j
    have h2 := Nat.mod_lt (bt l (j + 1)) (show 0 < 64 by omega)
    simp only [racc, Nat.pow_succ]
    omega
theorem rb0_lt (b0 : Nat) (h : b0 < 256) : rb0 b0 < 256 := by
  unfold rb0
  repeat' split
  all_goals omega
theorem rsz_le (b0 : Nat) : 1 ≤ rsz b0 ∧ rsz b0 ≤ 4 := by
  unfold rsz
  repeat' split
  all_goals omega
/-- Decoding by encoding again. -/
def refU (l : List UInt8) : Nat × Nat :=
  let size := rsz (bt l 0)
  let r := racc l (rb0 (bt l 0)) (size - 1)
  if l.length < size then (0, 0) else if isChar r ∧ encU r = l.take size then (r, size) else (0, 0)
theorem cons_eq2 {a b : UInt8} {x y : List UInt8} : (a :: x = b :: y) ↔ a = b ∧ x = y := by simp
set_option maxHeartbeats 4000000 in
theorem refU_eq (l : List UInt8) (h : l ≠ []) : refU l = if ul l = 0 then (0, 0) else (ur l, ul l) := by
  have hl : 1 ≤ l.length := by cases l with | nil => exact absurd rfl h | cons a r => simp
  have h0 := bt_lt l 0
  have h1 := bt_lt l 1
  have h2 := bt_lt l 2
  have h3 := bt_lt l 3
  have e0 : (l.getD 0 0).toNat = bt l 0 := rfl
  have e1 : (l.getD 1 0).toNat = bt l 1 := rfl
  have e2 : (l.getD 2 0).toNat = bt l 2 := rfl
  have e3 : (l.getD 3 0).toNat = bt l 3 := rfl
  have hul : ul l = if dN l = (65533, 1) then 0 else (dN l).2 := by simp [ul, h]
  rw [hul, ur]
  unfold dN
  generalize hb0 : bt l 0 = b0 at *
  generalize hb1 : bt l 1 = b1 at *
  generalize hb2 : bt l 2 = b2 at *
  generalize hb3 : bt l 3 = b3 at *
  unfold refU
  simp only [hb0]
  by_cases c4 : 240 ≤ b0
  · have r4 : rsz b0 = 4 := by unfold rsz; rw [if_pos c4]
    have rb : rb0 b0 = b0 % 8 := by unfold rb0; rw [if_pos c4]
    rw [r4, rb]
    simp only [Nat.reduceSub, racc, hb1, hb2, hb3, Nat.zero_add, Nat.reduceAdd]
    by_cases hn : l.length < 4
    · rw [if_pos hn]
      have : Lib.decodeN l.length b0 b1 b2 b3 = (65533, 1) := by
        unfold Lib.decodeN
        rw [if_neg (by omega), if_neg (by omega), if_neg (by omega), if_neg (by omega)]
      rw [this]; simp
    · rw [if_neg hn]
      have hEnc : (isChar (((b0 % 8 * 64 + b1 % 64) * 64 + b2 % 64) * 64 + b3 % 64) ∧ encU (((b0 % 8 * 64 + b1 % 64) * 64 + b2 % 64) * 64 + b3 % 64) = l.take 4) ↔ (b0 / 8 = 30 ∧ b1 / 64 = 2 ∧ b2 / 64 = 2 ∧ b3 / 64 = 2 ∧ 65536 ≤ ((b0 % 8 * 64 + b1 % 64) * 64 + b2 % 64) * 64 + b3 % 64 ∧ ((b0 % 8 * 64 + b1 % 64) * 64 + b2 % 64) * 64 + b3 % 64 ≤ 1114111) := by
        rw [take_four l (by omega)]
        generalize hr : ((b0 % 8 * 64 + b1 % 64) * 64 + b2 % 64) * 64 + b3 % 64 = r
        unfold isChar encU
        by_cases k1 : r < 128
        · rw [if_pos k1]; simp; omega
        · rw [if_neg k1]
          by_cases k2 : r < 2048
          · rw [if_pos k2]; simp; omega
          · rw [if_neg k2]
            by_cases k3 : r < 65536
            · rw [if_pos k3]; simp; omega
            · rw [if_neg k3]
              simp only [cons_eq2, ofNat_eq, e0, e1, e2, e3, and_true]
              omega
      by_cases hE : b0 / 8 = 30 ∧ b1 / 64 = 2 ∧ b2 / 64 = 2 ∧ b3 / 64 = 2 ∧ 65536 ≤ ((b0 % 8 * 64 + b1 % 64) * 64 + b2 % 64) * 64 + b3 % 64 ∧ ((b0 % 8 * 64 + b1 % 64) * 64 + b2 % 64) * 64 + b3 % 64 ≤ 1114111
      · rw [if_pos (hEnc.2 hE)]
        have : Lib.decodeN l.length b0 b1 b2 b3 = (((b0 % 8 * 64 + b1 % 64) * 64 + b2 % 64) * 64 + b3 % 64, 4) := by
          unfold Lib.decodeN
          rw [if_neg (by omega), if_neg (by omega), if_neg (by omega), if_pos (by omega), if_pos (by omega)]
          simp only [Prod.mk.injEq, and_true]; omega
        rw [this]; simp
      · rw [if_neg (fun hh => hE (hEnc.1 hh))]
        have : Lib.decodeN l.length b0 b1 b2 b3 = (65533, 1) := by
          unfold Lib.decodeN
          rw [if_neg (by omega), if_neg (by omega), if_neg (by omega)]
          split
          · rw [if_neg (by omega)]
          · rfl
        rw [this]; simp
  · by_cases c3 : 224 ≤ b0
    · have r4 : rsz b0 = 3 := by unfold rsz; rw [if_neg c4, if_pos c3]
      have rb : rb0 b0 = b0 % 16 := by unfold rb0; rw [if_neg c4, if_pos c3]
      rw [r4, rb]
      simp only [Nat.reduceSub, racc, hb1, hb2, Nat.zero_add, Nat.reduceAdd]
      by_cases hn : l.length < 3
      · rw [if_pos hn]
        have : Lib.decodeN l.length b0 b1 b2 b3 = (65533, 1) := by
          unfold Lib.decodeN
          rw [if_neg (by omega), if_neg (by omega), if_neg (by omega), if_neg (by omega)]
        rw [this]; simp
      · rw [if_neg hn]
        have hEnc : (isChar ((b0 % 16 * 64 + b1 % 64) * 64 + b2 % 64) ∧ encU ((b0 % 16 * 64 + b1 % 64) * 64 + b2 % 64) = l.take 3) ↔ (b1 / 64 = 2 ∧ b2 / 64 = 2 ∧ 2048 ≤ (b0 % 16 * 64 + b1 % 64) * 64 + b2 % 64 ∧ isChar ((b0 % 16 * 64 + b1 % 64) * 64 + b2 % 64)) := by
          rw [take_three l (by omega)]
          generalize hr : (b0 % 16 * 64 + b1 % 64) * 64 + b2 % 64 = r
          unfold isChar encU
          by_cases k1 : r < 128
          · rw [if_pos k1]; simp; omega
          · rw [if_neg k1]
            by_cases k2 : r < 2048
            · rw [if_pos k2]; simp; omega
            · rw [if_neg k2]
              by_cases k3 : r < 65536
              · rw [if_pos k3]
                simp only [cons_eq2, ofNat_eq, e0, e1, e2, and_true]
                omega
              · omega
        by_cases hE : b1 / 64 = 2 ∧ b2 / 64 = 2 ∧ 2048 ≤ (b0 % 16 * 64 + b1 % 64) * 64 + b2 % 64 ∧ isChar ((b0 % 16 * 64 + b1 % 64) * 64 + b2 % 64)
        · rw [if_pos (hEnc.2 hE)]
          have : Lib.decodeN l.length b0 b1 b2 b3 = ((b0 % 16 * 64 + b1 % 64) * 64 + b2 % 64, 3) := by
            unfold isChar at hE
            unfold Lib.decodeN
            rw [if_neg (by omega), if_neg (by omega), if_pos (by omega), if_pos (by omega)]
            simp only [Prod.mk.injEq, and_true]; omega
          rw [this]; simp
        · rw [if_neg (fun hh => hE (hEnc.1 hh))]
          have : Lib.decodeN l.length b0 b1 b2 b3 = (65533, 1) := by
            unfold isChar at hE
            unfold Lib.decodeN
            rw [if_neg (by omega), if_neg (by omega)]
            split
            · rw [if_neg (by omega)]
            · rw [if_neg (by omega)]
          rw [this]; simp
    · by_cases c2 : 192 ≤ b0
      · have r4 : rsz b0 = 2 := by unfold rsz; rw [if_neg c4, if_neg c3, if_pos c2]
        have rb : rb0 b0 = b0 % 32 := by unfold rb0; rw [if_neg c4, if_neg c3, if_pos c2]
        rw [r4, rb]
        simp only [Nat.reduceSub, racc, hb1, Nat.zero_add, Nat.reduceAdd]
        by_cases hn : l.length < 2
        · rw [if_pos hn]
          have : Lib.decodeN l.length b0 b1 b2 b3 = (65533, 1) := by
            unfold Lib.decodeN
            rw [if_neg (by omega), if_neg (by omega), if_neg (by omega), if_neg (by omega)]
          rw [this]; simp
        · rw [if_neg hn]
          have hEnc : (isChar (b0 % 32 * 64 + b1 % 64) ∧ encU (b0 % 32 * 64 + b1 % 64) = l.take 2) ↔ (b1 / 64 = 2 ∧ 128 ≤ b0 % 32 * 64 + b1 % 64) := by
            rw [take_two l (by omega)]
            generalize hr : b0 % 32 * 64 + b1 % 64 = r
            unfold isChar encU
            by_cases k1 : r < 128
            · rw [if_pos k1]; simp; omega
            · rw [if_neg k1, if_pos (by omega)]
              simp only [cons_eq2, ofNat_eq, e0, e1, and_true]
              omega
          by_cases hE : b1 / 64 = 2 ∧ 128 ≤ b0 % 32 * 64 + b1 % 64
          · rw [if_pos (hEnc.2 hE)]
            have : Lib.decodeN l.length b0 b1 b2 b3 = (b0 % 32 * 64 + b1 % 64, 2) := by
              unfold Lib.decodeN
              rw [if_neg (by omega), if_pos (by omega), if_pos (by omega)]
            rw [this]; simp
          · rw [if_neg (fun hh => hE (hEnc.1 hh))]
            have : Lib.decodeN l.length b0 b1 b2 b3 = (65533, 1) := by
              unfold Lib.decodeN
              rw [if_neg (by omega)]
              split
              · rw [if_neg (by omega)]
              · rw [if_neg (by omega), if_neg (by omega)]
            rw [this]; simp
      · have r4 : rsz b0 = 1 := by unfold rsz; rw [if_neg c4, if_neg c3, if_neg c2]
        have rb : rb0 b0 = b0 := by unfold rb0; rw [if_neg c4, if_neg c3, if_neg c2]
        rw [r4, rb]
        simp only [Nat.reduceSub, racc]
        rw [if_neg (by omega), take_one l hl]
        have hEnc : (isChar b0 ∧ encU b0 = [l.getD 0 0]) ↔ b0 < 128 := by
          unfold isChar encU
          by_cases k1 : b0 < 128
          · rw [if_pos k1]; simp only [cons_eq2, ofNat_eq, e0, and_true]; omega
          · rw [if_neg k1, if_pos (by omega)]; simp; omega
        by_cases hE : b0 < 128
        · rw [if_pos (hEnc.2 hE)]
          have : Lib.decodeN l.length b0 b1 b2 b3 = (b0, 1) := by unfold Lib.decodeN; rw [if_pos hE]
          rw [this, if_neg (by simp; omega)]
          simp only [Prod.mk.injEq]
          rw [if_neg (by omega)]
          simp
        · rw [if_neg (fun hh => hE (hEnc.1 hh))]
          have : Lib.decodeN l.length b0 b1 b2 b3 = (65533, 1) := by
            unfold Lib.decodeN
            rw [if_neg (by omega), if_neg (by omega), if_neg (by omega), if_neg (by omega)]
          rw [this]; simp
theorem ul_char (l : List UInt8) (h : ul l ≠ 0) : isChar (ur l) ∧ encU (ur l) = l.take (ul l) ∧ ul l ≤ l.length ∧ ul l ≤ 4 := by
  have hne : l ≠ [] := fun h0 => h (by simp [ul, h0])
  have e := refU_eq l hne
  rw [if_neg h] at e
  unfold refU at e
  simp only at e
  split at e
  · simp only [Prod.mk.injEq] at e; omega
  · split at e
    · rename_i hn hc
      simp only [Prod.mk.injEq] at e
      rw [← e.1, ← e.2]
      exact ⟨hc.1, hc.2, by omega, (rsz_le _).2⟩
    · simp only [Prod.mk.injEq] at e; omega
theorem ul_le (l : List UInt8) : ul l ≤ l.length := by
  by_cases h : ul l = 0
  · omega
  · exact (ul_char l h).2.2.1
theorem ul_ascii (l : List UInt8) (h : l ≠ []) (hb : bt l 0 < 128) : ul l = 1 ∧ ur l = bt l 0 := by
  have : dN l = (bt l 0, 1) := by unfold dN Lib.decodeN; rw [if_pos hb]
  unfold ul ur
  rw [this, if_neg (by simp [h]; omega)]
  exact ⟨rfl, rfl⟩
theorem ul_zero (l : List UInt8) (h : l ≠ []) : ul l = 0 ↔ dN l = (65533, 1) := by
  have hul : ul l = if dN l = (65533, 1) then 0 else (dN l).2 := by simp [ul, h]
  rw [hul]
  constructor
  · intro h0
    by_cases hd : dN l = (65533, 1)
    · exact hd
    · rw [if_neg hd] at h0
      exfalso
      unfold dN Lib.decodeN at h0
      repeat' split at h0
      all_goals simp at h0
  · intro h0; rw [if_pos h0]
theorem dN_val (l : List UInt8) (h : ul l ≠ 0) : dN l = (ur l, ul l) := by
  have hne : l ≠ [] := fun h0 => h (by simp [ul, h0])
  have hul : ul l = if dN l = (65533, 1) then 0 else (dN l).2 := by simp [ul, hne]
  have hd : dN l ≠ (65533, 1) := fun hd => h ((ul_zero l hne).2 hd)
  rw [if_neg hd] at hul
  rw [hul]; rfl
theorem ul_not (l : List UInt8) (h : ul l ≠ 0) : ¬ (ur l = 65533 ∧ ul l = 1) := by
  intro hh
  have hne : l ≠ [] := fun h0 => h (by simp [ul, h0])
  have := dN_val l h
  rw [hh.1, hh.2] at this
  exact h ((ul_zero l hne).2 this)
/-- The length of the longest valid beginning. -/
def vlen (l : List UInt8) : Nat := if h : ul l = 0 then 0 else ul l + vlen (l.drop (ul l))
termination_by l.length
decreasing_by
  have := ul_le l
  simp only [List.length_drop]; omega
theorem vlen_zero (l : List UInt8) (h : ul l = 0) : vlen l = 0 := by rw [vlen, dif_pos h]
theorem vlen_step (l : List UInt8) (h : ul l ≠ 0) : vlen l = ul l + vlen (l.drop (ul l)) := by rw [vlen, dif_neg h]
theorem vlen_le : ∀ (n : Nat) (l : List UInt8), l.length ≤ n → vlen l ≤ l.length
  | 0, l, h => by
    have : l = [] := List.eq_nil_of_length_eq_zero (by omega)
    subst this
    rw [vlen_zero _ (by simp [ul])]; simp
  | n + 1, l, h => by
    by_cases h0 : ul l = 0
    · rw [vlen_zero l h0]; omega
    · have h1 := ul_le l
      have h2 := vlen_le n (l.drop (ul l)) (by simp only [List.length_drop]; omega)
      rw [vlen_step l h0]
      simp only [List.length_drop] at h2; omega
end Go.TVF
end

section
set_option linter.unusedVariables false
namespace Go.Proofs
open Go.Shelf
def Tryd.lays260_ren : Go.Shelf.Ren := ⟨fun | 260 => 134 | n => n, fun | 9 => 9 | 21 => 21 | 3 => 3 | 4 => 4 | 5 => 5 | 119 => 173 | 0 => 0 | 46 => 97 | 139 => 176 | 138 => 175 | n => n, fun | 3 => 0 | 4 => 1 | n => n⟩
theorem Tryd.lays260 : Go.Proofs.Lays.n260 Tryd.prog Tryd.lays260_ren := {
  mixed := by kernel_rfl
  f260 := Tryd.func134.trans (congrArg some (by kernel_rfl))
  t0 := Tryd.underlying0
  a0 := Tryd.isAgg0
  z0 := Tryd.sizeOf0
  v0 := Tryd.zeroValue0
  t3 := Tryd.underlying3
  a3 := Tryd.isAgg3
  z3 := Tryd.sizeOf3
  v3 := Tryd.zeroValue3
  t4 := Tryd.underlying4
  a4 := Tryd.isAgg4
  z4 := Tryd.sizeOf4
  v4 := Tryd.zeroValue4
  t5 := Tryd.underlying5
  a5 := Tryd.isAgg5
  z5 := Tryd.sizeOf5
  v5 := Tryd.zeroValue5
  t9 := Tryd.underlying9
  a9 := Tryd.isAgg9
  z9 := Tryd.sizeOf9
  v9 := Tryd.zeroValue9
  t21 := Tryd.underlying21
  a21 := Tryd.isAgg21
  z21 := Tryd.sizeOf21
  v21 := Tryd.zeroValue21
  t46 := Tryd.underlying97
  a46 := Tryd.isAgg97
  z46 := Tryd.sizeOf97
  v46 := Tryd.zeroValue97
  t119 := Tryd.underlying173
  a119 := Tryd.isAgg173
  z119 := Tryd.sizeOf173
  t138 := Tryd.underlying175
  a138 := Tryd.isAgg175
  z138 := Tryd.sizeOf175
  v138 := Tryd.zeroValue175
  t139 := Tryd.underlying176
  a139 := Tryd.isAgg176
  z139 := Tryd.sizeOf176
  v139 := Tryd.zeroValue176
  g3 := by kernel_rfl
  g4 := by kernel_rfl }
end Go.Proofs
end

section
set_option linter.unusedVariables false
namespace Go.Proofs
open Go.Shelf
def Tryd.lays155_ren : Go.Shelf.Ren := ⟨fun | 155 => 89 | 154 => 128 | 138 => 145 | 165 => 146 | 143 => 147 | 166 => 68 | 197 => 103 | 169 => 69 | 195 => 153 | 218 => 154 | 240 => 112 | 241 => 155 | 219 => 156 | 260 => 134 | 276 => 138 | 277 => 158 | 217 => 104 | 225 => 159 | 224 => 160 | 267 => 161 | 266 => 135 | 314 => 163 | n => n, fun | 9 => 9 | 3 => 3 | 4 => 4 | 72 => 109 | 0 => 0 | 76 => 112 | 105 => 143 | 21 => 21 | 5 => 5 | 70 => 107 | 20 => 20 | 37 => 95 | 75 => 111 | 127 => 149 | 164 => 166 | 46 => 97 | 119 => 173 | 139 => 176 | 138 => 175 | 146 => 179 | 51 => 165 | 80 => 114 | n => n, fun | 1 => 2 | 3 => 0 | 4 => 1 | n => n⟩
theorem Tryd.lays155 : Go.Proofs.Lays.n155 Tryd.prog Tryd.lays155_ren := {
  mixed := by kernel_rfl
  f138 := Tryd.func145.trans (congrArg some (by kernel_rfl))
  f143 := Tryd.func147.trans (congrArg some (by kernel_rfl))
  f154 := Tryd.func128.trans (congrArg some (by kernel_rfl))
  f155 := Tryd.func89.trans (congrArg some (by kernel_rfl))
  f165 := Tryd.func146.trans (congrArg some (by kernel_rfl))
  f166 := Tryd.func68.trans (congrArg some (by kernel_rfl))
  f169 := Tryd.func69.trans (congrArg some (by kernel_rfl))
  f195 := Tryd.func153.trans (congrArg some (by kernel_rfl))
  f197 := Tryd.func103.trans (congrArg some (by kernel_rfl))
  f217 := Tryd.func104.trans (congrArg some (by kernel_rfl))
  f218 := Tryd.func154.trans (congrArg some (by kernel_rfl))
  f219 := Tryd.func156.trans (congrArg some (by kernel_rfl))
  f224 := Tryd.func160.trans (congrArg some (by kernel_rfl))
  f225 := Tryd.func159.trans (congrArg some (by kernel_rfl))
  f240 := Tryd.func112.trans (congrArg some (by kernel_rfl))
  f241 := Tryd.func155.trans (congrArg some (by kernel_rfl))
  f260 := Tryd.func134.trans (congrArg some (by kernel_rfl))
  f266 := Tryd.func135.trans (congrArg some (by kernel_rfl))
  f267 := Tryd.func161.trans (congrArg some (by kernel_rfl))
  f276 := Tryd.func138.trans (congrArg some (by kernel_rfl))
  f277 := Tryd.func158.trans (congrArg some (by kernel_rfl))
  f314 := Tryd.func163.trans (congrArg some (by kernel_rfl))
  t0 := Tryd.underlying0
  a0 := Tryd.isAgg0
  z0 := Tryd.sizeOf0
  v0 := Tryd.zeroValue0
  t3 := Tryd.underlying3
  a3 := Tryd.isAgg3
  z3 := Tryd.sizeOf3
  v3 := Tryd.zeroValue3
  t4 := Tryd.underlying4
  a4 := Tryd.isAgg4
  z4 := Tryd.sizeOf4
  v4 := Tryd.zeroValue4
  t5 := Tryd.underlying5
  a5 := Tryd.isAgg5
  z5 := Tryd.sizeOf5
  v5 := Tryd.zeroValue5
  t9 := Tryd.underlying9
  a9 := Tryd.isAgg9
  z9 := Tryd.sizeOf9
  v9 := Tryd.zeroValue9
  t20 := Tryd.underlying20
  a20 := Tryd.isAgg20
  z20 := Tryd.sizeOf20
  v20 := Tryd.zeroValue20
  t21 := Tryd.underlying21
  a21 := Tryd.isAgg21
  z21 := Tryd.sizeOf21
  v21 := Tryd.zeroValue21
  t37 := Tryd.underlying95
  a37 := Tryd.isAgg95
  z37 := Tryd.sizeOf95
  v37 := Tryd.zeroValue95
  t46 := Tryd.underlying97
  a46 := Tryd.isAgg97
  z46 := Tryd.sizeOf97
  v46 := Tryd.zeroValue97
  t51 := Tryd.underlying165
  a51 := Tryd.isAgg165
  z51 := Tryd.sizeOf165
  v51 := Tryd.zeroValue165
  t70 := Tryd.underlying107
  a70 := Tryd.isAgg107
  z70 := Tryd.sizeOf107
  v70 := Tryd.zeroValue107
  t72 := Tryd.underlying109
  a72 := Tryd.isAgg109
  z72 := Tryd.sizeOf109
  v72 := Tryd.zeroValue109
  t75 := Tryd.underlying111
  a75 := Tryd.isAgg111
  z75 := Tryd.sizeOf111
  v75 := Tryd.zeroValue111
  t76 := Tryd.underlying112
  a76 := Tryd.isAgg112
  z76 := Tryd.sizeOf112
  v76 := Tryd.zeroValue112
  t105 := Tryd.underlying143
  a105 := Tryd.isAgg143
  z105 := Tryd.sizeOf143
  v105 := Tryd.zeroValue143
  t119 := Tryd.underlying173
  a119 := Tryd.isAgg173
  z119 := Tryd.sizeOf173
  t127 := Tryd.underlying149
  a127 := Tryd.isAgg149
  z127 := Tryd.sizeOf149
  v127 := Tryd.zeroValue149
  t138 := Tryd.underlying175
  a138 := Tryd.isAgg175
  z138 := Tryd.sizeOf175
  v138 := Tryd.zeroValue175
  t139 := Tryd.underlying176
  a139 := Tryd.isAgg176
  z139 := Tryd.sizeOf176
  v139 := Tryd.zeroValue176
  t146 := Tryd.underlying179
  a146 := Tryd.isAgg179
  z146 := Tryd.sizeOf179
  v146 := Tryd.zeroValue179
  t164 := Tryd.underlying166
  a164 := Tryd.isAgg166
  z164 := Tryd.sizeOf166
  v164 := Tryd.zeroValue166
  g1 := by kernel_rfl
  g3 := by kernel_rfl
  g4 := by kernel_rfl }
theorem Tryd.Builder_Extra_155 : Builder.Extra Tryd.prog Tryd.lays155_ren := {
  sizeBuilder := by kernel_rfl
  liesBuilder := by kernel_rfl
  t5 := Tryd.underlying5
  a5 := Tryd.isAgg5
  z5 := Tryd.sizeOf5
  v5 := Tryd.zeroValue5
  infoByte := by kernel_rfl
  cellsByte := by kernel_rfl
  sizeByte := by kernel_rfl
  neB5 := by decide }
open Go.RowKit Go.Lib in
/-- strings.ReplaceAll: "ReplaceAll returns a copy of the string s with all non-overlapping instances of old replaced by new.": AT AN old THAT IS NOT EMPTY: 'Lib.replaceAll s old new'. (LAID: no walk: one application.) -/
theorem Tryd.strings_ReplaceAll (s old new : ByteArray) (m : Int) (w : World) (hs : s.size < 4294967281) (hm : w.cell? ⟨2, 0, none⟩ = some (.int .i64 m)) (h1 : 1 ≤ old.size) (hlen : s.size + Lib.countB s old * new.size ≤ 140737488355328) :
    Calls Tryd.prog 89 #[.string s, .string old, .string new] w fun e w' =>
      e = .returned (.string ⟨(Lib.replaceAll s.data.toList old.data.toList new.data.toList).toArray⟩) ∧ Below w.heap.size w w' := Any.strings_ReplaceAll Tryd.lays155 Tryd.Builder_Extra_155 s old new m w hs hm h1 hlen
end Go.Proofs
end

section
set_option linter.unusedVariables false
namespace Go.TVF
open Go Go.Proofs
theorem mixed : Tryd.prog.follows .mixedOrders = true := by kernel_rfl
noncomputable def PR : Program := Tryd.prog
def fn_datakitlaw27_DelimLossless : Nat := 8
def fn_datakitlaw27_DelimLimits : Nat := 9
def fn_datakitlaw27_DelimParses : Nat := 10
def fn_datakitlaw27_DelimRecords : Nat := 11
def fn_datakitlaw27_DelimSniffs : Nat := 12
def fn_datakitlaw27_DelimTexts : Nat := 13
def fn_datakitlaw27_DelimBack : Nat := 14
def fn_datakitlaw27_awake : Nat := 27
def fn_delim_Parse : Nat := 28
def fn_limit_Usual : Nat := 29
def fn_tree_Same : Nat := 30
def fn_delim_Records : Nat := 31
def fn_tree_Check : Nat := 32
def fn_tree_Print : Nat := 33
def fn_tree_Len : Nat := 34
def fn_datakitref27_Parse : Nat := 35
def fn_datakitref13_Same : Nat := 36
def fn_delim_Valid : Nat := 37
def fn_datakitref27_Valid : Nat := 38
def fn_delim_Usual : Nat := 39
def fn_datakitref27_Usual : Nat := 40
def fn_datakitref13_Small : Nat := 41
def fn_datakitref27_Records : Nat := 42
def fn_delim_Quoted : Nat := 43
def fn_datakitref27_Quoted : Nat := 44
def fn_datakitlaw27_same : Nat := 45
def fn_delim_Sniff : Nat := 46
def fn_datakitref27_Sniff : Nat := 47
def fn_datakitlaw27_small : Nat := 48
def fn_delim_Quote : Nat := 49
def fn_datakitref27_Quote : Nat := 50
def fn_delim_Text : Nat := 51
def fn_datakitref27_Text : Nat := 52
def fn_delim_Line : Nat := 53
def fn_datakitref27_Line : Nat := 54
def fn_datakitref19_Letter : Nat := 65
def fn_datakitref19_Digit : Nat := 66
def fn_strings_Builder_WriteString : Nat := 68
def fn_strings_Builder_String : Nat := 69
def fn_datakitref20_Usual : Nat := 70
def fn_limit_Valid : Nat := 71
def fn_delim_invalid : Nat := 72
def fn_delim_parser_record : Nat := 73
def fn_delim_ours : Nat := 74
def fn_delim_text : Nat := 75
def fn_tree_check : Nat := 76
def fn_tree_write : Nat := 77
def fn_datakitref20_Before : Nat := 78
def fn_datakitref27_state_begin : Nat := 79
def fn_datakitref27_record : Nat := 80
def fn_delim_special : Nat := 81
def fn_datakitref27_mark : Nat := 82
def fn_datakitref13_room : Nat := 83
def fn_datakitref27_Is : Nat := 84
def fn_datakitref27_Plain : Nat := 85
def fn_delim_named : Nat := 86
def fn_datakitref11_Usual : Nat := 87
def fn_utf_Valid : Nat := 88
def fn_strings_ReplaceAll : Nat := 89
def fn_datakitref03_Valid : Nat := 90
def fn_datakitref27_InQuotes : Nat := 91
def fn_strings_Builder_Len : Nat := 92
def fn_strings_Builder_WriteByte : Nat := 93
def fn_datakitref03_Decode : Nat := 108
def fn_datakitref03_Bad : Nat := 111
def fn_strings_Builder_copyCheck : Nat := 112
def fn_utf_Decode : Nat := 113
def fn_delim_parser_value : Nat := 114
def fn_delim_parser_fail : Nat := 115
def fn_delim_parser_entry : Nat := 116
def fn_delim_parser_lineEnd : Nat := 117
def fn_tree_leaf : Nat := 118
def fn_datakitref11_Valid : Nat := 119
def fn_datakitref27_state_fail : Nat := 120
def fn_datakitref27_cell : Nat := 121
def fn_datakitref27_followed : Nat := 122
def fn_datakitref27_ends : Nat := 123
def fn_delim_letter : Nat := 124
def fn_datakitref13_Check : Nat := 125
def fn_datakitref13_Print : Nat := 126
def fn_utf_Len : Nat := 127
def fn_datakitref03_Boundaries : Nat := 129
def fn_datakitref03_Encode : Nat := 133
def fn_abi_NoEscape : Nat := 138
def fn_utf_head : Nat := 139
def fn_utf_scalar : Nat := 140
def fn_utf_width : Nat := 141
def fn_delim_parser_cell : Nat := 142
def fn_datakitref13_look : Nat := 143
def fn_datakitref13_Len : Nat := 144
def fn_datakitref03_character : Nat := 150
def fn_delim_parser_quoted : Nat := 151
def fn_datakitref13_Leaf : Nat := 152
def str9 : List UInt8 := [48, 49, 50, 51, 52, 53, 54, 55, 56, 57, 97, 98, 99, 100, 101, 102]
end Go.TVF
end

section
set_option linter.unusedVariables false
namespace Go.TVF
open Go Go.Proofs
def str27 : List UInt8 := [10]
def str28 : List UInt8 := [97, 44, 34, 98, 32, 34, 34, 99, 34, 34, 44, 32, 100, 34]
def str29 : List UInt8 := [120, 44, 121]
def str30 : List UInt8 := [98, 32, 34, 99, 34, 44, 32, 100]
def str31 : List UInt8 := [34, 120, 44, 121, 34]
end Go.TVF
end

section
set_option linter.unusedVariables false
namespace Go.TVF
open Go Go.Proofs
set_option maxRecDepth 100000 in
theorem vc_datakitref19_Letter (c : Int) (st : St) (K : Bool → St → Prop) (h : BIf (decide ((97 : Int) ≤ c)) (BIf (decide (c ≤ (122 : Int))) (K (true) st) (BIf (decide ((65 : Int) ≤ c)) (K ((decide (c ≤ (90 : Int)))) st) (K (false) st))) (BIf (decide ((65 : Int) ≤ c)) (K ((decide (c ≤ (90 : Int)))) st) (K (false) st))) : CallT PR fn_datakitref19_Letter [(.int .u8 c)] [.one (.bool)] st K :=
  tcalls_fw (cfg := ⟨[], [], []⟩) (h := .none) mixed (fun _ _ => Tryd.call65 _ _) Tryd.func65 (by kernel_rfl) (by kernel_rfl) h
set_option maxRecDepth 100000 in
theorem vc_datakitref19_Digit (c : Int) (st : St) (K : Bool → St → Prop) (h : BIf (decide ((48 : Int) ≤ c)) (K ((decide (c ≤ (57 : Int)))) st) (K (false) st)) : CallT PR fn_datakitref19_Digit [(.int .u8 c)] [.one (.bool)] st K :=
  tcalls_fw (cfg := ⟨[], [], []⟩) (h := .none) mixed (fun _ _ => Tryd.call66 _ _) Tryd.func66 (by kernel_rfl) (by kernel_rfl) h
set_option maxRecDepth 100000 in
theorem vc_strings_Builder_WriteString (b : Nat) (s : List UInt8) (st : St) (K : Int → TV → St → Prop) (h : CallT PR fn_strings_Builder_copyCheck [(.box b 0)] [] st (fun  (st1 : St) => optK (ldCell st1 [] (.t (.box b 1)) 0) (fun (v1 : TV) => optK (appSrc st1 1 (.str s)) (fun (q1 : Nat × List TV) => need (List.all q1.2 oneT) (appK 5 1 1 v1 q1.1 q1.2 st1 (fun (v2 : TV) (st2 : St) => need (List.all [v2] oneT) (stB st2 (.box b 1) [v2] (fun (st3 : St) => K (((s).length : Int)) (.nilIface) st3)))))))) : CallT PR fn_strings_Builder_WriteString [(.box b 0), (.str s)] [.one (.int .i64), .one (.tv)] st K :=
  tcalls_fw (cfg := ⟨[], [], []⟩) (h := .none) mixed (fun _ _ => Tryd.call68 _ _) Tryd.func68 (by kernel_rfl) (by kernel_rfl) h
set_option maxRecDepth 100000 in
theorem vc_strings_Builder_String (b : Nat) (st : St) (K : List UInt8 → St → Prop) (h : optK (ldCell st [] (.t (.box b 1)) 0) (fun (v1 : TV) => optK (sdataO v1) (fun (v2 : TV) => optK (ldCell st [] (.t (.box b 1)) 0) (fun (v3 : TV) => need (isSl v3) (usK 5 v2 (lenS v3 : Int) st (fun (s1 : List UInt8) (st1 : St) => K (s1) st1)))))) : CallT PR fn_strings_Builder_String [(.box b 0)] [.one (.str)] st K :=
  tcalls_fw (cfg := ⟨[], [], []⟩) (h := .none) mixed (fun _ _ => Tryd.call69 _ _) Tryd.func69 (by kernel_rfl) (by kernel_rfl) h
set_option maxRecDepth 100000 in
theorem vc_datakitref03_Valid (s : List UInt8) (st : St) (K : Bool → St → Prop) (h : CallT PR fn_datakitref03_Boundaries [(.str s)] [.one (.tv), .one (.bool)] st (fun (v1 : TV) (b1 : Bool) (st1 : St) => K (b1) st1)) : CallT PR fn_datakitref03_Valid [(.str s)] [.one (.bool)] st K :=
  tcalls_fw (cfg := ⟨[], [], []⟩) (h := .none) mixed (fun _ _ => Tryd.call90 _ _) Tryd.func90 (by kernel_rfl) (by kernel_rfl) h
set_option maxRecDepth 100000 in
theorem vc_datakitref03_Decode (s : List UInt8) (atx : Int) (st : St) (K : Int → Int → St → Prop) (h : BIf (decide (atx < (0 : Int))) (K ((0 : Int)) ((0 : Int)) st) (BIf (decide (((s).length : Int) ≤ atx)) (K ((0 : Int)) ((0 : Int)) st) (((0 ≤ atx ∧ atx < ((s).length : Int)) ∧ ∃ (C1 : Int → Int → List UInt8 → Int → St → Prop), (BIf (decide ((240 : Int) ≤ (IntKind.i64.wrap ((List.getD s (Int.toNat atx) 0).toNat : Int)))) (C1 ((4 : Int)) ((bitsI .and .i64 (IntKind.i64.wrap ((List.getD s (Int.toNat atx) 0).toNat : Int)) (7 : Int))) (s) (atx) st) (BIf (decide ((224 : Int) ≤ (IntKind.i64.wrap ((List.getD s (Int.toNat atx) 0).toNat : Int)))) (C1 ((3 : Int)) ((bitsI .and .i64 (IntKind.i64.wrap ((List.getD s (Int.toNat atx) 0).toNat : Int)) (15 : Int))) (s) (atx) st) (BIf (decide ((192 : Int) ≤ (IntKind.i64.wrap ((List.getD s (Int.toNat atx) 0).toNat : Int)))) (C1 ((2 : Int)) ((bitsI .and .i64 (IntKind.i64.wrap ((List.getD s (Int.toNat atx) 0).toNat : Int)) (31 : Int))) (s) (atx) st) (C1 ((1 : Int)) ((IntKind.i64.wrap ((List.getD s (Int.toNat atx) 0).toNat : Int))) (s) (atx) st)))) ∧ ∀ (size_1 : Int) (r_1 : Int) (s_1 : List UInt8) (at_1 : Int) (st1 : St), C1 size_1 r_1 s_1 at_1 st1 → (BIf (decide ((IntKind.i64.wrap (((s_1).length : Int) - at_1)) < size_1)) (K ((0 : Int)) ((0 : Int)) st1) (∃ (I1 : Int → Int → List UInt8 → Int → Int → St → Prop) (M1 : Int → Int → List UInt8 → Int → Int → St → Nat), (I1 (r_1) ((1 : Int)) (s_1) (at_1) (size_1) st1) ∧ ∀ (r_2 : Int) (i_1 : Int) (s_2 : List UInt8) (at_2 : Int) (size_2 : Int) (st2 : St), I1 r_2 i_1 s_2 at_2 size_2 st2 → (BIf (decide (i_1 < size_2)) (((0 ≤ (IntKind.i64.wrap (at_2 + i_1)) ∧ (IntKind.i64.wrap (at_2 + i_1)) < ((s_2).length : Int)) ∧ (I1 ((bitsI .or .i64 (IntKind.i64.wrap (r_2 * 2 ^ (min (Int.toNat (6 : Int)) (IntKind.bits .i64)))) (bitsI .and .i64 (IntKind.i64.wrap ((List.getD s_2 (Int.toNat (IntKind.i64.wrap (at_2 + i_1))) 0).toNat : Int)) (63 : Int)))) ((IntKind.i64.wrap (i_1 + (1 : Int)))) (s_2) (at_2) (size_2) st2 ∧ M1 ((bitsI .or .i64 (IntKind.i64.wrap (r_2 * 2 ^ (min (Int.toNat (6 : Int)) (IntKind.bits .i64)))) (bitsI .and .i64 (IntKind.i64.wrap ((List.getD s_2 (Int.toNat (IntKind.i64.wrap (at_2 + i_1))) 0).toNat : Int)) (63 : Int)))) ((IntKind.i64.wrap (i_1 + (1 : Int)))) (s_2) (at_2) (size_2) st2 < M1 r_2 i_1 s_2 at_2 size_2 st2))) (CallT PR fn_datakitref03_Encode [(.int .i64 r_2)] [.one (.str), .one (.int .i64)] st2 (fun (s1 : List UInt8) (n1 : Int) (st3 : St) => BIf (decide (n1 ≠ (0 : Int))) (K ((0 : Int)) ((0 : Int)) st3) (((0 ≤ at_2 ∧ at_2 ≤ (IntKind.i64.wrap (at_2 + size_2)) ∧ (IntKind.i64.wrap (at_2 + size_2)) ≤ ((s_2).length : Int)) ∧ BIf (decide (s1 ≠ (List.drop (Int.toNat at_2) (List.take (Int.toNat (IntKind.i64.wrap (at_2 + size_2))) s_2)))) (K ((0 : Int)) ((0 : Int)) st3) (K (r_2) (size_2) st3)))))))))))) : CallT PR fn_datakitref03_Decode [(.str s), (.int .i64 atx)] [.one (.int .i64), .one (.int .i64)] st K :=
  tcalls_fw (cfg := ⟨[], [], []⟩) (h := (.seq .none (.seq .none (.seq .none (.seq .none (.cut ⟨[(7, .int .i64), (8, .int .i64), (0, .str), (1, .int .i64)], [], [], []⟩ .none (.seq .none (.seq (.seq .none (.block (.loop ⟨[(8, .int .i64), (9, .int .i64), (0, .str), (1, .int .i64), (7, .int .i64)], [], [], []⟩ .none))) .none)))))))) mixed (fun _ _ => Tryd.call108 _ _) Tryd.func108 (by kernel_rfl) (by kernel_rfl) h
end Go.TVF
end

section
set_option linter.unusedVariables false
namespace Go.TVF
open Go Go.Proofs
set_option maxRecDepth 100000 in
theorem vc_datakitref03_Bad (s : List UInt8) (st : St) (K : Int → St → Prop) (h : CallT PR fn_datakitref03_Boundaries [(.str s)] [.one (.tv), .one (.bool)] st (fun (v1 : TV) (b1 : Bool) (st1 : St) => need (isSl v1) (((0 ≤ (IntKind.i64.wrap ((lenS v1 : Int) - (1 : Int))) ∧ (IntKind.i64.wrap ((lenS v1 : Int) - (1 : Int))) < (lenZ 1 v1 : Int)) ∧ optK (ldCell st1 [] (.t (ixT 1 v1 (Int.toNat (IntKind.i64.wrap ((lenS v1 : Int) - (1 : Int)))))) 0) (fun (x1 : TV) => decT (.int .i64) x1 (fun (n1 : Int) => K (n1) st1)))))) : CallT PR fn_datakitref03_Bad [(.str s)] [.one (.int .i64)] st K :=
  tcalls_fw (cfg := ⟨[], [], []⟩) (h := .none) mixed (fun _ _ => Tryd.call111 _ _) Tryd.func111 (by kernel_rfl) (by kernel_rfl) h
set_option maxRecDepth 100000 in
theorem vc_strings_Builder_copyCheck (b : Nat) (st : St) (K : St → Prop) (h : optK (ldCell st [] (.t (.box b 0)) 0) (fun (v1 : TV) => need (isPtr0 v1) (BIf (isNilT v1) (((ldCell st [] (.t (.box b 0)) 0).isSome = true ∧ CallT PR fn_abi_NoEscape [(.box b 0)] [.one (.tv)] st (fun (v2 : TV) (st1 : St) => unsK 109 2 v2 st1 (fun (v3 : TV) => need (List.all [v3] oneT) (stB st1 (.box b 0) [v3] (fun (st2 : St) => K  st2)))))) (optK (ldCell st [] (.t (.box b 0)) 0) (fun (v4 : TV) => (v4 = (.box b 0) ∧ K  st)))))) : CallT PR fn_strings_Builder_copyCheck [(.box b 0)] [] st K :=
  tcalls_fw (cfg := ⟨[], [], []⟩) (h := .none) mixed (fun _ _ => Tryd.call112 _ _) Tryd.func112 (by kernel_rfl) (by kernel_rfl) h
set_option maxRecDepth 100000 in
theorem vc_datakitref03_Boundaries (s : List UInt8) (st : St) (K : TV → Bool → St → Prop) (h : ∃ (I1 : TV → Int → List UInt8 → St → Prop) (M1 : TV → Int → List UInt8 → St → Nat), (I1 ((.list 1 .full 1 [(.int .i64 (0 : Int))])) ((0 : Int)) (s) st) ∧ ∀ (l_1 : TV) (at_1 : Int) (s_1 : List UInt8) (st1 : St), I1 l_1 at_1 s_1 st1 → (BIf (decide (at_1 < ((s_1).length : Int))) (CallT PR fn_datakitref03_Decode [(.str s_1), (.int .i64 at_1)] [.one (.int .i64), .one (.int .i64)] st1 (fun (n1 : Int) (n2 : Int) (st2 : St) => BIf (decide (n2 = (0 : Int))) (K (l_1) (false) st2) (appK 3 1 8 l_1 1 [(.int .i64 (IntKind.i64.wrap (at_1 + n2)))] st2 (fun (v1 : TV) (st3 : St) => (I1 (v1) ((IntKind.i64.wrap (at_1 + n2))) (s_1) st3 ∧ M1 (v1) ((IntKind.i64.wrap (at_1 + n2))) (s_1) st3 < M1 l_1 at_1 s_1 st1))))) (K (l_1) (true) st1))) : CallT PR fn_datakitref03_Boundaries [(.str s)] [.one (.tv), .one (.bool)] st K :=
  tcalls_fw (cfg := ⟨[], [], []⟩) (h := (.seq .none (.seq .none (.seq .none (.seq (.block (.loop ⟨[(4, .tv), (5, .int .i64), (0, .str)], [], [], []⟩ .none)) .none))))) mixed (fun _ _ => Tryd.call129 _ _) Tryd.func129 (by kernel_rfl) (by kernel_rfl) h
set_option maxRecDepth 100000 in
theorem vc_datakitref03_Encode (r : Int) (st : St) (K : List UInt8 → Int → St → Prop) (h : CallT PR fn_datakitref03_character [(.int .i64 r)] [.one (.bool)] st (fun (b1 : Bool) (st1 : St) => BIf (!b1) (K (([] : List UInt8)) ((2 : Int)) st1) (BIf (decide (r < (128 : Int))) (optK ((toBytes st1 (.list 1 .full 1 [(.int .u8 (IntKind.u8.wrap r))])).map TV.str) (fun (x1 : TV) => decT (.str) x1 (fun (s1 : List UInt8) => K (s1) ((0 : Int)) st1))) (BIf (decide (r < (2048 : Int))) (optK ((toBytes st1 (.list 1 .full 2 [(.int .u8 (IntKind.u8.wrap (bitsI .or .i64 (192 : Int) (Int.fdiv r (2 ^ (min (Int.toNat (6 : Int)) (IntKind.bits .i64))))))), (.int .u8 (IntKind.u8.wrap (bitsI .or .i64 (128 : Int) (bitsI .and .i64 r (63 : Int)))))])).map TV.str) (fun (x2 : TV) => decT (.str) x2 (fun (s2 : List UInt8) => K (s2) ((0 : Int)) st1))) (BIf (decide (r < (65536 : Int))) (optK ((toBytes st1 (.list 1 .full 3 [(.int .u8 (IntKind.u8.wrap (bitsI .or .i64 (224 : Int) (Int.fdiv r (2 ^ (min (Int.toNat (12 : Int)) (IntKind.bits .i64))))))), (.int .u8 (IntKind.u8.wrap (bitsI .or .i64 (128 : Int) (bitsI .and .i64 (Int.fdiv r (2 ^ (min (Int.toNat (6 : Int)) (IntKind.bits .i64)))) (63 : Int))))), (.int .u8 (IntKind.u8.wrap (bitsI .or .i64 (128 : Int) (bitsI .and .i64 r (63 : Int)))))])).map TV.str) (fun (x3 : TV) => decT (.str) x3 (fun (s3 : List UInt8) => K (s3) ((0 : Int)) st1))) (optK ((toBytes st1 (.list 1 .full 4 [(.int .u8 (IntKind.u8.wrap (bitsI .or .i64 (240 : Int) (Int.fdiv r (2 ^ (min (Int.toNat (18 : Int)) (IntKind.bits .i64))))))), (.int .u8 (IntKind.u8.wrap (bitsI .or .i64 (128 : Int) (bitsI .and .i64 (Int.fdiv r (2 ^ (min (Int.toNat (12 : Int)) (IntKind.bits .i64)))) (63 : Int))))), (.int .u8 (IntKind.u8.wrap (bitsI .or .i64 (128 : Int) (bitsI .and .i64 (Int.fdiv r (2 ^ (min (Int.toNat (6 : Int)) (IntKind.bits .i64)))) (63 : Int))))), (.int .u8 (IntKind.u8.wrap (bitsI .or .i64 (128 : Int) (bitsI .and .i64 r (63 : Int)))))])).map TV.str) (fun (x4 : TV) => decT (.str) x4 (fun (s4 : List UInt8) => K (s4) ((0 : Int)) st1)))))))) : CallT PR fn_datakitref03_Encode [(.int .i64 r)] [.one (.str), .one (.int .i64)] st K :=
  tcalls_fw (cfg := ⟨[], [], []⟩) (h := .none) mixed (fun _ _ => Tryd.call133 _ _) Tryd.func133 (by kernel_rfl) (by kernel_rfl) h
set_option maxRecDepth 100000 in
theorem vc_datakitref03_character (r : Int) (st : St) (K : Bool → St → Prop) (h : BIf (decide ((0 : Int) ≤ r)) (BIf (decide (r ≤ (1114111 : Int))) (BIf (decide (r < (55296 : Int))) (K (true) st) (K ((decide ((57343 : Int) < r))) st)) (K (false) st)) (K (false) st)) : CallT PR fn_datakitref03_character [(.int .i64 r)] [.one (.bool)] st K :=
  tcalls_fw (cfg := ⟨[], [], []⟩) (h := .none) mixed (fun _ _ => Tryd.call150 _ _) Tryd.func150 (by kernel_rfl) (by kernel_rfl) h
end Go.TVF
end

section
set_option linter.unusedVariables false
namespace Go.TVF
open Go Go.Proofs
set_option maxRecDepth 100000 in
theorem vc_datakitlaw27_DelimLossless (src : List UInt8) (d_0 : Int) (d_1 : Int) (d_2 : Bool) (d_3 : Bool) (st : St) (K : Bool → St → Prop) (h : BIf (decide ((1500 : Int) < ((src).length : Int))) (CallT PR fn_datakitlaw27_awake [] [.one (.bool)] st (fun (b1 : Bool) (st1 : St) => K (b1) st1)) (CallT PR fn_limit_Usual [] [.agg [.int .i64, .int .i64, .int .i64, .int .i64, .int .i64]] st (fun (n1 : Int) (n2 : Int) (n3 : Int) (n4 : Int) (n5 : Int) (st2 : St) => CallT PR fn_delim_Parse [(.str src), (.agg [(.int .u8 d_0), (.int .u8 d_1), (.bool d_2), (.bool d_3)]), (.agg [(.int .i64 n1), (.int .i64 n2), (.int .i64 n3), (.int .i64 n4), (.int .i64 n5)])] [.agg [.int .i64, .str, .str, .tv, .str], .one (.int .i64), .one (.int .i64)] st2 (fun (n6 : Int) (s1 : List UInt8) (s2 : List UInt8) (v1 : TV) (s3 : List UInt8) (n7 : Int) (n8 : Int) (st3 : St) => need (List.all [(.int .i64 n6), (.str s1), (.str s2), v1, (.str s3)] oneT) (BIf (decide (n8 ≠ (0 : Int))) (CallT PR fn_tree_Same [(.agg [(.int .i64 n6), (.str s1), (.str s2), v1, (.str s3)]), (.agg [(.int .i64 (0 : Int)), (.str ([] : List UInt8)), (.str ([] : List UInt8)), .nilSlice, (.str ([] : List UInt8))])] [.one (.bool)] st3 (fun (b2 : Bool) (st4 : St) => BIf b2 (CallT PR fn_datakitlaw27_awake [] [.one (.bool)] st4 (fun (b3 : Bool) (st5 : St) => K (b3) st5)) (K (false) st4))) (CallT PR fn_delim_Records [(.agg [(.int .i64 n6), (.str s1), (.str s2), v1, (.str s3)]), (.agg [(.int .u8 d_0), (.int .u8 d_1), (.bool d_2), (.bool d_3)])] [.one (.tv), .one (.int .i64)] st3 (fun (v2 : TV) (n9 : Int) (st6 : St) => BIf (decide (n9 ≠ (0 : Int))) (K (false) st6) (CallT PR fn_tree_Check [(.agg [(.int .i64 n6), (.str s1), (.str s2), v1, (.str s3)])] [.one (.int .i64)] st6 (fun (n10 : Int) (st7 : St) => BIf (decide (n10 ≠ (0 : Int))) (K (false) st7) (CallT PR fn_tree_Print [(.agg [(.int .i64 n6), (.str s1), (.str s2), v1, (.str s3)])] [.one (.str)] st7 (fun (s4 : List UInt8) (st8 : St) => BIf (decide (s4 ≠ src)) (K (false) st8) (need (isSl v2) (need (isSl v1) (BIf (decide ((lenS v2 : Int) ≠ (lenS v1 : Int))) (K (false) st8) (∃ (I1 : Int → TV → Int → List UInt8 → List UInt8 → TV → List UInt8 → St → Prop) (M1 : Int → TV → Int → List UInt8 → List UInt8 → TV → List UInt8 → St → Nat), (I1 ((0 : Int)) (v2) (n6) (s1) (s2) (v1) (s3) st8) ∧ ∀ (i_1 : Int) (l_1 : TV) (n11 : Int) (s5 : List UInt8) (s6 : List UInt8) (v3 : TV) (s7 : List UInt8) (st9 : St), I1 i_1 l_1 n11 s5 s6 v3 s7 st9 → (need (isSl l_1) (BIf (decide (i_1 < (lenS l_1 : Int))) (((0 ≤ i_1 ∧ i_1 < (lenZ 1 l_1 : Int)) ∧ optK (ldCell st9 [] (.t (ixT 1 l_1 (Int.toNat i_1))) 0) (fun (v4 : TV) => need (isSl v4) (BIf (decide ((lenS v4 : Int) = (0 : Int))) (K (false) st9) (((0 ≤ i_1 ∧ i_1 < (lenZ 1 l_1 : Int)) ∧ optK (ldCell st9 [] (.t (ixT 1 l_1 (Int.toNat i_1))) 0) (fun (v5 : TV) => need (isSl v5) (((0 ≤ (0 : Int) ∧ (0 : Int) < (lenZ 1 l_1 : Int)) ∧ optK (ldCell st9 [] (.t (ixT 1 l_1 (Int.toNat (0 : Int)))) 0) (fun (v6 : TV) => need (isSl v6) (BIf (decide ((lenS v5 : Int) ≠ (lenS v6 : Int))) (K (false) st9) (((0 ≤ i_1 ∧ i_1 < (lenZ 5 v3 : Int)) ∧ need (isPtr (ixT 5 v3 (Int.toNat i_1))) (optK (ldCell st9 [] (.t (fldT (ixT 5 v3 (Int.toNat i_1)) 3)) 0) (fun (v7 : TV) => need (isSl v7) (((0 ≤ i_1 ∧ i_1 < (lenZ 1 l_1 : Int)) ∧ optK (ldCell st9 [] (.t (ixT 1 l_1 (Int.toNat i_1))) 0) (fun (v8 : TV) => need (isSl v8) (BIf (decide ((lenS v7 : Int) ≠ (lenS v8 : Int))) (K (false) st9) ((I1 ((IntKind.i64.wrap (i_1 + (1 : Int)))) (l_1) (n11) (s5) (s6) (v3) (s7) st9 ∧ M1 ((IntKind.i64.wrap (i_1 + (1 : Int)))) (l_1) (n11) (s5) (s6) (v3) (s7) st9 < M1 i_1 l_1 n11 s5 s6 v3 s7 st9))))))))))))))))))))) (CallT PR fn_datakitlaw27_awake [] [.one (.bool)] st9 (fun (b4 : Bool) (st10 : St) => K (b4) st10))))))))))))))))))) : CallT PR fn_datakitlaw27_DelimLossless [(.str src), (.agg [(.int .u8 d_0), (.int .u8 d_1), (.bool d_2), (.bool d_3)])] [.one (.bool)] st K :=
  tcalls_fw (cfg := ⟨[3, 5], [], []⟩) (h := (.seq .none (.seq .none (.seq .none (.seq .none (.seq .none (.seq .none (.seq (.seq .none (.block (.loop ⟨[(10, .int .i64), (8, .tv)], [(5, 1, 0)], [(1, 5)], [(1, 0, .int .i64), (1, 1, .str), (1, 2, .str), (1, 3, .tv), (1, 4, .str)]⟩ .none))) .none)))))))) mixed (fun _ _ => Tryd.call8 _ _) Tryd.func8 (by kernel_rfl) (by kernel_rfl) h
set_option maxRecDepth 100000 in
theorem vc_datakitlaw27_DelimLimits (src : List UInt8) (d_0 : Int) (d_1 : Int) (d_2 : Bool) (d_3 : Bool) (cut : Int) (st : St) (K : Bool → St → Prop) (h : BIf (decide ((1500 : Int) < ((src).length : Int))) (CallT PR fn_datakitlaw27_awake [] [.one (.bool)] st (fun (b1 : Bool) (st1 : St) => K (b1) st1)) (CallT PR fn_limit_Usual [] [.agg [.int .i64, .int .i64, .int .i64, .int .i64, .int .i64]] st (fun (n1 : Int) (n2 : Int) (n3 : Int) (n4 : Int) (n5 : Int) (st2 : St) => CallT PR fn_delim_Parse [(.str src), (.agg [(.int .u8 d_0), (.int .u8 d_1), (.bool d_2), (.bool d_3)]), (.agg [(.int .i64 n1), (.int .i64 n2), (.int .i64 n3), (.int .i64 n4), (.int .i64 n5)])] [.agg [.int .i64, .str, .str, .tv, .str], .one (.int .i64), .one (.int .i64)] st2 (fun (n6 : Int) (s1 : List UInt8) (s2 : List UInt8) (v1 : TV) (s3 : List UInt8) (n7 : Int) (n8 : Int) (st3 : St) => need (List.all [(.int .i64 n6), (.str s1), (.str s2), v1, (.str s3)] oneT) (BIf (decide (n8 ≠ (0 : Int))) (CallT PR fn_datakitlaw27_awake [] [.one (.bool)] st3 (fun (b2 : Bool) (st4 : St) => K (b2) st4)) (∃ (I1 : Int → Int → List UInt8 → Int → Int → Int → Bool → Bool → Int → List UInt8 → List UInt8 → TV → List UInt8 → Int → Int → Int → Int → Int → St → Prop) (M1 : Int → Int → List UInt8 → Int → Int → Int → Bool → Bool → Int → List UInt8 → List UInt8 → TV → List UInt8 → Int → Int → Int → Int → Int → St → Nat), (I1 ((0 : Int)) ((0 : Int)) (src) (cut) (d_0) (d_1) (d_2) (d_3) (n6) (s1) (s2) (v1) (s3) ((1 : Int)) ((1 : Int)) ((max (1 : Int) ((src).length : Int))) ((0 : Int)) ((0 : Int)) st3) ∧ ∀ (at_1 : Int) (i_1 : Int) (src_1 : List UInt8) (cut_1 : Int) (n9 : Int) (n10 : Int) (b3 : Bool) (b4 : Bool) (n11 : Int) (s4 : List UInt8) (s5 : List UInt8) (v2 : TV) (s6 : List UInt8) (n12 : Int) (n13 : Int) (n14 : Int) (n15 : Int) (n16 : Int) (st5 : St), I1 at_1 i_1 src_1 cut_1 n9 n10 b3 b4 n11 s4 s5 v2 s6 n12 n13 n14 n15 n16 st5 → (need (isSl v2) (BIf (decide (i_1 < (lenS v2 : Int))) (BIf (decide ((0 : Int) < i_1)) (((0 ≤ i_1 ∧ i_1 < (lenZ 5 v2 : Int)) ∧ need (isPtr (ixT 5 v2 (Int.toNat i_1))) (optK (ldCell st5 [] (.t (fldT (ixT 5 v2 (Int.toNat i_1)) 3)) 0) (fun (v3 : TV) => need (isSl v3) (need (isSl v2) (need (decide ((IntKind.i64.wrap ((lenS v2 : Int) + (1 : Int))) ≠ 0)) (BIf (decide (i_1 < (Int.tmod (IntKind.i64.wrap cut_1) (IntKind.i64.wrap ((lenS v2 : Int) + (1 : Int)))))) (((0 ≤ i_1 ∧ i_1 < (lenZ 5 v2 : Int)) ∧ optK ((ldCells st5 [] (.t (ixT 5 v2 (Int.toNat i_1))) 0 5).map TV.agg) (fun (x2 : TV) => decA [.int .i64, .str, .str, .tv, .str] x2 (fun (n17 : Int) (s7 : List UInt8) (s8 : List UInt8) (v4 : TV) (s9 : List UInt8) => CallT PR fn_tree_Len [(.agg [(.int .i64 n17), (.str s7), (.str s8), v4, (.str s9)])] [.one (.int .i64)] st5 (fun (n18 : Int) (st6 : St) => (I1 ((IntKind.i64.wrap (at_1 + n18))) ((IntKind.i64.wrap (i_1 + (1 : Int)))) (src_1) (cut_1) (n9) (n10) (b3) (b4) (n11) (s4) (s5) (v2) (s6) ((3 : Int)) ((IntKind.i64.wrap (n13 + (IntKind.i64.wrap ((1 : Int) + (lenS v3 : Int)))))) (n14) (n15) (n16) st6 ∧ M1 ((IntKind.i64.wrap (at_1 + n18))) ((IntKind.i64.wrap (i_1 + (1 : Int)))) (src_1) (cut_1) (n9) (n10) (b3) (b4) (n11) (s4) (s5) (v2) (s6) ((3 : Int)) ((IntKind.i64.wrap (n13 + (IntKind.i64.wrap ((1 : Int) + (lenS v3 : Int)))))) (n14) (n15) (n16) st6 < M1 at_1 i_1 src_1 cut_1 n9 n10 b3 b4 n11 s4 s5 v2 s6 n12 n13 n14 n15 n16 st5)))))) ((I1 (at_1) ((IntKind.i64.wrap (i_1 + (1 : Int)))) (src_1) (cut_1) (n9) (n10) (b3) (b4) (n11) (s4) (s5) (v2) (s6) ((3 : Int)) ((IntKind.i64.wrap (n13 + (IntKind.i64.wrap ((1 : Int) + (lenS v3 : Int)))))) (n14) (n15) (n16) st5 ∧ M1 (at_1) ((IntKind.i64.wrap (i_1 + (1 : Int)))) (src_1) (cut_1) (n9) (n10) (b3) (b4) (n11) (s4) (s5) (v2) (s6) ((3 : Int)) ((IntKind.i64.wrap (n13 + (IntKind.i64.wrap ((1 : Int) + (lenS v3 : Int)))))) (n14) (n15) (n16) st5 < M1 at_1 i_1 src_1 cut_1 n9 n10 b3 b4 n11 s4 s5 v2 s6 n12 n13 n14 n15 n16 st5))))))))) (BIf (!b3) (((0 ≤ i_1 ∧ i_1 < (lenZ 5 v2 : Int)) ∧ need (isPtr (ixT 5 v2 (Int.toNat i_1))) (optK (ldCell st5 [] (.t (fldT (ixT 5 v2 (Int.toNat i_1)) 3)) 0) (fun (v5 : TV) => need (isSl v5) (need (isSl v2) (need (decide ((IntKind.i64.wrap ((lenS v2 : Int) + (1 : Int))) ≠ 0)) (BIf (decide (i_1 < (Int.tmod (IntKind.i64.wrap cut_1) (IntKind.i64.wrap ((lenS v2 : Int) + (1 : Int)))))) (((0 ≤ i_1 ∧ i_1 < (lenZ 5 v2 : Int)) ∧ optK ((ldCells st5 [] (.t (ixT 5 v2 (Int.toNat i_1))) 0 5).map TV.agg) (fun (x4 : TV) => decA [.int .i64, .str, .str, .tv, .str] x4 (fun (n19 : Int) (s10 : List UInt8) (s11 : List UInt8) (v6 : TV) (s12 : List UInt8) => CallT PR fn_tree_Len [(.agg [(.int .i64 n19), (.str s10), (.str s11), v6, (.str s12)])] [.one (.int .i64)] st5 (fun (n20 : Int) (st7 : St) => (I1 ((IntKind.i64.wrap (at_1 + n20))) ((IntKind.i64.wrap (i_1 + (1 : Int)))) (src_1) (cut_1) (n9) (n10) (b3) (b4) (n11) (s4) (s5) (v2) (s6) ((3 : Int)) ((IntKind.i64.wrap (n13 + (IntKind.i64.wrap ((1 : Int) + (lenS v5 : Int)))))) (n14) (n15) (n16) st7 ∧ M1 ((IntKind.i64.wrap (at_1 + n20))) ((IntKind.i64.wrap (i_1 + (1 : Int)))) (src_1) (cut_1) (n9) (n10) (b3) (b4) (n11) (s4) (s5) (v2) (s6) ((3 : Int)) ((IntKind.i64.wrap (n13 + (IntKind.i64.wrap ((1 : Int) + (lenS v5 : Int)))))) (n14) (n15) (n16) st7 < M1 at_1 i_1 src_1 cut_1 n9 n10 b3 b4 n11 s4 s5 v2 s6 n12 n13 n14 n15 n16 st5)))))) ((I1 (at_1) ((IntKind.i64.wrap (i_1 + (1 : Int)))) (src_1) (cut_1) (n9) (n10) (b3) (b4) (n11) (s4) (s5) (v2) (s6) ((3 : Int)) ((IntKind.i64.wrap (n13 + (IntKind.i64.wrap ((1 : Int) + (lenS v5 : Int)))))) (n14) (n15) (n16) st5 ∧ M1 (at_1) ((IntKind.i64.wrap (i_1 + (1 : Int)))) (src_1) (cut_1) (n9) (n10) (b3) (b4) (n11) (s4) (s5) (v2) (s6) ((3 : Int)) ((IntKind.i64.wrap (n13 + (IntKind.i64.wrap ((1 : Int) + (lenS v5 : Int)))))) (n14) (n15) (n16) st5 < M1 at_1 i_1 src_1 cut_1 n9 n10 b3 b4 n11 s4 s5 v2 s6 n12 n13 n14 n15 n16 st5))))))))) (need (isSl v2) (need (decide ((IntKind.i64.wrap ((lenS v2 : Int) + (1 : Int))) ≠ 0)) (BIf (decide (i_1 < (Int.tmod (IntKind.i64.wrap cut_1) (IntKind.i64.wrap ((lenS v2 : Int) + (1 : Int)))))) (((0 ≤ i_1 ∧ i_1 < (lenZ 5 v2 : Int)) ∧ optK ((ldCells st5 [] (.t (ixT 5 v2 (Int.toNat i_1))) 0 5).map TV.agg) (fun (x5 : TV) => decA [.int .i64, .str, .str, .tv, .str] x5 (fun (n21 : Int) (s13 : List UInt8) (s14 : List UInt8) (v7 : TV) (s15 : List UInt8) => CallT PR fn_tree_Len [(.agg [(.int .i64 n21), (.str s13), (.str s14), v7, (.str s15)])] [.one (.int .i64)] st5 (fun (n22 : Int) (st8 : St) => (I1 ((IntKind.i64.wrap (at_1 + n22))) ((IntKind.i64.wrap (i_1 + (1 : Int)))) (src_1) (cut_1) (n9) (n10) (b3) (b4) (n11) (s4) (s5) (v2) (s6) (n12) (n13) (n14) (n15) (n16) st8 ∧ M1 ((IntKind.i64.wrap (at_1 + n22))) ((IntKind.i64.wrap (i_1 + (1 : Int)))) (src_1) (cut_1) (n9) (n10) (b3) (b4) (n11) (s4) (s5) (v2) (s6) (n12) (n13) (n14) (n15) (n16) st8 < M1 at_1 i_1 src_1 cut_1 n9 n10 b3 b4 n11 s4 s5 v2 s6 n12 n13 n14 n15 n16 st5)))))) ((I1 (at_1) ((IntKind.i64.wrap (i_1 + (1 : Int)))) (src_1) (cut_1) (n9) (n10) (b3) (b4) (n11) (s4) (s5) (v2) (s6) (n12) (n13) (n14) (n15) (n16) st5 ∧ M1 (at_1) ((IntKind.i64.wrap (i_1 + (1 : Int)))) (src_1) (cut_1) (n9) (n10) (b3) (b4) (n11) (s4) (s5) (v2) (s6) (n12) (n13) (n14) (n15) (n16) st5 < M1 at_1 i_1 src_1 cut_1 n9 n10 b3 b4 n11 s4 s5 v2 s6 n12 n13 n14 n15 n16 st5))))))) (CallT PR fn_delim_Parse [(.str src_1), (.agg [(.int .u8 n9), (.int .u8 n10), (.bool b3), (.bool b4)]), (.agg [(.int .i64 n12), (.int .i64 n13), (.int .i64 n14), (.int .i64 n15), (.int .i64 n16)])] [.agg [.int .i64, .str, .str, .tv, .str], .one (.int .i64), .one (.int .i64)] st5 (fun (n23 : Int) (s16 : List UInt8) (s17 : List UInt8) (v8 : TV) (s18 : List UInt8) (n24 : Int) (n25 : Int) (st9 : St) => need (List.all [(.int .i64 n23), (.str s16), (.str s17), v8, (.str s18)] oneT) (CallT PR fn_delim_Parse [(.str src_1), (.agg [(.int .u8 n9), (.int .u8 n10), (.bool b3), (.bool b4)]), (.agg [(.int .i64 (IntKind.i64.wrap (n12 - (1 : Int)))), (.int .i64 n13), (.int .i64 n14), (.int .i64 n15), (.int .i64 n16)])] [.agg [.int .i64, .str, .str, .tv, .str], .one (.int .i64), .one (.int .i64)] st9 (fun (n26 : Int) (s19 : List UInt8) (s20 : List UInt8) (v9 : TV) (s21 : List UInt8) (n27 : Int) (n28 : Int) (st10 : St) => need (List.all [(.int .i64 n26), (.str s19), (.str s20), v9, (.str s21)] oneT) (CallT PR fn_delim_Parse [(.str src_1), (.agg [(.int .u8 n9), (.int .u8 n10), (.bool b3), (.bool b4)]), (.agg [(.int .i64 n12), (.int .i64 (IntKind.i64.wrap (n13 - (1 : Int)))), (.int .i64 n14), (.int .i64 n15), (.int .i64 n16)])] [.agg [.int .i64, .str, .str, .tv, .str], .one (.int .i64), .one (.int .i64)] st10 (fun (n29 : Int) (s22 : List UInt8) (s23 : List UInt8) (v10 : TV) (s24 : List UInt8) (n30 : Int) (n31 : Int) (st11 : St) => need (List.all [(.int .i64 n29), (.str s22), (.str s23), v10, (.str s24)] oneT) (CallT PR fn_delim_Parse [(.str src_1), (.agg [(.int .u8 n9), (.int .u8 n10), (.bool b3), (.bool b4)]), (.agg [(.int .i64 n12), (.int .i64 n13), (.int .i64 (IntKind.i64.wrap (n14 - (1 : Int)))), (.int .i64 n15), (.int .i64 n16)])] [.agg [.int .i64, .str, .str, .tv, .str], .one (.int .i64), .one (.int .i64)] st11 (fun (n32 : Int) (s25 : List UInt8) (s26 : List UInt8) (v11 : TV) (s27 : List UInt8) (n33 : Int) (n34 : Int) (st12 : St) => need (List.all [(.int .i64 n32), (.str s25), (.str s26), v11, (.str s27)] oneT) (BIf (decide (n25 ≠ (0 : Int))) (K (false) st12) (CallT PR fn_tree_Same [(.agg [(.int .i64 n11), (.str s4), (.str s5), v2, (.str s6)]), (.agg [(.int .i64 n23), (.str s16), (.str s17), v8, (.str s18)])] [.one (.bool)] st12 (fun (b5 : Bool) (st13 : St) => BIf (!b5) (K (false) st13) (BIf (decide (n28 ≠ (9 : Int))) (BIf (decide ((0 : Int) < (IntKind.i64.wrap (n12 - (1 : Int))))) (K (false) st13) (BIf (decide (n28 ≠ (1 : Int))) (K (false) st13) (BIf (decide (n31 ≠ (10 : Int))) (BIf (decide ((0 : Int) < (IntKind.i64.wrap (n13 - (1 : Int))))) (K (false) st13) (BIf (decide (n31 ≠ (1 : Int))) (K (false) st13) (BIf (decide (n34 ≠ (10 : Int))) (BIf (decide ((0 : Int) < (IntKind.i64.wrap (n14 - (1 : Int))))) (K (false) st13) (BIf (decide (n34 ≠ (1 : Int))) (K (false) st13) (BIf b3 (BIf b3 (CallT PR fn_datakitlaw27_awake [] [.one (.bool)] st13 (fun (b6 : Bool) (st14 : St) => K (b6) st14)) (K (false) st13)) (BIf (decide (((src_1).length : Int) < at_1)) (BIf b3 (CallT PR fn_datakitlaw27_awake [] [.one (.bool)] st13 (fun (b7 : Bool) (st15 : St) => K (b7) st15)) (K (false) st13)) (((0 ≤ at_1 ∧ at_1 ≤ ((src_1).length : Int)) ∧ CallT PR fn_limit_Usual [] [.agg [.int .i64, .int .i64, .int .i64, .int .i64, .int .i64]] st13 (fun (n35 : Int) (n36 : Int) (n37 : Int) (n38 : Int) (n39 : Int) (st16 : St) => CallT PR fn_delim_Parse [(.str (List.take (Int.toNat at_1) src_1)), (.agg [(.int .u8 n9), (.int .u8 n10), (.bool b3), (.bool b4)]), (.agg [(.int .i64 n35), (.int .i64 n36), (.int .i64 n37), (.int .i64 n38), (.int .i64 n39)])] [.agg [.int .i64, .str, .str, .tv, .str], .one (.int .i64), .one (.int .i64)] st16 (fun (n40 : Int) (s28 : List UInt8) (s29 : List UInt8) (v12 : TV) (s30 : List UInt8) (n41 : Int) (n42 : Int) (st17 : St) => need (List.all [(.int .i64 n40), (.str s28), (.str s29), v12, (.str s30)] oneT) (need (isSl v2) (need (decide ((IntKind.i64.wrap ((lenS v2 : Int) + (1 : Int))) ≠ 0)) (BIf (decide (n42 = (0 : Int))) (need (isSl v12) (BIf (decide ((lenS v12 : Int) = (Int.tmod (IntKind.i64.wrap cut_1) (IntKind.i64.wrap ((lenS v2 : Int) + (1 : Int)))))) (((isLst 5 v2 = true ∧ 0 ≤ (Int.tmod (IntKind.i64.wrap cut_1) (IntKind.i64.wrap ((lenS v2 : Int) + (1 : Int)))) ∧ (Int.tmod (IntKind.i64.wrap cut_1) (IntKind.i64.wrap ((lenS v2 : Int) + (1 : Int)))) ≤ (lenS v2 : Int)) ∧ need (List.all [(slT 5 .non v2 0 (Int.toNat (Int.tmod (IntKind.i64.wrap cut_1) (IntKind.i64.wrap ((lenS v2 : Int) + (1 : Int))))))] oneT) (CallT PR fn_tree_Same [(.agg [(.int .i64 n40), (.str s28), (.str s29), v12, (.str s30)]), (.agg [(.int .i64 (1 : Int)), (.str ([] : List UInt8)), (.str ([] : List UInt8)), (slT 5 .non v2 0 (Int.toNat (Int.tmod (IntKind.i64.wrap cut_1) (IntKind.i64.wrap ((lenS v2 : Int) + (1 : Int)))))), (.str ([] : List UInt8))])] [.one (.bool)] st17 (fun (b8 : Bool) (st18 : St) => BIf b8 (CallT PR fn_datakitlaw27_awake [] [.one (.bool)] st18 (fun (b9 : Bool) (st19 : St) => K (b9) st19)) (K (false) st18))))) (K (false) st17))) (K (false) st17)))))))))))) (BIf b3 (BIf b3 (CallT PR fn_datakitlaw27_awake [] [.one (.bool)] st13 (fun (b10 : Bool) (st20 : St) => K (b10) st20)) (K (false) st13)) (BIf (decide (((src_1).length : Int) < at_1)) (BIf b3 (CallT PR fn_datakitlaw27_awake [] [.one (.bool)] st13 (fun (b11 : Bool) (st21 : St) => K (b11) st21)) (K (false) st13)) (((0 ≤ at_1 ∧ at_1 ≤ ((src_1).length : Int)) ∧ CallT PR fn_limit_Usual [] [.agg [.int .i64, .int .i64, .int .i64, .int .i64, .int .i64]] st13 (fun (n43 : Int) (n44 : Int) (n45 : Int) (n46 : Int) (n47 : Int) (st22 : St) => CallT PR fn_delim_Parse [(.str (List.take (Int.toNat at_1) src_1)), (.agg [(.int .u8 n9), (.int .u8 n10), (.bool b3), (.bool b4)]), (.agg [(.int .i64 n43), (.int .i64 n44), (.int .i64 n45), (.int .i64 n46), (.int .i64 n47)])] [.agg [.int .i64, .str, .str, .tv, .str], .one (.int .i64), .one (.int .i64)] st22 (fun (n48 : Int) (s31 : List UInt8) (s32 : List UInt8) (v13 : TV) (s33 : List UInt8) (n49 : Int) (n50 : Int) (st23 : St) => need (List.all [(.int .i64 n48), (.str s31), (.str s32), v13, (.str s33)] oneT) (need (isSl v2) (need (decide ((IntKind.i64.wrap ((lenS v2 : Int) + (1 : Int))) ≠ 0)) (BIf (decide (n50 = (0 : Int))) (need (isSl v13) (BIf (decide ((lenS v13 : Int) = (Int.tmod (IntKind.i64.wrap cut_1) (IntKind.i64.wrap ((lenS v2 : Int) + (1 : Int)))))) (((isLst 5 v2 = true ∧ 0 ≤ (Int.tmod (IntKind.i64.wrap cut_1) (IntKind.i64.wrap ((lenS v2 : Int) + (1 : Int)))) ∧ (Int.tmod (IntKind.i64.wrap cut_1) (IntKind.i64.wrap ((lenS v2 : Int) + (1 : Int)))) ≤ (lenS v2 : Int)) ∧ need (List.all [(slT 5 .non v2 0 (Int.toNat (Int.tmod (IntKind.i64.wrap cut_1) (IntKind.i64.wrap ((lenS v2 : Int) + (1 : Int))))))] oneT) (CallT PR fn_tree_Same [(.agg [(.int .i64 n48), (.str s31), (.str s32), v13, (.str s33)]), (.agg [(.int .i64 (1 : Int)), (.str ([] : List UInt8)), (.str ([] : List UInt8)), (slT 5 .non v2 0 (Int.toNat (Int.tmod (IntKind.i64.wrap cut_1) (IntKind.i64.wrap ((lenS v2 : Int) + (1 : Int)))))), (.str ([] : List UInt8))])] [.one (.bool)] st23 (fun (b12 : Bool) (st24 : St) => BIf b12 (CallT PR fn_datakitlaw27_awake [] [.one (.bool)] st24 (fun (b13 : Bool) (st25 : St) => K (b13) st25)) (K (false) st24))))) (K (false) st23))) (K (false) st23))))))))))))) (BIf (decide (n34 ≠ (10 : Int))) (BIf (decide ((0 : Int) < (IntKind.i64.wrap (n14 - (1 : Int))))) (K (false) st13) (BIf (decide (n34 ≠ (1 : Int))) (K (false) st13) (BIf b3 (BIf b3 (CallT PR fn_datakitlaw27_awake [] [.one (.bool)] st13 (fun (b14 : Bool) (st26 : St) => K (b14) st26)) (K (false) st13)) (BIf (decide (((src_1).length : Int) < at_1)) (BIf b3 (CallT PR fn_datakitlaw27_awake [] [.one (.bool)] st13 (fun (b15 : Bool) (st27 : St) => K (b15) st27)) (K (false) st13)) (((0 ≤ at_1 ∧ at_1 ≤ ((src_1).length : Int)) ∧ CallT PR fn_limit_Usual [] [.agg [.int .i64, .int .i64, .int .i64, .int .i64, .int .i64]] st13 (fun (n51 : Int) (n52 : Int) (n53 : Int) (n54 : Int) (n55 : Int) (st28 : St) => CallT PR fn_delim_Parse [(.str (List.take (Int.toNat at_1) src_1)), (.agg [(.int .u8 n9), (.int .u8 n10), (.bool b3), (.bool b4)]), (.agg [(.int .i64 n51), (.int .i64 n52), (.int .i64 n53), (.int .i64 n54), (.int .i64 n55)])] [.agg [.int .i64, .str, .str, .tv, .str], .one (.int .i64), .one (.int .i64)] st28 (fun (n56 : Int) (s34 : List UInt8) (s35 : List UInt8) (v14 : TV) (s36 : List UInt8) (n57 : Int) (n58 : Int) (st29 : St) => need (List.all [(.int .i64 n56), (.str s34), (.str s35), v14, (.str s36)] oneT) (need (isSl v2) (need (decide ((IntKind.i64.wrap ((lenS v2 : Int) + (1 : Int))) ≠ 0)) (BIf (decide (n58 = (0 : Int))) (need (isSl v14) (BIf (decide ((lenS v14 : Int) = (Int.tmod (IntKind.i64.wrap cut_1) (IntKind.i64.wrap ((lenS v2 : Int) + (1 : Int)))))) (((isLst 5 v2 = true ∧ 0 ≤ (Int.tmod (IntKind.i64.wrap cut_1) (IntKind.i64.wrap ((lenS v2 : Int) + (1 : Int)))) ∧ (Int.tmod (IntKind.i64.wrap cut_1) (IntKind.i64.wrap ((lenS v2 : Int) + (1 : Int)))) ≤ (lenS v2 : Int)) ∧ need (List.all [(slT 5 .non v2 0 (Int.toNat (Int.tmod (IntKind.i64.wrap cut_1) (IntKind.i64.wrap ((lenS v2 : Int) + (1 : Int))))))] oneT) (CallT PR fn_tree_Same [(.agg [(.int .i64 n56), (.str s34), (.str s35), v14, (.str s36)]), (.agg [(.int .i64 (1 : Int)), (.str ([] : List UInt8)), (.str ([] : List UInt8)), (slT 5 .non v2 0 (Int.toNat (Int.tmod (IntKind.i64.wrap cut_1) (IntKind.i64.wrap ((lenS v2 : Int) + (1 : Int)))))), (.str ([] : List UInt8))])] [.one (.bool)] st29 (fun (b16 : Bool) (st30 : St) => BIf b16 (CallT PR fn_datakitlaw27_awake [] [.one (.bool)] st30 (fun (b17 : Bool) (st31 : St) => K (b17) st31)) (K (false) st30))))) (K (false) st29))) (K (false) st29)))))))))))) (BIf b3 (BIf b3 (CallT PR fn_datakitlaw27_awake [] [.one (.bool)] st13 (fun (b18 : Bool) (st32 : St) => K (b18) st32)) (K (false) st13)) (BIf (decide (((src_1).length : Int) < at_1)) (BIf b3 (CallT PR fn_datakitlaw27_awake [] [.one (.bool)] st13 (fun (b19 : Bool) (st33 : St) => K (b19) st33)) (K (false) st13)) (((0 ≤ at_1 ∧ at_1 ≤ ((src_1).length : Int)) ∧ CallT PR fn_limit_Usual [] [.agg [.int .i64, .int .i64, .int .i64, .int .i64, .int .i64]] st13 (fun (n59 : Int) (n60 : Int) (n61 : Int) (n62 : Int) (n63 : Int) (st34 : St) => CallT PR fn_delim_Parse [(.str (List.take (Int.toNat at_1) src_1)), (.agg [(.int .u8 n9), (.int .u8 n10), (.bool b3), (.bool b4)]), (.agg [(.int .i64 n59), (.int .i64 n60), (.int .i64 n61), (.int .i64 n62), (.int .i64 n63)])] [.agg [.int .i64, .str, .str, .tv, .str], .one (.int .i64), .one (.int .i64)] st34 (fun (n64 : Int) (s37 : List UInt8) (s38 : List UInt8) (v15 : TV) (s39 : List UInt8) (n65 : Int) (n66 : Int) (st35 : St) => need (List.all [(.int .i64 n64), (.str s37), (.str s38), v15, (.str s39)] oneT) (need (isSl v2) (need (decide ((IntKind.i64.wrap ((lenS v2 : Int) + (1 : Int))) ≠ 0)) (BIf (decide (n66 = (0 : Int))) (need (isSl v15) (BIf (decide ((lenS v15 : Int) = (Int.tmod (IntKind.i64.wrap cut_1) (IntKind.i64.wrap ((lenS v2 : Int) + (1 : Int)))))) (((isLst 5 v2 = true ∧ 0 ≤ (Int.tmod (IntKind.i64.wrap cut_1) (IntKind.i64.wrap ((lenS v2 : Int) + (1 : Int)))) ∧ (Int.tmod (IntKind.i64.wrap cut_1) (IntKind.i64.wrap ((lenS v2 : Int) + (1 : Int)))) ≤ (lenS v2 : Int)) ∧ need (List.all [(slT 5 .non v2 0 (Int.toNat (Int.tmod (IntKind.i64.wrap cut_1) (IntKind.i64.wrap ((lenS v2 : Int) + (1 : Int))))))] oneT) (CallT PR fn_tree_Same [(.agg [(.int .i64 n64), (.str s37), (.str s38), v15, (.str s39)]), (.agg [(.int .i64 (1 : Int)), (.str ([] : List UInt8)), (.str ([] : List UInt8)), (slT 5 .non v2 0 (Int.toNat (Int.tmod (IntKind.i64.wrap cut_1) (IntKind.i64.wrap ((lenS v2 : Int) + (1 : Int)))))), (.str ([] : List UInt8))])] [.one (.bool)] st35 (fun (b20 : Bool) (st36 : St) => BIf b20 (CallT PR fn_datakitlaw27_awake [] [.one (.bool)] st36 (fun (b21 : Bool) (st37 : St) => K (b21) st37)) (K (false) st36))))) (K (false) st35))) (K (false) st35)))))))))))))) (BIf (decide (n31 ≠ (10 : Int))) (BIf (decide ((0 : Int) < (IntKind.i64.wrap (n13 - (1 : Int))))) (K (false) st13) (BIf (decide (n31 ≠ (1 : Int))) (K (false) st13) (BIf (decide (n34 ≠ (10 : Int))) (BIf (decide ((0 : Int) < (IntKind.i64.wrap (n14 - (1 : Int))))) (K (false) st13) (BIf (decide (n34 ≠ (1 : Int))) (K (false) st13) (BIf b3 (BIf b3 (CallT PR fn_datakitlaw27_awake [] [.one (.bool)] st13 (fun (b22 : Bool) (st38 : St) => K (b22) st38)) (K (false) st13)) (BIf (decide (((src_1).length : Int) < at_1)) (BIf b3 (CallT PR fn_datakitlaw27_awake [] [.one (.bool)] st13 (fun (b23 : Bool) (st39 : St) => K (b23) st39)) (K (false) st13)) (((0 ≤ at_1 ∧ at_1 ≤ ((src_1).length : Int)) ∧ CallT PR fn_limit_Usual [] [.agg [.int .i64, .int .i64, .int .i64, .int .i64, .int .i64]] st13 (fun (n67 : Int) (n68 : Int) (n69 : Int) (n70 : Int) (n71 : Int) (st40 : St) => CallT PR fn_delim_Parse [(.str (List.take (Int.toNat at_1) src_1)), (.agg [(.int .u8 n9), (.int .u8 n10), (.bool b3), (.bool b4)]), (.agg [(.int .i64 n67), (.int .i64 n68), (.int .i64 n69), (.int .i64 n70), (.int .i64 n71)])] [.agg [.int .i64, .str, .str, .tv, .str], .one (.int .i64), .one (.int .i64)] st40 (fun (n72 : Int) (s40 : List UInt8) (s41 : List UInt8) (v16 : TV) (s42 : List UInt8) (n73 : Int) (n74 : Int) (st41 : St) => need (List.all [(.int .i64 n72), (.str s40), (.str s41), v16, (.str s42)] oneT) (need (isSl v2) (need (decide ((IntKind.i64.wrap ((lenS v2 : Int) + (1 : Int))) ≠ 0)) (BIf (decide (n74 = (0 : Int))) (need (isSl v16) (BIf (decide ((lenS v16 : Int) = (Int.tmod (IntKind.i64.wrap cut_1) (IntKind.i64.wrap ((lenS v2 : Int) + (1 : Int)))))) (((isLst 5 v2 = true ∧ 0 ≤ (Int.tmod (IntKind.i64.wrap cut_1) (IntKind.i64.wrap ((lenS v2 : Int) + (1 : Int)))) ∧ (Int.tmod (IntKind.i64.wrap cut_1) (IntKind.i64.wrap ((lenS v2 : Int) + (1 : Int)))) ≤ (lenS v2 : Int)) ∧ need (List.all [(slT 5 .non v2 0 (Int.toNat (Int.tmod (IntKind.i64.wrap cut_1) (IntKind.i64.wrap ((lenS v2 : Int) + (1 : Int))))))] oneT) (CallT PR fn_tree_Same [(.agg [(.int .i64 n72), (.str s40), (.str s41), v16, (.str s42)]), (.agg [(.int .i64 (1 : Int)), (.str ([] : List UInt8)), (.str ([] : List UInt8)), (slT 5 .non v2 0 (Int.toNat (Int.tmod (IntKind.i64.wrap cut_1) (IntKind.i64.wrap ((lenS v2 : Int) + (1 : Int)))))), (.str ([] : List UInt8))])] [.one (.bool)] st41 (fun (b24 : Bool) (st42 : St) => BIf b24 (CallT PR fn_datakitlaw27_awake [] [.one (.bool)] st42 (fun (b25 : Bool) (st43 : St) => K (b25) st43)) (K (false) st42))))) (K (false) st41))) (K (false) st41)))))))))))) (BIf b3 (BIf b3 (CallT PR fn_datakitlaw27_awake [] [.one (.bool)] st13 (fun (b26 : Bool) (st44 : St) => K (b26) st44)) (K (false) st13)) (BIf (decide (((src_1).length : Int) < at_1)) (BIf b3 (CallT PR fn_datakitlaw27_awake [] [.one (.bool)] st13 (fun (b27 : Bool) (st45 : St) => K (b27) st45)) (K (false) st13)) (((0 ≤ at_1 ∧ at_1 ≤ ((src_1).length : Int)) ∧ CallT PR fn_limit_Usual [] [.agg [.int .i64, .int .i64, .int .i64, .int .i64, .int .i64]] st13 (fun (n75 : Int) (n76 : Int) (n77 : Int) (n78 : Int) (n79 : Int) (st46 : St) => CallT PR fn_delim_Parse [(.str (List.take (Int.toNat at_1) src_1)), (.agg [(.int .u8 n9), (.int .u8 n10), (.bool b3), (.bool b4)]), (.agg [(.int .i64 n75), (.int .i64 n76), (.int .i64 n77), (.int .i64 n78), (.int .i64 n79)])] [.agg [.int .i64, .str, .str, .tv, .str], .one (.int .i64), .one (.int .i64)] st46 (fun (n80 : Int) (s43 : List UInt8) (s44 : List UInt8) (v17 : TV) (s45 : List UInt8) (n81 : Int) (n82 : Int) (st47 : St) => need (List.all [(.int .i64 n80), (.str s43), (.str s44), v17, (.str s45)] oneT) (need (isSl v2) (need (decide ((IntKind.i64.wrap ((lenS v2 : Int) + (1 : Int))) ≠ 0)) (BIf (decide (n82 = (0 : Int))) (need (isSl v17) (BIf (decide ((lenS v17 : Int) = (Int.tmod (IntKind.i64.wrap cut_1) (IntKind.i64.wrap ((lenS v2 : Int) + (1 : Int)))))) (((isLst 5 v2 = true ∧ 0 ≤ (Int.tmod (IntKind.i64.wrap cut_1) (IntKind.i64.wrap ((lenS v2 : Int) + (1 : Int)))) ∧ (Int.tmod (IntKind.i64.wrap cut_1) (IntKind.i64.wrap ((lenS v2 : Int) + (1 : Int)))) ≤ (lenS v2 : Int)) ∧ need (List.all [(slT 5 .non v2 0 (Int.toNat (Int.tmod (IntKind.i64.wrap cut_1) (IntKind.i64.wrap ((lenS v2 : Int) + (1 : Int))))))] oneT) (CallT PR fn_tree_Same [(.agg [(.int .i64 n80), (.str s43), (.str s44), v17, (.str s45)]), (.agg [(.int .i64 (1 : Int)), (.str ([] : List UInt8)), (.str ([] : List UInt8)), (slT 5 .non v2 0 (Int.toNat (Int.tmod (IntKind.i64.wrap cut_1) (IntKind.i64.wrap ((lenS v2 : Int) + (1 : Int)))))), (.str ([] : List UInt8))])] [.one (.bool)] st47 (fun (b28 : Bool) (st48 : St) => BIf b28 (CallT PR fn_datakitlaw27_awake [] [.one (.bool)] st48 (fun (b29 : Bool) (st49 : St) => K (b29) st49)) (K (false) st48))))) (K (false) st47))) (K (false) st47))))))))))))) (BIf (decide (n34 ≠ (10 : Int))) (BIf (decide ((0 : Int) < (IntKind.i64.wrap (n14 - (1 : Int))))) (K (false) st13) (BIf (decide (n34 ≠ (1 : Int))) (K (false) st13) (BIf b3 (BIf b3 (CallT PR fn_datakitlaw27_awake [] [.one (.bool)] st13 (fun (b30 : Bool) (st50 : St) => K (b30) st50)) (K (false) st13)) (BIf (decide (((src_1).length : Int) < at_1)) (BIf b3 (CallT PR fn_datakitlaw27_awake [] [.one (.bool)] st13 (fun (b31 : Bool) (st51 : St) => K (b31) st51)) (K (false) st13)) (((0 ≤ at_1 ∧ at_1 ≤ ((src_1).length : Int)) ∧ CallT PR fn_limit_Usual [] [.agg [.int .i64, .int .i64, .int .i64, .int .i64, .int .i64]] st13 (fun (n83 : Int) (n84 : Int) (n85 : Int) (n86 : Int) (n87 : Int) (st52 : St) => CallT PR fn_delim_Parse [(.str (List.take (Int.toNat at_1) src_1)), (.agg [(.int .u8 n9), (.int .u8 n10), (.bool b3), (.bool b4)]), (.agg [(.int .i64 n83), (.int .i64 n84), (.int .i64 n85), (.int .i64 n86), (.int .i64 n87)])] [.agg [.int .i64, .str, .str, .tv, .str], .one (.int .i64), .one (.int .i64)] st52 (fun (n88 : Int) (s46 : List UInt8) (s47 : List UInt8) (v18 : TV) (s48 : List UInt8) (n89 : Int) (n90 : Int) (st53 : St) => need (List.all [(.int .i64 n88), (.str s46), (.str s47), v18, (.str s48)] oneT) (need (isSl v2) (need (decide ((IntKind.i64.wrap ((lenS v2 : Int) + (1 : Int))) ≠ 0)) (BIf (decide (n90 = (0 : Int))) (need (isSl v18) (BIf (decide ((lenS v18 : Int) = (Int.tmod (IntKind.i64.wrap cut_1) (IntKind.i64.wrap ((lenS v2 : Int) + (1 : Int)))))) (((isLst 5 v2 = true ∧ 0 ≤ (Int.tmod (IntKind.i64.wrap cut_1) (IntKind.i64.wrap ((lenS v2 : Int) + (1 : Int)))) ∧ (Int.tmod (IntKind.i64.wrap cut_1) (IntKind.i64.wrap ((lenS v2 : Int) + (1 : Int)))) ≤ (lenS v2 : Int)) ∧ need (List.all [(slT 5 .non v2 0 (Int.toNat (Int.tmod (IntKind.i64.wrap cut_1) (IntKind.i64.wrap ((lenS v2 : Int) + (1 : Int))))))] oneT) (CallT PR fn_tree_Same [(.agg [(.int .i64 n88), (.str s46), (.str s47), v18, (.str s48)]), (.agg [(.int .i64 (1 : Int)), (.str ([] : List UInt8)), (.str ([] : List UInt8)), (slT 5 .non v2 0 (Int.toNat (Int.tmod (IntKind.i64.wrap cut_1) (IntKind.i64.wrap ((lenS v2 : Int) + (1 : Int)))))), (.str ([] : List UInt8))])] [.one (.bool)] st53 (fun (b32 : Bool) (st54 : St) => BIf b32 (CallT PR fn_datakitlaw27_awake [] [.one (.bool)] st54 (fun (b33 : Bool) (st55 : St) => K (b33) st55)) (K (false) st54))))) (K (false) st53))) (K (false) st53)))))))))))) (BIf b3 (BIf b3 (CallT PR fn_datakitlaw27_awake [] [.one (.bool)] st13 (fun (b34 : Bool) (st56 : St) => K (b34) st56)) (K (false) st13)) (BIf (decide (((src_1).length : Int) < at_1)) (BIf b3 (CallT PR fn_datakitlaw27_awake [] [.one (.bool)] st13 (fun (b35 : Bool) (st57 : St) => K (b35) st57)) (K (false) st13)) (((0 ≤ at_1 ∧ at_1 ≤ ((src_1).length : Int)) ∧ CallT PR fn_limit_Usual [] [.agg [.int .i64, .int .i64, .int .i64, .int .i64, .int .i64]] st13 (fun (n91 : Int) (n92 : Int) (n93 : Int) (n94 : Int) (n95 : Int) (st58 : St) => CallT PR fn_delim_Parse [(.str (List.take (Int.toNat at_1) src_1)), (.agg [(.int .u8 n9), (.int .u8 n10), (.bool b3), (.bool b4)]), (.agg [(.int .i64 n91), (.int .i64 n92), (.int .i64 n93), (.int .i64 n94), (.int .i64 n95)])] [.agg [.int .i64, .str, .str, .tv, .str], .one (.int .i64), .one (.int .i64)] st58 (fun (n96 : Int) (s49 : List UInt8) (s50 : List UInt8) (v19 : TV) (s51 : List UInt8) (n97 : Int) (n98 : Int) (st59 : St) => need (List.all [(.int .i64 n96), (.str s49), (.str s50), v19, (.str s51)] oneT) (need (isSl v2) (need (decide ((IntKind.i64.wrap ((lenS v2 : Int) + (1 : Int))) ≠ 0)) (BIf (decide (n98 = (0 : Int))) (need (isSl v19) (BIf (decide ((lenS v19 : Int) = (Int.tmod (IntKind.i64.wrap cut_1) (IntKind.i64.wrap ((lenS v2 : Int) + (1 : Int)))))) (((isLst 5 v2 = true ∧ 0 ≤ (Int.tmod (IntKind.i64.wrap cut_1) (IntKind.i64.wrap ((lenS v2 : Int) + (1 : Int)))) ∧ (Int.tmod (IntKind.i64.wrap cut_1) (IntKind.i64.wrap ((lenS v2 : Int) + (1 : Int)))) ≤ (lenS v2 : Int)) ∧ need (List.all [(slT 5 .non v2 0 (Int.toNat (Int.tmod (IntKind.i64.wrap cut_1) (IntKind.i64.wrap ((lenS v2 : Int) + (1 : Int))))))] oneT) (CallT PR fn_tree_Same [(.agg [(.int .i64 n96), (.str s49), (.str s50), v19, (.str s51)]), (.agg [(.int .i64 (1 : Int)), (.str ([] : List UInt8)), (.str ([] : List UInt8)), (slT 5 .non v2 0 (Int.toNat (Int.tmod (IntKind.i64.wrap cut_1) (IntKind.i64.wrap ((lenS v2 : Int) + (1 : Int)))))), (.str ([] : List UInt8))])] [.one (.bool)] st59 (fun (b36 : Bool) (st60 : St) => BIf b36 (CallT PR fn_datakitlaw27_awake [] [.one (.bool)] st60 (fun (b37 : Bool) (st61 : St) => K (b37) st61)) (K (false) st60))))) (K (false) st59))) (K (false) st59)))))))))))))))))))))))))))))))) : CallT PR fn_datakitlaw27_DelimLimits [(.str src), (.agg [(.int .u8 d_0), (.int .u8 d_1), (.bool d_2), (.bool d_3)]), (.int .u8 cut)] [.one (.bool)] st K :=
  tcalls_fw (cfg := ⟨[4, 7, 10, 13, 16, 17, 18, 19, 22, 25, 28], [], []⟩) (h := (.seq .none (.seq .none (.seq .none (.seq .none (.seq .none (.seq .none (.seq (.seq .none (.block (.loop ⟨[(11, .int .i64), (12, .int .i64), (0, .str), (2, .int .u8)], [(4, 0, 0), (7, 1, 0), (10, 2, 0)], [(0, 4), (1, 5), (2, 5)], [(0, 0, .int .u8), (0, 1, .int .u8), (0, 2, .bool), (0, 3, .bool), (1, 0, .int .i64), (1, 1, .str), (1, 2, .str), (1, 3, .tv), (1, 4, .str), (2, 0, .int .i64), (2, 1, .int .i64), (2, 2, .int .i64), (2, 3, .int .i64), (2, 4, .int .i64)]⟩ .none))) .none)))))))) mixed (fun _ _ => Tryd.call9 _ _) Tryd.func9 (by kernel_rfl) (by kernel_rfl) h
end Go.TVF
end

section
set_option linter.unusedVariables false
namespace Go.TVF
open Go Go.Proofs
set_option maxRecDepth 100000 in
theorem vc_datakitlaw27_DelimParses (src : List UInt8) (d_0 : Int) (d_1 : Int) (d_2 : Bool) (d_3 : Bool) (l_0 : Int) (l_1 : Int) (l_2 : Int) (l_3 : Int) (l_4 : Int) (st : St) (K : Bool → St → Prop) (h : BIf (decide ((1500 : Int) < ((src).length : Int))) (CallT PR fn_datakitlaw27_awake [] [.one (.bool)] st (fun (b1 : Bool) (st1 : St) => K (b1) st1)) (CallT PR fn_delim_Parse [(.str src), (.agg [(.int .u8 d_0), (.int .u8 d_1), (.bool d_2), (.bool d_3)]), (.agg [(.int .i64 l_0), (.int .i64 l_1), (.int .i64 l_2), (.int .i64 l_3), (.int .i64 l_4)])] [.agg [.int .i64, .str, .str, .tv, .str], .one (.int .i64), .one (.int .i64)] st (fun (n1 : Int) (s1 : List UInt8) (s2 : List UInt8) (v1 : TV) (s3 : List UInt8) (n2 : Int) (n3 : Int) (st2 : St) => need (List.all [(.int .i64 n1), (.str s1), (.str s2), v1, (.str s3)] oneT) (CallT PR fn_datakitref27_Parse [(.str src), (.agg [(.int .u8 d_0), (.int .u8 d_1), (.bool d_2), (.bool d_3)]), (.agg [(.int .i64 l_0), (.int .i64 l_1), (.int .i64 l_2), (.int .i64 l_3), (.int .i64 l_4)])] [.agg [.int .i64, .str, .str, .tv, .str], .one (.int .i64), .one (.int .i64)] st2 (fun (n4 : Int) (s4 : List UInt8) (s5 : List UInt8) (v2 : TV) (s6 : List UInt8) (n5 : Int) (n6 : Int) (st3 : St) => need (List.all [(.int .i64 n4), (.str s4), (.str s5), v2, (.str s6)] oneT) (CallT PR fn_datakitref13_Same [(.agg [(.int .i64 n1), (.str s1), (.str s2), v1, (.str s3)]), (.agg [(.int .i64 n4), (.str s4), (.str s5), v2, (.str s6)])] [.one (.bool)] st3 (fun (b2 : Bool) (st4 : St) => BIf b2 (BIf (decide (n2 = n5)) (BIf (decide (n3 = n6)) (CallT PR fn_delim_Valid [(.agg [(.int .u8 d_0), (.int .u8 d_1), (.bool d_2), (.bool d_3)])] [.one (.bool)] st4 (fun (b3 : Bool) (st5 : St) => CallT PR fn_datakitref27_Valid [(.agg [(.int .u8 d_0), (.int .u8 d_1), (.bool d_2), (.bool d_3)])] [.one (.bool)] st5 (fun (b4 : Bool) (st6 : St) => BIf (b3 == b4) (CallT PR fn_delim_Usual [] [.agg [.int .u8, .int .u8, .bool, .bool]] st6 (fun (n7 : Int) (n8 : Int) (b5 : Bool) (b6 : Bool) (st7 : St) => CallT PR fn_datakitref27_Usual [] [.agg [.int .u8, .int .u8, .bool, .bool]] st7 (fun (n9 : Int) (n10 : Int) (b7 : Bool) (b8 : Bool) (st8 : St) => BIf (decide (n7 = n9) && (decide (n8 = n10) && ((b5 == b7) && ((b6 == b8) && true)))) (CallT PR fn_datakitlaw27_awake [] [.one (.bool)] st8 (fun (b9 : Bool) (st9 : St) => K (b9) st9)) (K (false) st8)))) (K (false) st6)))) (K (false) st4)) (K (false) st4)) (K (false) st4)))))))) : CallT PR fn_datakitlaw27_DelimParses [(.str src), (.agg [(.int .u8 d_0), (.int .u8 d_1), (.bool d_2), (.bool d_3)]), (.agg [(.int .i64 l_0), (.int .i64 l_1), (.int .i64 l_2), (.int .i64 l_3), (.int .i64 l_4)])] [.one (.bool)] st K :=
  tcalls_fw (cfg := ⟨[4, 5, 7, 10], [], []⟩) (h := .none) mixed (fun _ _ => Tryd.call10 _ _) Tryd.func10 (by kernel_rfl) (by kernel_rfl) h
set_option maxRecDepth 100000 in
theorem vc_datakitlaw27_DelimRecords (n_0 : Int) (n_1 : List UInt8) (n_2 : List UInt8) (n_3 : TV) (n_4 : List UInt8) (d_0 : Int) (d_1 : Int) (d_2 : Bool) (d_3 : Bool) (st : St) (K : Bool → St → Prop) (h : CallT PR fn_datakitref13_Small [(.agg [(.int .i64 n_0), (.str n_1), (.str n_2), n_3, (.str n_4)]), (.int .i64 (600 : Int)), (.int .i64 (10 : Int)), (.int .i64 (1500 : Int))] [.one (.bool)] st (fun (b1 : Bool) (st1 : St) => BIf (!b1) (CallT PR fn_datakitlaw27_awake [] [.one (.bool)] st1 (fun (b2 : Bool) (st2 : St) => K (b2) st2)) (CallT PR fn_delim_Records [(.agg [(.int .i64 n_0), (.str n_1), (.str n_2), n_3, (.str n_4)]), (.agg [(.int .u8 d_0), (.int .u8 d_1), (.bool d_2), (.bool d_3)])] [.one (.tv), .one (.int .i64)] st1 (fun (v1 : TV) (n1 : Int) (st3 : St) => CallT PR fn_datakitref27_Records [(.agg [(.int .i64 n_0), (.str n_1), (.str n_2), n_3, (.str n_4)]), (.agg [(.int .u8 d_0), (.int .u8 d_1), (.bool d_2), (.bool d_3)])] [.one (.tv), .one (.int .i64)] st3 (fun (v2 : TV) (n2 : Int) (st4 : St) => CallT PR fn_delim_Quoted [(.agg [(.int .i64 n_0), (.str n_1), (.str n_2), n_3, (.str n_4)]), (.agg [(.int .u8 d_0), (.int .u8 d_1), (.bool d_2), (.bool d_3)])] [.one (.tv), .one (.int .i64)] st4 (fun (v3 : TV) (n3 : Int) (st5 : St) => CallT PR fn_datakitref27_Quoted [(.agg [(.int .i64 n_0), (.str n_1), (.str n_2), n_3, (.str n_4)]), (.agg [(.int .u8 d_0), (.int .u8 d_1), (.bool d_2), (.bool d_3)])] [.one (.tv), .one (.int .i64)] st5 (fun (v4 : TV) (n4 : Int) (st6 : St) => CallT PR fn_datakitlaw27_same [v1, v2] [.one (.bool)] st6 (fun (b3 : Bool) (st7 : St) => BIf (!b3) (K (false) st7) (BIf (decide (n1 ≠ n2)) (K (false) st7) (BIf (decide (n3 ≠ n4)) (K (false) st7) (need (isSl v3) (need (isSl v4) (BIf (decide ((lenS v3 : Int) ≠ (lenS v4 : Int))) (K (false) st7) (∃ (I1 : Int → TV → TV → St → Prop) (M1 : Int → TV → TV → St → Nat), (I1 ((0 : Int)) (v3) (v4) st7) ∧ ∀ (i_1 : Int) (p_1 : TV) (q_1 : TV) (st8 : St), I1 i_1 p_1 q_1 st8 → (need (isSl p_1) (BIf (decide (i_1 < (lenS p_1 : Int))) (((0 ≤ i_1 ∧ i_1 < (lenZ 1 p_1 : Int)) ∧ optK (ldCell st8 [] (.t (ixT 1 p_1 (Int.toNat i_1))) 0) (fun (v5 : TV) => need (isSl v5) (((0 ≤ i_1 ∧ i_1 < (lenZ 1 q_1 : Int)) ∧ optK (ldCell st8 [] (.t (ixT 1 q_1 (Int.toNat i_1))) 0) (fun (v6 : TV) => need (isSl v6) (BIf (decide ((lenS v5 : Int) ≠ (lenS v6 : Int))) (K (false) st8) (∃ (I2 : Int → TV → TV → Int → St → Prop) (M2 : Int → TV → TV → Int → St → Nat), (I2 ((0 : Int)) (p_1) (q_1) (i_1) st8) ∧ ∀ (k_1 : Int) (p_2 : TV) (q_2 : TV) (i_2 : Int) (st9 : St), I2 k_1 p_2 q_2 i_2 st9 → (((0 ≤ i_2 ∧ i_2 < (lenZ 1 p_2 : Int)) ∧ optK (ldCell st9 [] (.t (ixT 1 p_2 (Int.toNat i_2))) 0) (fun (v7 : TV) => need (isSl v7) (BIf (decide (k_1 < (lenS v7 : Int))) (((0 ≤ i_2 ∧ i_2 < (lenZ 1 p_2 : Int)) ∧ optK (ldCell st9 [] (.t (ixT 1 p_2 (Int.toNat i_2))) 0) (fun (v8 : TV) => ((0 ≤ k_1 ∧ k_1 < (lenZ 1 v8 : Int)) ∧ optK (ldCell st9 [] (.t (ixT 1 v8 (Int.toNat k_1))) 0) (fun (x5 : TV) => decT (.bool) x5 (fun (b4 : Bool) => ((0 ≤ i_2 ∧ i_2 < (lenZ 1 q_2 : Int)) ∧ optK (ldCell st9 [] (.t (ixT 1 q_2 (Int.toNat i_2))) 0) (fun (v9 : TV) => ((0 ≤ k_1 ∧ k_1 < (lenZ 1 v9 : Int)) ∧ optK (ldCell st9 [] (.t (ixT 1 v9 (Int.toNat k_1))) 0) (fun (x7 : TV) => decT (.bool) x7 (fun (b5 : Bool) => BIf (!(b4 == b5)) (K (false) st9) ((I2 ((IntKind.i64.wrap (k_1 + (1 : Int)))) (p_2) (q_2) (i_2) st9 ∧ M2 ((IntKind.i64.wrap (k_1 + (1 : Int)))) (p_2) (q_2) (i_2) st9 < M2 k_1 p_2 q_2 i_2 st9))))))))))))) ((I1 ((IntKind.i64.wrap (i_2 + (1 : Int)))) (p_2) (q_2) st9 ∧ M1 ((IntKind.i64.wrap (i_2 + (1 : Int)))) (p_2) (q_2) st9 < M1 i_1 p_1 q_1 st8)))))))))))))) (CallT PR fn_datakitlaw27_awake [] [.one (.bool)] st8 (fun (b6 : Bool) (st10 : St) => K (b6) st10)))))))))))))))))) : CallT PR fn_datakitlaw27_DelimRecords [(.agg [(.int .i64 n_0), (.str n_1), (.str n_2), n_3, (.str n_4)]), (.agg [(.int .u8 d_0), (.int .u8 d_1), (.bool d_2), (.bool d_3)])] [.one (.bool)] st K :=
  tcalls_fw (cfg := ⟨[2, 3], [], []⟩) (h := (.seq .none (.seq .none (.seq .none (.seq .none (.seq .none (.seq .none (.seq .none (.seq (.seq .none (.block (.loop ⟨[(13, .int .i64), (9, .tv), (11, .tv)], [], [], []⟩ (.seq .none (.seq (.block (.seq .none (.seq .none (.block (.loop ⟨[(14, .int .i64), (9, .tv), (11, .tv), (13, .int .i64)], [], [], []⟩ .none))))) .none))))) .none))))))))) mixed (fun _ _ => Tryd.call11 _ _) Tryd.func11 (by kernel_rfl) (by kernel_rfl) h
set_option maxRecDepth 100000 in
theorem vc_datakitlaw27_DelimSniffs (src : List UInt8) (st : St) (K : Bool → St → Prop) (h : BIf (decide ((1500 : Int) < ((src).length : Int))) (CallT PR fn_datakitlaw27_awake [] [.one (.bool)] st (fun (b1 : Bool) (st1 : St) => K (b1) st1)) (CallT PR fn_delim_Sniff [(.str src)] [.agg [.int .u8, .int .u8, .bool, .bool]] st (fun (n1 : Int) (n2 : Int) (b2 : Bool) (b3 : Bool) (st2 : St) => CallT PR fn_datakitref27_Sniff [(.str src)] [.agg [.int .u8, .int .u8, .bool, .bool]] st2 (fun (n3 : Int) (n4 : Int) (b4 : Bool) (b5 : Bool) (st3 : St) => BIf (decide (n1 = n3) && (decide (n2 = n4) && ((b2 == b4) && ((b3 == b5) && true)))) (CallT PR fn_datakitlaw27_awake [] [.one (.bool)] st3 (fun (b6 : Bool) (st4 : St) => K (b6) st4)) (K (false) st3))))) : CallT PR fn_datakitlaw27_DelimSniffs [(.str src)] [.one (.bool)] st K :=
  tcalls_fw (cfg := ⟨[], [], []⟩) (h := .none) mixed (fun _ _ => Tryd.call12 _ _) Tryd.func12 (by kernel_rfl) (by kernel_rfl) h
set_option maxRecDepth 100000 in
theorem vc_datakitlaw27_DelimTexts (s : List UInt8) (l : TV) (d_0 : Int) (d_1 : Int) (d_2 : Bool) (d_3 : Bool) (st : St) (K : Bool → St → Prop) (h : BIf (decide ((3000 : Int) < ((s).length : Int))) (CallT PR fn_datakitlaw27_awake [] [.one (.bool)] st (fun (b1 : Bool) (st1 : St) => K (b1) st1)) (CallT PR fn_datakitlaw27_small [l] [.one (.bool)] st (fun (b2 : Bool) (st2 : St) => BIf (!b2) (CallT PR fn_datakitlaw27_awake [] [.one (.bool)] st2 (fun (b3 : Bool) (st3 : St) => K (b3) st3)) (CallT PR fn_delim_Quote [(.str s), (.agg [(.int .u8 d_0), (.int .u8 d_1), (.bool d_2), (.bool d_3)])] [.one (.str), .one (.int .i64)] st2 (fun (s1 : List UInt8) (n1 : Int) (st4 : St) => CallT PR fn_datakitref27_Quote [(.str s), (.agg [(.int .u8 d_0), (.int .u8 d_1), (.bool d_2), (.bool d_3)])] [.one (.str), .one (.int .i64)] st4 (fun (s2 : List UInt8) (n2 : Int) (st5 : St) => CallT PR fn_delim_Text [l, (.agg [(.int .u8 d_0), (.int .u8 d_1), (.bool d_2), (.bool d_3)])] [.one (.str), .one (.int .i64)] st5 (fun (s3 : List UInt8) (n3 : Int) (st6 : St) => CallT PR fn_datakitref27_Text [l, (.agg [(.int .u8 d_0), (.int .u8 d_1), (.bool d_2), (.bool d_3)])] [.one (.str), .one (.int .i64)] st6 (fun (s4 : List UInt8) (n4 : Int) (st7 : St) => BIf (decide (s1 ≠ s2)) (K (false) st7) (BIf (decide (n1 ≠ n2)) (K (false) st7) (BIf (decide (s3 ≠ s4)) (K (false) st7) (BIf (decide (n3 ≠ n4)) (K (false) st7) (need (isSl l) (BIf (decide ((0 : Int) < (lenS l : Int))) (((0 ≤ (0 : Int) ∧ (0 : Int) < (lenZ 1 l : Int)) ∧ optK (ldCell blindSt [] (.t (ixT 1 l (Int.toNat (0 : Int)))) 0) (fun (v1 : TV) => CallT PR fn_delim_Line [v1, (.agg [(.int .u8 d_0), (.int .u8 d_1), (.bool d_2), (.bool d_3)])] [.one (.str), .one (.int .i64)] st7 (fun (s5 : List UInt8) (n5 : Int) (st8 : St) => ((0 ≤ (0 : Int) ∧ (0 : Int) < (lenZ 1 l : Int)) ∧ optK (ldCell blindSt [] (.t (ixT 1 l (Int.toNat (0 : Int)))) 0) (fun (v2 : TV) => CallT PR fn_datakitref27_Line [v2, (.agg [(.int .u8 d_0), (.int .u8 d_1), (.bool d_2), (.bool d_3)])] [.one (.str), .one (.int .i64)] st8 (fun (s6 : List UInt8) (n6 : Int) (st9 : St) => BIf (decide (s5 = s6)) (BIf (decide (n5 = n6)) (CallT PR fn_datakitlaw27_awake [] [.one (.bool)] st9 (fun (b4 : Bool) (st10 : St) => K (b4) st10)) (K (false) st9)) (K (false) st9)))))))) (CallT PR fn_delim_Line [.nilSlice, (.agg [(.int .u8 d_0), (.int .u8 d_1), (.bool d_2), (.bool d_3)])] [.one (.str), .one (.int .i64)] st7 (fun (s7 : List UInt8) (n7 : Int) (st11 : St) => BIf (decide (s7 = ([] : List UInt8))) (BIf (decide (n7 = (1 : Int))) (CallT PR fn_datakitlaw27_awake [] [.one (.bool)] st11 (fun (b5 : Bool) (st12 : St) => K (b5) st12)) (K (false) st11)) (K (false) st11)))))))))))))))) : CallT PR fn_datakitlaw27_DelimTexts [(.str s), l, (.agg [(.int .u8 d_0), (.int .u8 d_1), (.bool d_2), (.bool d_3)])] [.one (.bool)] st K :=
  tcalls_fw (cfg := ⟨[5], [], []⟩) (h := .none) mixed (fun _ _ => Tryd.call13 _ _) Tryd.func13 (by kernel_rfl) (by kernel_rfl) h
set_option maxRecDepth 100000 in
theorem vc_datakitlaw27_DelimBack (s : List UInt8) (l : TV) (d_0 : Int) (d_1 : Int) (d_2 : Bool) (d_3 : Bool) (st : St) (K : Bool → St → Prop) (h : BIf (decide ((3000 : Int) < ((s).length : Int))) (CallT PR fn_datakitlaw27_awake [] [.one (.bool)] st (fun (b1 : Bool) (st1 : St) => K (b1) st1)) (CallT PR fn_datakitlaw27_small [l] [.one (.bool)] st (fun (b2 : Bool) (st2 : St) => BIf (!b2) (CallT PR fn_datakitlaw27_awake [] [.one (.bool)] st2 (fun (b3 : Bool) (st3 : St) => K (b3) st3)) (CallT PR fn_delim_Text [l, (.agg [(.int .u8 d_0), (.int .u8 d_1), (.bool false), (.bool d_3)])] [.one (.str), .one (.int .i64)] st2 (fun (s1 : List UInt8) (n1 : Int) (st4 : St) => BIf (decide (n1 = (0 : Int))) (CallT PR fn_limit_Usual [] [.agg [.int .i64, .int .i64, .int .i64, .int .i64, .int .i64]] st4 (fun (n2 : Int) (n3 : Int) (n4 : Int) (n5 : Int) (n6 : Int) (st5 : St) => CallT PR fn_delim_Parse [(.str s1), (.agg [(.int .u8 d_0), (.int .u8 d_1), (.bool false), (.bool d_3)]), (.agg [(.int .i64 n2), (.int .i64 n3), (.int .i64 n4), (.int .i64 n5), (.int .i64 n6)])] [.agg [.int .i64, .str, .str, .tv, .str], .one (.int .i64), .one (.int .i64)] st5 (fun (n7 : Int) (s2 : List UInt8) (s3 : List UInt8) (v1 : TV) (s4 : List UInt8) (n8 : Int) (n9 : Int) (st6 : St) => need (List.all [(.int .i64 n7), (.str s2), (.str s3), v1, (.str s4)] oneT) (CallT PR fn_delim_Records [(.agg [(.int .i64 n7), (.str s2), (.str s3), v1, (.str s4)]), (.agg [(.int .u8 d_0), (.int .u8 d_1), (.bool false), (.bool d_3)])] [.one (.tv), .one (.int .i64)] st6 (fun (v2 : TV) (n10 : Int) (st7 : St) => BIf (decide (n9 ≠ (0 : Int))) (K (false) st7) (BIf (decide (n10 ≠ (0 : Int))) (K (false) st7) (CallT PR fn_datakitlaw27_same [l, v2] [.one (.bool)] st7 (fun (b4 : Bool) (st8 : St) => BIf (!b4) (K (false) st8) (CallT PR fn_delim_Quote [(.str s), (.agg [(.int .u8 d_0), (.int .u8 d_1), (.bool false), (.bool d_3)])] [.one (.str), .one (.int .i64)] st8 (fun (s5 : List UInt8) (n11 : Int) (st9 : St) => BIf (decide (n11 ≠ (0 : Int))) (BIf (decide (s5 = ([] : List UInt8))) (BIf (decide (n11 = (1 : Int))) (CallT PR fn_datakitlaw27_awake [] [.one (.bool)] st9 (fun (b5 : Bool) (st10 : St) => K (b5) st10)) (BIf (decide (n11 = (5 : Int))) (CallT PR fn_datakitlaw27_awake [] [.one (.bool)] st9 (fun (b6 : Bool) (st11 : St) => K (b6) st11)) (K (false) st9))) (K (false) st9)) (((s5).length + (str27).length ≤ 9223372036854775807 ∧ CallT PR fn_limit_Usual [] [.agg [.int .i64, .int .i64, .int .i64, .int .i64, .int .i64]] st9 (fun (n12 : Int) (n13 : Int) (n14 : Int) (n15 : Int) (n16 : Int) (st12 : St) => CallT PR fn_delim_Parse [(.str (s5 ++ str27)), (.agg [(.int .u8 d_0), (.int .u8 d_1), (.bool false), (.bool d_3)]), (.agg [(.int .i64 n12), (.int .i64 n13), (.int .i64 n14), (.int .i64 n15), (.int .i64 n16)])] [.agg [.int .i64, .str, .str, .tv, .str], .one (.int .i64), .one (.int .i64)] st12 (fun (n17 : Int) (s6 : List UInt8) (s7 : List UInt8) (v3 : TV) (s8 : List UInt8) (n18 : Int) (n19 : Int) (st13 : St) => need (List.all [(.int .i64 n17), (.str s6), (.str s7), v3, (.str s8)] oneT) (CallT PR fn_delim_Records [(.agg [(.int .i64 n17), (.str s6), (.str s7), v3, (.str s8)]), (.agg [(.int .u8 d_0), (.int .u8 d_1), (.bool false), (.bool d_3)])] [.one (.tv), .one (.int .i64)] st13 (fun (v4 : TV) (n20 : Int) (st14 : St) => BIf (decide (n19 = (0 : Int))) (BIf (decide (n20 = (0 : Int))) (need (isSl v4) (BIf (decide ((lenS v4 : Int) = (1 : Int))) (((0 ≤ (0 : Int) ∧ (0 : Int) < (lenZ 1 v4 : Int)) ∧ optK (ldCell st14 [] (.t (ixT 1 v4 (Int.toNat (0 : Int)))) 0) (fun (v5 : TV) => need (isSl v5) (BIf (decide ((lenS v5 : Int) = (1 : Int))) (((0 ≤ (0 : Int) ∧ (0 : Int) < (lenZ 1 v4 : Int)) ∧ optK (ldCell st14 [] (.t (ixT 1 v4 (Int.toNat (0 : Int)))) 0) (fun (v6 : TV) => ((0 ≤ (0 : Int) ∧ (0 : Int) < (lenZ 1 v6 : Int)) ∧ optK (ldCell st14 [] (.t (ixT 1 v6 (Int.toNat (0 : Int)))) 0) (fun (x3 : TV) => decT (.str) x3 (fun (s9 : List UInt8) => BIf (decide (s9 = s)) (CallT PR fn_datakitlaw27_awake [] [.one (.bool)] st14 (fun (b7 : Bool) (st15 : St) => K (b7) st15)) (K (false) st14))))))) (K (false) st14))))) (K (false) st14))) (K (false) st14)) (K (false) st14))))))))))))))))) (CallT PR fn_delim_Quote [(.str s), (.agg [(.int .u8 d_0), (.int .u8 d_1), (.bool false), (.bool d_3)])] [.one (.str), .one (.int .i64)] st4 (fun (s10 : List UInt8) (n21 : Int) (st16 : St) => BIf (decide (n21 ≠ (0 : Int))) (BIf (decide (s10 = ([] : List UInt8))) (BIf (decide (n21 = (1 : Int))) (CallT PR fn_datakitlaw27_awake [] [.one (.bool)] st16 (fun (b8 : Bool) (st17 : St) => K (b8) st17)) (BIf (decide (n21 = (5 : Int))) (CallT PR fn_datakitlaw27_awake [] [.one (.bool)] st16 (fun (b9 : Bool) (st18 : St) => K (b9) st18)) (K (false) st16))) (K (false) st16)) (((s10).length + (str27).length ≤ 9223372036854775807 ∧ CallT PR fn_limit_Usual [] [.agg [.int .i64, .int .i64, .int .i64, .int .i64, .int .i64]] st16 (fun (n22 : Int) (n23 : Int) (n24 : Int) (n25 : Int) (n26 : Int) (st19 : St) => CallT PR fn_delim_Parse [(.str (s10 ++ str27)), (.agg [(.int .u8 d_0), (.int .u8 d_1), (.bool false), (.bool d_3)]), (.agg [(.int .i64 n22), (.int .i64 n23), (.int .i64 n24), (.int .i64 n25), (.int .i64 n26)])] [.agg [.int .i64, .str, .str, .tv, .str], .one (.int .i64), .one (.int .i64)] st19 (fun (n27 : Int) (s11 : List UInt8) (s12 : List UInt8) (v7 : TV) (s13 : List UInt8) (n28 : Int) (n29 : Int) (st20 : St) => need (List.all [(.int .i64 n27), (.str s11), (.str s12), v7, (.str s13)] oneT) (CallT PR fn_delim_Records [(.agg [(.int .i64 n27), (.str s11), (.str s12), v7, (.str s13)]), (.agg [(.int .u8 d_0), (.int .u8 d_1), (.bool false), (.bool d_3)])] [.one (.tv), .one (.int .i64)] st20 (fun (v8 : TV) (n30 : Int) (st21 : St) => BIf (decide (n29 = (0 : Int))) (BIf (decide (n30 = (0 : Int))) (need (isSl v8) (BIf (decide ((lenS v8 : Int) = (1 : Int))) (((0 ≤ (0 : Int) ∧ (0 : Int) < (lenZ 1 v8 : Int)) ∧ optK (ldCell st21 [] (.t (ixT 1 v8 (Int.toNat (0 : Int)))) 0) (fun (v9 : TV) => need (isSl v9) (BIf (decide ((lenS v9 : Int) = (1 : Int))) (((0 ≤ (0 : Int) ∧ (0 : Int) < (lenZ 1 v8 : Int)) ∧ optK (ldCell st21 [] (.t (ixT 1 v8 (Int.toNat (0 : Int)))) 0) (fun (v10 : TV) => ((0 ≤ (0 : Int) ∧ (0 : Int) < (lenZ 1 v10 : Int)) ∧ optK (ldCell st21 [] (.t (ixT 1 v10 (Int.toNat (0 : Int)))) 0) (fun (x6 : TV) => decT (.str) x6 (fun (s14 : List UInt8) => BIf (decide (s14 = s)) (CallT PR fn_datakitlaw27_awake [] [.one (.bool)] st21 (fun (b10 : Bool) (st22 : St) => K (b10) st22)) (K (false) st21))))))) (K (false) st21))))) (K (false) st21))) (K (false) st21)) (K (false) st21)))))))))))))) : CallT PR fn_datakitlaw27_DelimBack [(.str s), l, (.agg [(.int .u8 d_0), (.int .u8 d_1), (.bool d_2), (.bool d_3)])] [.one (.bool)] st K :=
  tcalls_fw (cfg := ⟨[5, 9, 16], [], []⟩) (h := .none) mixed (fun _ _ => Tryd.call14 _ _) Tryd.func14 (by kernel_rfl) (by kernel_rfl) h
set_option maxRecDepth 100000 in
theorem vc_datakitlaw27_awake  (st : St) (K : Bool → St → Prop) (h : CallT PR fn_datakitref27_Usual [] [.agg [.int .u8, .int .u8, .bool, .bool]] st (fun (n1 : Int) (n2 : Int) (b1 : Bool) (b2 : Bool) (st1 : St) => CallT PR fn_datakitref20_Usual [] [.agg [.int .i64, .int .i64, .int .i64, .int .i64, .int .i64]] st1 (fun (n3 : Int) (n4 : Int) (n5 : Int) (n6 : Int) (n7 : Int) (st2 : St) => CallT PR fn_delim_Parse [(.str str28), (.agg [(.int .u8 n1), (.int .u8 n2), (.bool b1), (.bool b2)]), (.agg [(.int .i64 n3), (.int .i64 n4), (.int .i64 n5), (.int .i64 n6), (.int .i64 n7)])] [.agg [.int .i64, .str, .str, .tv, .str], .one (.int .i64), .one (.int .i64)] st2 (fun (n8 : Int) (s1 : List UInt8) (s2 : List UInt8) (v1 : TV) (s3 : List UInt8) (n9 : Int) (n10 : Int) (st3 : St) => need (List.all [(.int .i64 n8), (.str s1), (.str s2), v1, (.str s3)] oneT) (CallT PR fn_delim_Records [(.agg [(.int .i64 n8), (.str s1), (.str s2), v1, (.str s3)]), (.agg [(.int .u8 n1), (.int .u8 n2), (.bool b1), (.bool b2)])] [.one (.tv), .one (.int .i64)] st3 (fun (v2 : TV) (n11 : Int) (st4 : St) => CallT PR fn_delim_Quote [(.str str29), (.agg [(.int .u8 n1), (.int .u8 n2), (.bool b1), (.bool b2)])] [.one (.str), .one (.int .i64)] st4 (fun (s4 : List UInt8) (n12 : Int) (st5 : St) => BIf (decide (n10 = (0 : Int))) (BIf (decide (n11 = (0 : Int))) (need (isSl v2) (BIf (decide ((lenS v2 : Int) = (1 : Int))) (((0 ≤ (0 : Int) ∧ (0 : Int) < (lenZ 1 v2 : Int)) ∧ optK (ldCell st5 [] (.t (ixT 1 v2 (Int.toNat (0 : Int)))) 0) (fun (v3 : TV) => need (isSl v3) (BIf (decide ((lenS v3 : Int) = (2 : Int))) (((0 ≤ (0 : Int) ∧ (0 : Int) < (lenZ 1 v2 : Int)) ∧ optK (ldCell st5 [] (.t (ixT 1 v2 (Int.toNat (0 : Int)))) 0) (fun (v4 : TV) => ((0 ≤ (1 : Int) ∧ (1 : Int) < (lenZ 1 v4 : Int)) ∧ optK (ldCell st5 [] (.t (ixT 1 v4 (Int.toNat (1 : Int)))) 0) (fun (x3 : TV) => decT (.str) x3 (fun (s5 : List UInt8) => BIf (decide (s5 = str30)) (BIf (decide (s4 = str31)) (K ((decide (n12 = (0 : Int)))) st5) (K (false) st5)) (K (false) st5))))))) (K (false) st5))))) (K (false) st5))) (K (false) st5)) (K (false) st5)))))))) : CallT PR fn_datakitlaw27_awake [] [.one (.bool)] st K :=
  tcalls_fw (cfg := ⟨[1, 2], [], []⟩) (h := .none) mixed (fun _ _ => Tryd.call27 _ _) Tryd.func27 (by kernel_rfl) (by kernel_rfl) h
set_option maxRecDepth 100000 in
theorem vc_delim_Parse (src : List UInt8) (d_0 : Int) (d_1 : Int) (d_2 : Bool) (d_3 : Bool) (l_0 : Int) (l_1 : Int) (l_2 : Int) (l_3 : Int) (l_4 : Int) (st : St) (K : Int → List UInt8 → List UInt8 → TV → List UInt8 → Int → Int → St → Prop) (h : CallT PR fn_delim_Valid [(.agg [(.int .u8 d_0), (.int .u8 d_1), (.bool d_2), (.bool d_3)])] [.one (.bool)] st (fun (b1 : Bool) (st1 : St) => BIf (!b1) (K ((0 : Int)) (([] : List UInt8)) (([] : List UInt8)) (.nilSlice) (([] : List UInt8)) ((0 : Int)) ((1 : Int)) st1) (CallT PR fn_limit_Valid [(.agg [(.int .i64 l_0), (.int .i64 l_1), (.int .i64 l_2), (.int .i64 l_3), (.int .i64 l_4)])] [.one (.bool)] st1 (fun (b2 : Bool) (st2 : St) => BIf (!b2) (K ((0 : Int)) (([] : List UInt8)) (([] : List UInt8)) (.nilSlice) (([] : List UInt8)) ((0 : Int)) ((1 : Int)) st2) (BIf (decide (l_2 < ((src).length : Int))) (K ((0 : Int)) (([] : List UInt8)) (([] : List UInt8)) (.nilSlice) (([] : List UInt8)) ((0 : Int)) ((10 : Int)) st2) (CallT PR fn_delim_invalid [(.str src)] [.one (.int .i64)] st2 (fun (n1 : Int) (st3 : St) => BIf (decide ((0 : Int) ≤ n1)) (K ((0 : Int)) (([] : List UInt8)) (([] : List UInt8)) (.nilSlice) (([] : List UInt8)) (n1) ((5 : Int)) st3) (need (List.all [(.map st3.nb)] oneT) (∃ (I1 : List UInt8 → TV → Int → List UInt8 → List UInt8 → TV → List UInt8 → St → Prop) (M1 : List UInt8 → TV → Int → List UInt8 → List UInt8 → TV → List UInt8 → St → Nat), (I1 (src) ((.box (st3.push (.map []) none).nb 0)) ((1 : Int)) (([] : List UInt8)) (([] : List UInt8)) (.nilSlice) (([] : List UInt8)) ((st3.push (.map []) none).push (.cells [(.str src), (.int .u8 d_0), (.int .u8 d_1), (.bool d_2), (.bool d_3), (.int .i64 l_0), (.int .i64 l_1), (.int .i64 l_2), (.int .i64 l_3), (.int .i64 l_4), (.int .i64 (0 : Int)), (.int .i64 (1 : Int)), (.int .i64 (0 : Int)), (.map st3.nb), (.int .i64 (0 : Int)), (.int .i64 (0 : Int))]) (some 119))) ∧ ∀ (src_1 : List UInt8) (p_1 : TV) (n2 : Int) (s1 : List UInt8) (s2 : List UInt8) (v1 : TV) (s3 : List UInt8) (st4 : St), I1 src_1 p_1 n2 s1 s2 v1 s3 st4 → (need (isPtr p_1) (need (isPtr p_1) (optK (ldCell st4 [] (.t (fldT p_1 10)) 0) (fun (x1 : TV) => decT (.int .i64) x1 (fun (n3 : Int) => BIf (decide (n3 < ((src_1).length : Int))) (need (isSl v1) (CallT PR fn_delim_parser_record [p_1, (.int .i64 (lenS v1 : Int))] [.agg [.int .i64, .str, .str, .tv, .str], .one (.bool)] st4 (fun (n4 : Int) (s4 : List UInt8) (s5 : List UInt8) (v2 : TV) (s6 : List UInt8) (b3 : Bool) (st5 : St) => need (List.all [(.int .i64 n4), (.str s4), (.str s5), v2, (.str s6)] oneT) (BIf (!b3) (need (isPtr p_1) (need (isPtr p_1) (optK (ldCell st5 [] (.t (fldT p_1 14)) 0) (fun (x2 : TV) => decT (.int .i64) x2 (fun (n5 : Int) => need (isPtr p_1) (need (isPtr p_1) (optK (ldCell st5 [] (.t (fldT p_1 15)) 0) (fun (x3 : TV) => decT (.int .i64) x3 (fun (n6 : Int) => K ((0 : Int)) (([] : List UInt8)) (([] : List UInt8)) (.nilSlice) (([] : List UInt8)) (n5) (n6) st5))))))))) (need (List.all [(.int .i64 n4), (.str s4), (.str s5), v2, (.str s6)] oneT) (appK 49 5 80 v1 1 [(.int .i64 n4), (.str s4), (.str s5), v2, (.str s6)] st5 (fun (v3 : TV) (st6 : St) => need (List.all [v3] oneT) ((I1 (src_1) (p_1) (n2) (s1) (s2) (v3) (s3) st6 ∧ M1 (src_1) (p_1) (n2) (s1) (s2) (v3) (s3) st6 < M1 src_1 p_1 n2 s1 s2 v1 s3 st4))))))))) (need (List.all [(.int .i64 n2), (.str s1), (.str s2), v1, (.str s3)] oneT) (K (n2) (s1) (s2) (v1) (s3) ((0 : Int)) ((0 : Int)) st4)))))))))))))))) : CallT PR fn_delim_Parse [(.str src), (.agg [(.int .u8 d_0), (.int .u8 d_1), (.bool d_2), (.bool d_3)]), (.agg [(.int .i64 l_0), (.int .i64 l_1), (.int .i64 l_2), (.int .i64 l_3), (.int .i64 l_4)])] [.agg [.int .i64, .str, .str, .tv, .str], .one (.int .i64), .one (.int .i64)] st K :=
  tcalls_fw (cfg := ⟨[4, 5, 6, 11, 12], [], []⟩) (h := (.seq .none (.seq .none (.seq .none (.seq .none (.seq .none (.seq .none (.seq (.block (.loop ⟨[(0, .str), (10, .tv)], [(6, 2, 0), (11, 3, 0)], [(2, 5), (3, 5)], [(3, 0, .int .i64), (3, 1, .str), (3, 2, .str), (3, 3, .tv), (3, 4, .str)]⟩ .none)) .none)))))))) mixed (fun _ _ => Tryd.call28 _ _) Tryd.func28 (by kernel_rfl) (by kernel_rfl) h
set_option maxRecDepth 100000 in
theorem vc_limit_Usual  (st : St) (K : Int → Int → Int → Int → Int → St → Prop) (h : K ((48 : Int)) ((65536 : Int)) ((1048576 : Int)) ((1024 : Int)) ((65536 : Int)) st) : CallT PR fn_limit_Usual [] [.agg [.int .i64, .int .i64, .int .i64, .int .i64, .int .i64]] st K :=
  tcalls_fw (cfg := ⟨[0], [], []⟩) (h := .none) mixed (fun _ _ => Tryd.call29 _ _) Tryd.func29 (by kernel_rfl) (by kernel_rfl) h
set_option maxRecDepth 100000 in
theorem vc_tree_Same (a_0 : Int) (a_1 : List UInt8) (a_2 : List UInt8) (a_3 : TV) (a_4 : List UInt8) (b_0 : Int) (b_1 : List UInt8) (b_2 : List UInt8) (b_3 : TV) (b_4 : List UInt8) (st : St) (K : Bool → St → Prop) (h : BIf (decide (a_0 ≠ b_0)) (K (false) st) (BIf (decide (a_1 ≠ b_1)) (K (false) st) (BIf (decide (a_2 ≠ b_2)) (K (false) st) (BIf (decide (a_4 ≠ b_4)) (K (false) st) (need (isSl a_3) (need (isSl b_3) (BIf (decide ((lenS a_3 : Int) ≠ (lenS b_3 : Int))) (K (false) st) (need (isSl a_3) (∃ (I1 : Int → Int → Int → List UInt8 → List UInt8 → TV → List UInt8 → Int → List UInt8 → List UInt8 → TV → List UInt8 → St → Prop) (M1 : Int → Int → Int → List UInt8 → List UInt8 → TV → List UInt8 → Int → List UInt8 → List UInt8 → TV → List UInt8 → St → Nat), (I1 ((0 : Int)) ((lenS a_3 : Int)) (a_0) (a_1) (a_2) (a_3) (a_4) (b_0) (b_1) (b_2) (b_3) (b_4) st) ∧ ∀ (n_1 : Int) (n_2 : Int) (n1 : Int) (s1 : List UInt8) (s2 : List UInt8) (v1 : TV) (s3 : List UInt8) (n2 : Int) (s4 : List UInt8) (s5 : List UInt8) (v2 : TV) (s6 : List UInt8) (st1 : St), I1 n_1 n_2 n1 s1 s2 v1 s3 n2 s4 s5 v2 s6 st1 → (BIf (decide (n_1 < n_2)) (((0 ≤ n_1 ∧ n_1 < (lenZ 5 v1 : Int)) ∧ optK ((ldCells blindSt [] (.t (ixT 5 v1 (Int.toNat n_1))) 0 5).map TV.agg) (fun (x1 : TV) => decA [.int .i64, .str, .str, .tv, .str] x1 (fun (n3 : Int) (s7 : List UInt8) (s8 : List UInt8) (v3 : TV) (s9 : List UInt8) => ((0 ≤ n_1 ∧ n_1 < (lenZ 5 v2 : Int)) ∧ optK ((ldCells blindSt [] (.t (ixT 5 v2 (Int.toNat n_1))) 0 5).map TV.agg) (fun (x2 : TV) => decA [.int .i64, .str, .str, .tv, .str] x2 (fun (n4 : Int) (s10 : List UInt8) (s11 : List UInt8) (v4 : TV) (s12 : List UInt8) => CallT PR fn_tree_Same [(.agg [(.int .i64 n3), (.str s7), (.str s8), v3, (.str s9)]), (.agg [(.int .i64 n4), (.str s10), (.str s11), v4, (.str s12)])] [.one (.bool)] st1 (fun (b1 : Bool) (st2 : St) => BIf (!b1) (K (false) st2) ((I1 ((IntKind.i64.wrap (n_1 + (1 : Int)))) (n_2) (n1) (s1) (s2) (v1) (s3) (n2) (s4) (s5) (v2) (s6) st2 ∧ M1 ((IntKind.i64.wrap (n_1 + (1 : Int)))) (n_2) (n1) (s1) (s2) (v1) (s3) (n2) (s4) (s5) (v2) (s6) st2 < M1 n_1 n_2 n1 s1 s2 v1 s3 n2 s4 s5 v2 s6 st1)))))))))) (K (true) st1))))))))))) : CallT PR fn_tree_Same [(.agg [(.int .i64 a_0), (.str a_1), (.str a_2), a_3, (.str a_4)]), (.agg [(.int .i64 b_0), (.str b_1), (.str b_2), b_3, (.str b_4)])] [.one (.bool)] st K :=
  tcalls_fw (cfg := ⟨[2, 3], [], []⟩) (h := (.seq .none (.seq .none (.seq (.seq .none (.block (.loop ⟨[(44, .int .i64), (43, .int .i64)], [(2, 0, 0), (3, 1, 0)], [(0, 5), (1, 5)], [(0, 0, .int .i64), (0, 1, .str), (0, 2, .str), (0, 3, .tv), (0, 4, .str), (1, 0, .int .i64), (1, 1, .str), (1, 2, .str), (1, 3, .tv), (1, 4, .str)]⟩ .none))) .none)))) mixed (fun _ _ => Tryd.call30 _ _) Tryd.func30 (by kernel_rfl) (by kernel_rfl) h
set_option maxRecDepth 100000 in
theorem vc_delim_Records (n_0 : Int) (n_1 : List UInt8) (n_2 : List UInt8) (n_3 : TV) (n_4 : List UInt8) (d_0 : Int) (d_1 : Int) (d_2 : Bool) (d_3 : Bool) (st : St) (K : TV → Int → St → Prop) (h : CallT PR fn_delim_ours [(.agg [(.int .i64 n_0), (.str n_1), (.str n_2), n_3, (.str n_4)]), (.agg [(.int .u8 d_0), (.int .u8 d_1), (.bool d_2), (.bool d_3)])] [.one (.bool)] st (fun (b1 : Bool) (st1 : St) => BIf (!b1) (K (.nilSlice) ((1 : Int)) st1) (need (isSl n_3) (∃ (I1 : TV → Int → TV → Int → Int → Int → Bool → Bool → St → Prop) (M1 : TV → Int → TV → Int → Int → Int → Bool → Bool → St → Nat), (I1 (.nilSlice) ((0 : Int)) (n_3) ((lenS n_3 : Int)) (d_0) (d_1) (d_2) (d_3) st1) ∧ ∀ (out_1 : TV) (n_1 : Int) (v_1 : TV) (n_2 : Int) (n1 : Int) (n2 : Int) (b2 : Bool) (b3 : Bool) (st2 : St), I1 out_1 n_1 v_1 n_2 n1 n2 b2 b3 st2 → (BIf (decide (n_1 < n_2)) (((0 ≤ n_1 ∧ n_1 < (lenZ 5 v_1 : Int)) ∧ optK ((ldCells st2 [] (.t (ixT 5 v_1 (Int.toNat n_1))) 0 5).map TV.agg) (fun (x1 : TV) => decA [.int .i64, .str, .str, .tv, .str] x1 (fun (n3 : Int) (s1 : List UInt8) (s2 : List UInt8) (v1 : TV) (s3 : List UInt8) => need (List.all [(.int .i64 n3), (.str s1), (.str s2), v1, (.str s3)] oneT) (need (isSl v1) (∃ (I2 : TV → Int → TV → TV → Int → Int → TV → Int → Int → Int → Bool → Bool → St → Prop) (M2 : TV → Int → TV → TV → Int → Int → TV → Int → Int → Int → Bool → Bool → St → Nat), (I2 (.nilSlice) ((0 : Int)) (out_1) (v_1) (n_2) (n_1) (v1) ((lenS v1 : Int)) (n1) (n2) (b2) (b3) st2) ∧ ∀ (l_1 : TV) (n_3 : Int) (out_2 : TV) (v_2 : TV) (n_4 : Int) (n_5 : Int) (v_3 : TV) (n_6 : Int) (n4 : Int) (n5 : Int) (b4 : Bool) (b5 : Bool) (st3 : St), I2 l_1 n_3 out_2 v_2 n_4 n_5 v_3 n_6 n4 n5 b4 b5 st3 → (BIf (decide (n_3 < n_6)) (((0 ≤ n_3 ∧ n_3 < (lenZ 5 v_3 : Int)) ∧ optK ((ldCells st3 [] (.t (ixT 5 v_3 (Int.toNat n_3))) 0 5).map TV.agg) (fun (x2 : TV) => decA [.int .i64, .str, .str, .tv, .str] x2 (fun (n6 : Int) (s4 : List UInt8) (s5 : List UInt8) (v2 : TV) (s6 : List UInt8) => need (List.all [(.int .i64 n6), (.str s4), (.str s5), v2, (.str s6)] oneT) (((0 ≤ (0 : Int) ∧ (0 : Int) < (lenZ 5 v2 : Int)) ∧ need (isPtr (ixT 5 v2 (Int.toNat (0 : Int)))) (optK (ldCell blindSt [] (.t (fldT (ixT 5 v2 (Int.toNat (0 : Int))) 2)) 0) (fun (x3 : TV) => decT (.str) x3 (fun (s7 : List UInt8) => CallT PR fn_delim_text [(.str s7), (.agg [(.int .u8 n4), (.int .u8 n5), (.bool b4), (.bool b5)])] [.one (.str), .one (.bool)] st3 (fun (s8 : List UInt8) (b6 : Bool) (st4 : St) => appK 9 1 16 l_1 1 [(.str s8)] st4 (fun (v3 : TV) (st5 : St) => (I2 (v3) ((IntKind.i64.wrap (n_3 + (1 : Int)))) (out_2) (v_2) (n_4) (n_5) (v_3) (n_6) (n4) (n5) (b4) (b5) st5 ∧ M2 (v3) ((IntKind.i64.wrap (n_3 + (1 : Int)))) (out_2) (v_2) (n_4) (n_5) (v_3) (n_6) (n4) (n5) (b4) (b5) st5 < M2 l_1 n_3 out_2 v_2 n_4 n_5 v_3 n_6 n4 n5 b4 b5 st3)))))))))))) (need (List.all [l_1] oneT) (need (List.all [l_1] oneT) (appK 61 1 24 out_2 1 [l_1] st3 (fun (v4 : TV) (st6 : St) => (I1 (v4) ((IntKind.i64.wrap (n_5 + (1 : Int)))) (v_2) (n_4) (n4) (n5) (b4) (b5) st6 ∧ M1 (v4) ((IntKind.i64.wrap (n_5 + (1 : Int)))) (v_2) (n_4) (n4) (n5) (b4) (b5) st6 < M1 out_1 n_1 v_1 n_2 n1 n2 b2 b3 st2)))))))))))) (K (out_1) ((0 : Int)) st2)))))) : CallT PR fn_delim_Records [(.agg [(.int .i64 n_0), (.str n_1), (.str n_2), n_3, (.str n_4)]), (.agg [(.int .u8 d_0), (.int .u8 d_1), (.bool d_2), (.bool d_3)])] [.one (.tv), .one (.int .i64)] st K :=
  tcalls_fw (cfg := ⟨[2, 3, 8, 11], [], []⟩) (h := (.seq .none (.seq .none (.seq .none (.seq (.seq .none (.block (.loop ⟨[(6, .tv), (21, .int .i64), (19, .tv), (20, .int .i64)], [(3, 1, 0)], [(1, 4)], [(1, 0, .int .u8), (1, 1, .int .u8), (1, 2, .bool), (1, 3, .bool)]⟩ (.seq .none (.seq .none (.seq (.block (.seq .none (.seq .none (.seq (.seq .none (.block (.loop ⟨[(9, .tv), (28, .int .i64), (6, .tv), (19, .tv), (20, .int .i64), (21, .int .i64), (26, .tv), (27, .int .i64)], [(3, 1, 0)], [(1, 4)], [(1, 0, .int .u8), (1, 1, .int .u8), (1, 2, .bool), (1, 3, .bool)]⟩ .none))) .none)))) .none)))))) .none))))) mixed (fun _ _ => Tryd.call31 _ _) Tryd.func31 (by kernel_rfl) (by kernel_rfl) h
end Go.TVF
end

section
set_option linter.unusedVariables false
namespace Go.TVF
open Go Go.Proofs
set_option maxRecDepth 100000 in
theorem vc_tree_Check (n_0 : Int) (n_1 : List UInt8) (n_2 : List UInt8) (n_3 : TV) (n_4 : List UInt8) (st : St) (K : Int → St → Prop) (h : stB (st.push (.cells [(.int .i64 (0 : Int))]) (some 3)) (.box st.nb 0) [(.int .i64 (0 : Int))] (fun (st1 : St) => CallT PR fn_tree_check [(.agg [(.int .i64 n_0), (.str n_1), (.str n_2), n_3, (.str n_4)]), (.int .i64 (1 : Int)), (.box st.nb 0)] [.one (.int .i64)] st1 (fun (n1 : Int) (st2 : St) => BIf (decide (n1 ≠ (0 : Int))) (K (n1) st2) (CallT PR fn_tree_Len [(.agg [(.int .i64 n_0), (.str n_1), (.str n_2), n_3, (.str n_4)])] [.one (.int .i64)] st2 (fun (n2 : Int) (st3 : St) => BIf (decide ((1048576 : Int) < n2)) (K ((10 : Int)) st3) (K ((0 : Int)) st3)))))) : CallT PR fn_tree_Check [(.agg [(.int .i64 n_0), (.str n_1), (.str n_2), n_3, (.str n_4)])] [.one (.int .i64)] st K :=
  tcalls_fw (cfg := ⟨[1], [], []⟩) (h := .none) mixed (fun _ _ => Tryd.call32 _ _) Tryd.func32 (by kernel_rfl) (by kernel_rfl) h
set_option maxRecDepth 100000 in
theorem vc_tree_Print (n_0 : Int) (n_1 : List UInt8) (n_2 : List UInt8) (n_3 : TV) (n_4 : List UInt8) (st : St) (K : List UInt8 → St → Prop) (h : CallT PR fn_tree_write [(.box st.nb 0), (.agg [(.int .i64 n_0), (.str n_1), (.str n_2), n_3, (.str n_4)])] [] (st.push (.cells [.nilPtr, .nilSlice]) (some 109)) (fun  (st1 : St) => CallT PR fn_strings_Builder_String [(.box st.nb 0)] [.one (.str)] st1 (fun (s1 : List UInt8) (st2 : St) => K (s1) st2))) : CallT PR fn_tree_Print [(.agg [(.int .i64 n_0), (.str n_1), (.str n_2), n_3, (.str n_4)])] [.one (.str)] st K :=
  tcalls_fw (cfg := ⟨[1], [], []⟩) (h := .none) mixed (fun _ _ => Tryd.call33 _ _) Tryd.func33 (by kernel_rfl) (by kernel_rfl) h
set_option maxRecDepth 100000 in
theorem vc_tree_Len (n_0 : Int) (n_1 : List UInt8) (n_2 : List UInt8) (n_3 : TV) (n_4 : List UInt8) (st : St) (K : Int → St → Prop) (h : need (isSl n_3) (∃ (I1 : Int → Int → TV → Int → St → Prop) (M1 : Int → Int → TV → Int → St → Nat), (I1 ((IntKind.i64.wrap ((IntKind.i64.wrap (((n_1).length : Int) + ((n_2).length : Int))) + ((n_4).length : Int)))) ((0 : Int)) (n_3) ((lenS n_3 : Int)) st) ∧ ∀ (sum_1 : Int) (n_1 : Int) (v_1 : TV) (n_2 : Int) (st1 : St), I1 sum_1 n_1 v_1 n_2 st1 → (BIf (decide (n_1 < n_2)) (((0 ≤ n_1 ∧ n_1 < (lenZ 5 v_1 : Int)) ∧ optK ((ldCells st1 [] (.t (ixT 5 v_1 (Int.toNat n_1))) 0 5).map TV.agg) (fun (x1 : TV) => decA [.int .i64, .str, .str, .tv, .str] x1 (fun (n1 : Int) (s1 : List UInt8) (s2 : List UInt8) (v1 : TV) (s3 : List UInt8) => need (List.all [(.int .i64 n1), (.str s1), (.str s2), v1, (.str s3)] oneT) (CallT PR fn_tree_Len [(.agg [(.int .i64 n1), (.str s1), (.str s2), v1, (.str s3)])] [.one (.int .i64)] st1 (fun (n2 : Int) (st2 : St) => (I1 ((IntKind.i64.wrap (sum_1 + n2))) ((IntKind.i64.wrap (n_1 + (1 : Int)))) (v_1) (n_2) st2 ∧ M1 ((IntKind.i64.wrap (sum_1 + n2))) ((IntKind.i64.wrap (n_1 + (1 : Int)))) (v_1) (n_2) st2 < M1 sum_1 n_1 v_1 n_2 st1))))))) (K (sum_1) st1)))) : CallT PR fn_tree_Len [(.agg [(.int .i64 n_0), (.str n_1), (.str n_2), n_3, (.str n_4)])] [.one (.int .i64)] st K :=
  tcalls_fw (cfg := ⟨[1, 5], [], []⟩) (h := (.seq .none (.seq .none (.seq (.seq .none (.block (.loop ⟨[(3, .int .i64), (20, .int .i64), (18, .tv), (19, .int .i64)], [], [], []⟩ .none))) .none)))) mixed (fun _ _ => Tryd.call34 _ _) Tryd.func34 (by kernel_rfl) (by kernel_rfl) h
set_option maxRecDepth 100000 in
theorem vc_datakitref27_Parse (src : List UInt8) (d_0 : Int) (d_1 : Int) (d_2 : Bool) (d_3 : Bool) (l_0 : Int) (l_1 : Int) (l_2 : Int) (l_3 : Int) (l_4 : Int) (st : St) (K : Int → List UInt8 → List UInt8 → TV → List UInt8 → Int → Int → St → Prop) (h : CallT PR fn_datakitref27_Valid [(.agg [(.int .u8 d_0), (.int .u8 d_1), (.bool d_2), (.bool d_3)])] [.one (.bool)] st (fun (b1 : Bool) (st1 : St) => BIf (!b1) (K ((0 : Int)) (([] : List UInt8)) (([] : List UInt8)) (.nilSlice) (([] : List UInt8)) ((0 : Int)) ((1 : Int)) st1) (CallT PR fn_datakitref20_Before [(.str src), (.agg [(.int .i64 l_0), (.int .i64 l_1), (.int .i64 l_2), (.int .i64 l_3), (.int .i64 l_4)])] [.one (.int .i64), .one (.int .i64)] st1 (fun (n1 : Int) (n2 : Int) (st2 : St) => BIf (decide (n2 ≠ (0 : Int))) (K ((0 : Int)) (([] : List UInt8)) (([] : List UInt8)) (.nilSlice) (([] : List UInt8)) (n1) (n2) st2) (CallT PR fn_datakitref27_state_begin [(.agg [(.str src), (.int .u8 d_0), (.int .u8 d_1), (.bool d_2), (.bool d_3), (.int .i64 l_0), (.int .i64 l_1), (.int .i64 l_2), (.int .i64 l_3), (.int .i64 l_4), (.int .i64 (0 : Int)), (.int .i64 (0 : Int)), (.int .i64 (0 : Int)), (.int .i64 (0 : Int))]), (.int .i64 (1 : Int))] [.agg [.str, .int .u8, .int .u8, .bool, .bool, .int .i64, .int .i64, .int .i64, .int .i64, .int .i64, .int .i64, .int .i64, .int .i64, .int .i64]] st2 (fun (s1 : List UInt8) (n3 : Int) (n4 : Int) (b2 : Bool) (b3 : Bool) (n5 : Int) (n6 : Int) (n7 : Int) (n8 : Int) (n9 : Int) (n10 : Int) (n11 : Int) (n12 : Int) (n13 : Int) (st3 : St) => ∃ (I1 : Int → List UInt8 → Int → Int → Bool → Bool → List UInt8 → Int → Int → Bool → Bool → Int → Int → Int → Int → Int → Int → Int → Int → Int → Int → List UInt8 → List UInt8 → TV → List UInt8 → St → Prop) (M1 : Int → List UInt8 → Int → Int → Bool → Bool → List UInt8 → Int → Int → Bool → Bool → Int → Int → Int → Int → Int → Int → Int → Int → Int → Int → List UInt8 → List UInt8 → TV → List UInt8 → St → Nat), (I1 ((0 : Int)) (src) (d_0) (d_1) (d_2) (d_3) (s1) (n3) (n4) (b2) (b3) (n5) (n6) (n7) (n8) (n9) (n10) (n11) (n12) (n13) ((1 : Int)) (([] : List UInt8)) (([] : List UInt8)) (.nilSlice) (([] : List UInt8)) st3) ∧ ∀ (many_1 : Int) (src_1 : List UInt8) (n14 : Int) (n15 : Int) (b4 : Bool) (b5 : Bool) (s2 : List UInt8) (n16 : Int) (n17 : Int) (b6 : Bool) (b7 : Bool) (n18 : Int) (n19 : Int) (n20 : Int) (n21 : Int) (n22 : Int) (n23 : Int) (n24 : Int) (n25 : Int) (n26 : Int) (n27 : Int) (s3 : List UInt8) (s4 : List UInt8) (v1 : TV) (s5 : List UInt8) (st4 : St), I1 many_1 src_1 n14 n15 b4 b5 s2 n16 n17 b6 b7 n18 n19 n20 n21 n22 n23 n24 n25 n26 n27 s3 s4 v1 s5 st4 → (BIf (decide (n26 = (0 : Int))) (BIf (decide (n23 < ((src_1).length : Int))) (BIf b4 (need (isSl v1) (CallT PR fn_datakitref27_record [(.agg [(.str s2), (.int .u8 n16), (.int .u8 n17), (.bool b6), (.bool b7), (.int .i64 n18), (.int .i64 n19), (.int .i64 n20), (.int .i64 n21), (.int .i64 n22), (.int .i64 n23), (.int .i64 n24), (.int .i64 n25), (.int .i64 n26)]), (.int .i64 many_1), (.bool (decide ((lenS v1 : Int) = (0 : Int))))] [.agg [.str, .int .u8, .int .u8, .bool, .bool, .int .i64, .int .i64, .int .i64, .int .i64, .int .i64, .int .i64, .int .i64, .int .i64, .int .i64], .agg [.int .i64, .str, .str, .tv, .str], .one (.int .i64)] st4 (fun (s6 : List UInt8) (n28 : Int) (n29 : Int) (b8 : Bool) (b9 : Bool) (n30 : Int) (n31 : Int) (n32 : Int) (n33 : Int) (n34 : Int) (n35 : Int) (n36 : Int) (n37 : Int) (n38 : Int) (n39 : Int) (s7 : List UInt8) (s8 : List UInt8) (v2 : TV) (s9 : List UInt8) (n40 : Int) (st5 : St) => need (List.all [(.int .i64 n39), (.str s7), (.str s8), v2, (.str s9)] oneT) (need (List.all [(.int .i64 n39), (.str s7), (.str s8), v2, (.str s9)] oneT) (appK 49 5 80 v1 1 [(.int .i64 n39), (.str s7), (.str s8), v2, (.str s9)] st5 (fun (v3 : TV) (st6 : St) => need (List.all [v3] oneT) ((I1 (n40) (src_1) (n14) (n15) (b4) (b5) (s6) (n28) (n29) (b8) (b9) (n30) (n31) (n32) (n33) (n34) (n35) (n36) (n37) (n38) (n27) (s3) (s4) (v3) (s5) st6 ∧ M1 (n40) (src_1) (n14) (n15) (b4) (b5) (s6) (n28) (n29) (b8) (b9) (n30) (n31) (n32) (n33) (n34) (n35) (n36) (n37) (n38) (n27) (s3) (s4) (v3) (s5) st6 < M1 many_1 src_1 n14 n15 b4 b5 s2 n16 n17 b6 b7 n18 n19 n20 n21 n22 n23 n24 n25 n26 n27 s3 s4 v1 s5 st4)))))))) (CallT PR fn_datakitref27_record [(.agg [(.str s2), (.int .u8 n16), (.int .u8 n17), (.bool b6), (.bool b7), (.int .i64 n18), (.int .i64 n19), (.int .i64 n20), (.int .i64 n21), (.int .i64 n22), (.int .i64 n23), (.int .i64 n24), (.int .i64 n25), (.int .i64 n26)]), (.int .i64 many_1), (.bool false)] [.agg [.str, .int .u8, .int .u8, .bool, .bool, .int .i64, .int .i64, .int .i64, .int .i64, .int .i64, .int .i64, .int .i64, .int .i64, .int .i64], .agg [.int .i64, .str, .str, .tv, .str], .one (.int .i64)] st4 (fun (s10 : List UInt8) (n41 : Int) (n42 : Int) (b10 : Bool) (b11 : Bool) (n43 : Int) (n44 : Int) (n45 : Int) (n46 : Int) (n47 : Int) (n48 : Int) (n49 : Int) (n50 : Int) (n51 : Int) (n52 : Int) (s11 : List UInt8) (s12 : List UInt8) (v4 : TV) (s13 : List UInt8) (n53 : Int) (st7 : St) => need (List.all [(.int .i64 n52), (.str s11), (.str s12), v4, (.str s13)] oneT) (need (List.all [(.int .i64 n52), (.str s11), (.str s12), v4, (.str s13)] oneT) (appK 49 5 80 v1 1 [(.int .i64 n52), (.str s11), (.str s12), v4, (.str s13)] st7 (fun (v5 : TV) (st8 : St) => need (List.all [v5] oneT) ((I1 (n53) (src_1) (n14) (n15) (b4) (b5) (s10) (n41) (n42) (b10) (b11) (n43) (n44) (n45) (n46) (n47) (n48) (n49) (n50) (n51) (n27) (s3) (s4) (v5) (s5) st8 ∧ M1 (n53) (src_1) (n14) (n15) (b4) (b5) (s10) (n41) (n42) (b10) (b11) (n43) (n44) (n45) (n46) (n47) (n48) (n49) (n50) (n51) (n27) (s3) (s4) (v5) (s5) st8 < M1 many_1 src_1 n14 n15 b4 b5 s2 n16 n17 b6 b7 n18 n19 n20 n21 n22 n23 n24 n25 n26 n27 s3 s4 v1 s5 st4)))))))) (BIf (decide (n26 ≠ (0 : Int))) (K ((0 : Int)) (([] : List UInt8)) (([] : List UInt8)) (.nilSlice) (([] : List UInt8)) (n25) (n26) st4) (need (List.all [(.int .i64 n27), (.str s3), (.str s4), v1, (.str s5)] oneT) (K (n27) (s3) (s4) (v1) (s5) ((0 : Int)) ((0 : Int)) st4)))) (BIf (decide (n26 ≠ (0 : Int))) (K ((0 : Int)) (([] : List UInt8)) (([] : List UInt8)) (.nilSlice) (([] : List UInt8)) (n25) (n26) st4) (need (List.all [(.int .i64 n27), (.str s3), (.str s4), v1, (.str s5)] oneT) (K (n27) (s3) (s4) (v1) (s5) ((0 : Int)) ((0 : Int)) st4)))))))))) : CallT PR fn_datakitref27_Parse [(.str src), (.agg [(.int .u8 d_0), (.int .u8 d_1), (.bool d_2), (.bool d_3)]), (.agg [(.int .i64 l_0), (.int .i64 l_1), (.int .i64 l_2), (.int .i64 l_3), (.int .i64 l_4)])] [.agg [.int .i64, .str, .str, .tv, .str], .one (.int .i64), .one (.int .i64)] st K :=
  tcalls_fw (cfg := ⟨[4, 5, 6, 11, 12, 14], [], []⟩) (h := (.seq .none (.seq .none (.seq .none (.seq .none (.seq .none (.seq .none (.seq (.block (.loop ⟨[(13, .int .i64), (0, .str)], [(4, 0, 0), (6, 2, 0), (11, 3, 0), (12, 4, 0)], [(0, 4), (2, 5), (3, 14), (4, 5)], [(0, 0, .int .u8), (0, 1, .int .u8), (0, 2, .bool), (0, 3, .bool), (3, 0, .str), (3, 1, .int .u8), (3, 2, .int .u8), (3, 3, .bool), (3, 4, .bool), (3, 5, .int .i64), (3, 6, .int .i64), (3, 7, .int .i64), (3, 8, .int .i64), (3, 9, .int .i64), (3, 10, .int .i64), (3, 11, .int .i64), (3, 12, .int .i64), (3, 13, .int .i64), (4, 0, .int .i64), (4, 1, .str), (4, 2, .str), (4, 3, .tv), (4, 4, .str)]⟩ .none)) .none)))))))) mixed (fun _ _ => Tryd.call35 _ _) Tryd.func35 (by kernel_rfl) (by kernel_rfl) h
set_option maxRecDepth 100000 in
theorem vc_datakitref13_Same (a_0 : Int) (a_1 : List UInt8) (a_2 : List UInt8) (a_3 : TV) (a_4 : List UInt8) (b_0 : Int) (b_1 : List UInt8) (b_2 : List UInt8) (b_3 : TV) (b_4 : List UInt8) (st : St) (K : Bool → St → Prop) (h : BIf (decide (a_0 ≠ b_0)) (K (false) st) (BIf (decide (a_1 ≠ b_1)) (K (false) st) (BIf (decide (a_2 ≠ b_2)) (K (false) st) (BIf (decide (a_4 ≠ b_4)) (K (false) st) (need (isSl a_3) (need (isSl b_3) (BIf (decide ((lenS a_3 : Int) ≠ (lenS b_3 : Int))) (K (false) st) (∃ (I1 : Int → Int → List UInt8 → List UInt8 → TV → List UInt8 → Int → List UInt8 → List UInt8 → TV → List UInt8 → St → Prop) (M1 : Int → Int → List UInt8 → List UInt8 → TV → List UInt8 → Int → List UInt8 → List UInt8 → TV → List UInt8 → St → Nat), (I1 ((0 : Int)) (a_0) (a_1) (a_2) (a_3) (a_4) (b_0) (b_1) (b_2) (b_3) (b_4) st) ∧ ∀ (i_1 : Int) (n1 : Int) (s1 : List UInt8) (s2 : List UInt8) (v1 : TV) (s3 : List UInt8) (n2 : Int) (s4 : List UInt8) (s5 : List UInt8) (v2 : TV) (s6 : List UInt8) (st1 : St), I1 i_1 n1 s1 s2 v1 s3 n2 s4 s5 v2 s6 st1 → (need (isSl v1) (BIf (decide (i_1 < (lenS v1 : Int))) (((0 ≤ i_1 ∧ i_1 < (lenZ 5 v1 : Int)) ∧ optK ((ldCells blindSt [] (.t (ixT 5 v1 (Int.toNat i_1))) 0 5).map TV.agg) (fun (x1 : TV) => decA [.int .i64, .str, .str, .tv, .str] x1 (fun (n3 : Int) (s7 : List UInt8) (s8 : List UInt8) (v3 : TV) (s9 : List UInt8) => ((0 ≤ i_1 ∧ i_1 < (lenZ 5 v2 : Int)) ∧ optK ((ldCells blindSt [] (.t (ixT 5 v2 (Int.toNat i_1))) 0 5).map TV.agg) (fun (x2 : TV) => decA [.int .i64, .str, .str, .tv, .str] x2 (fun (n4 : Int) (s10 : List UInt8) (s11 : List UInt8) (v4 : TV) (s12 : List UInt8) => CallT PR fn_datakitref13_Same [(.agg [(.int .i64 n3), (.str s7), (.str s8), v3, (.str s9)]), (.agg [(.int .i64 n4), (.str s10), (.str s11), v4, (.str s12)])] [.one (.bool)] st1 (fun (b1 : Bool) (st2 : St) => BIf (!b1) (K (false) st2) ((I1 ((IntKind.i64.wrap (i_1 + (1 : Int)))) (n1) (s1) (s2) (v1) (s3) (n2) (s4) (s5) (v2) (s6) st2 ∧ M1 ((IntKind.i64.wrap (i_1 + (1 : Int)))) (n1) (s1) (s2) (v1) (s3) (n2) (s4) (s5) (v2) (s6) st2 < M1 i_1 n1 s1 s2 v1 s3 n2 s4 s5 v2 s6 st1)))))))))) (K (true) st1))))))))))) : CallT PR fn_datakitref13_Same [(.agg [(.int .i64 a_0), (.str a_1), (.str a_2), a_3, (.str a_4)]), (.agg [(.int .i64 b_0), (.str b_1), (.str b_2), b_3, (.str b_4)])] [.one (.bool)] st K :=
  tcalls_fw (cfg := ⟨[2, 3], [], []⟩) (h := (.seq .none (.seq .none (.seq (.seq .none (.block (.loop ⟨[(5, .int .i64)], [(2, 0, 0), (3, 1, 0)], [(0, 5), (1, 5)], [(0, 0, .int .i64), (0, 1, .str), (0, 2, .str), (0, 3, .tv), (0, 4, .str), (1, 0, .int .i64), (1, 1, .str), (1, 2, .str), (1, 3, .tv), (1, 4, .str)]⟩ .none))) .none)))) mixed (fun _ _ => Tryd.call36 _ _) Tryd.func36 (by kernel_rfl) (by kernel_rfl) h
set_option maxRecDepth 100000 in
theorem vc_delim_Valid (d_0 : Int) (d_1 : Int) (d_2 : Bool) (d_3 : Bool) (st : St) (K : Bool → St → Prop) (h : BIf (decide (d_0 ≠ (9 : Int))) (BIf (decide (d_0 < (32 : Int))) (K (false) st) (BIf (decide ((126 : Int) < d_0)) (K (false) st) (BIf (decide (d_1 < (33 : Int))) (K (false) st) (BIf (decide ((126 : Int) < d_1)) (K (false) st) (BIf (decide (d_0 ≠ d_1)) (CallT PR fn_delim_special [(.int .u8 d_0)] [.one (.bool)] st (fun (b1 : Bool) (st1 : St) => BIf (!b1) (CallT PR fn_delim_special [(.int .u8 d_1)] [.one (.bool)] st1 (fun (b2 : Bool) (st2 : St) => K ((!b2)) st2)) (K (false) st1))) (K (false) st)))))) (BIf (decide (d_1 < (33 : Int))) (K (false) st) (BIf (decide ((126 : Int) < d_1)) (K (false) st) (BIf (decide (d_0 ≠ d_1)) (CallT PR fn_delim_special [(.int .u8 d_0)] [.one (.bool)] st (fun (b3 : Bool) (st3 : St) => BIf (!b3) (CallT PR fn_delim_special [(.int .u8 d_1)] [.one (.bool)] st3 (fun (b4 : Bool) (st4 : St) => K ((!b4)) st4)) (K (false) st3))) (K (false) st))))) : CallT PR fn_delim_Valid [(.agg [(.int .u8 d_0), (.int .u8 d_1), (.bool d_2), (.bool d_3)])] [.one (.bool)] st K :=
  tcalls_fw (cfg := ⟨[1], [], []⟩) (h := .none) mixed (fun _ _ => Tryd.call37 _ _) Tryd.func37 (by kernel_rfl) (by kernel_rfl) h
set_option maxRecDepth 100000 in
theorem vc_datakitref27_Valid (d_0 : Int) (d_1 : Int) (d_2 : Bool) (d_3 : Bool) (st : St) (K : Bool → St → Prop) (h : BIf (decide (d_0 = (9 : Int))) (BIf (decide ((33 : Int) ≤ d_1)) (BIf (decide (d_1 ≤ (126 : Int))) (BIf (decide (d_0 ≠ d_1)) (CallT PR fn_datakitref27_mark [(.int .u8 d_0)] [.one (.bool)] st (fun (b1 : Bool) (st1 : St) => BIf b1 (CallT PR fn_datakitref27_mark [(.int .u8 d_1)] [.one (.bool)] st1 (fun (b2 : Bool) (st2 : St) => K (b2) st2)) (K (false) st1))) (K (false) st)) (K (false) st)) (K (false) st)) (BIf (decide ((32 : Int) ≤ d_0)) (BIf (decide (d_0 ≤ (126 : Int))) (BIf (decide ((33 : Int) ≤ d_1)) (BIf (decide (d_1 ≤ (126 : Int))) (BIf (decide (d_0 ≠ d_1)) (CallT PR fn_datakitref27_mark [(.int .u8 d_0)] [.one (.bool)] st (fun (b3 : Bool) (st3 : St) => BIf b3 (CallT PR fn_datakitref27_mark [(.int .u8 d_1)] [.one (.bool)] st3 (fun (b4 : Bool) (st4 : St) => K (b4) st4)) (K (false) st3))) (K (false) st)) (K (false) st)) (K (false) st)) (K (false) st)) (K (false) st))) : CallT PR fn_datakitref27_Valid [(.agg [(.int .u8 d_0), (.int .u8 d_1), (.bool d_2), (.bool d_3)])] [.one (.bool)] st K :=
  tcalls_fw (cfg := ⟨[1], [], []⟩) (h := .none) mixed (fun _ _ => Tryd.call38 _ _) Tryd.func38 (by kernel_rfl) (by kernel_rfl) h
set_option maxRecDepth 100000 in
theorem vc_delim_Usual  (st : St) (K : Int → Int → Bool → Bool → St → Prop) (h : K ((44 : Int)) ((34 : Int)) (true) (true) st) : CallT PR fn_delim_Usual [] [.agg [.int .u8, .int .u8, .bool, .bool]] st K :=
  tcalls_fw (cfg := ⟨[0], [], []⟩) (h := .none) mixed (fun _ _ => Tryd.call39 _ _) Tryd.func39 (by kernel_rfl) (by kernel_rfl) h
set_option maxRecDepth 100000 in
theorem vc_datakitref27_Usual  (st : St) (K : Int → Int → Bool → Bool → St → Prop) (h : K ((44 : Int)) ((34 : Int)) (true) (true) st) : CallT PR fn_datakitref27_Usual [] [.agg [.int .u8, .int .u8, .bool, .bool]] st K :=
  tcalls_fw (cfg := ⟨[0], [], []⟩) (h := .none) mixed (fun _ _ => Tryd.call40 _ _) Tryd.func40 (by kernel_rfl) (by kernel_rfl) h
set_option maxRecDepth 100000 in
theorem vc_datakitref13_Small (n_0 : Int) (n_1 : List UInt8) (n_2 : List UInt8) (n_3 : TV) (n_4 : List UInt8) (most : Int) (depth : Int) (long : Int) (st : St) (K : Bool → St → Prop) (h : CallT PR fn_datakitref13_room [(.agg [(.int .i64 n_0), (.str n_1), (.str n_2), n_3, (.str n_4)]), (.int .i64 most), (.int .i64 depth), (.int .i64 long)] [.one (.int .i64)] st (fun (n1 : Int) (st1 : St) => K ((decide ((0 : Int) ≤ n1))) st1)) : CallT PR fn_datakitref13_Small [(.agg [(.int .i64 n_0), (.str n_1), (.str n_2), n_3, (.str n_4)]), (.int .i64 most), (.int .i64 depth), (.int .i64 long)] [.one (.bool)] st K :=
  tcalls_fw (cfg := ⟨[4], [], []⟩) (h := .none) mixed (fun _ _ => Tryd.call41 _ _) Tryd.func41 (by kernel_rfl) (by kernel_rfl) h
set_option maxRecDepth 100000 in
theorem vc_datakitref27_Records (n_0 : Int) (n_1 : List UInt8) (n_2 : List UInt8) (n_3 : TV) (n_4 : List UInt8) (d_0 : Int) (d_1 : Int) (d_2 : Bool) (d_3 : Bool) (st : St) (K : TV → Int → St → Prop) (h : CallT PR fn_datakitref27_Is [(.agg [(.int .i64 n_0), (.str n_1), (.str n_2), n_3, (.str n_4)]), (.agg [(.int .u8 d_0), (.int .u8 d_1), (.bool d_2), (.bool d_3)])] [.one (.bool)] st (fun (b1 : Bool) (st1 : St) => BIf (!b1) (K (.nilSlice) ((1 : Int)) st1) (∃ (I1 : TV → Int → Int → List UInt8 → List UInt8 → TV → List UInt8 → Int → Int → Bool → Bool → St → Prop) (M1 : TV → Int → Int → List UInt8 → List UInt8 → TV → List UInt8 → Int → Int → Bool → Bool → St → Nat), (I1 (.nilSlice) ((0 : Int)) (n_0) (n_1) (n_2) (n_3) (n_4) (d_0) (d_1) (d_2) (d_3) st1) ∧ ∀ (out_1 : TV) (i_1 : Int) (n1 : Int) (s1 : List UInt8) (s2 : List UInt8) (v1 : TV) (s3 : List UInt8) (n2 : Int) (n3 : Int) (b2 : Bool) (b3 : Bool) (st2 : St), I1 out_1 i_1 n1 s1 s2 v1 s3 n2 n3 b2 b3 st2 → (need (isSl v1) (BIf (decide (i_1 < (lenS v1 : Int))) (∃ (I2 : TV → Int → TV → Int → Int → List UInt8 → List UInt8 → TV → List UInt8 → Int → Int → Bool → Bool → St → Prop) (M2 : TV → Int → TV → Int → Int → List UInt8 → List UInt8 → TV → List UInt8 → Int → Int → Bool → Bool → St → Nat), (I2 (.nilSlice) ((0 : Int)) (out_1) (i_1) (n1) (s1) (s2) (v1) (s3) (n2) (n3) (b2) (b3) st2) ∧ ∀ (l_1 : TV) (k_1 : Int) (out_2 : TV) (i_2 : Int) (n4 : Int) (s4 : List UInt8) (s5 : List UInt8) (v2 : TV) (s6 : List UInt8) (n5 : Int) (n6 : Int) (b4 : Bool) (b5 : Bool) (st3 : St), I2 l_1 k_1 out_2 i_2 n4 s4 s5 v2 s6 n5 n6 b4 b5 st3 → (((0 ≤ i_2 ∧ i_2 < (lenZ 5 v2 : Int)) ∧ need (isPtr (ixT 5 v2 (Int.toNat i_2))) (optK (ldCell st3 [] (.t (fldT (ixT 5 v2 (Int.toNat i_2)) 3)) 0) (fun (v3 : TV) => need (isSl v3) (BIf (decide (k_1 < (lenS v3 : Int))) (((0 ≤ i_2 ∧ i_2 < (lenZ 5 v2 : Int)) ∧ need (isPtr (ixT 5 v2 (Int.toNat i_2))) (optK (ldCell blindSt [] (.t (fldT (ixT 5 v2 (Int.toNat i_2)) 3)) 0) (fun (v4 : TV) => ((0 ≤ k_1 ∧ k_1 < (lenZ 5 v4 : Int)) ∧ need (isPtr (ixT 5 v4 (Int.toNat k_1))) (optK (ldCell blindSt [] (.t (fldT (ixT 5 v4 (Int.toNat k_1)) 3)) 0) (fun (v5 : TV) => ((0 ≤ (0 : Int) ∧ (0 : Int) < (lenZ 5 v5 : Int)) ∧ need (isPtr (ixT 5 v5 (Int.toNat (0 : Int)))) (optK (ldCell blindSt [] (.t (fldT (ixT 5 v5 (Int.toNat (0 : Int))) 2)) 0) (fun (x4 : TV) => decT (.str) x4 (fun (s7 : List UInt8) => CallT PR fn_datakitref27_Plain [(.str s7), (.agg [(.int .u8 n5), (.int .u8 n6), (.bool b4), (.bool b5)])] [.one (.str)] st3 (fun (s8 : List UInt8) (st4 : St) => appK 9 1 16 l_1 1 [(.str s8)] st4 (fun (v6 : TV) (st5 : St) => (I2 (v6) ((IntKind.i64.wrap (k_1 + (1 : Int)))) (out_2) (i_2) (n4) (s4) (s5) (v2) (s6) (n5) (n6) (b4) (b5) st5 ∧ M2 (v6) ((IntKind.i64.wrap (k_1 + (1 : Int)))) (out_2) (i_2) (n4) (s4) (s5) (v2) (s6) (n5) (n6) (b4) (b5) st5 < M2 l_1 k_1 out_2 i_2 n4 s4 s5 v2 s6 n5 n6 b4 b5 st3)))))))))))))) (need (List.all [l_1] oneT) (need (List.all [l_1] oneT) (appK 61 1 24 out_2 1 [l_1] st3 (fun (v7 : TV) (st6 : St) => (I1 (v7) ((IntKind.i64.wrap (i_2 + (1 : Int)))) (n4) (s4) (s5) (v2) (s6) (n5) (n6) (b4) (b5) st6 ∧ M1 (v7) ((IntKind.i64.wrap (i_2 + (1 : Int)))) (n4) (s4) (s5) (v2) (s6) (n5) (n6) (b4) (b5) st6 < M1 out_1 i_1 n1 s1 s2 v1 s3 n2 n3 b2 b3 st2))))))))))) (K (out_1) ((0 : Int)) st2)))))) : CallT PR fn_datakitref27_Records [(.agg [(.int .i64 n_0), (.str n_1), (.str n_2), n_3, (.str n_4)]), (.agg [(.int .u8 d_0), (.int .u8 d_1), (.bool d_2), (.bool d_3)])] [.one (.tv), .one (.int .i64)] st K :=
  tcalls_fw (cfg := ⟨[2, 3], [], []⟩) (h := (.seq .none (.seq .none (.seq .none (.seq (.seq .none (.block (.loop ⟨[(6, .tv), (7, .int .i64)], [(2, 0, 0), (3, 1, 0)], [(0, 5), (1, 4)], [(0, 0, .int .i64), (0, 1, .str), (0, 2, .str), (0, 3, .tv), (0, 4, .str), (1, 0, .int .u8), (1, 1, .int .u8), (1, 2, .bool), (1, 3, .bool)]⟩ (.seq .none (.seq (.block (.seq .none (.seq (.seq .none (.block (.loop ⟨[(8, .tv), (9, .int .i64), (6, .tv), (7, .int .i64)], [(2, 0, 0), (3, 1, 0)], [(0, 5), (1, 4)], [(0, 0, .int .i64), (0, 1, .str), (0, 2, .str), (0, 3, .tv), (0, 4, .str), (1, 0, .int .u8), (1, 1, .int .u8), (1, 2, .bool), (1, 3, .bool)]⟩ .none))) .none))) .none))))) .none))))) mixed (fun _ _ => Tryd.call42 _ _) Tryd.func42 (by kernel_rfl) (by kernel_rfl) h
set_option maxRecDepth 100000 in
theorem vc_delim_Quoted (n_0 : Int) (n_1 : List UInt8) (n_2 : List UInt8) (n_3 : TV) (n_4 : List UInt8) (d_0 : Int) (d_1 : Int) (d_2 : Bool) (d_3 : Bool) (st : St) (K : TV → Int → St → Prop) (h : CallT PR fn_delim_ours [(.agg [(.int .i64 n_0), (.str n_1), (.str n_2), n_3, (.str n_4)]), (.agg [(.int .u8 d_0), (.int .u8 d_1), (.bool d_2), (.bool d_3)])] [.one (.bool)] st (fun (b1 : Bool) (st1 : St) => BIf (!b1) (K (.nilSlice) ((1 : Int)) st1) (need (isSl n_3) (∃ (I1 : TV → Int → TV → Int → Int → Int → Bool → Bool → St → Prop) (M1 : TV → Int → TV → Int → Int → Int → Bool → Bool → St → Nat), (I1 (.nilSlice) ((0 : Int)) (n_3) ((lenS n_3 : Int)) (d_0) (d_1) (d_2) (d_3) st1) ∧ ∀ (out_1 : TV) (n_1 : Int) (v_1 : TV) (n_2 : Int) (n1 : Int) (n2 : Int) (b2 : Bool) (b3 : Bool) (st2 : St), I1 out_1 n_1 v_1 n_2 n1 n2 b2 b3 st2 → (BIf (decide (n_1 < n_2)) (((0 ≤ n_1 ∧ n_1 < (lenZ 5 v_1 : Int)) ∧ optK ((ldCells st2 [] (.t (ixT 5 v_1 (Int.toNat n_1))) 0 5).map TV.agg) (fun (x1 : TV) => decA [.int .i64, .str, .str, .tv, .str] x1 (fun (n3 : Int) (s1 : List UInt8) (s2 : List UInt8) (v1 : TV) (s3 : List UInt8) => need (List.all [(.int .i64 n3), (.str s1), (.str s2), v1, (.str s3)] oneT) (need (isSl v1) (∃ (I2 : TV → Int → TV → TV → Int → Int → TV → Int → Int → Int → Bool → Bool → St → Prop) (M2 : TV → Int → TV → TV → Int → Int → TV → Int → Int → Int → Bool → Bool → St → Nat), (I2 (.nilSlice) ((0 : Int)) (out_1) (v_1) (n_2) (n_1) (v1) ((lenS v1 : Int)) (n1) (n2) (b2) (b3) st2) ∧ ∀ (l_1 : TV) (n_3 : Int) (out_2 : TV) (v_2 : TV) (n_4 : Int) (n_5 : Int) (v_3 : TV) (n_6 : Int) (n4 : Int) (n5 : Int) (b4 : Bool) (b5 : Bool) (st3 : St), I2 l_1 n_3 out_2 v_2 n_4 n_5 v_3 n_6 n4 n5 b4 b5 st3 → (BIf (decide (n_3 < n_6)) (((0 ≤ n_3 ∧ n_3 < (lenZ 5 v_3 : Int)) ∧ optK ((ldCells st3 [] (.t (ixT 5 v_3 (Int.toNat n_3))) 0 5).map TV.agg) (fun (x2 : TV) => decA [.int .i64, .str, .str, .tv, .str] x2 (fun (n6 : Int) (s4 : List UInt8) (s5 : List UInt8) (v2 : TV) (s6 : List UInt8) => need (List.all [(.int .i64 n6), (.str s4), (.str s5), v2, (.str s6)] oneT) (((0 ≤ (0 : Int) ∧ (0 : Int) < (lenZ 5 v2 : Int)) ∧ need (isPtr (ixT 5 v2 (Int.toNat (0 : Int)))) (optK (ldCell blindSt [] (.t (fldT (ixT 5 v2 (Int.toNat (0 : Int))) 2)) 0) (fun (x3 : TV) => decT (.str) x3 (fun (s7 : List UInt8) => CallT PR fn_delim_text [(.str s7), (.agg [(.int .u8 n4), (.int .u8 n5), (.bool b4), (.bool b5)])] [.one (.str), .one (.bool)] st3 (fun (s8 : List UInt8) (b6 : Bool) (st4 : St) => appK 4 1 1 l_1 1 [(.bool b6)] st4 (fun (v3 : TV) (st5 : St) => (I2 (v3) ((IntKind.i64.wrap (n_3 + (1 : Int)))) (out_2) (v_2) (n_4) (n_5) (v_3) (n_6) (n4) (n5) (b4) (b5) st5 ∧ M2 (v3) ((IntKind.i64.wrap (n_3 + (1 : Int)))) (out_2) (v_2) (n_4) (n_5) (v_3) (n_6) (n4) (n5) (b4) (b5) st5 < M2 l_1 n_3 out_2 v_2 n_4 n_5 v_3 n_6 n4 n5 b4 b5 st3)))))))))))) (need (List.all [l_1] oneT) (need (List.all [l_1] oneT) (appK 79 1 24 out_2 1 [l_1] st3 (fun (v4 : TV) (st6 : St) => (I1 (v4) ((IntKind.i64.wrap (n_5 + (1 : Int)))) (v_2) (n_4) (n4) (n5) (b4) (b5) st6 ∧ M1 (v4) ((IntKind.i64.wrap (n_5 + (1 : Int)))) (v_2) (n_4) (n4) (n5) (b4) (b5) st6 < M1 out_1 n_1 v_1 n_2 n1 n2 b2 b3 st2)))))))))))) (K (out_1) ((0 : Int)) st2)))))) : CallT PR fn_delim_Quoted [(.agg [(.int .i64 n_0), (.str n_1), (.str n_2), n_3, (.str n_4)]), (.agg [(.int .u8 d_0), (.int .u8 d_1), (.bool d_2), (.bool d_3)])] [.one (.tv), .one (.int .i64)] st K :=
  tcalls_fw (cfg := ⟨[2, 3, 8, 11], [], []⟩) (h := (.seq .none (.seq .none (.seq .none (.seq (.seq .none (.block (.loop ⟨[(6, .tv), (21, .int .i64), (19, .tv), (20, .int .i64)], [(3, 1, 0)], [(1, 4)], [(1, 0, .int .u8), (1, 1, .int .u8), (1, 2, .bool), (1, 3, .bool)]⟩ (.seq .none (.seq .none (.seq (.block (.seq .none (.seq .none (.seq (.seq .none (.block (.loop ⟨[(9, .tv), (28, .int .i64), (6, .tv), (19, .tv), (20, .int .i64), (21, .int .i64), (26, .tv), (27, .int .i64)], [(3, 1, 0)], [(1, 4)], [(1, 0, .int .u8), (1, 1, .int .u8), (1, 2, .bool), (1, 3, .bool)]⟩ .none))) .none)))) .none)))))) .none))))) mixed (fun _ _ => Tryd.call43 _ _) Tryd.func43 (by kernel_rfl) (by kernel_rfl) h
set_option maxRecDepth 100000 in
theorem vc_datakitref27_Quoted (n_0 : Int) (n_1 : List UInt8) (n_2 : List UInt8) (n_3 : TV) (n_4 : List UInt8) (d_0 : Int) (d_1 : Int) (d_2 : Bool) (d_3 : Bool) (st : St) (K : TV → Int → St → Prop) (h : CallT PR fn_datakitref27_Is [(.agg [(.int .i64 n_0), (.str n_1), (.str n_2), n_3, (.str n_4)]), (.agg [(.int .u8 d_0), (.int .u8 d_1), (.bool d_2), (.bool d_3)])] [.one (.bool)] st (fun (b1 : Bool) (st1 : St) => BIf (!b1) (K (.nilSlice) ((1 : Int)) st1) (∃ (I1 : TV → Int → Int → List UInt8 → List UInt8 → TV → List UInt8 → Int → Int → Bool → Bool → St → Prop) (M1 : TV → Int → Int → List UInt8 → List UInt8 → TV → List UInt8 → Int → Int → Bool → Bool → St → Nat), (I1 (.nilSlice) ((0 : Int)) (n_0) (n_1) (n_2) (n_3) (n_4) (d_0) (d_1) (d_2) (d_3) st1) ∧ ∀ (out_1 : TV) (i_1 : Int) (n1 : Int) (s1 : List UInt8) (s2 : List UInt8) (v1 : TV) (s3 : List UInt8) (n2 : Int) (n3 : Int) (b2 : Bool) (b3 : Bool) (st2 : St), I1 out_1 i_1 n1 s1 s2 v1 s3 n2 n3 b2 b3 st2 → (need (isSl v1) (BIf (decide (i_1 < (lenS v1 : Int))) (∃ (I2 : TV → Int → TV → Int → Int → List UInt8 → List UInt8 → TV → List UInt8 → Int → Int → Bool → Bool → St → Prop) (M2 : TV → Int → TV → Int → Int → List UInt8 → List UInt8 → TV → List UInt8 → Int → Int → Bool → Bool → St → Nat), (I2 (.nilSlice) ((0 : Int)) (out_1) (i_1) (n1) (s1) (s2) (v1) (s3) (n2) (n3) (b2) (b3) st2) ∧ ∀ (l_1 : TV) (k_1 : Int) (out_2 : TV) (i_2 : Int) (n4 : Int) (s4 : List UInt8) (s5 : List UInt8) (v2 : TV) (s6 : List UInt8) (n5 : Int) (n6 : Int) (b4 : Bool) (b5 : Bool) (st3 : St), I2 l_1 k_1 out_2 i_2 n4 s4 s5 v2 s6 n5 n6 b4 b5 st3 → (((0 ≤ i_2 ∧ i_2 < (lenZ 5 v2 : Int)) ∧ need (isPtr (ixT 5 v2 (Int.toNat i_2))) (optK (ldCell st3 [] (.t (fldT (ixT 5 v2 (Int.toNat i_2)) 3)) 0) (fun (v3 : TV) => need (isSl v3) (BIf (decide (k_1 < (lenS v3 : Int))) (((0 ≤ i_2 ∧ i_2 < (lenZ 5 v2 : Int)) ∧ need (isPtr (ixT 5 v2 (Int.toNat i_2))) (optK (ldCell st3 [] (.t (fldT (ixT 5 v2 (Int.toNat i_2)) 3)) 0) (fun (v4 : TV) => ((0 ≤ k_1 ∧ k_1 < (lenZ 5 v4 : Int)) ∧ need (isPtr (ixT 5 v4 (Int.toNat k_1))) (optK (ldCell st3 [] (.t (fldT (ixT 5 v4 (Int.toNat k_1)) 3)) 0) (fun (v5 : TV) => ((0 ≤ (0 : Int) ∧ (0 : Int) < (lenZ 5 v5 : Int)) ∧ need (isPtr (ixT 5 v5 (Int.toNat (0 : Int)))) (optK (ldCell st3 [] (.t (fldT (ixT 5 v5 (Int.toNat (0 : Int))) 2)) 0) (fun (x4 : TV) => decT (.str) x4 (fun (s7 : List UInt8) => BIf (decide (s7 ≠ ([] : List UInt8))) (((0 ≤ (0 : Int) ∧ (0 : Int) < ((s7).length : Int)) ∧ appK 4 1 1 l_1 1 [(.bool (decide (((List.getD s7 (Int.toNat (0 : Int)) 0).toNat : Int) = n6)))] st3 (fun (v6 : TV) (st4 : St) => (I2 (v6) ((IntKind.i64.wrap (k_1 + (1 : Int)))) (out_2) (i_2) (n4) (s4) (s5) (v2) (s6) (n5) (n6) (b4) (b5) st4 ∧ M2 (v6) ((IntKind.i64.wrap (k_1 + (1 : Int)))) (out_2) (i_2) (n4) (s4) (s5) (v2) (s6) (n5) (n6) (b4) (b5) st4 < M2 l_1 k_1 out_2 i_2 n4 s4 s5 v2 s6 n5 n6 b4 b5 st3)))) (appK 4 1 1 l_1 1 [(.bool false)] st3 (fun (v7 : TV) (st5 : St) => (I2 (v7) ((IntKind.i64.wrap (k_1 + (1 : Int)))) (out_2) (i_2) (n4) (s4) (s5) (v2) (s6) (n5) (n6) (b4) (b5) st5 ∧ M2 (v7) ((IntKind.i64.wrap (k_1 + (1 : Int)))) (out_2) (i_2) (n4) (s4) (s5) (v2) (s6) (n5) (n6) (b4) (b5) st5 < M2 l_1 k_1 out_2 i_2 n4 s4 s5 v2 s6 n5 n6 b4 b5 st3)))))))))))))) (need (List.all [l_1] oneT) (need (List.all [l_1] oneT) (appK 79 1 24 out_2 1 [l_1] st3 (fun (v8 : TV) (st6 : St) => (I1 (v8) ((IntKind.i64.wrap (i_2 + (1 : Int)))) (n4) (s4) (s5) (v2) (s6) (n5) (n6) (b4) (b5) st6 ∧ M1 (v8) ((IntKind.i64.wrap (i_2 + (1 : Int)))) (n4) (s4) (s5) (v2) (s6) (n5) (n6) (b4) (b5) st6 < M1 out_1 i_1 n1 s1 s2 v1 s3 n2 n3 b2 b3 st2))))))))))) (K (out_1) ((0 : Int)) st2)))))) : CallT PR fn_datakitref27_Quoted [(.agg [(.int .i64 n_0), (.str n_1), (.str n_2), n_3, (.str n_4)]), (.agg [(.int .u8 d_0), (.int .u8 d_1), (.bool d_2), (.bool d_3)])] [.one (.tv), .one (.int .i64)] st K :=
  tcalls_fw (cfg := ⟨[2, 3], [], []⟩) (h := (.seq .none (.seq .none (.seq .none (.seq (.seq .none (.block (.loop ⟨[(6, .tv), (7, .int .i64)], [(2, 0, 0), (3, 1, 0)], [(0, 5), (1, 4)], [(0, 0, .int .i64), (0, 1, .str), (0, 2, .str), (0, 3, .tv), (0, 4, .str), (1, 0, .int .u8), (1, 1, .int .u8), (1, 2, .bool), (1, 3, .bool)]⟩ (.seq .none (.seq (.block (.seq .none (.seq (.seq .none (.block (.loop ⟨[(8, .tv), (9, .int .i64), (6, .tv), (7, .int .i64)], [(2, 0, 0), (3, 1, 0)], [(0, 5), (1, 4)], [(0, 0, .int .i64), (0, 1, .str), (0, 2, .str), (0, 3, .tv), (0, 4, .str), (1, 0, .int .u8), (1, 1, .int .u8), (1, 2, .bool), (1, 3, .bool)]⟩ .none))) .none))) .none))))) .none))))) mixed (fun _ _ => Tryd.call44 _ _) Tryd.func44 (by kernel_rfl) (by kernel_rfl) h
end Go.TVF
end

section
set_option linter.unusedVariables false
namespace Go.TVF
open Go Go.Proofs
set_option maxRecDepth 100000 in
theorem vc_datakitlaw27_same (a : TV) (b : TV) (st : St) (K : Bool → St → Prop) (h : need (isSl a) (need (isSl b) (BIf (decide ((lenS a : Int) ≠ (lenS b : Int))) (K (false) st) (∃ (I1 : Int → TV → TV → St → Prop) (M1 : Int → TV → TV → St → Nat), (I1 ((0 : Int)) (a) (b) st) ∧ ∀ (i_1 : Int) (a_1 : TV) (b_1 : TV) (st1 : St), I1 i_1 a_1 b_1 st1 → (need (isSl a_1) (BIf (decide (i_1 < (lenS a_1 : Int))) (((0 ≤ i_1 ∧ i_1 < (lenZ 1 a_1 : Int)) ∧ optK (ldCell st1 [] (.t (ixT 1 a_1 (Int.toNat i_1))) 0) (fun (v1 : TV) => need (isSl v1) (((0 ≤ i_1 ∧ i_1 < (lenZ 1 b_1 : Int)) ∧ optK (ldCell st1 [] (.t (ixT 1 b_1 (Int.toNat i_1))) 0) (fun (v2 : TV) => need (isSl v2) (BIf (decide ((lenS v1 : Int) ≠ (lenS v2 : Int))) (K (false) st1) (∃ (I2 : Int → TV → TV → Int → St → Prop) (M2 : Int → TV → TV → Int → St → Nat), (I2 ((0 : Int)) (a_1) (b_1) (i_1) st1) ∧ ∀ (k_1 : Int) (a_2 : TV) (b_2 : TV) (i_2 : Int) (st2 : St), I2 k_1 a_2 b_2 i_2 st2 → (((0 ≤ i_2 ∧ i_2 < (lenZ 1 a_2 : Int)) ∧ optK (ldCell st2 [] (.t (ixT 1 a_2 (Int.toNat i_2))) 0) (fun (v3 : TV) => need (isSl v3) (BIf (decide (k_1 < (lenS v3 : Int))) (((0 ≤ i_2 ∧ i_2 < (lenZ 1 a_2 : Int)) ∧ optK (ldCell st2 [] (.t (ixT 1 a_2 (Int.toNat i_2))) 0) (fun (v4 : TV) => ((0 ≤ k_1 ∧ k_1 < (lenZ 1 v4 : Int)) ∧ optK (ldCell st2 [] (.t (ixT 1 v4 (Int.toNat k_1))) 0) (fun (x5 : TV) => decT (.str) x5 (fun (s1 : List UInt8) => ((0 ≤ i_2 ∧ i_2 < (lenZ 1 b_2 : Int)) ∧ optK (ldCell st2 [] (.t (ixT 1 b_2 (Int.toNat i_2))) 0) (fun (v5 : TV) => ((0 ≤ k_1 ∧ k_1 < (lenZ 1 v5 : Int)) ∧ optK (ldCell st2 [] (.t (ixT 1 v5 (Int.toNat k_1))) 0) (fun (x7 : TV) => decT (.str) x7 (fun (s2 : List UInt8) => BIf (decide (s1 ≠ s2)) (K (false) st2) ((I2 ((IntKind.i64.wrap (k_1 + (1 : Int)))) (a_2) (b_2) (i_2) st2 ∧ M2 ((IntKind.i64.wrap (k_1 + (1 : Int)))) (a_2) (b_2) (i_2) st2 < M2 k_1 a_2 b_2 i_2 st2))))))))))))) ((I1 ((IntKind.i64.wrap (i_2 + (1 : Int)))) (a_2) (b_2) st2 ∧ M1 ((IntKind.i64.wrap (i_2 + (1 : Int)))) (a_2) (b_2) st2 < M1 i_1 a_1 b_1 st1)))))))))))))) (K (true) st1))))))) : CallT PR fn_datakitlaw27_same [a, b] [.one (.bool)] st K :=
  tcalls_fw (cfg := ⟨[], [], []⟩) (h := (.seq .none (.seq .none (.seq (.seq .none (.block (.loop ⟨[(5, .int .i64), (0, .tv), (1, .tv)], [], [], []⟩ (.seq .none (.seq (.block (.seq .none (.seq .none (.block (.loop ⟨[(6, .int .i64), (0, .tv), (1, .tv), (5, .int .i64)], [], [], []⟩ .none))))) .none))))) .none)))) mixed (fun _ _ => Tryd.call45 _ _) Tryd.func45 (by kernel_rfl) (by kernel_rfl) h
set_option maxRecDepth 100000 in
theorem vc_delim_Sniff (src : List UInt8) (st : St) (K : Int → Int → Bool → Bool → St → Prop) (h : CallT PR fn_delim_Usual [] [.agg [.int .u8, .int .u8, .bool, .bool]] st (fun (n1 : Int) (n2 : Int) (b1 : Bool) (b2 : Bool) (st1 : St) => ∃ (I1 : Int → Int → List UInt8 → TV → Int → Int → Int → Bool → Bool → St → Prop) (M1 : Int → Int → List UInt8 → TV → Int → Int → Int → Bool → Bool → St → Nat), (I1 ((0 : Int)) ((0 : Int)) (src) ((.list 1 .full 4 [(.int .u8 (44 : Int)), (.int .u8 (59 : Int)), (.int .u8 (9 : Int)), (.int .u8 (124 : Int))])) ((lenS (.list 1 .full 4 [(.int .u8 (44 : Int)), (.int .u8 (59 : Int)), (.int .u8 (9 : Int)), (.int .u8 (124 : Int))]) : Int)) (n1) (n2) (b1) (b2) st1) ∧ ∀ (most_1 : Int) (n_1 : Int) (src_1 : List UInt8) (v_1 : TV) (n_2 : Int) (n3 : Int) (n4 : Int) (b3 : Bool) (b4 : Bool) (st2 : St), I1 most_1 n_1 src_1 v_1 n_2 n3 n4 b3 b4 st2 → (BIf (decide (n_1 < n_2)) (((0 ≤ n_1 ∧ n_1 < (lenZ 1 v_1 : Int)) ∧ optK (ldCell st2 [] (.t (ixT 1 v_1 (Int.toNat n_1))) 0) (fun (x1 : TV) => decT (.int .u8) x1 (fun (n5 : Int) => CallT PR fn_limit_Usual [] [.agg [.int .i64, .int .i64, .int .i64, .int .i64, .int .i64]] st2 (fun (n6 : Int) (n7 : Int) (n8 : Int) (n9 : Int) (n10 : Int) (st3 : St) => CallT PR fn_delim_Parse [(.str src_1), (.agg [(.int .u8 n5), (.int .u8 (34 : Int)), (.bool false), (.bool true)]), (.agg [(.int .i64 n6), (.int .i64 n7), (.int .i64 n8), (.int .i64 n9), (.int .i64 n10)])] [.agg [.int .i64, .str, .str, .tv, .str], .one (.int .i64), .one (.int .i64)] st3 (fun (n11 : Int) (s1 : List UInt8) (s2 : List UInt8) (v1 : TV) (s3 : List UInt8) (n12 : Int) (n13 : Int) (st4 : St) => need (List.all [(.int .i64 n11), (.str s1), (.str s2), v1, (.str s3)] oneT) (BIf (decide (n13 ≠ (0 : Int))) ((I1 (most_1) ((IntKind.i64.wrap (n_1 + (1 : Int)))) (src_1) (v_1) (n_2) (n3) (n4) (b3) (b4) st4 ∧ M1 (most_1) ((IntKind.i64.wrap (n_1 + (1 : Int)))) (src_1) (v_1) (n_2) (n3) (n4) (b3) (b4) st4 < M1 most_1 n_1 src_1 v_1 n_2 n3 n4 b3 b4 st2)) (need (isSl v1) (BIf (decide ((lenS v1 : Int) = (0 : Int))) ((I1 (most_1) ((IntKind.i64.wrap (n_1 + (1 : Int)))) (src_1) (v_1) (n_2) (n3) (n4) (b3) (b4) st4 ∧ M1 (most_1) ((IntKind.i64.wrap (n_1 + (1 : Int)))) (src_1) (v_1) (n_2) (n3) (n4) (b3) (b4) st4 < M1 most_1 n_1 src_1 v_1 n_2 n3 n4 b3 b4 st2)) (((0 ≤ (0 : Int) ∧ (0 : Int) < (lenZ 5 v1 : Int)) ∧ need (isPtr (ixT 5 v1 (Int.toNat (0 : Int)))) (optK (ldCell st4 [] (.t (fldT (ixT 5 v1 (Int.toNat (0 : Int))) 3)) 0) (fun (v2 : TV) => need (isSl v2) (BIf (decide ((lenS v2 : Int) ≤ most_1)) ((I1 (most_1) ((IntKind.i64.wrap (n_1 + (1 : Int)))) (src_1) (v_1) (n_2) (n3) (n4) (b3) (b4) st4 ∧ M1 (most_1) ((IntKind.i64.wrap (n_1 + (1 : Int)))) (src_1) (v_1) (n_2) (n3) (n4) (b3) (b4) st4 < M1 most_1 n_1 src_1 v_1 n_2 n3 n4 b3 b4 st2)) (((0 ≤ (0 : Int) ∧ (0 : Int) < (lenZ 5 v1 : Int)) ∧ need (isPtr (ixT 5 v1 (Int.toNat (0 : Int)))) (optK (ldCell st4 [] (.t (fldT (ixT 5 v1 (Int.toNat (0 : Int))) 3)) 0) (fun (v3 : TV) => need (isSl v3) (need (isSl v1) (BIf (decide ((1 : Int) < (lenS v1 : Int))) (((0 ≤ (0 : Int) ∧ (0 : Int) < (lenZ 5 v1 : Int)) ∧ optK ((ldCells blindSt [] (.t (ixT 5 v1 (Int.toNat (0 : Int)))) 0 5).map TV.agg) (fun (x4 : TV) => decA [.int .i64, .str, .str, .tv, .str] x4 (fun (n14 : Int) (s4 : List UInt8) (s5 : List UInt8) (v4 : TV) (s6 : List UInt8) => CallT PR fn_delim_named [(.agg [(.int .i64 n14), (.str s4), (.str s5), v4, (.str s6)]), (.agg [(.int .u8 n5), (.int .u8 (34 : Int)), (.bool false), (.bool true)])] [.one (.bool)] st4 (fun (b5 : Bool) (st5 : St) => (I1 ((lenS v3 : Int)) ((IntKind.i64.wrap (n_1 + (1 : Int)))) (src_1) (v_1) (n_2) (n5) ((34 : Int)) (b5) (true) st5 ∧ M1 ((lenS v3 : Int)) ((IntKind.i64.wrap (n_1 + (1 : Int)))) (src_1) (v_1) (n_2) (n5) ((34 : Int)) (b5) (true) st5 < M1 most_1 n_1 src_1 v_1 n_2 n3 n4 b3 b4 st2)))))) ((I1 ((lenS v3 : Int)) ((IntKind.i64.wrap (n_1 + (1 : Int)))) (src_1) (v_1) (n_2) (n5) ((34 : Int)) (false) (true) st4 ∧ M1 ((lenS v3 : Int)) ((IntKind.i64.wrap (n_1 + (1 : Int)))) (src_1) (v_1) (n_2) (n5) ((34 : Int)) (false) (true) st4 < M1 most_1 n_1 src_1 v_1 n_2 n3 n4 b3 b4 st2)))))))))))))))))))))) (K (n3) (n4) (b3) (b4) st2)))) : CallT PR fn_delim_Sniff [(.str src)] [.agg [.int .u8, .int .u8, .bool, .bool]] st K :=
  tcalls_fw (cfg := ⟨[2, 3, 7, 8], [], []⟩) (h := (.seq .none (.seq .none (.seq (.seq .none (.block (.loop ⟨[(4, .int .i64), (14, .int .i64), (0, .str), (12, .tv), (13, .int .i64)], [(2, 0, 0), (3, 1, 0)], [(0, 4), (1, 4)], [(1, 0, .int .u8), (1, 1, .int .u8), (1, 2, .bool), (1, 3, .bool)]⟩ .none))) .none)))) mixed (fun _ _ => Tryd.call46 _ _) Tryd.func46 (by kernel_rfl) (by kernel_rfl) h
set_option maxRecDepth 100000 in
theorem vc_datakitref27_Sniff (src : List UInt8) (st : St) (K : Int → Int → Bool → Bool → St → Prop) (h : ∃ (I1 : Int → Int → List UInt8 → TV → Int → Int → Bool → Bool → St → Prop) (M1 : Int → Int → List UInt8 → TV → Int → Int → Bool → Bool → St → Nat), (I1 ((0 : Int)) ((0 : Int)) (src) ((.list 1 .full 4 [(.int .u8 (44 : Int)), (.int .u8 (59 : Int)), (.int .u8 (9 : Int)), (.int .u8 (124 : Int))])) ((0 : Int)) ((0 : Int)) (false) (false) st) ∧ ∀ (most_1 : Int) (i_1 : Int) (src_1 : List UInt8) (seps_1 : TV) (n1 : Int) (n2 : Int) (b1 : Bool) (b2 : Bool) (st1 : St), I1 most_1 i_1 src_1 seps_1 n1 n2 b1 b2 st1 → (need (isSl seps_1) (BIf (decide (i_1 < (lenS seps_1 : Int))) (((0 ≤ i_1 ∧ i_1 < (lenZ 1 seps_1 : Int)) ∧ optK (ldCell st1 [] (.t (ixT 1 seps_1 (Int.toNat i_1))) 0) (fun (x1 : TV) => decT (.int .u8) x1 (fun (n3 : Int) => CallT PR fn_datakitref11_Usual [] [.agg [.int .i64, .int .i64, .int .i64, .int .i64, .int .i64]] st1 (fun (n4 : Int) (n5 : Int) (n6 : Int) (n7 : Int) (n8 : Int) (st2 : St) => CallT PR fn_datakitref27_Parse [(.str src_1), (.agg [(.int .u8 n3), (.int .u8 (34 : Int)), (.bool false), (.bool true)]), (.agg [(.int .i64 n4), (.int .i64 n5), (.int .i64 n6), (.int .i64 n7), (.int .i64 n8)])] [.agg [.int .i64, .str, .str, .tv, .str], .one (.int .i64), .one (.int .i64)] st2 (fun (n9 : Int) (s1 : List UInt8) (s2 : List UInt8) (v1 : TV) (s3 : List UInt8) (n10 : Int) (n11 : Int) (st3 : St) => need (List.all [(.int .i64 n9), (.str s1), (.str s2), v1, (.str s3)] oneT) (BIf (decide (n11 ≠ (0 : Int))) ((I1 (most_1) ((IntKind.i64.wrap (i_1 + (1 : Int)))) (src_1) (seps_1) (n1) (n2) (b1) (b2) st3 ∧ M1 (most_1) ((IntKind.i64.wrap (i_1 + (1 : Int)))) (src_1) (seps_1) (n1) (n2) (b1) (b2) st3 < M1 most_1 i_1 src_1 seps_1 n1 n2 b1 b2 st1)) (need (isSl v1) (BIf (decide ((lenS v1 : Int) = (0 : Int))) ((I1 (most_1) ((IntKind.i64.wrap (i_1 + (1 : Int)))) (src_1) (seps_1) (n1) (n2) (b1) (b2) st3 ∧ M1 (most_1) ((IntKind.i64.wrap (i_1 + (1 : Int)))) (src_1) (seps_1) (n1) (n2) (b1) (b2) st3 < M1 most_1 i_1 src_1 seps_1 n1 n2 b1 b2 st1)) (((0 ≤ (0 : Int) ∧ (0 : Int) < (lenZ 5 v1 : Int)) ∧ need (isPtr (ixT 5 v1 (Int.toNat (0 : Int)))) (optK (ldCell st3 [] (.t (fldT (ixT 5 v1 (Int.toNat (0 : Int))) 3)) 0) (fun (v2 : TV) => need (isSl v2) (BIf (decide ((lenS v2 : Int) ≤ most_1)) ((I1 (most_1) ((IntKind.i64.wrap (i_1 + (1 : Int)))) (src_1) (seps_1) (n1) (n2) (b1) (b2) st3 ∧ M1 (most_1) ((IntKind.i64.wrap (i_1 + (1 : Int)))) (src_1) (seps_1) (n1) (n2) (b1) (b2) st3 < M1 most_1 i_1 src_1 seps_1 n1 n2 b1 b2 st1)) (((0 ≤ (0 : Int) ∧ (0 : Int) < (lenZ 5 v1 : Int)) ∧ need (isPtr (ixT 5 v1 (Int.toNat (0 : Int)))) (optK (ldCell st3 [] (.t (fldT (ixT 5 v1 (Int.toNat (0 : Int))) 3)) 0) (fun (v3 : TV) => need (isSl v3) (need (isSl v1) (CallT PR fn_datakitref27_Records [(.agg [(.int .i64 n9), (.str s1), (.str s2), v1, (.str s3)]), (.agg [(.int .u8 n3), (.int .u8 (34 : Int)), (.bool false), (.bool true)])] [.one (.tv), .one (.int .i64)] st3 (fun (v4 : TV) (n12 : Int) (st4 : St) => ∃ (I2 : Int → List UInt8 → TV → Int → Int → TV → Int → Int → Bool → Bool → St → Prop) (M2 : Int → List UInt8 → TV → Int → Int → TV → Int → Int → Bool → Bool → St → Nat), (I2 ((0 : Int)) (src_1) (seps_1) ((lenS v3 : Int)) (i_1) (v4) (n3) ((34 : Int)) ((decide ((2 : Int) ≤ (lenS v1 : Int)))) (true) st4) ∧ ∀ (k_1 : Int) (src_2 : List UInt8) (seps_2 : TV) (most_2 : Int) (i_2 : Int) (l_1 : TV) (n13 : Int) (n14 : Int) (b3 : Bool) (b4 : Bool) (st5 : St), I2 k_1 src_2 seps_2 most_2 i_2 l_1 n13 n14 b3 b4 st5 → (((0 ≤ (0 : Int) ∧ (0 : Int) < (lenZ 1 l_1 : Int)) ∧ optK (ldCell st5 [] (.t (ixT 1 l_1 (Int.toNat (0 : Int)))) 0) (fun (v5 : TV) => need (isSl v5) (BIf (decide (k_1 < (lenS v5 : Int))) (((0 ≤ (0 : Int) ∧ (0 : Int) < (lenZ 1 l_1 : Int)) ∧ optK (ldCell st5 [] (.t (ixT 1 l_1 (Int.toNat (0 : Int)))) 0) (fun (v6 : TV) => ((0 ≤ k_1 ∧ k_1 < (lenZ 1 v6 : Int)) ∧ optK (ldCell st5 [] (.t (ixT 1 v6 (Int.toNat k_1))) 0) (fun (x6 : TV) => decT (.str) x6 (fun (s4 : List UInt8) => BIf (decide (s4 = ([] : List UInt8))) (∃ (I3 : Int → List UInt8 → TV → Int → Int → TV → Int → List UInt8 → Int → Int → Bool → Bool → St → Prop) (M3 : Int → List UInt8 → TV → Int → Int → TV → Int → List UInt8 → Int → Int → Bool → Bool → St → Nat), (I3 ((0 : Int)) (src_2) (seps_2) (most_2) (i_2) (l_1) (k_1) (s4) (n13) (n14) (false) (b4) st5) ∧ ∀ (j_1 : Int) (src_3 : List UInt8) (seps_3 : TV) (most_3 : Int) (i_3 : Int) (l_2 : TV) (k_2 : Int) (c_1 : List UInt8) (n15 : Int) (n16 : Int) (b5 : Bool) (b6 : Bool) (st6 : St), I3 j_1 src_3 seps_3 most_3 i_3 l_2 k_2 c_1 n15 n16 b5 b6 st6 → (BIf (decide (j_1 < k_2)) (BIf b5 (((0 ≤ (0 : Int) ∧ (0 : Int) < (lenZ 1 l_2 : Int)) ∧ optK (ldCell st6 [] (.t (ixT 1 l_2 (Int.toNat (0 : Int)))) 0) (fun (v7 : TV) => ((0 ≤ j_1 ∧ j_1 < (lenZ 1 v7 : Int)) ∧ optK (ldCell st6 [] (.t (ixT 1 v7 (Int.toNat j_1))) 0) (fun (x8 : TV) => decT (.str) x8 (fun (s5 : List UInt8) => (I3 ((IntKind.i64.wrap (j_1 + (1 : Int)))) (src_3) (seps_3) (most_3) (i_3) (l_2) (k_2) (c_1) (n15) (n16) ((decide (s5 ≠ c_1))) (b6) st6 ∧ M3 ((IntKind.i64.wrap (j_1 + (1 : Int)))) (src_3) (seps_3) (most_3) (i_3) (l_2) (k_2) (c_1) (n15) (n16) ((decide (s5 ≠ c_1))) (b6) st6 < M3 j_1 src_3 seps_3 most_3 i_3 l_2 k_2 c_1 n15 n16 b5 b6 st6))))))) ((I3 ((IntKind.i64.wrap (j_1 + (1 : Int)))) (src_3) (seps_3) (most_3) (i_3) (l_2) (k_2) (c_1) (n15) (n16) (false) (b6) st6 ∧ M3 ((IntKind.i64.wrap (j_1 + (1 : Int)))) (src_3) (seps_3) (most_3) (i_3) (l_2) (k_2) (c_1) (n15) (n16) (false) (b6) st6 < M3 j_1 src_3 seps_3 most_3 i_3 l_2 k_2 c_1 n15 n16 b5 b6 st6))) ((I2 ((IntKind.i64.wrap (k_2 + (1 : Int)))) (src_3) (seps_3) (most_3) (i_3) (l_2) (n15) (n16) (b5) (b6) st6 ∧ M2 ((IntKind.i64.wrap (k_2 + (1 : Int)))) (src_3) (seps_3) (most_3) (i_3) (l_2) (n15) (n16) (b5) (b6) st6 < M2 k_1 src_2 seps_2 most_2 i_2 l_1 n13 n14 b3 b4 st5)))) (((0 ≤ (0 : Int) ∧ (0 : Int) < ((s4).length : Int)) ∧ CallT PR fn_datakitref19_Letter [(.int .u8 ((List.getD s4 (Int.toNat (0 : Int)) 0).toNat : Int))] [.one (.bool)] st5 (fun (b7 : Bool) (st7 : St) => BIf (!b7) (((0 ≤ (0 : Int) ∧ (0 : Int) < ((s4).length : Int)) ∧ BIf (decide (((List.getD s4 (Int.toNat (0 : Int)) 0).toNat : Int) ≠ (95 : Int))) (∃ (I4 : Int → List UInt8 → TV → Int → Int → TV → Int → List UInt8 → Int → Int → Bool → Bool → St → Prop) (M4 : Int → List UInt8 → TV → Int → Int → TV → Int → List UInt8 → Int → Int → Bool → Bool → St → Nat), (I4 ((0 : Int)) (src_2) (seps_2) (most_2) (i_2) (l_1) (k_1) (s4) (n13) (n14) (false) (b4) st7) ∧ ∀ (j_2 : Int) (src_4 : List UInt8) (seps_4 : TV) (most_4 : Int) (i_4 : Int) (l_3 : TV) (k_3 : Int) (c_2 : List UInt8) (n17 : Int) (n18 : Int) (b8 : Bool) (b9 : Bool) (st8 : St), I4 j_2 src_4 seps_4 most_4 i_4 l_3 k_3 c_2 n17 n18 b8 b9 st8 → (BIf (decide (j_2 < k_3)) (BIf b8 (((0 ≤ (0 : Int) ∧ (0 : Int) < (lenZ 1 l_3 : Int)) ∧ optK (ldCell st8 [] (.t (ixT 1 l_3 (Int.toNat (0 : Int)))) 0) (fun (v8 : TV) => ((0 ≤ j_2 ∧ j_2 < (lenZ 1 v8 : Int)) ∧ optK (ldCell st8 [] (.t (ixT 1 v8 (Int.toNat j_2))) 0) (fun (x10 : TV) => decT (.str) x10 (fun (s6 : List UInt8) => (I4 ((IntKind.i64.wrap (j_2 + (1 : Int)))) (src_4) (seps_4) (most_4) (i_4) (l_3) (k_3) (c_2) (n17) (n18) ((decide (s6 ≠ c_2))) (b9) st8 ∧ M4 ((IntKind.i64.wrap (j_2 + (1 : Int)))) (src_4) (seps_4) (most_4) (i_4) (l_3) (k_3) (c_2) (n17) (n18) ((decide (s6 ≠ c_2))) (b9) st8 < M4 j_2 src_4 seps_4 most_4 i_4 l_3 k_3 c_2 n17 n18 b8 b9 st8))))))) ((I4 ((IntKind.i64.wrap (j_2 + (1 : Int)))) (src_4) (seps_4) (most_4) (i_4) (l_3) (k_3) (c_2) (n17) (n18) (false) (b9) st8 ∧ M4 ((IntKind.i64.wrap (j_2 + (1 : Int)))) (src_4) (seps_4) (most_4) (i_4) (l_3) (k_3) (c_2) (n17) (n18) (false) (b9) st8 < M4 j_2 src_4 seps_4 most_4 i_4 l_3 k_3 c_2 n17 n18 b8 b9 st8))) ((I2 ((IntKind.i64.wrap (k_3 + (1 : Int)))) (src_4) (seps_4) (most_4) (i_4) (l_3) (n17) (n18) (b8) (b9) st8 ∧ M2 ((IntKind.i64.wrap (k_3 + (1 : Int)))) (src_4) (seps_4) (most_4) (i_4) (l_3) (n17) (n18) (b8) (b9) st8 < M2 k_1 src_2 seps_2 most_2 i_2 l_1 n13 n14 b3 b4 st5)))) (∃ (I5 : Int → List UInt8 → TV → Int → Int → TV → Int → List UInt8 → Int → Int → Bool → Bool → St → Prop) (M5 : Int → List UInt8 → TV → Int → Int → TV → Int → List UInt8 → Int → Int → Bool → Bool → St → Nat), (I5 ((0 : Int)) (src_2) (seps_2) (most_2) (i_2) (l_1) (k_1) (s4) (n13) (n14) (b3) (b4) st7) ∧ ∀ (j_3 : Int) (src_5 : List UInt8) (seps_5 : TV) (most_5 : Int) (i_5 : Int) (l_4 : TV) (k_4 : Int) (c_3 : List UInt8) (n19 : Int) (n20 : Int) (b10 : Bool) (b11 : Bool) (st9 : St), I5 j_3 src_5 seps_5 most_5 i_5 l_4 k_4 c_3 n19 n20 b10 b11 st9 → (BIf (decide (j_3 < k_4)) (BIf b10 (((0 ≤ (0 : Int) ∧ (0 : Int) < (lenZ 1 l_4 : Int)) ∧ optK (ldCell st9 [] (.t (ixT 1 l_4 (Int.toNat (0 : Int)))) 0) (fun (v9 : TV) => ((0 ≤ j_3 ∧ j_3 < (lenZ 1 v9 : Int)) ∧ optK (ldCell st9 [] (.t (ixT 1 v9 (Int.toNat j_3))) 0) (fun (x12 : TV) => decT (.str) x12 (fun (s7 : List UInt8) => (I5 ((IntKind.i64.wrap (j_3 + (1 : Int)))) (src_5) (seps_5) (most_5) (i_5) (l_4) (k_4) (c_3) (n19) (n20) ((decide (s7 ≠ c_3))) (b11) st9 ∧ M5 ((IntKind.i64.wrap (j_3 + (1 : Int)))) (src_5) (seps_5) (most_5) (i_5) (l_4) (k_4) (c_3) (n19) (n20) ((decide (s7 ≠ c_3))) (b11) st9 < M5 j_3 src_5 seps_5 most_5 i_5 l_4 k_4 c_3 n19 n20 b10 b11 st9))))))) ((I5 ((IntKind.i64.wrap (j_3 + (1 : Int)))) (src_5) (seps_5) (most_5) (i_5) (l_4) (k_4) (c_3) (n19) (n20) (false) (b11) st9 ∧ M5 ((IntKind.i64.wrap (j_3 + (1 : Int)))) (src_5) (seps_5) (most_5) (i_5) (l_4) (k_4) (c_3) (n19) (n20) (false) (b11) st9 < M5 j_3 src_5 seps_5 most_5 i_5 l_4 k_4 c_3 n19 n20 b10 b11 st9))) ((I2 ((IntKind.i64.wrap (k_4 + (1 : Int)))) (src_5) (seps_5) (most_5) (i_5) (l_4) (n19) (n20) (b10) (b11) st9 ∧ M2 ((IntKind.i64.wrap (k_4 + (1 : Int)))) (src_5) (seps_5) (most_5) (i_5) (l_4) (n19) (n20) (b10) (b11) st9 < M2 k_1 src_2 seps_2 most_2 i_2 l_1 n13 n14 b3 b4 st5)))))) (∃ (I6 : Int → List UInt8 → TV → Int → Int → TV → Int → List UInt8 → Int → Int → Bool → Bool → St → Prop) (M6 : Int → List UInt8 → TV → Int → Int → TV → Int → List UInt8 → Int → Int → Bool → Bool → St → Nat), (I6 ((0 : Int)) (src_2) (seps_2) (most_2) (i_2) (l_1) (k_1) (s4) (n13) (n14) (b3) (b4) st7) ∧ ∀ (j_4 : Int) (src_6 : List UInt8) (seps_6 : TV) (most_6 : Int) (i_6 : Int) (l_5 : TV) (k_5 : Int) (c_4 : List UInt8) (n21 : Int) (n22 : Int) (b12 : Bool) (b13 : Bool) (st10 : St), I6 j_4 src_6 seps_6 most_6 i_6 l_5 k_5 c_4 n21 n22 b12 b13 st10 → (BIf (decide (j_4 < k_5)) (BIf b12 (((0 ≤ (0 : Int) ∧ (0 : Int) < (lenZ 1 l_5 : Int)) ∧ optK (ldCell st10 [] (.t (ixT 1 l_5 (Int.toNat (0 : Int)))) 0) (fun (v10 : TV) => ((0 ≤ j_4 ∧ j_4 < (lenZ 1 v10 : Int)) ∧ optK (ldCell st10 [] (.t (ixT 1 v10 (Int.toNat j_4))) 0) (fun (x14 : TV) => decT (.str) x14 (fun (s8 : List UInt8) => (I6 ((IntKind.i64.wrap (j_4 + (1 : Int)))) (src_6) (seps_6) (most_6) (i_6) (l_5) (k_5) (c_4) (n21) (n22) ((decide (s8 ≠ c_4))) (b13) st10 ∧ M6 ((IntKind.i64.wrap (j_4 + (1 : Int)))) (src_6) (seps_6) (most_6) (i_6) (l_5) (k_5) (c_4) (n21) (n22) ((decide (s8 ≠ c_4))) (b13) st10 < M6 j_4 src_6 seps_6 most_6 i_6 l_5 k_5 c_4 n21 n22 b12 b13 st10))))))) ((I6 ((IntKind.i64.wrap (j_4 + (1 : Int)))) (src_6) (seps_6) (most_6) (i_6) (l_5) (k_5) (c_4) (n21) (n22) (false) (b13) st10 ∧ M6 ((IntKind.i64.wrap (j_4 + (1 : Int)))) (src_6) (seps_6) (most_6) (i_6) (l_5) (k_5) (c_4) (n21) (n22) (false) (b13) st10 < M6 j_4 src_6 seps_6 most_6 i_6 l_5 k_5 c_4 n21 n22 b12 b13 st10))) ((I2 ((IntKind.i64.wrap (k_5 + (1 : Int)))) (src_6) (seps_6) (most_6) (i_6) (l_5) (n21) (n22) (b12) (b13) st10 ∧ M2 ((IntKind.i64.wrap (k_5 + (1 : Int)))) (src_6) (seps_6) (most_6) (i_6) (l_5) (n21) (n22) (b12) (b13) st10 < M2 k_1 src_2 seps_2 most_2 i_2 l_1 n13 n14 b3 b4 st5))))))))))))) ((I1 (most_2) ((IntKind.i64.wrap (i_2 + (1 : Int)))) (src_2) (seps_2) (n13) (n14) (b3) (b4) st5 ∧ M1 (most_2) ((IntKind.i64.wrap (i_2 + (1 : Int)))) (src_2) (seps_2) (n13) (n14) (b3) (b4) st5 < M1 most_1 i_1 src_1 seps_1 n1 n2 b1 b2 st1))))))))))))))))))))))))))) (BIf (decide (most_1 = (0 : Int))) (CallT PR fn_datakitref27_Usual [] [.agg [.int .u8, .int .u8, .bool, .bool]] st1 (fun (n23 : Int) (n24 : Int) (b14 : Bool) (b15 : Bool) (st11 : St) => K (n23) (n24) (b14) (b15) st11)) (K (n1) (n2) (b1) (b2) st1))))) : CallT PR fn_datakitref27_Sniff [(.str src)] [.agg [.int .u8, .int .u8, .bool, .bool]] st K :=
  tcalls_fw (cfg := ⟨[2, 4, 7, 8], [], []⟩) (h := (.seq .none (.seq .none (.seq .none (.seq .none (.seq (.seq .none (.block (.loop ⟨[(5, .int .i64), (6, .int .i64), (0, .str), (3, .tv)], [(2, 0, 0), (4, 1, 0)], [(0, 4), (1, 4)], [(1, 0, .int .u8), (1, 1, .int .u8), (1, 2, .bool), (1, 3, .bool)]⟩ (.seq .none (.seq (.block (.seq .none (.seq .none (.seq .none (.seq .none (.seq .none (.seq .none (.seq .none (.seq .none (.block (.loop ⟨[(13, .int .i64), (0, .str), (3, .tv), (5, .int .i64), (6, .int .i64), (11, .tv)], [(2, 0, 0), (4, 1, 0)], [(0, 4), (1, 4)], [(1, 0, .int .u8), (1, 1, .int .u8), (1, 2, .bool), (1, 3, .bool)]⟩ (.seq .none (.seq (.block (.seq .none (.seq .none (.seq .none (.block (.loop ⟨[(15, .int .i64), (0, .str), (3, .tv), (5, .int .i64), (6, .int .i64), (11, .tv), (13, .int .i64), (14, .str)], [(2, 0, 0), (4, 1, 0)], [(0, 4), (1, 4)], [(1, 0, .int .u8), (1, 1, .int .u8), (1, 2, .bool), (1, 3, .bool)]⟩ .none)))))) .none))))))))))))) .none))))) .none)))))) mixed (fun _ _ => Tryd.call47 _ _) Tryd.func47 (by kernel_rfl) (by kernel_rfl) h
set_option maxRecDepth 100000 in
theorem vc_datakitlaw27_small (l : TV) (st : St) (K : Bool → St → Prop) (h : ∃ (I1 : Int → Int → Int → TV → St → Prop) (M1 : Int → Int → Int → TV → St → Nat), (I1 ((0 : Int)) ((0 : Int)) ((0 : Int)) (l) st) ∧ ∀ (cells_1 : Int) (bytes_1 : Int) (i_1 : Int) (l_1 : TV) (st1 : St), I1 cells_1 bytes_1 i_1 l_1 st1 → (need (isSl l_1) (BIf (decide (i_1 < (lenS l_1 : Int))) (BIf (decide ((40 : Int) ≤ i_1)) (K (false) st1) (((0 ≤ i_1 ∧ i_1 < (lenZ 1 l_1 : Int)) ∧ optK (ldCell st1 [] (.t (ixT 1 l_1 (Int.toNat i_1))) 0) (fun (v1 : TV) => need (isSl v1) (BIf (decide ((IntKind.i64.wrap ((200 : Int) - cells_1)) < (lenS v1 : Int))) (K (false) st1) (((0 ≤ i_1 ∧ i_1 < (lenZ 1 l_1 : Int)) ∧ optK (ldCell st1 [] (.t (ixT 1 l_1 (Int.toNat i_1))) 0) (fun (v2 : TV) => need (isSl v2) (∃ (I2 : Int → Int → TV → Int → Int → St → Prop) (M2 : Int → Int → TV → Int → Int → St → Nat), (I2 (bytes_1) ((0 : Int)) (l_1) ((IntKind.i64.wrap (cells_1 + (lenS v2 : Int)))) (i_1) st1) ∧ ∀ (bytes_2 : Int) (k_1 : Int) (l_2 : TV) (cells_2 : Int) (i_2 : Int) (st2 : St), I2 bytes_2 k_1 l_2 cells_2 i_2 st2 → (((0 ≤ i_2 ∧ i_2 < (lenZ 1 l_2 : Int)) ∧ optK (ldCell st2 [] (.t (ixT 1 l_2 (Int.toNat i_2))) 0) (fun (v3 : TV) => need (isSl v3) (BIf (decide (k_1 < (lenS v3 : Int))) (((0 ≤ i_2 ∧ i_2 < (lenZ 1 l_2 : Int)) ∧ optK (ldCell st2 [] (.t (ixT 1 l_2 (Int.toNat i_2))) 0) (fun (v4 : TV) => ((0 ≤ k_1 ∧ k_1 < (lenZ 1 v4 : Int)) ∧ optK (ldCell st2 [] (.t (ixT 1 v4 (Int.toNat k_1))) 0) (fun (x5 : TV) => decT (.str) x5 (fun (s1 : List UInt8) => BIf (decide ((IntKind.i64.wrap ((3000 : Int) - bytes_2)) < ((s1).length : Int))) (K (false) st2) (((0 ≤ i_2 ∧ i_2 < (lenZ 1 l_2 : Int)) ∧ optK (ldCell st2 [] (.t (ixT 1 l_2 (Int.toNat i_2))) 0) (fun (v5 : TV) => ((0 ≤ k_1 ∧ k_1 < (lenZ 1 v5 : Int)) ∧ optK (ldCell st2 [] (.t (ixT 1 v5 (Int.toNat k_1))) 0) (fun (x7 : TV) => decT (.str) x7 (fun (s2 : List UInt8) => (I2 ((IntKind.i64.wrap (bytes_2 + ((s2).length : Int)))) ((IntKind.i64.wrap (k_1 + (1 : Int)))) (l_2) (cells_2) (i_2) st2 ∧ M2 ((IntKind.i64.wrap (bytes_2 + ((s2).length : Int)))) ((IntKind.i64.wrap (k_1 + (1 : Int)))) (l_2) (cells_2) (i_2) st2 < M2 bytes_2 k_1 l_2 cells_2 i_2 st2))))))))))))) ((I1 (cells_2) (bytes_2) ((IntKind.i64.wrap (i_2 + (1 : Int)))) (l_2) st2 ∧ M1 (cells_2) (bytes_2) ((IntKind.i64.wrap (i_2 + (1 : Int)))) (l_2) st2 < M1 cells_1 bytes_1 i_1 l_1 st1))))))))))))))) (K (true) st1)))) : CallT PR fn_datakitlaw27_small [l] [.one (.bool)] st K :=
  tcalls_fw (cfg := ⟨[], [], []⟩) (h := (.seq .none (.seq .none (.seq (.seq .none (.block (.loop ⟨[(3, .int .i64), (4, .int .i64), (5, .int .i64), (0, .tv)], [], [], []⟩ (.seq .none (.seq (.block (.seq .none (.seq .none (.seq .none (.block (.loop ⟨[(4, .int .i64), (6, .int .i64), (0, .tv), (3, .int .i64), (5, .int .i64)], [], [], []⟩ .none)))))) .none))))) .none)))) mixed (fun _ _ => Tryd.call48 _ _) Tryd.func48 (by kernel_rfl) (by kernel_rfl) h
set_option maxRecDepth 100000 in
theorem vc_delim_Quote (s : List UInt8) (d_0 : Int) (d_1 : Int) (d_2 : Bool) (d_3 : Bool) (st : St) (K : List UInt8 → Int → St → Prop) (h : CallT PR fn_delim_Valid [(.agg [(.int .u8 d_0), (.int .u8 d_1), (.bool d_2), (.bool d_3)])] [.one (.bool)] st (fun (b1 : Bool) (st1 : St) => BIf (!b1) (K (([] : List UInt8)) ((1 : Int)) st1) (CallT PR fn_utf_Valid [(.str s)] [.one (.bool)] st1 (fun (b2 : Bool) (st2 : St) => BIf (!b2) (K (([] : List UInt8)) ((5 : Int)) st2) (optK ((toBytes st2 (.list 1 .full 1 [(.int .u8 d_1)])).map TV.str) (fun (x1 : TV) => decT (.str) x1 (fun (s1 : List UInt8) => ∃ (I1 : Int → List UInt8 → List UInt8 → Int → Int → Bool → Bool → St → Prop) (M1 : Int → List UInt8 → List UInt8 → Int → Int → Bool → Bool → St → Nat), (I1 ((0 : Int)) (s) (s1) (d_0) (d_1) (d_2) (d_3) st2) ∧ ∀ (i_1 : Int) (s_1 : List UInt8) (q_1 : List UInt8) (n1 : Int) (n2 : Int) (b3 : Bool) (b4 : Bool) (st3 : St), I1 i_1 s_1 q_1 n1 n2 b3 b4 st3 → (BIf (decide (i_1 < ((s_1).length : Int))) (((0 ≤ i_1 ∧ i_1 < ((s_1).length : Int)) ∧ BIf (decide (((List.getD s_1 (Int.toNat i_1) 0).toNat : Int) = n1)) (((q_1).length + (q_1).length ≤ 9223372036854775807 ∧ CallT PR fn_strings_ReplaceAll [(.str s_1), (.str q_1), (.str (q_1 ++ q_1))] [.one (.str)] st3 (fun (s2 : List UInt8) (st4 : St) => ((q_1).length + (s2).length ≤ 9223372036854775807 ∧ (((q_1 ++ s2)).length + (q_1).length ≤ 9223372036854775807 ∧ K (((q_1 ++ s2) ++ q_1)) ((0 : Int)) st4))))) (BIf (decide (((List.getD s_1 (Int.toNat i_1) 0).toNat : Int) = n2)) (((q_1).length + (q_1).length ≤ 9223372036854775807 ∧ CallT PR fn_strings_ReplaceAll [(.str s_1), (.str q_1), (.str (q_1 ++ q_1))] [.one (.str)] st3 (fun (s3 : List UInt8) (st5 : St) => ((q_1).length + (s3).length ≤ 9223372036854775807 ∧ (((q_1 ++ s3)).length + (q_1).length ≤ 9223372036854775807 ∧ K (((q_1 ++ s3) ++ q_1)) ((0 : Int)) st5))))) (BIf (decide (((List.getD s_1 (Int.toNat i_1) 0).toNat : Int) = (10 : Int))) (((q_1).length + (q_1).length ≤ 9223372036854775807 ∧ CallT PR fn_strings_ReplaceAll [(.str s_1), (.str q_1), (.str (q_1 ++ q_1))] [.one (.str)] st3 (fun (s4 : List UInt8) (st6 : St) => ((q_1).length + (s4).length ≤ 9223372036854775807 ∧ (((q_1 ++ s4)).length + (q_1).length ≤ 9223372036854775807 ∧ K (((q_1 ++ s4) ++ q_1)) ((0 : Int)) st6))))) (BIf (decide (((List.getD s_1 (Int.toNat i_1) 0).toNat : Int) = (13 : Int))) (((q_1).length + (q_1).length ≤ 9223372036854775807 ∧ CallT PR fn_strings_ReplaceAll [(.str s_1), (.str q_1), (.str (q_1 ++ q_1))] [.one (.str)] st3 (fun (s5 : List UInt8) (st7 : St) => ((q_1).length + (s5).length ≤ 9223372036854775807 ∧ (((q_1 ++ s5)).length + (q_1).length ≤ 9223372036854775807 ∧ K (((q_1 ++ s5) ++ q_1)) ((0 : Int)) st7))))) ((I1 ((IntKind.i64.wrap (i_1 + (1 : Int)))) (s_1) (q_1) (n1) (n2) (b3) (b4) st3 ∧ M1 ((IntKind.i64.wrap (i_1 + (1 : Int)))) (s_1) (q_1) (n1) (n2) (b3) (b4) st3 < M1 i_1 s_1 q_1 n1 n2 b3 b4 st3))))))) (K (s_1) ((0 : Int)) st3))))))))) : CallT PR fn_delim_Quote [(.str s), (.agg [(.int .u8 d_0), (.int .u8 d_1), (.bool d_2), (.bool d_3)])] [.one (.str), .one (.int .i64)] st K :=
  tcalls_fw (cfg := ⟨[3], [], []⟩) (h := (.seq .none (.seq .none (.seq .none (.seq .none (.seq (.seq .none (.block (.loop ⟨[(7, .int .i64), (0, .str), (6, .str)], [(3, 0, 0)], [(0, 4)], [(0, 0, .int .u8), (0, 1, .int .u8), (0, 2, .bool), (0, 3, .bool)]⟩ .none))) .none)))))) mixed (fun _ _ => Tryd.call49 _ _) Tryd.func49 (by kernel_rfl) (by kernel_rfl) h
set_option maxRecDepth 100000 in
theorem vc_datakitref27_Quote (s : List UInt8) (d_0 : Int) (d_1 : Int) (d_2 : Bool) (d_3 : Bool) (st : St) (K : List UInt8 → Int → St → Prop) (h : CallT PR fn_datakitref27_Valid [(.agg [(.int .u8 d_0), (.int .u8 d_1), (.bool d_2), (.bool d_3)])] [.one (.bool)] st (fun (b1 : Bool) (st1 : St) => BIf (!b1) (K (([] : List UInt8)) ((1 : Int)) st1) (CallT PR fn_datakitref03_Valid [(.str s)] [.one (.bool)] st1 (fun (b2 : Bool) (st2 : St) => BIf (!b2) (K (([] : List UInt8)) ((5 : Int)) st2) (∃ (I1 : Int → List UInt8 → Int → Int → Bool → Bool → St → Prop) (M1 : Int → List UInt8 → Int → Int → Bool → Bool → St → Nat), (I1 ((0 : Int)) (s) (d_0) (d_1) (d_2) (d_3) st2) ∧ ∀ (i_1 : Int) (s_1 : List UInt8) (n1 : Int) (n2 : Int) (b3 : Bool) (b4 : Bool) (st3 : St), I1 i_1 s_1 n1 n2 b3 b4 st3 → (BIf (decide (i_1 < ((s_1).length : Int))) (((0 ≤ i_1 ∧ i_1 < ((s_1).length : Int)) ∧ BIf (decide (((List.getD s_1 (Int.toNat i_1) 0).toNat : Int) = n1)) (CallT PR fn_datakitref27_InQuotes [(.str s_1), (.agg [(.int .u8 n1), (.int .u8 n2), (.bool b3), (.bool b4)])] [.one (.str)] st3 (fun (s1 : List UInt8) (st4 : St) => K (s1) ((0 : Int)) st4)) (((0 ≤ i_1 ∧ i_1 < ((s_1).length : Int)) ∧ BIf (decide (((List.getD s_1 (Int.toNat i_1) 0).toNat : Int) = n2)) (CallT PR fn_datakitref27_InQuotes [(.str s_1), (.agg [(.int .u8 n1), (.int .u8 n2), (.bool b3), (.bool b4)])] [.one (.str)] st3 (fun (s2 : List UInt8) (st5 : St) => K (s2) ((0 : Int)) st5)) (((0 ≤ i_1 ∧ i_1 < ((s_1).length : Int)) ∧ BIf (decide (((List.getD s_1 (Int.toNat i_1) 0).toNat : Int) = (10 : Int))) (CallT PR fn_datakitref27_InQuotes [(.str s_1), (.agg [(.int .u8 n1), (.int .u8 n2), (.bool b3), (.bool b4)])] [.one (.str)] st3 (fun (s3 : List UInt8) (st6 : St) => K (s3) ((0 : Int)) st6)) (((0 ≤ i_1 ∧ i_1 < ((s_1).length : Int)) ∧ BIf (decide (((List.getD s_1 (Int.toNat i_1) 0).toNat : Int) = (13 : Int))) (CallT PR fn_datakitref27_InQuotes [(.str s_1), (.agg [(.int .u8 n1), (.int .u8 n2), (.bool b3), (.bool b4)])] [.one (.str)] st3 (fun (s4 : List UInt8) (st7 : St) => K (s4) ((0 : Int)) st7)) ((I1 ((IntKind.i64.wrap (i_1 + (1 : Int)))) (s_1) (n1) (n2) (b3) (b4) st3 ∧ M1 ((IntKind.i64.wrap (i_1 + (1 : Int)))) (s_1) (n1) (n2) (b3) (b4) st3 < M1 i_1 s_1 n1 n2 b3 b4 st3)))))))))) (K (s_1) ((0 : Int)) st3))))))) : CallT PR fn_datakitref27_Quote [(.str s), (.agg [(.int .u8 d_0), (.int .u8 d_1), (.bool d_2), (.bool d_3)])] [.one (.str), .one (.int .i64)] st K :=
  tcalls_fw (cfg := ⟨[3], [], []⟩) (h := (.seq .none (.seq .none (.seq .none (.seq (.seq .none (.block (.loop ⟨[(6, .int .i64), (0, .str)], [(3, 0, 0)], [(0, 4)], [(0, 0, .int .u8), (0, 1, .int .u8), (0, 2, .bool), (0, 3, .bool)]⟩ .none))) .none))))) mixed (fun _ _ => Tryd.call50 _ _) Tryd.func50 (by kernel_rfl) (by kernel_rfl) h
set_option maxRecDepth 100000 in
theorem vc_delim_Text (records : TV) (d_0 : Int) (d_1 : Int) (d_2 : Bool) (d_3 : Bool) (st : St) (K : List UInt8 → Int → St → Prop) (h : CallT PR fn_delim_Valid [(.agg [(.int .u8 d_0), (.int .u8 d_1), (.bool d_2), (.bool d_3)])] [.one (.bool)] st (fun (b1 : Bool) (st1 : St) => BIf (!b1) (K (([] : List UInt8)) ((1 : Int)) st1) (need (isSl records) (∃ (I1 : Int → TV → TV → TV → Int → Int → Int → Bool → Bool → St → Prop) (M1 : Int → TV → TV → TV → Int → Int → Int → Bool → Bool → St → Nat), (I1 ((0 : Int)) (records) ((.box st1.nb 0)) (records) ((lenS records : Int)) (d_0) (d_1) (d_2) (d_3) (st1.push (.cells [.nilPtr, .nilSlice]) (some 109))) ∧ ∀ (n_1 : Int) (records_1 : TV) (w_1 : TV) (v_1 : TV) (n_2 : Int) (n1 : Int) (n2 : Int) (b2 : Bool) (b3 : Bool) (st2 : St), I1 n_1 records_1 w_1 v_1 n_2 n1 n2 b2 b3 st2 → (BIf (decide (n_1 < n_2)) (((0 ≤ n_1 ∧ n_1 < (lenZ 1 v_1 : Int)) ∧ optK (ldCell st2 [] (.t (ixT 1 v_1 (Int.toNat n_1))) 0) (fun (v1 : TV) => need (isSl v1) (BIf (decide ((lenS v1 : Int) = (0 : Int))) (K (([] : List UInt8)) ((1 : Int)) st2) (need (isSl v1) (((0 ≤ (0 : Int) ∧ (0 : Int) < (lenZ 1 records_1 : Int)) ∧ optK (ldCell st2 [] (.t (ixT 1 records_1 (Int.toNat (0 : Int)))) 0) (fun (v2 : TV) => need (isSl v2) (BIf (decide ((lenS v1 : Int) ≠ (lenS v2 : Int))) (K (([] : List UInt8)) ((10 : Int)) st2) (CallT PR fn_delim_Line [v1, (.agg [(.int .u8 n1), (.int .u8 n2), (.bool b2), (.bool b3)])] [.one (.str), .one (.int .i64)] st2 (fun (s1 : List UInt8) (n3 : Int) (st3 : St) => BIf (decide (n3 ≠ (0 : Int))) (K (([] : List UInt8)) (n3) st3) (CallT PR fn_strings_Builder_WriteString [w_1, (.str s1)] [.one (.int .i64), .one (.tv)] st3 (fun (n4 : Int) (v3 : TV) (st4 : St) => (I1 ((IntKind.i64.wrap (n_1 + (1 : Int)))) (records_1) (w_1) (v_1) (n_2) (n1) (n2) (b2) (b3) st4 ∧ M1 ((IntKind.i64.wrap (n_1 + (1 : Int)))) (records_1) (w_1) (v_1) (n_2) (n1) (n2) (b2) (b3) st4 < M1 n_1 records_1 w_1 v_1 n_2 n1 n2 b2 b3 st2)))))))))))))) (CallT PR fn_strings_Builder_Len [w_1] [.one (.int .i64)] st2 (fun (n5 : Int) (st5 : St) => BIf (decide ((1048576 : Int) < n5)) (K (([] : List UInt8)) ((10 : Int)) st5) (CallT PR fn_strings_Builder_String [w_1] [.one (.str)] st5 (fun (s2 : List UInt8) (st6 : St) => K (s2) ((0 : Int)) st6))))))))) : CallT PR fn_delim_Text [records, (.agg [(.int .u8 d_0), (.int .u8 d_1), (.bool d_2), (.bool d_3)])] [.one (.str), .one (.int .i64)] st K :=
  tcalls_fw (cfg := ⟨[3], [], []⟩) (h := (.seq .none (.seq .none (.seq .none (.seq (.seq .none (.block (.loop ⟨[(16, .int .i64), (0, .tv), (6, .tv), (14, .tv), (15, .int .i64)], [(3, 0, 0)], [(0, 4)], [(0, 0, .int .u8), (0, 1, .int .u8), (0, 2, .bool), (0, 3, .bool)]⟩ .none))) .none))))) mixed (fun _ _ => Tryd.call51 _ _) Tryd.func51 (by kernel_rfl) (by kernel_rfl) h
end Go.TVF
end
