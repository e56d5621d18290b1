/- A region whose order is open: one order serves all. -/
import Derived.Test.YtlbcpcdgpnppgaaDoorTvL
import Derived.Orders
import Derived.Still
set_option linter.unusedVariables false
set_option linter.unusedSimpArgs false
namespace Go.TVF
open Go.RowKit (Below)

/-- Reads memory. -/
def readsMem : Op → Bool
  | .load _ _ => true
  | .convert _ _ _ => true
  | .lookup _ _ _ _ => true
  | _ => false
def isCall : Op → Bool
  | .call { callee := .value _, .. } => true
  | _ => false
/-- Writes memory that was there, or makes memory that may be written. -/
def isWrite (cfg : Cfg) (o : Oper) : Bool :=
  match o.op with
  | .store _ _ _ => true
  | .alloc _ => true
  | .box _ _ => true
  | .makeSlice _ _ _ => isIn cfg.ms o.dst
  | .makeMap _ _ => true
  | .mapUpdate _ _ _ _ => true
  | _ => false

def StLe (s s' : St) : Prop := ∀ b, s.box b = .dead ∨ s'.box b = s.box b

def blindSt : St := { nb := 0, box := fun _ => .dead, nt := 0, live := fun _ => false, ty := fun _ => none, bt := fun _ => none }

theorem StLe.refl (s : St) : StLe s s := fun _ => .inr rfl
theorem StLe.blind (s : St) : StLe blindSt s := fun _ => .inl rfl
theorem StLe.of_box {s st st' : St} (h : StLe s st) (e : st'.box = st.box) : StLe s st' := fun b => by rw [e]; exact h b

theorem ldCell_le {s s' : St} (h : StLe s s') {loc : List (Option (List TV))} {p : SV} {j : Nat} {x : TV} (hx : ldCell s loc p j = some x) : ldCell s' loc p j = some x := by
  unfold ldCell at hx ⊢
  split at hx <;> first | exact hx | skip
  rename_i b off
  rcases h b with hd | he
  · rw [hd] at hx; cases hx
  · rw [he]; exact hx

theorem ldCells_le {s s' : St} (h : StLe s s') {loc : List (Option (List TV))} {p : SV} : ∀ {n j : Nat} {xs : List TV}, ldCells s loc p j n = some xs → ldCells s' loc p j n = some xs := by
  intro n
  induction n with
  | zero => intro j xs hx; exact hx
  | succ n ih =>
    intro j xs hx
    simp only [ldCells] at hx ⊢
    split at hx
    · rename_i x hc
      rw [ldCell_le h hc]
      obtain ⟨ys, hys, rfl⟩ := Option.map_eq_some_iff.1 hx
      simp [ih hys]
    · cases hx

theorem toBytes_le {s s' : St} (h : StLe s s') {v : TV} {l : List UInt8} (hx : toBytes s v = some l) : toBytes s' v = some l := by
  unfold toBytes at hx ⊢
  split at hx <;> first | exact hx | skip
  split at hx
  · rename_i hsz
    split at hx
    · rename_i xs hc; simp [hsz, ldCells_le h hc, hx]
    · cases hx
  · cases hx

theorem mapOf_le {s s' : St} (h : StLe s s') {v : TV} {l : List (List UInt8 × TV)} (hx : mapOf s v = some l) : mapOf s' v = some l := by
  unfold mapOf at hx ⊢
  split at hx
  · exact hx
  · rename_i b
    rcases h b with hd | he
    · rw [hd] at hx; cases hx
    · rw [he]; exact hx
  · cases hx

theorem nres_le {P : Program} {s s' : St} (h : StLe s s') {loc : List (Option (List TV))} {ρ : Operand → SV} {op : Op} {v : SV} (hv : (nres P s loc ρ op).Is v) : (nres P s' loc ρ op).Is v := by
  unfold nres at hv ⊢
  split at hv <;> first | exact hv | skip
  · -- load
    unfold loadN at hv ⊢
    split at hv
    · obtain ⟨x, hx, rfl⟩ := hv
      split at hx
      · cases hx
      · obtain ⟨ys, hys, rfl⟩ := Option.map_eq_some_iff.1 hx
        exact ⟨_, by simp [ldCells_le h hys], rfl⟩
    · obtain ⟨x, hx, rfl⟩ := hv
      exact ⟨x, ldCell_le h hx, rfl⟩
    · exact hv
  · -- convert
    unfold convN at hv ⊢
    split at hv <;> first | exact hv | skip
    · split at hv <;> first | exact hv | skip
      obtain ⟨x, hx, rfl⟩ := hv
      obtain ⟨l, hl, rfl⟩ := Option.map_eq_some_iff.1 hx
      exact ⟨_, by simp [toBytes_le h hl], rfl⟩
    · split at hv <;> first | exact hv | skip
      obtain ⟨hx, rfl⟩ := hv
      obtain ⟨l, hl⟩ := Option.isSome_iff_exists.1 hx
      exact ⟨by simp [ldCell_le h hl], rfl⟩
  · -- lookup
    unfold lookN at hv ⊢
    split at hv <;> first | exact hv | skip
    split at hv <;> first | exact hv | skip
    obtain ⟨x, hx, rfl⟩ := hv
    exact ⟨_, mapOf_le h hx, rfl⟩


/-! Operands and continuations. -/

theorem opt_congr {ρ ρ' : Operand → SV} (o : Option Operand) (h : ∀ y, o = some y → ρ y = ρ' y) : (o.map fun x => (ρ x).tv) = o.map fun x => (ρ' x).tv := by
  cases o with
  | none => rfl
  | some y => simp [h y rfl]

set_option maxHeartbeats 1000000 in
theorem nres_congr {P : Program} {s : St} {loc : List (Option (List TV))} {ρ ρ' : Operand → SV} {op : Op} (h : ∀ x, x ∈ op.operands → ρ x = ρ' x) : nres P s loc ρ op = nres P s loc ρ' op := by
  cases op with
  | move x => simp only [nres, h x (by simp [Op.operands])]
  | assign x => simp only [nres, h x (by simp [Op.operands])]
  | pick c a b => simp only [nres, h c (by simp [Op.operands]), h a (by simp [Op.operands]), h b (by simp [Op.operands])]
  | load t a => simp only [nres, h a (by simp [Op.operands])]
  | nilCheck x => simp only [nres, h x (by simp [Op.operands])]
  | binOp op t x y _ => simp only [nres, h x (by simp [Op.operands]), h y (by simp [Op.operands])]
  | unOp op t x => cases op <;> simp only [nres, h x (by simp [Op.operands])]
  | convert a d x => simp only [nres, h x (by simp [Op.operands])]
  | makeFunc fn first cap =>
    cases fn <;> simp only [nres]
    rw [List.map_congr_left (l := cap.toList) (f := fun x => (ρ x).tv) (g := fun x => (ρ' x).tv) fun x hx => by rw [h x (by simp only [Op.operands, Array.mem_append]; right; exact Array.mem_toList_iff.1 hx)]]
  | slice t x lo hi mx =>
    simp only [nres, h x (by simp [Op.operands])]
    rw [opt_congr (ρ := ρ) (ρ' := ρ') lo fun y hy => h y (by simp [Op.operands, hy]), opt_congr (ρ := ρ) (ρ' := ρ') hi fun y hy => h y (by simp [Op.operands, hy]), opt_congr (ρ := ρ) (ρ' := ρ') mx fun y hy => h y (by simp [Op.operands, hy])]
  | fieldAddr t x f => simp only [nres, h x (by simp [Op.operands])]
  | field t x f => simp only [nres, h x (by simp [Op.operands])]
  | indexAddr t x i => simp only [nres, h x (by simp [Op.operands]), h i (by simp [Op.operands])]
  | index t x i => simp only [nres, h x (by simp [Op.operands]), h i (by simp [Op.operands])]
  | extract x i => simp only [nres, h x (by simp [Op.operands])]
  | call c =>
    obtain ⟨callee, args, ts⟩ := c
    have ha : ∀ x, x ∈ args → ρ x = ρ' x := fun x hx => h x (by simp only [Op.operands, Call.operands]; exact Array.mem_append.2 (.inr hx))
    cases callee with
    | value f => rfl
    | invoke r m => rfl
    | builtin b =>
      cases b <;> try rfl
      case unsafeSliceData =>
        simp only [nres]
        split
        · rename_i x hx
          rw [ha x (by rw [← Array.mem_toList_iff, hx]; simp)]
        · rfl
      · simp only [nres]
        cases h0 : args[0]? with
        | none => rfl
        | some x => cases h1 : ts[0]? with
          | none => rfl
          | some t => simp only [ha x (Array.mem_of_getElem? h0)]
      · simp only [nres]
        split
        · rename_i x y hxy
          have hx : x ∈ args := by rw [← Array.mem_toList_iff, hxy]; simp
          have hy : y ∈ args := by rw [← Array.mem_toList_iff, hxy]; simp
          rw [ha x hx, ha y hy]
        · rfl
      · simp only [nres]
        split
        · rename_i x y hxy
          have hx : x ∈ args := by rw [← Array.mem_toList_iff, hxy]; simp
          have hy : y ∈ args := by rw [← Array.mem_toList_iff, hxy]; simp
          rw [ha x hx, ha y hy]
        · rfl
  | lookup t x i ok => simp only [nres, h x (by simp [Op.operands]), h i (by simp [Op.operands])]
  | _ => rfl

theorem decLk_mono : ∀ {cs : List CTy} {R R' : Type} {vs : List TV} {F : List TV → R} {F' : List TV → R'} {k : R → Prop} {k' : R' → Prop}, (∀ l, k (F l) → k' (F' l)) → decLk cs vs (curry cs F) k → decLk cs vs (curry cs F') k'
  | [], _, _, [], F, F', k, k', h, hk => h _ hk
  | [], _, _, _ :: _, F, F', k, k', h, hk => hk.elim
  | _ :: _, _, _, [], F, F', k, k', h, hk => hk.elim
  | c :: cs, _, _, v :: vs, F, F', k, k', h, hk => by
    have key : ∀ {f f' : c.I → Prop}, (∀ y, f y → f' y) → decT c v f → decT c v f' := by
      intro f f' hf hd
      cases c with
      | int k => cases v <;> simp only [decT] at hd ⊢ <;> first | exact hd.elim | (rw [need_iff] at hd ⊢; exact ⟨hd.1, hf _ hd.2⟩)
      | bool => cases v <;> simp only [decT] at hd ⊢ <;> first | exact hd.elim | exact hf _ hd
      | str => cases v <;> simp only [decT] at hd ⊢ <;> first | exact hd.elim | exact hf _ hd
      | tv => exact hf _ hd
    exact key (fun y hy => decLk_mono (F := fun l => F (enc c y :: l)) (F' := fun l => F' (enc c y :: l)) (fun l => h _) hy) hk

theorem decT_mono {c : CTy} {v : TV} {f f' : c.I → Prop} (hf : ∀ y, f y → f' y) (hd : decT c v f) : decT c v f' := by
  cases c with
  | int k => cases v <;> simp only [decT] at hd ⊢ <;> first | exact hd.elim | (rw [need_iff] at hd ⊢; exact ⟨hd.1, hf _ hd.2⟩)
  | bool => cases v <;> simp only [decT] at hd ⊢ <;> first | exact hd.elim | exact hf _ hd
  | str => cases v <;> simp only [decT] at hd ⊢ <;> first | exact hd.elim | exact hf _ hd
  | tv => exact hf _ hd

theorem decRs_mono : ∀ {sh : List RTy} {R R' : Type} {vs : List TV} {F : List TV → R} {F' : List TV → R'} {k : R → Prop} {k' : R' → Prop}, (∀ l, k (F l) → k' (F' l)) → decRs sh vs (curryR sh F) k → decRs sh vs (curryR sh F') k'
  | [], _, _, [], F, F', k, k', h, hk => h _ hk
  | [], _, _, _ :: _, F, F', k, k', h, hk => hk.elim
  | _ :: _, _, _, [], F, F', k, k', h, hk => by cases ‹RTy› <;> exact hk.elim
  | .one c :: sh, _, _, v :: vs, F, F', k, k', h, hk =>
    decT_mono (fun y hy => decRs_mono (F := fun l => F (enc c y :: l)) (F' := fun l => F' (enc c y :: l)) (fun l => h _) hy) hk
  | .agg cs :: sh, _, _, v :: vs, F, F', k, k', h, hk => by
    cases v <;> simp only [decRs] at hk ⊢
    rename_i l
    exact decLk_mono (F := fun l => curryR sh fun r => F (.agg l :: r)) (F' := fun l => curryR sh fun r => F' (.agg l :: r)) (k := fun r => decRs sh vs r k) (k' := fun r => decRs sh vs r k')
      (fun l => decRs_mono (F := fun r => F (.agg l :: r)) (F' := fun r => F' (.agg l :: r)) fun r => h _) hk

theorem decRet_mono {sh : List RTy} {R R' : Type} {v : TV} {F : TV → R} {F' : TV → R'} {k : R → Prop} {k' : R' → Prop} (h : ∀ x, k (F x) → k' (F' x)) (hk : decRet sh v (curryRet sh F) k) : decRet sh v (curryRet sh F') k' := by
  match sh, hk with
  | [s], hk => exact decRs_mono (F := headF F) (F' := headF F') (fun l => by cases l <;> exact h _) hk
  | [], hk =>
    cases v <;> simp only [decRet] at hk ⊢ <;> first | exact hk.elim | skip
    exact decRs_mono (sh := []) (F := fun l => F (.tuple l)) (F' := fun l => F' (.tuple l)) (fun l => h _) hk
  | s :: s' :: sh, hk =>
    cases v <;> simp only [decRet] at hk ⊢ <;> first | exact hk.elim | skip
    exact decRs_mono (sh := s :: s' :: sh) (F := fun l => F (.tuple l)) (F' := fun l => F' (.tuple l)) (fun l => h _) hk

theorem appK_mono {T sz bytes : Nat} {v : TV} {k : Nat} {ys : List TV} {st : St} {K K' : TV → St → Prop} (h : ∀ r st', st'.box = st.box → K r st' → K' r st') (hk : appK T sz bytes v k ys st K) : appK T sz bytes v k ys st K' := by
  cases v <;> simp only [appK] at hk ⊢ <;> try exact hk
  · cases k with
    | zero => exact h _ _ rfl hk
    | succ m => simp only [need_iff] at hk ⊢; exact ⟨hk.1, h _ _ rfl hk.2⟩
  · rename_i s tip n xs
    cases hs : s.beq sz with
    | false => rw [hs] at hk; exact hk.elim
    | true =>
      rw [hs] at hk
      refine ⟨hk.1, ?_⟩
      have hk2 := hk.2
      cases tip with
      | non => exact hk2.elim
      | full => cases k with
        | zero => exact h _ _ rfl hk2
        | succ m => exact h _ _ rfl hk2
      | own id => exact ⟨hk2.1, h _ _ rfl hk2.2⟩

/-- The next operation sees no more than its operands, and hands on what it leaves. -/
theorem CallT_mono {P : Program} {f : FuncId} {args : List TV} {sh : List RTy} {st : St} {F F' : TV → St → Prop} (h : ∀ v st', F v st' → F' v st') (hk : CallT P f args sh st (curryRet sh F)) : CallT P f args sh st (curryRet sh F') :=
  TCalls.mono hk fun r st' hr => decRet_mono (F := F) (F' := F') (k := fun p => p st') (k' := fun p => p st') (fun x => h x st') hr

theorem stK_mono {st : St} {loc : List (Option (List TV))} {p : SV} {xs : List TV} {k k' : List (Option (List TV)) → St → Prop} (h : ∀ loc' st', k loc' st' → k' loc' st') (hk : stK st loc p xs k) : stK st loc p xs k' := by
  cases p with
  | loc i off =>
    simp only [stK] at hk ⊢
    cases hl : loc[i]? with
    | none => rw [hl] at hk; exact hk.elim
    | some q => cases q with
      | none => rw [hl] at hk; exact hk.elim
      | some l => rw [hl] at hk; simp only [need_iff] at hk ⊢; exact ⟨hk.1, h _ _ hk.2⟩
  | t v =>
    cases v <;> simp only [stK] at hk ⊢ <;> try exact hk
    obtain ⟨l, e1, e2, e3⟩ := hk
    exact ⟨l, e1, e2, h _ _ e3⟩

def pure1 (cfg : Cfg) (o : Oper) : Bool := !(isWrite cfg o) && !(isCall o.op)

/-- May an operation turn the frame's own cells, or yield a pointer to them? -/
def isLocal : Op → Bool
  | .store _ _ _ => true
  | .alloc _ => true
  | .box _ _ => true
  | _ => false
theorem isLocal_of {cfg : Cfg} {o : Oper} (h : isWrite cfg o = false) : isLocal o.op = false := by
  unfold isWrite at h
  unfold isLocal
  split at h <;> simp_all

set_option maxHeartbeats 1000000 in
theorem eop_mono {cfg : Cfg} {P : Program} (o : Oper) {ρ ρ' : Operand → SV} {loc : List (Option (List TV))} {st : St} {K K' : SV → List (Option (List TV)) → St → Prop} (hρ : ∀ x, x ∈ o.op.operands → ρ x = ρ' x)
    (h : ∀ v loc' st', (pure1 cfg o = true → st'.box = st.box) → (isLocal o.op = false → loc' = loc ∧ ∃ x, v = .t x) → K v loc' st' → K' v loc' st') (hk : eop cfg P o.dst o.type o.op ρ loc st K) : eop cfg P o.dst o.type o.op ρ' loc st K' := by
  obtain ⟨dst, op, type, pos, after, guard⟩ := o
  simp only at hρ hk ⊢
  have parts : ∀ ps : Array (Nat × Operand), (∀ p ∈ ps.toList, ρ p.2 = ρ' p.2) → (ps.toList.map fun p => (p.1, (ρ p.2).tv)) = ps.toList.map fun p => (p.1, (ρ' p.2).tv) := fun ps hp =>
    List.map_congr_left fun p hm => by rw [hp p hm]
  have alK : ∀ T ix cells, (isWrite cfg ⟨dst, op, type, pos, after, guard⟩ = true ∧ isLocal op = true) → allocK T ix cells loc st K → allocK T ix cells loc st K' := by
    intro T ix cells hw ha
    unfold allocK at ha ⊢
    split
    · simp only at ha
      split at ha
      · exact h _ _ _ (by simp [pure1, hw.1]) (by simp [hw.2]) ha
      · exact ha.elim
    · exact h _ _ _ (by simp [pure1, hw.1]) (by simp [hw.2]) ha
  cases op with
  | alloc t =>
    simp only [eop] at hk ⊢
    cases hz : zeroT P t with
    | none => rw [hz] at hk; exact hk
    | some cells => rw [hz] at hk; exact alK _ _ _ ⟨rfl, rfl⟩ hk
  | box t x =>
    simp only [eop] at hk ⊢
    rw [← hρ x (by simp [Op.operands])]
    split at hk
    · rename_i hag
      try simp only [hag]
      split at hk
      · exact alK _ _ _ ⟨rfl, rfl⟩ hk
      · exact hk.elim
    · rename_i hag
      try simp only [hag]
      rw [need_iff] at hk ⊢
      exact ⟨hk.1, alK _ _ _ ⟨rfl, rfl⟩ hk.2⟩
    · exact hk.elim
  | buildSlice t len ps =>
    simp only [eop] at hk ⊢
    rw [← parts ps fun p hp => hρ p.2 (by simp only [Op.operands, List.mem_toArray, List.mem_map]; exact ⟨p, hp, rfl⟩)]
    split at hk
    · rename_i e he
      try simp only [he]
      split at hk
      · rename_i sz z h1 h2
        try simp only [h1, h2]
        rw [need_iff] at hk ⊢
        refine ⟨hk.1, ?_⟩
        have hk2 := hk.2
        split at hk2
        · rename_i cells hc
          try simp only [hc]
          rw [need_iff] at hk2 ⊢
          exact ⟨hk2.1, h _ _ _ (fun _ => rfl) (fun _ => ⟨rfl, _, rfl⟩) hk2.2⟩
        · exact hk2.elim
      · exact hk.elim
    · exact hk.elim
  | build t ps =>
    simp only [eop] at hk ⊢
    rw [← parts ps fun p hp => hρ p.2 (by simp only [Op.operands, List.mem_toArray, List.mem_map]; exact ⟨p, hp, rfl⟩)]
    split at hk
    · rename_i z fs h1 h2
      try simp only [h1, h2]
      split at hk
      · rename_i cells hc
        try simp only [hc]
        rw [need_iff, need_iff] at hk ⊢
        exact ⟨hk.1, hk.2.1, h _ _ _ (fun _ => rfl) (fun _ => ⟨rfl, _, rfl⟩) hk.2.2⟩
      · exact hk.elim
    · exact hk.elim
  | store t a x =>
    simp only [eop] at hk ⊢
    rw [← hρ x (by simp [Op.operands]), ← hρ a (by simp [Op.operands])]
    split at hk
    · rename_i hag
      try simp only [hag]
      split at hk
      · rw [need_iff, need_iff] at hk ⊢
        exact ⟨hk.1, hk.2.1, stK_mono (fun loc' st' hq => h _ _ _ (fun hp => by cases hp) (fun hp => by cases hp) hq) hk.2.2⟩
      · exact hk.elim
    · rename_i hag
      try simp only [hag]
      rw [need_iff, need_iff] at hk ⊢
      exact ⟨hk.1, hk.2.1, stK_mono (fun loc' st' hq => h _ _ _ (fun hp => by cases hp) (fun hp => by cases hp) hq) hk.2.2⟩
    · exact hk.elim
  | makeMap t r =>
    simp only [eop] at hk ⊢
    have hr : (r.map fun x => (ρ x).tv) = r.map fun x => (ρ' x).tv := opt_congr r fun y hy => hρ y (by simp [Op.operands, hy])
    rw [← hr]
    split at hk
    · rename_i h1 h2
      try simp only [h1, h2]
      exact h _ _ _ (by simp [pure1, isWrite]) (fun _ => ⟨rfl, _, rfl⟩) hk
    · rename_i h1 h2
      try simp only [h1, h2]
      exact h _ _ _ (by simp [pure1, isWrite]) (fun _ => ⟨rfl, _, rfl⟩) hk
    · exact hk.elim
  | mapUpdate t m k x =>
    simp only [eop] at hk ⊢
    rw [← hρ m (by simp [Op.operands]), ← hρ k (by simp [Op.operands]), ← hρ x (by simp [Op.operands])]
    split at hk
    · rename_i h1 h2
      try simp only [h1, h2]
      split at hk
      · rw [need_iff] at hk ⊢
        refine ⟨hk.1, ?_⟩
        have hk2 := hk.2
        unfold muK at hk2 ⊢
        split at hk2
        · obtain ⟨es, he, hk2⟩ := hk2
          exact ⟨es, he, h _ _ _ (by simp [pure1, isWrite]) (fun _ => ⟨rfl, _, rfl⟩) hk2⟩
        · exact hk2.elim
      · exact hk.elim
    · exact hk.elim
  | convert sT d x =>
    simp only [eop] at hk ⊢
    rw [← hρ x (by simp [Op.operands])]
    split at hk
    · rename_i e l h1 h2 h3
      try simp only [h1, h2, h3]
      split at hk
      · exact h _ _ _ (fun _ => rfl) (fun _ => ⟨rfl, _, rfl⟩) hk
      · exact hk.elim
    · rename_i h1 h2
      try simp only [h1, h2]
      split at hk
      · rename_i u h4
        try simp only [h4]
        split at hk
        · exact hk.elim
        · rename_i n hn
          try simp only [hn]
          unfold unsK at hk ⊢
          split at hk
          · exact ⟨hk.1, h _ _ _ (fun _ => rfl) (fun _ => ⟨rfl, _, rfl⟩) hk.2⟩
          · exact hk.elim
      · exact hk.elim
    · exact hk.elim
  | makeSlice t l c =>
    simp only [eop] at hk ⊢
    rw [← hρ l (by simp [Op.operands]), ← hρ c (by simp [Op.operands])]
    split at hk
    · rename_i e k1 n k2 m h1 h2 h3
      try simp only [h1, h2, h3]
      split at hk
      · rename_i i z h4 h5
        try simp only [h4, h5]
        rw [need_iff] at hk ⊢
        refine ⟨hk.1, hk.2.1, ?_⟩
        have hk2 := hk.2.2
        split at hk2
        · rename_i hm
          try simp only [hm]
          exact h _ _ _ (fun hp => by simp [pure1, isWrite, hm] at hp) (fun _ => ⟨rfl, _, rfl⟩) hk2
        · rename_i hm
          try simp only [hm] at hk2
          exact h _ _ _ (fun _ => rfl) (fun _ => ⟨rfl, _, rfl⟩) hk2
      · exact hk.elim
    · exact hk.elim
  | call c =>
    obtain ⟨callee, args, ts⟩ := c
    have ha : ∀ x, x ∈ args → ρ x = ρ' x := fun x hx => hρ x (by simp only [Op.operands, Call.operands]; exact Array.mem_append.2 (.inr hx))
    cases callee with
    | value f =>
      simp only [eop] at hk ⊢
      rw [← hρ f (by simp [Op.operands, Call.operands])]
      rw [← List.map_congr_left (l := args.toList) (f := fun x => (ρ x).tv) (g := fun x => (ρ' x).tv) fun x hx => by rw [ha x (Array.mem_toList_iff.1 hx)]]
      cases hf : (ρ f).tv <;> rw [hf] at hk <;> simp only [callK] at hk ⊢
      exact CallT_mono (fun v st' hv => h _ _ _ (fun hp => by simp [pure1, isCall] at hp) (fun _ => ⟨rfl, _, rfl⟩) hv) hk
    | invoke r m => exact hk
    | builtin b =>
      cases b <;> try exact hk
      case unsafeString =>
        simp only [eop] at hk ⊢
        split at hk
        · rename_i p n pt it h1 h2
          try simp only [h1, h2]
          rw [← ha p (by rw [← Array.mem_toList_iff, h1]; simp), ← ha n (by rw [← Array.mem_toList_iff, h1]; simp)]
          split at hk
          · rename_i u h3
            try simp only [h3]
            split at hk
            · rename_i h4 h5
              try simp only [h4, h5]
              unfold usK at hk ⊢
              split at hk
              · exact ⟨hk.1, h _ _ _ (fun _ => rfl) (fun _ => ⟨rfl, _, rfl⟩) hk.2⟩
              · obtain ⟨hc, hk⟩ := hk
                rw [optK_iff] at hk ⊢
                obtain ⟨l, hl, hk⟩ := hk
                exact ⟨hc, l, hl, h _ _ _ (fun _ => rfl) (fun _ => ⟨rfl, _, rfl⟩) hk⟩
              · exact hk.elim
            · exact hk.elim
          · exact hk.elim
        · exact hk.elim
      simp only [eop] at hk ⊢
      split at hk
      · rename_i a x t u h1 h2
        try simp only [h1, h2]
        have hax : ρ a = ρ' a := ha a (by rw [← Array.mem_toList_iff, h1]; simp)
        have hxx : ρ x = ρ' x := ha x (by rw [← Array.mem_toList_iff, h1]; simp)
        rw [← hax, ← hxx]
        split at hk
        · rename_i e h3
          try simp only [h3]
          split at hk
          · rename_i i z h4 h5
            try simp only [h4, h5]
            rw [need_iff, optK_iff] at hk ⊢
            obtain ⟨hc, p, hp, hk2⟩ := hk
            rw [need_iff] at hk2
            refine ⟨hc, p, hp, ?_⟩
            rw [need_iff]
            exact ⟨hk2.1, appK_mono (fun r st' hb hr => h _ _ _ (fun _ => hb) (fun _ => ⟨rfl, _, rfl⟩) hr) hk2.2⟩
          · exact hk.elim
        · exact hk.elim
      · exact hk.elim
  | _ => exact hk


/-! A local more that nothing looks at. -/

theorem ldCell_shrink {st : St} {loc : List (Option (List TV))} {k : Nat} {c : Option (List TV)} {p : SV} (hp : ∀ off, p ≠ .loc k off) (j : Nat) : ldCell st (loc.set k c) p j = ldCell st loc p j := by
  cases p with
  | t v => unfold ldCell; split <;> simp_all
  | loc i off =>
    have hik : k ≠ i := fun h => hp off (by rw [h])
    simp only [ldCell, List.getElem?_set_ne hik]
theorem ldCells_shrink {st : St} {loc : List (Option (List TV))} {k : Nat} {c : Option (List TV)} {p : SV} (hp : ∀ off, p ≠ .loc k off) : ∀ (n j : Nat), ldCells st (loc.set k c) p j n = ldCells st loc p j n
  | 0, j => rfl
  | n + 1, j => by simp only [ldCells, ldCell_shrink hp, ldCells_shrink hp n]

theorem nres_shrink {P : Program} {st : St} {loc : List (Option (List TV))} {k : Nat} {c : Option (List TV)} {ρ : Operand → SV} {op : Op} (hρ : ∀ x, x ∈ op.operands → ∀ off, ρ x ≠ .loc k off) : nres P st (loc.set k c) ρ op = nres P st loc ρ op := by
  cases op with
  | load t a =>
    simp only [nres, loadN]
    have := hρ a (by simp [Op.operands])
    simp only [ldCell_shrink this, ldCells_shrink this]
  | unOp op t x => cases op <;> rfl
  | makeFunc fn first cap => cases fn <;> rfl
  | call c' =>
    obtain ⟨callee, args, ts⟩ := c'
    cases callee <;> first | rfl | skip
    rename_i b; cases b <;> rfl
  | _ => rfl

theorem opt_ne {o : Option TV} {v : SV} (h : (NRes.opt o).Is v) {k off : Nat} : v ≠ .loc k off := by obtain ⟨x, _, rfl⟩ := h; simp
theorem okt_ne {x : TV} {v : SV} (h : (NRes.ok (.t x)).Is v) {k off : Nat} : v ≠ .loc k off := by simp only [NRes.Is] at h; subst h; simp
theorem chkt_ne {b : Bool} {x : TV} {v : SV} (h : (NRes.chk b (.t x)).Is v) {k off : Nat} : v ≠ .loc k off := by obtain ⟨_, rfl⟩ := h; simp
theorem pret_ne {c : Prop} {x : TV} {v : SV} (h : (NRes.pre c (.t x)).Is v) {k off : Nat} : v ≠ .loc k off := by obtain ⟨_, rfl⟩ := h; simp

theorem binT_ne {P : Program} {op : BinOp} {t : TypeId} {x y : TV} {v : SV} (h : (binT P op t x y).Is v) {k off : Nat} : v ≠ .loc k off := by
  unfold binT at h
  split at h
  · unfold nilP at h; split at h; exact h.elim; split at h; exact chkt_ne h; exact h.elim
  · unfold nilS at h; split at h; exact h.elim; split at h; exact chkt_ne h; exact h.elim
  · unfold aggN at h
    split at h
    · split at h
      · split at h
        · exact okt_ne h
        · exact h.elim
      · exact h.elim
    · exact h.elim
  · unfold ptrN at h
    split at h
    · split at h
      · exact h.elim
      · exact pret_ne h
    · exact h.elim
  · unfold binV at h
    split at h
    · split at h
      · unfold shI at h; split at h; exact chkt_ne h; exact chkt_ne h; exact h.elim
      · split at h
        · unfold binI at h
          split at h
          · exact okt_ne h
          · exact okt_ne h
          · exact okt_ne h
          · exact chkt_ne h
          · exact chkt_ne h
          · exact okt_ne h
          · exact okt_ne h
          · exact okt_ne h
          · exact okt_ne h
          · split at h
            · exact okt_ne h
            · exact h.elim
        · exact h.elim
    · unfold binS at h
      split at h <;> first | exact okt_ne h | exact pret_ne h | exact h.elim
    · split at h
      · split at h <;> first | exact okt_ne h | exact h.elim
      · exact h.elim
    · exact h.elim
theorem convN_ne {P : Program} {st : St} {a b : TypeId} {x : TV} {v : SV} (h : (convN P st a b x).Is v) {k off : Nat} : v ≠ .loc k off := by
  unfold convN at h
  split at h
  · exact okt_ne h
  · exact okt_ne h
  · split at h
    · exact opt_ne h
    · exact h.elim
  · split at h
    · exact h.elim
    · exact pret_ne h
  · exact h.elim
theorem sliceN_ne {P : Program} {t : TypeId} {x : TV} {lo hi mx : Option TV} {v : SV} (h : (sliceN P t x lo hi mx).Is v) {k off : Nat} : v ≠ .loc k off := by
  unfold sliceN at h
  split at h
  · split at h <;> first | exact okt_ne h | exact pret_ne h | exact h.elim
  · split at h
    · exact h.elim
    · split at h <;> first | exact pret_ne h | exact h.elim
  · exact h.elim
theorem lenN_ne {P : Program} {t : TypeId} {x : TV} {v : SV} (h : (lenN P t x).Is v) {k off : Nat} : v ≠ .loc k off := by
  unfold lenN at h
  split at h <;> first | exact okt_ne h | exact chkt_ne h | exact h.elim
theorem lookN_ne {P : Program} {st : St} {t : TypeId} {x i : TV} {ok : Bool} {v : SV} (h : (lookN P st t x i ok).Is v) {k off : Nat} : v ≠ .loc k off := by
  unfold lookN at h
  split at h
  · split at h
    · obtain ⟨x, _, rfl⟩ := h; simp
    · exact h.elim
  · exact h.elim
theorem minN_ne {mx : Bool} {x y : TV} {v : SV} (h : (minN mx x y).Is v) {k off : Nat} : v ≠ .loc k off := by
  unfold minN at h
  split at h
  · split at h
    · exact okt_ne h
    · exact h.elim
  · exact h.elim

/-- What an operation that computes yields is a pointer to a local only where it was handed one. -/
theorem nres_noloc {P : Program} {st : St} {loc : List (Option (List TV))} {k : Nat} {ρ : Operand → SV} {op : Op} (hρ : ∀ x, x ∈ op.operands → ∀ off, ρ x ≠ .loc k off) {v : SV} (h : (nres P st loc ρ op).Is v) : ∀ off, v ≠ .loc k off := by
  intro off
  have close : ∀ {r : NRes}, r.Is v → (∀ u, r.Is u → u ≠ .loc k off) → v ≠ .loc k off := fun h k => k _ h
  unfold nres at h
  split at h
  · rename_i x; simp only [NRes.Is] at h; subst h; exact hρ x (by simp [Op.operands]) off
  · rename_i x; simp only [NRes.Is] at h; subst h; exact hρ x (by simp [Op.operands]) off
  · rename_i c a b
    split at h
    · rename_i x y h1 h2 h3; simp only [NRes.Is] at h; subst h; exact hρ a (by simp [Op.operands]) off
    · rename_i x y h1 h2 h3; simp only [NRes.Is] at h; subst h; exact hρ b (by simp [Op.operands]) off
    · exact h.elim
  · unfold loadN at h
    split at h
    · exact opt_ne h
    · exact opt_ne h
    · exact h.elim
  · rename_i x
    split at h
    · rename_i i o he; simp only [NRes.Is] at h; subst h
      have := hρ x (by simp [Op.operands]) off
      rw [he] at this; exact this
    · exact chkt_ne h
  · rename_i op t x y yt
    split at h
    · split at h
      · exact okt_ne h
      · exact h.elim
    · exact binT_ne h
  · split at h
    · exact okt_ne h
    · exact h.elim
  · split at h
    · exact okt_ne h
    · exact h.elim
  · exact convN_ne h
  · split at h
    · exact okt_ne h
    · exact h.elim
  · exact sliceN_ne h
  · rename_i t x f
    split at h
    · rename_i fd hfd
      split at h
      · exact h.elim
      · split at h
        · rename_i i o he; simp only [NRes.Is] at h; subst h
          have := hρ x (by simp [Op.operands])
          rw [he] at this
          intro hh
          simp only [SV.loc.injEq] at hh
          exact this o (by rw [hh.1])
        · exact chkt_ne h
    · exact h.elim
  · split at h
    · exact opt_ne h
    · exact h.elim
  · split at h
    · split at h
      · exact pret_ne h
      · exact h.elim
    · exact h.elim
  · split at h
    · exact pret_ne h
    · exact h.elim
  · split at h
    · exact opt_ne h
    · exact h.elim
  · split at h
    · exact lenN_ne h
    · exact h.elim
  · split at h
    · exact opt_ne h
    · exact h.elim
  · exact lookN_ne h
  · split at h
    · exact minN_ne h
    · exact h.elim
  · split at h
    · exact minN_ne h
    · exact h.elim
  · exact h.elim

theorem eop_shrink {cfg : Cfg} {P : Program} (o : Oper) {ρ : Operand → SV} {loc : List (Option (List TV))} {k : Nat} {c : List TV} {st : St} {K : SV → List (Option (List TV)) → St → Prop} (hρ : ∀ x, x ∈ o.op.operands → ∀ off, ρ x ≠ .loc k off)
    (hk0 : loc[k]? = some none) (hal : locIx cfg.loc o.dst ≠ some k) (hk : eop cfg P o.dst o.type o.op ρ (loc.set k (some c)) st K) :
    eop cfg P o.dst o.type o.op ρ loc st (fun v loc' st' => (∀ off, v ≠ .loc k off) ∧ loc'[k]? = some none ∧ K v (loc'.set k (some c)) st') := by
  have alK : ∀ T cells, allocK T (locIx cfg.loc o.dst) cells (loc.set k (some c)) st K → allocK T (locIx cfg.loc o.dst) cells loc st (fun v loc' st' => (∀ off, v ≠ .loc k off) ∧ loc'[k]? = some none ∧ K v (loc'.set k (some c)) st') := by
    intro T cells ha
    unfold allocK at ha ⊢
    split
    · rename_i k' hk'
      have hne : k ≠ k' := fun h => hal (by rw [hk', h])
      rw [hk'] at ha
      simp only [List.getElem?_set_ne hne] at ha
      split at ha
      · rename_i hl
        simp only [hl]
        exact ⟨fun off hh => hne (by simp only [SV.loc.injEq] at hh; exact hh.1.symm), by rw [List.getElem?_set_ne (Ne.symm hne)]; exact hk0, by rw [List.set_comm _ _ (Ne.symm hne)]; exact ha⟩
      · exact ha.elim
    · rename_i hk'
      rw [hk'] at ha
      exact ⟨fun off hh => (by cases hh), hk0, ha⟩
  cases hl : isLocal o.op with
  | true =>
    obtain ⟨dst, op, type, pos, after, guard⟩ := o
    cases op <;> simp only [isLocal, Bool.false_eq_true] at hl
    · simp only [eop] at hk ⊢
      split at hk
      · rename_i cells hz; exact alK _ _ hk
      · exact hk.elim
    · simp only [eop] at hk ⊢
      split at hk
      · rename_i hag
        split at hk
        · exact alK _ _ hk
        · exact hk.elim
      · rename_i hag
        rw [need_iff] at hk ⊢
        exact ⟨hk.1, alK _ _ hk.2⟩
      · exact hk.elim
    · rename_i t a x
      simp only [eop] at hk ⊢
      have ha := hρ a (by simp [Op.operands])
      have hst : ∀ xs, stK st (loc.set k (some c)) (ρ a) xs (fun loc' st' => K (.t .undef) loc' st') → stK st loc (ρ a) xs fun loc' st' => (∀ off, SV.t .undef ≠ .loc k off) ∧ loc'[k]? = some none ∧ K (.t .undef) (loc'.set k (some c)) st' := by
        intro xs hk2
        unfold stK at hk2 ⊢
        split at hk2
        · rename_i i off he
          have hne : k ≠ i := fun h => ha off (by rw [he, h])
          rw [List.getElem?_set_ne hne] at hk2
          split at hk2
          · rename_i l hl'
            simp only [hl']
            rw [need_iff] at hk2 ⊢
            refine ⟨hk2.1, fun off hh => (by cases hh), by rw [List.getElem?_set_ne (Ne.symm hne)]; exact hk0, ?_⟩
            rw [List.set_comm _ _ (Ne.symm hne)]; exact hk2.2
          · exact hk2.elim
        · rename_i b off he
          obtain ⟨l, e1, e2, e3⟩ := hk2
          exact ⟨l, e1, e2, fun off hh => (by cases hh), hk0, e3⟩
        · exact hk2.elim
      split at hk
      · split at hk
        · rw [need_iff, need_iff] at hk ⊢
          exact ⟨hk.1, hk.2.1, hst _ hk.2.2⟩
        · exact hk.elim
      · rw [need_iff, need_iff] at hk ⊢
        exact ⟨hk.1, hk.2.1, hst _ hk.2.2⟩
      · exact hk.elim
  | false =>
    have h1 := eop_mono (cfg := cfg) (K' := fun v _ st' => (∀ off, v ≠ .loc k off) ∧ loc[k]? = some none ∧ K v (loc.set k (some c)) st') o (ρ' := ρ) (fun _ _ => rfl) (fun v loc' st' _ hloc hK => by
      obtain ⟨e1, x, e2⟩ := hloc hl
      subst e2
      exact ⟨fun off hh => (by cases hh), hk0, by rw [← e1]; exact hK⟩) hk
    have h2 : eop cfg P o.dst o.type o.op ρ loc st (fun v _ st' => (∀ off, v ≠ .loc k off) ∧ loc[k]? = some none ∧ K v (loc.set k (some c)) st') := by
      obtain ⟨dst, op, type, pos, after, guard⟩ := o
      cases op <;> simp only [isLocal, Bool.true_eq_false] at hl <;> first | exact h1 | skip
      rename_i cl
      obtain ⟨callee, args, ts⟩ := cl
      cases callee <;> first | exact h1 | skip
      rename_i b
      cases b <;> exact h1
    refine eop_mono (K := fun v _ st' => (∀ off, v ≠ .loc k off) ∧ loc[k]? = some none ∧ K v (loc.set k (some c)) st') o (ρ := ρ) (fun _ _ => rfl) (fun v loc' st' _ hloc hK => ?_) h2
    obtain ⟨e1, _⟩ := hloc hl
    subst e1
    exact hK

end Go.TVF
