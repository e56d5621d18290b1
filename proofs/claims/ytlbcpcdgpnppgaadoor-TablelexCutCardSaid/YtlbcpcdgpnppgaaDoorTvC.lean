/- Operations that only compute and read: what they give at trees of values, and that the model's operation gives the same. -/
import Derived.Test.YtlbcpcdgpnppgaaDoorTvB
import Derived.Laws.Cells
import Derived.Laws.Entries
import Derived.Laws.Strings
set_option linter.unusedVariables false
set_option linter.unusedSimpArgs false
namespace Go.TVF
open Go.RowKit (Below)

inductive CTy where
  | int (k : IntKind)
  | bool
  | str
  | tv

@[reducible] def CTy.I : CTy → Type
  | .int _ => Int
  | .bool => Bool
  | .str => List UInt8
  | .tv => TV

def enc : (c : CTy) → c.I → TV
  | .int k, n => .int k n
  | .bool, b => .bool b
  | .str, l => .str l
  | .tv, v => v

def need (b : Bool) (k : Prop) : Prop := match b with | true => k | false => False
def BIf (b : Bool) (x y : Prop) : Prop := match b with | true => x | false => y
def optK {α : Type} (o : Option α) (k : α → Prop) : Prop := match o with | some x => k x | none => False

theorem need_iff {b : Bool} {k : Prop} : need b k ↔ b = true ∧ k := by cases b <;> simp [need]
theorem optK_iff {α : Type} {o : Option α} {k : α → Prop} : optK o k ↔ ∃ x, o = some x ∧ k x := by cases o <;> simp [optK]
theorem BIf_iff {b : Bool} {x y : Prop} : BIf b x y ↔ (b = true → x) ∧ (b = false → y) := by cases b <;> simp [BIf]

def decT : (c : CTy) → TV → (c.I → Prop) → Prop
  | .int k, v, f => match v with | .int k' n => need (decide (k = k')) (f n) | _ => False
  | .bool, v, f => match v with | .bool b => f b | _ => False
  | .str, v, f => match v with | .str l => f l | _ => False
  | .tv, v, f => f v

theorem decT_sound {c : CTy} {v : TV} {f : c.I → Prop} (h : decT c v f) : ∃ y, v = enc c y ∧ f y := by
  cases c with
  | int k =>
    cases v <;> simp only [decT] at h <;> first | exact h.elim | skip
    rename_i k' n
    rw [need_iff] at h
    obtain ⟨h1, h2⟩ := h
    have := of_decide_eq_true h1
    subst this
    exact ⟨n, rfl, h2⟩
  | bool => cases v <;> simp only [decT] at h <;> first | exact h.elim | exact ⟨_, rfl, h⟩
  | str => cases v <;> simp only [decT] at h <;> first | exact h.elim | exact ⟨_, rfl, h⟩
  | tv => exact ⟨v, rfl, h⟩

/-- Curried functions over typed cells. -/
@[reducible] def Fun : List CTy → Type → Type
  | [], R => R
  | c :: cs, R => c.I → Fun cs R

def decL : (cs : List CTy) → List TV → Fun cs Prop → Prop
  | [], [], f => f
  | [], _ :: _, _ => False
  | _ :: _, [], _ => False
  | c :: cs, v :: vs, f => decT c v fun y => decL cs vs (f y)

/-- A function of cells as a curried one over typed cells. -/
def curry : (cs : List CTy) → {R : Type} → (List TV → R) → Fun cs R
  | [], _, F => F []
  | c :: cs, _, F => fun y => curry cs fun l => F (enc c y :: l)

theorem decL_curry : ∀ {cs : List CTy} {vs : List TV} {F : List TV → Prop}, decL cs vs (curry cs F) → F vs
  | [], [], F, h => h
  | [], _ :: _, F, h => h.elim
  | _ :: _, [], F, h => h.elim
  | c :: cs, v :: vs, F, h => by
    obtain ⟨y, rfl, h2⟩ := decT_sound h
    exact decL_curry (F := fun l => F (enc c y :: l)) h2

inductive RTy where
  | one (c : CTy)
  | agg (cs : List CTy)

def ctyOf (P : Program) (t : TypeId) : CTy :=
  match P.underlying t with
  | some (.int k) => .int k
  | some .bool => .bool
  | some .string => .str
  | _ => .tv

/-- The cells of a type, each with its kind. -/
def cellTys (P : Program) : Nat → TypeId → List CTy
  | 0, _ => []
  | n + 1, t =>
    match P.underlying t with
    | some (.struct fs) => fs.toList.flatMap fun f => cellTys P n f.type
    | some (.array len e) => (List.replicate len (cellTys P n e)).flatten
    | _ => [ctyOf P t]

def aggK (P : Program) (t : TypeId) : Option Bool :=
  match P.underlying t with
  | some (.struct _) => some true
  | some (.array _ _) => some true
  | some _ => some false
  | none => none

def rtyOf (P : Program) (t : TypeId) : RTy :=
  match aggK P t with
  | some true => .agg (cellTys P 8 t)
  | _ => .one (ctyOf P t)

def decV : RTy → TV → (TV → Prop) → Prop
  | .one c, v, f => decT c v fun y => f (enc c y)
  | .agg cs, v, f => match v with | .agg l => decL cs l (curry cs fun l' => f (.agg l')) | _ => False

theorem decV_sound {r : RTy} {v : TV} {f : TV → Prop} (h : decV r v f) : f v := by
  cases r with
  | one c => obtain ⟨y, rfl, h2⟩ := decT_sound h; exact h2
  | agg cs =>
    cases v <;> simp only [decV] at h <;> first | exact h.elim | skip
    exact decL_curry (F := fun l' => f (.agg l')) h

/-! Operands. -/

def ofV1 : Value → TV
  | .bool b => .bool b
  | .int k n => .int k n
  | .string s => .str s.data.toList
  | .pointer none => .nilPtr
  | .slice none 0 0 => .nilSlice
  | .map none => .nilMap
  | .nilFunc => .nilFunc
  | .nilIface => .nilIface
  | _ => .junk

def ofV : Value → TV
  | .agg cs => .agg (cs.toList.map ofV1)
  | v => ofV1 v

theorem rel_ofV1 (g : Ghost) (w : World) (v : Value) : Rel g w (ofV1 v) v := by
  unfold ofV1
  split
  · exact .bool _
  · exact .int _ _
  · rename_i s; exact .str s.data.toList
  · exact .nilPtr
  · exact .nilSlice
  · exact .nilMap
  · exact .nilFunc
  · exact .nilIface
  · exact .junk _

theorem relL_ofV1 (g : Ghost) (w : World) (vs : List Value) : RelL g w (vs.map ofV1) vs := by
  refine ⟨by simp, fun i h => ?_⟩
  have hi : i < vs.length := by simpa using h
  simp only [List.getElem_map, List.getD_eq_getElem?_getD, List.getElem?_eq_getElem hi, Option.getD_some]
  exact rel_ofV1 g w _

theorem rel_ofV (g : Ghost) (w : World) (v : Value) : Rel g w (ofV v) v := by
  unfold ofV
  split
  · rename_i cs
    have := relL_ofV1 g w cs.toList
    exact .agg _ cs.toList this.1 this.2
  · exact rel_ofV1 g w v

def opS (slots : List SV) : Operand → SV
  | .tmp t => slots.getD t (.t .junk)
  | .const v => .t (ofV v)
  | .global _ => .t .junk
  | .func f => .t (.func f [])

def SV.tv : SV → TV
  | .t v => v
  | .loc _ _ => .junk

theorem SRel.tv {g : Ghost} {w : World} {loc : List (Option (List TV))} {s : SV} {u : Value} (h : SRel g w loc s u) : Rel g w s.tv u := by
  cases s with
  | t v => exact h
  | loc i off => exact .junk _

theorem sRel_op {g : Ghost} {w : World} {fr : Fr} {a : Act} (h : FRel g w fr a.tmps) (x : Operand) : SRel g w fr.loc (opS fr.slots x) (a.eval x) := by
  cases x with
  | tmp t =>
    simp only [opS, Act.eval]
    by_cases ht : t < fr.slots.length
    · have := h.2 t ht
      rw [List.getD_eq_getElem?_getD, List.getElem?_eq_getElem ht]
      exact this
    · rw [List.getD_eq_getElem?_getD, List.getElem?_eq_none (Nat.le_of_not_lt ht)]
      exact Rel.junk _
  | const v => exact rel_ofV g w v
  | global n => exact Rel.junk _
  | func f => exact Rel.func f [] [] rfl (fun i hi => absurd hi (Nat.not_lt_zero _))

/-! Cells behind pointers. -/

def ldCell (st : St) (loc : List (Option (List TV))) (p : SV) (j : Nat) : Option TV :=
  match p with
  | .loc i off => match loc[i]? with | some (some l) => l[off + j]? | _ => none
  | .t (.box b off) => match st.box b with | .cells l => l[off + j]? | _ => none
  | .t (.rptr xs) => xs[j]?
  | _ => none

def ldCells (st : St) (loc : List (Option (List TV))) (p : SV) : Nat → Nat → Option (List TV)
  | _, 0 => some []
  | j, n + 1 => match ldCell st loc p j with
    | some x => (ldCells st loc p (j + 1) n).map (x :: ·)
    | none => none

theorem ldCell_sound {g : Ghost} {st : St} {loc : List (Option (List TV))} {w : World} (s : Sim g st loc w) {p : SV} {pv : Value} (hp : SRel g w loc p pv) {j : Nat} {x : TV} (h : ldCell st loc p j = some x) :
    ∃ b o v, pv = .pointer (some ⟨b, o, none⟩) ∧ w.cell? ⟨b, o + j, none⟩ = some v ∧ Rel g w x v := by
  unfold ldCell at h
  split at h
  · rename_i i off
    obtain ⟨⟨l, hl⟩, rfl⟩ := hp
    rw [hl] at h
    have ob := s.obj (.loc i) ⟨l, hl⟩
    simp only [objOf, hl, Ghost.at] at ob
    obtain ⟨cs, hc, hr⟩ := ob
    obtain ⟨v, hv, hrel⟩ := hr.get? h
    exact ⟨_, _, v, rfl, hc.get hv, hrel⟩
  · rename_i b off
    cases hp with
    | box _ _ hb =>
      split at h
      · rename_i l hl
        have ob := s.obj (.box b) (show b < st.nb from s.nb ▸ hb)
        simp only [objOf, hl, Ghost.at] at ob
        obtain ⟨cs, hc, hr⟩ := ob
        obtain ⟨v, hv, hrel⟩ := hr.get? h
        exact ⟨_, _, v, rfl, hc.get hv, hrel⟩
      · cases h
  · rename_i xs
    cases hp with
    | rptr _ b o us hc hr =>
      obtain ⟨hi, rfl⟩ := List.getElem?_eq_some_iff.1 h
      exact ⟨b, o, us j, rfl, (hc j hi).2, hr j hi⟩
  · cases h

theorem ldCells_sound {g : Ghost} {st : St} {loc : List (Option (List TV))} {w : World} (s : Sim g st loc w) {p : SV} {b o : Nat} (hp : SRel g w loc p (.pointer (some ⟨b, o, none⟩))) :
    ∀ (n j : Nat) (xs : List TV), ldCells st loc p j n = some xs → ∃ vs : List Value, vs.length = n ∧ RelL g w xs vs ∧ ∀ i v, vs[i]? = some v → w.cell? ⟨b, o + j + i, none⟩ = some v := by
  intro n
  induction n with
  | zero => intro j xs h; simp only [ldCells, Option.some.injEq] at h; subst h; exact ⟨[], rfl, .nil _ _, fun i v hv => by simp at hv⟩
  | succ n ih =>
    intro j xs h
    simp only [ldCells] at h
    split at h
    · rename_i x hx
      obtain ⟨ys, hys, rfl⟩ := Option.map_eq_some_iff.1 h
      obtain ⟨b', o', v, hpv, hv, hrel⟩ := ldCell_sound s hp hx
      simp only [Value.pointer.injEq, Option.some.injEq, Addr.mk.injEq] at hpv
      obtain ⟨rfl, rfl, _⟩ := hpv
      obtain ⟨vs, hlen, hr, hc⟩ := ih (j + 1) ys hys
      refine ⟨v :: vs, by simp [hlen], .cons hrel hr, fun i u hu => ?_⟩
      cases i with
      | zero => simp at hu; subst hu; simpa using hv
      | succ i => have := hc i u (by simpa using hu); rw [show o + j + (i + 1) = o + (j + 1) + i from by omega]; exact this
    · cases h

/-! What an operation that only computes or reads gives. -/

inductive NRes where
  | bad
  | ok (v : SV)
  | chk (b : Bool) (v : SV)
  | pre (c : Prop) (v : SV)
  | opt (o : Option TV)
  | optm (o : Option (List (List UInt8 × TV))) (f : List (List UInt8 × TV) → TV)

def NRes.K : NRes → (SV → Prop) → Prop
  | .bad, _ => False
  | .ok v, k => k v
  | .chk b v, k => need b (k v)
  | .pre c v, k => c ∧ k v
  | .opt o, k => optK o fun v => k (.t v)
  | .optm o f, k => optK o fun v => k (.t (f v))

def NRes.Is : NRes → SV → Prop
  | .bad, _ => False
  | .ok v, u => u = v
  | .chk b v, u => b = true ∧ u = v
  | .pre c v, u => c ∧ u = v
  | .opt o, u => ∃ v, o = some v ∧ u = .t v
  | .optm o f, u => ∃ v, o = some v ∧ u = .t (f v)

theorem NRes.K_iff {r : NRes} {k : SV → Prop} : r.K k ↔ ∃ v, r.Is v ∧ k v := by
  cases r with
  | bad => simp [NRes.K, NRes.Is]
  | ok v => simp [NRes.K, NRes.Is]
  | chk b v => simp only [NRes.K, NRes.Is, need_iff]; exact ⟨fun h => ⟨v, ⟨h.1, rfl⟩, h.2⟩, fun ⟨u, ⟨h, e⟩, hk⟩ => ⟨h, e ▸ hk⟩⟩
  | pre c v => simp only [NRes.K, NRes.Is]; exact ⟨fun h => ⟨v, ⟨h.1, rfl⟩, h.2⟩, fun ⟨u, ⟨h, e⟩, hk⟩ => ⟨h, e ▸ hk⟩⟩
  | opt o => simp only [NRes.K, NRes.Is, optK_iff]; exact ⟨fun ⟨x, h, hk⟩ => ⟨_, ⟨x, h, rfl⟩, hk⟩, fun ⟨u, ⟨x, h, e⟩, hk⟩ => ⟨x, h, e ▸ hk⟩⟩
  | optm o f => simp only [NRes.K, NRes.Is, optK_iff]; exact ⟨fun ⟨x, h, hk⟩ => ⟨_, ⟨x, h, rfl⟩, hk⟩, fun ⟨u, ⟨x, h, e⟩, hk⟩ => ⟨x, h, e ▸ hk⟩⟩

def lenS : TV → Nat
  | .list _ _ n _ => n
  | .ms _ _ _ n _ => n
  | _ => 0
def isSl : TV → Bool
  | .nilSlice => true
  | .list _ _ _ _ => true
  | .ms _ _ _ _ _ => true
  | _ => false
/-- The length of a slice whose elements take sz cells (0 for any other). -/
def lenZ (sz : Nat) : TV → Nat
  | .list s _ n _ => match s.beq sz with | true => n | false => 0
  | .ms s _ _ n _ => match s.beq sz with | true => n | false => 0
  | _ => 0
def ixT (sz : Nat) : TV → Nat → TV
  | .list _ _ _ xs, i => .rptr (xs.drop (i * sz))
  | .ms _ b off _ _, i => .box b (off + i * sz)
  | _, _ => .junk
def fldT : TV → Nat → TV
  | .box b off, f => .box b (off + f)
  | .rptr xs, f => .rptr (xs.drop f)
  | _, _ => .junk
def isPtr : TV → Bool
  | .box _ _ => true
  | .rptr _ => true
  | _ => false
def isPtr0 : TV → Bool
  | .box _ _ => true
  | .rptr _ => true
  | .nilPtr => true
  | _ => false
def isNilT : TV → Bool
  | .nilPtr => true
  | .nilSlice => true
  | .nilMap => true
  | .nilFunc => true
  | .nilIface => true
  | _ => false
def slT (sz : Nat) (tip : Tip) : TV → Nat → Nat → TV
  | .list s _ _ xs, l, h => .list s tip (h - l) ((xs.take (h * sz)).drop (l * sz))
  | .nilSlice, _, _ => .nilSlice
  | _, _, _ => .junk
def isLst (sz : Nat) : TV → Bool
  | .nilSlice => true
  | .list s _ _ _ => s.beq sz
  | _ => false

def byteT (c : UInt8) : TV := .int .u8 (c.toNat : Int)
def bytesT (l : List UInt8) : List TV := l.map byteT
def asByte : TV → Option UInt8
  | .int .u8 n => some (UInt8.ofNat n.toNat)
  | _ => none
def asBytes : List TV → Option (List UInt8)
  | [] => some []
  | x :: xs => match asByte x with
    | some c => (asBytes xs).map (c :: ·)
    | none => none
/-- The cells of a slice. -/
def cellsS (st : St) : TV → Option (List TV)
  | .nilSlice => some []
  | .list _ _ _ xs => some xs
  | .ms sz b off n _ => ldCells st [] (.t (.box b off)) 0 (n * sz)
  | _ => none
def toBytes (st : St) : TV → Option (List UInt8)
  | .nilSlice => some []
  | .list sz _ _ xs => match sz.beq 1 with | true => asBytes xs | false => none
  | .ms sz b off n _ => match sz.beq 1 with
    | true => match ldCells st [] (.t (.box b off)) 0 n with | some xs => asBytes xs | none => none
    | false => none
  | _ => none

def cmpI : BinOp → Int → Int → Option Bool
  | .eql, x, y => some (decide (x = y))
  | .neq, x, y => some (decide (x ≠ y))
  | .lss, x, y => some (decide (x < y))
  | .leq, x, y => some (decide (x ≤ y))
  | .gtr, x, y => some (decide (y < x))
  | .geq, x, y => some (decide (y ≤ x))
  | _, _, _ => none

def bitsI (op : BinOp) (k : IntKind) (x y : Int) : Int :=
  match op with
  | .and => k.wrap (BitVec.ofInt k.bits x &&& BitVec.ofInt k.bits y).toNat
  | .or => k.wrap (BitVec.ofInt k.bits x ||| BitVec.ofInt k.bits y).toNat
  | .xor => k.wrap (BitVec.ofInt k.bits x ^^^ BitVec.ofInt k.bits y).toNat
  | _ => k.wrap (BitVec.ofInt k.bits x &&& ~~~BitVec.ofInt k.bits y).toNat

def binI (op : BinOp) (k : IntKind) (x y : Int) : NRes :=
  match op with
  | .add => .ok (.t (.int k (k.wrap (x + y))))
  | .sub => .ok (.t (.int k (k.wrap (x - y))))
  | .mul => .ok (.t (.int k (k.wrap (x * y))))
  | .quo => .chk (decide (y ≠ 0)) (.t (.int k (k.wrap (x.tdiv y))))
  | .rem => .chk (decide (y ≠ 0)) (.t (.int k (x.tmod y)))
  | .and => .ok (.t (.int k (bitsI .and k x y)))
  | .or => .ok (.t (.int k (bitsI .or k x y)))
  | .xor => .ok (.t (.int k (bitsI .xor k x y)))
  | .andNot => .ok (.t (.int k (bitsI .andNot k x y)))
  | op => match cmpI op x y with
    | some b => .ok (.t (.bool b))
    | none => .bad

def shI (op : BinOp) (k : IntKind) (x y : Int) : NRes :=
  match op with
  | .shl => .chk (decide (0 ≤ y)) (.t (.int k (k.wrap (x * 2 ^ (min y.toNat k.bits)))))
  | .shr => .chk (decide (0 ≤ y)) (.t (.int k (x.fdiv (2 ^ (min y.toNat k.bits)))))
  | _ => .bad

def binS (op : BinOp) (x y : List UInt8) : NRes :=
  match op with
  | .add => .pre (x.length + y.length ≤ 9223372036854775807) (.t (.str (x ++ y)))
  | .eql => .ok (.t (.bool (decide (x = y))))
  | .neq => .ok (.t (.bool (decide (x ≠ y))))
  | .lss => .ok (.t (.bool (Op.bytesLess x y)))
  | .gtr => .ok (.t (.bool (!(Op.bytesLess x y || decide (x = y)))))
  | .leq => .ok (.t (.bool (Op.bytesLess x y || decide (x = y))))
  | .geq => .ok (.t (.bool (!Op.bytesLess x y)))
  | _ => .bad

/-- Against nil: by the type. -/
def nilP (P : Program) (t : TypeId) (x : TV) (want : Option Bool) : NRes :=
  match want with
  | none => .bad
  | some eq =>
    match P.underlying t with
    | some (.pointer _) => .chk (isPtr0 x) (.t (.bool (match eq with | true => isNilT x | false => !isNilT x)))
    | _ => .bad
def nilS (P : Program) (t : TypeId) (x : TV) (want : Option Bool) : NRes :=
  match want with
  | none => .bad
  | some eq =>
    match P.underlying t with
    | some (.slice _) => .chk (isSl x) (.t (.bool (match eq with | true => isNilT x | false => !isNilT x)))
    | _ => .bad

def eqWant : BinOp → Option Bool
  | .eql => some true
  | .neq => some false
  | _ => none

def isShift : BinOp → Bool
  | .shl => true
  | .shr => true
  | _ => false

def binV (P : Program) (op : BinOp) (t : TypeId) (x y : TV) : NRes :=
  match x, y with
  | .int k a, .int k' b => match isShift op with
    | true => shI op k a b
    | false => match decide (k = k') with | true => binI op k a b | false => .bad
  | .str a, .str b => binS op a b
  | .bool a, .bool b => match P.underlying t with
    | some .bool => match op with
      | .eql => .ok (.t (.bool (a == b)))
      | .neq => .ok (.t (.bool (!(a == b))))
      | _ => .bad
    | _ => .bad
  | _, _ => .bad

/-- Structs of integers, booleans and strings, field by field. -/
def eqCell (P : Program) (t : TypeId) : TV → TV → Option Bool
  | .int k a, .int k' b => match P.underlying t with
    | some (.int _) => match decide (k = k') with | true => some (decide (a = b)) | false => none
    | _ => none
  | .bool a, .bool b => match P.underlying t with
    | some .bool => some (a == b)
    | _ => none
  | .str a, .str b => match P.underlying t with
    | some .string => some (decide (a = b))
    | _ => none
  | _, _ => none
def eqFT (P : Program) (xs ys : List TV) : List Field → Option Bool
  | [] => some true
  | f :: fs => match decide (f.name ≠ "_"), aggK P f.type, xs[f.offset]?, ys[f.offset]? with
    | true, some false, some x, some y => match eqCell P f.type x y with
      | some b => match eqFT P xs ys fs with
        | some r => some (b && r)
        | none => none
      | none => none
    | _, _, _, _ => none
def aggN (P : Program) (t : TypeId) (x : TV) (ys : List TV) (want : Option Bool) : NRes :=
  match want, x, P.underlying t with
  | some eq, .agg xs, some (.struct fs) => match (P.eqGuardType P.depth t).or (P.stoodInHeld t) with
    | false => match eqFT P xs ys fs.toList with
      | some b => .ok (.t (.bool (match eq with | true => b | false => !b)))
      | none => .bad
    | true => .bad
  | _, _, _ => .bad

/-- Two pointers to one place. -/
def ptrN (P : Program) (t : TypeId) (x : TV) (b o : Nat) (want : Option Bool) : NRes :=
  match want, P.underlying t with
  | some eq, some (.pointer e) => match P.cellsOf e with
    | 0 => .bad
    | _ => .pre (x = .box b o) (.t (.bool eq))
  | _, _ => .bad

def binT (P : Program) (op : BinOp) (t : TypeId) (x y : TV) : NRes :=
  match y with
  | .nilPtr => nilP P t x (eqWant op)
  | .nilSlice => nilS P t x (eqWant op)
  | .agg ys => aggN P t x ys (eqWant op)
  | .box b o => ptrN P t x b o (eqWant op)
  | y => binV P op t x y

/-- A field's place within its struct. -/
def fieldOf (P : Program) (t : TypeId) (f : Nat) : Option Field :=
  match P.underlying t with
  | some (.struct fs) => fs[f]?
  | _ => none

def partT (P : Program) (t : TypeId) (xs : List TV) (off : Nat) : Option TV :=
  match aggK P t with
  | some true => match (off + P.cellsOf t).ble xs.length with | true => some (.agg ((xs.drop off).take (P.cellsOf t))) | false => none
  | some false => xs[off]?
  | none => none

def elemOfSl (P : Program) (t : TypeId) : Option TypeId :=
  match P.underlying t with
  | some (.slice e) => some e
  | _ => none

def loadN (P : Program) (st : St) (loc : List (Option (List TV))) (t : TypeId) (p : SV) : NRes :=
  match aggK P t with
  | some true => .opt (match P.cellsOf t with | 0 => none | n => (ldCells st loc p 0 n).map .agg)
  | some false => .opt (ldCell st loc p 0)
  | none => .bad

def sizeT (P : Program) (t : TypeId) : Option Nat := match P.info? t with | some i => some i.size | none => none

def sliceN (P : Program) (t : TypeId) (x : TV) (lo hi mx : Option TV) : NRes :=
  match P.underlying t, x with
  | some .string, .str s => match lo, hi, mx with
    | none, none, none => .ok (.t (.str s))
    | some (.int _ l), none, none => .pre (0 ≤ l ∧ l ≤ s.length) (.t (.str (s.drop l.toNat)))
    | none, some (.int _ h), none => .pre (0 ≤ h ∧ h ≤ s.length) (.t (.str (s.take h.toNat)))
    | some (.int _ l), some (.int _ h), none => .pre (0 ≤ l ∧ l ≤ h ∧ h ≤ s.length) (.t (.str ((s.take h.toNat).drop l.toNat)))
    | _, _, _ => .bad
  | some (.slice e), v => match sizeT P e with
    | none => .bad
    | some sz => match lo, hi, mx with
      | some (.int _ l), none, none => .pre (isLst sz v = true ∧ 0 ≤ l ∧ l ≤ lenS v) (.t (slT sz .non v l.toNat (lenS v)))
      | none, some (.int _ h), none => .pre (isLst sz v = true ∧ 0 ≤ h ∧ h ≤ lenS v) (.t (slT sz .non v 0 h.toNat))
      | some (.int _ l), some (.int _ h), none => .pre (isLst sz v = true ∧ 0 ≤ l ∧ l ≤ h ∧ h ≤ lenS v) (.t (slT sz .non v l.toNat h.toNat))
      | none, some (.int _ h), some (.int _ m) => .pre (isLst sz v = true ∧ 0 ≤ h ∧ h ≤ lenS v ∧ m = h) (.t (slT sz .full v 0 h.toNat))
      | some (.int _ l), some (.int _ h), some (.int _ m) => .pre (isLst sz v = true ∧ 0 ≤ l ∧ l ≤ h ∧ h ≤ lenS v ∧ m = h) (.t (slT sz .full v l.toNat h.toNat))
      | _, _, _ => .bad
  | _, _ => .bad

def convN (P : Program) (st : St) (src dst : TypeId) (x : TV) : NRes :=
  match P.underlying src, P.underlying dst, x with
  | some _, some (.int k), .int _ n => .ok (.t (.int k (k.wrap n)))
  | some .string, some .string, .str l => .ok (.t (.str l))
  | some (.slice e), some .string, v => match P.underlying e with
    | some (.int .u8) => .opt ((toBytes st v).map .str)
    | _ => .bad
  | some (.pointer t), some .unsafePointer, .box b off => match P.cellsOf t with
    | 0 => .bad
    | _ => .pre ((ldCell st [] (.t (.box b off)) 0).isSome = true) (.t (.box b off))
  | _, _, _ => .bad

def lenN (P : Program) (t : TypeId) (x : TV) : NRes :=
  match P.underlying t, x with
  | some .string, .str l => .ok (.t (.int .i64 (l.length : Int)))
  | some (.slice _), v => .chk (isSl v) (.t (.int .i64 (lenS v : Int)))
  | _, _ => .bad

/-- The first cell of a slice that is not empty. -/
def sdataO (x : TV) : Option TV :=
  match x with
  | .nilSlice => some .nilPtr
  | .list sz tip n xs => match n.beq 0 with | true => none | false => some (.sptr (.list sz tip n xs))
  | _ => none

/-- A map's entry. -/
def findM (k : List UInt8) : List (List UInt8 × TV) → Option TV
  | [] => none
  | (k', v) :: es => match decide (k = k') with | true => some v | false => findM k es
def mapOf (st : St) : TV → Option (List (List UInt8 × TV))
  | .nilMap => some []
  | .map b => match st.box b with | .map es => some es | _ => none
  | _ => none
def orZero (z : TV) : Option TV → TV
  | some v => v
  | none => z
def zero1 (P : Program) (t : TypeId) : Option TV :=
  match P.info? t with
  | some i => match i.zero with
    | some (.agg _) => none
    | some z => some (ofV1 z)
    | none => none
  | none => none
def okT (ok : Bool) (z : TV) (o : Option TV) : TV := match ok with | true => .tuple [orZero z o, .bool o.isSome] | false => orZero z o
def lookN (P : Program) (st : St) (t : TypeId) (x i : TV) (ok : Bool) : NRes :=
  match P.underlying t, i with
  | some (.map kt e), .str k => match P.underlying kt, zero1 P e with
    | some .string, some z => .optm (mapOf st x) fun es => okT ok z (findM k es)
    | _, _ => .bad
  | _, _ => .bad

def minN (mx : Bool) : TV → TV → NRes
  | .int k a, .int k' b => match decide (k = k') with
    | true => .ok (.t (.int k (match mx with | true => max a b | false => min a b)))
    | false => .bad
  | _, _ => .bad

def kindEq (a b : IntKind) : Bool := decide (a = b)

def nres (P : Program) (st : St) (loc : List (Option (List TV))) (ρ : Operand → SV) (op : Op) : NRes :=
  match op with
  | .move x => .ok (ρ x)
  | .assign x => .ok (ρ x)
  | .pick c a b => match (ρ c).tv, ρ a, ρ b with
    | .bool true, x, _ => .ok x
    | .bool false, _, y => .ok y
    | _, _, _ => .bad
  | .load t a => loadN P st loc t (ρ a)
  | .nilCheck x => match ρ x with
    | .loc i off => .ok (.loc i off)
    | .t v => .chk (isPtr v) (.t v)
  | .binOp op t x y _ => match ρ x with
    | .loc _ _ => match (ρ y).tv, P.underlying t, eqWant op with
      | .nilPtr, some (.pointer _), some eq => .ok (.t (.bool (!eq)))
      | _, _, _ => .bad
    | .t a => binT P op t a (ρ y).tv
  | .unOp .not _ x => match (ρ x).tv with
    | .bool b => .ok (.t (.bool (!b)))
    | _ => .bad
  | .unOp .neg _ x => match (ρ x).tv with
    | .int k n => .ok (.t (.int k (k.wrap (0 - n))))
    | _ => .bad
  | .convert s d x => convN P st s d (ρ x).tv
  | .makeFunc (.func f) first cap => match first.size with
    | 0 => .ok (.t (.func f (cap.toList.map fun x => (ρ x).tv)))
    | _ => .bad
  | .slice t x lo hi mx => sliceN P t (ρ x).tv (lo.map fun x => (ρ x).tv) (hi.map fun x => (ρ x).tv) (mx.map fun x => (ρ x).tv)
  | .fieldAddr t x f => match fieldOf P t f with
    | some fd => match P.cellsOf fd.type with
      | 0 => .bad
      | _ => match ρ x with
        | .loc i off => .ok (.loc i (off + fd.offset))
        | .t v => .chk (isPtr v) (.t (fldT v fd.offset))
    | none => .bad
  | .field t x f => match fieldOf P t f, (ρ x).tv with
    | some fd, .agg xs => .opt (partT P fd.type xs fd.offset)
    | _, _ => .bad
  | .indexAddr t x i => match elemOfSl P t, (ρ i).tv with
    | some e, .int _ n => match sizeT P e with
      | some sz => .pre (0 ≤ n ∧ n < lenZ sz (ρ x).tv) (.t (ixT sz (ρ x).tv n.toNat))
      | none => .bad
    | _, _ => .bad
  | .index t x i => match P.underlying t, (ρ x).tv, (ρ i).tv with
    | some .string, .str s, .int _ n => .pre (0 ≤ n ∧ n < s.length) (.t (.int .u8 ((s.getD n.toNat 0).toNat : Int)))
    | _, _, _ => .bad
  | .extract x i => match (ρ x).tv with
    | .tuple xs => .opt xs[i]?
    | _ => .bad
  | .call { callee := .builtin .len, args, argTypes } => match args[0]?, argTypes[0]? with
    | some x, some t => lenN P t (ρ x).tv
    | _, _ => .bad
  | .call { callee := .builtin .unsafeSliceData, args, argTypes } => match args.toList with
    | [x] => .opt (sdataO (ρ x).tv)
    | _ => .bad
  | .lookup t x i ok => lookN P st t (ρ x).tv (ρ i).tv ok
  | .call { callee := .builtin .min, args, argTypes } => match args.toList with
    | [x, y] => minN false (ρ x).tv (ρ y).tv
    | _ => .bad
  | .call { callee := .builtin .max, args, argTypes } => match args.toList with
    | [x, y] => minN true (ρ x).tv (ρ y).tv
    | _ => .bad
  | _ => .bad

end Go.TVF
