/- Operations that make or write memory, or call: what they ask and leave. -/
import Derived.Test.YtlbcpcdgpnppgaaDoorTvI
set_option linter.unusedVariables false
set_option linter.unusedSimpArgs false
namespace Go.TVF
open Go.RowKit (Below)

@[reducible] def FunR : List RTy → Type → Type
  | [], R => R
  | .one c :: sh, R => c.I → FunR sh R
  | .agg cs :: sh, R => Fun cs (FunR sh R)

def decLk : (cs : List CTy) → {R : Type} → List TV → Fun cs R → (R → Prop) → Prop
  | [], _, [], f, k => k f
  | [], _, _ :: _, _, _ => False
  | _ :: _, _, [], _, _ => False
  | c :: cs, _, v :: vs, f, k => decT c v fun y => decLk cs vs (f y) k

def decRs : (sh : List RTy) → {R : Type} → List TV → FunR sh R → (R → Prop) → Prop
  | [], _, [], f, k => k f
  | [], _, _ :: _, _, _ => False
  | _ :: _, _, [], _, _ => False
  | .one c :: sh, _, v :: vs, f, k => decT c v fun y => decRs sh vs (f y) k
  | .agg cs :: sh, _, v :: vs, f, k => match v with | .agg l => decLk cs l f fun r => decRs sh vs r k | _ => False

def curryR : (sh : List RTy) → {R : Type} → (List TV → R) → FunR sh R
  | [], _, F => F []
  | .one c :: sh, _, F => fun y => curryR sh fun l => F (enc c y :: l)
  | .agg cs :: sh, _, F => curry cs fun l => curryR sh fun r => F (.agg l :: r)

theorem decLk_curry : ∀ {cs : List CTy} {R : Type} {vs : List TV} {F : List TV → R} {k : R → Prop}, decLk cs vs (curry cs F) k → k (F vs)
  | [], _, [], F, k, h => h
  | [], _, _ :: _, F, k, h => h.elim
  | _ :: _, _, [], F, k, h => h.elim
  | c :: cs, _, v :: vs, F, k, h => by
    obtain ⟨y, rfl, h2⟩ := decT_sound h
    exact decLk_curry (F := fun l => F (enc c y :: l)) h2

theorem decRs_curry : ∀ {sh : List RTy} {R : Type} {vs : List TV} {F : List TV → R} {k : R → Prop}, decRs sh vs (curryR sh F) k → k (F vs)
  | [], _, [], F, k, h => h
  | [], _, _ :: _, F, k, h => h.elim
  | _ :: _, _, [], F, k, h => by cases ‹RTy› <;> exact h.elim
  | .one c :: sh, _, v :: vs, F, k, h => by
    obtain ⟨y, rfl, h2⟩ := decT_sound h
    exact decRs_curry (F := fun l => F (enc c y :: l)) h2
  | .agg cs :: sh, _, v :: vs, F, k, h => by
    cases v <;> simp only [decRs] at h
    rename_i l
    have := decLk_curry (F := fun l => curryR sh fun r => F (.agg l :: r)) (k := fun r => decRs sh vs r k) h
    exact decRs_curry (F := fun r => F (.agg l :: r)) this

def shapeOf (P : Program) (t : TypeId) : List RTy :=
  match P.underlying t with
  | some (.tuple ts) => ts.toList.map (rtyOf P)
  | _ => [rtyOf P t]

def decRet : (sh : List RTy) → {R : Type} → TV → FunR sh R → (R → Prop) → Prop
  | [s], _, v, f, k => decRs [s] [v] f k
  | [], _, v, f, k => match v with | .tuple vs => decRs [] vs f k | _ => False
  | s :: s' :: sh, _, v, f, k => match v with | .tuple vs => decRs (s :: s' :: sh) vs f k | _ => False

def headF {R : Type} (F : TV → R) : List TV → R
  | v :: _ => F v
  | [] => F .junk

def curryRet : (sh : List RTy) → {R : Type} → (TV → R) → FunR sh R
  | [s], _, F => curryR [s] (headF F)
  | [], _, F => curryR [] fun l => F (.tuple l)
  | s :: s' :: sh, _, F => curryR (s :: s' :: sh) fun l => F (.tuple l)

theorem decRet_curry {sh : List RTy} {R : Type} {v : TV} {F : TV → R} {k : R → Prop} (h : decRet sh v (curryRet sh F) k) : k (F v) := by
  match sh, h with
  | [s], h =>
    have h' : decRs [s] [v] (curryR [s] (headF F)) k := h
    exact decRs_curry (F := headF F) h'
  | [], h =>
    cases v <;> simp only [decRet] at h <;> first | exact h.elim | skip
    exact decRs_curry (sh := []) (F := fun l => F (.tuple l)) h
  | s :: s' :: sh, h =>
    cases v <;> simp only [decRet] at h <;> first | exact h.elim | skip
    exact decRs_curry (sh := s :: s' :: sh) (F := fun l => F (.tuple l)) h

/-- A call whose results are handed on typed. -/
def CallT (P : Program) (f : FuncId) (args : List TV) (sh : List RTy) (st : St) (K : FunR sh (St → Prop)) : Prop :=
  TCalls P f args st fun r st' => decRet sh r K fun p => p st'

structure Cfg where
  loc : List Nat
  ms : List Nat

def isIn (l : List Nat) : Option Nat → Bool
  | some d => l.elem d
  | none => false

def findIx : List Nat → Nat → Nat → Option Nat
  | [], _, _ => none
  | x :: xs, d, k => match x.beq d with | true => some k | false => findIx xs d (k + 1)
def locIx (l : List Nat) : Option Nat → Option Nat
  | some d => findIx l d 0
  | none => none

def zrep (z : List TV) (n : Nat) : List TV := (List.range n).map fun i => z.getD (i % z.length) .junk

def isStr : Option TypeDesc → Bool
  | some .string => true
  | some (.slice _) => true
  | _ => false

/-- A call of a function value. -/
def callK (P : Program) (fv : TV) (args : List TV) (sh : List RTy) (st : St) (K : FunR sh (St → Prop)) : Prop :=
  match fv with
  | .func fid caps => CallT P fid (args ++ caps) sh st K
  | _ => False

def placeF (P : Program) (fs : Array Field) (i : Nat) : Option (Nat × Nat) :=
  match fs[i]? with
  | some f => match sizeT P f.type with
    | some n => some (f.offset, n)
    | none => none
  | none => none

def scalT (P : Program) (t : TypeId) : Bool := match aggK P t with | some false => true | _ => false
def scalF (P : Program) (fs : Array Field) (i : Nat) : Bool := match fs[i]? with | some f => scalT P f.type | none => false
/-- A map with an entry set. -/
def setM (k : List UInt8) (v : TV) : List (List UInt8 × TV) → List (List UInt8 × TV)
  | [] => [(k, v)]
  | (k', v') :: es => match decide (k = k') with | true => (k, v) :: es | false => (k', v') :: setM k v es

/-- A map's entry is set. -/
def muK (m : TV) (key : List UInt8) (v : TV) (st : St) (k : St → Prop) : Prop :=
  match m with
  | .map b => ∃ es, st.box b = .map es ∧ k (st.put b (.map (setM key v es)))
  | _ => False
/-- A pointer to a whole variable, out of an unsafe one. -/
def unsK (u n : Nat) (v : TV) (st : St) (k : TV → Prop) : Prop :=
  match v with
  | .box b off => (off = 0 ∧ st.bt b = some u ∧ ∃ l, st.box b = .cells l ∧ l.length = n) ∧ k (.box b off)
  | _ => False
/-- A string over a row's bytes. -/
def usK (u : Nat) (p : TV) (m : Int) (st : St) (k : List UInt8 → St → Prop) : Prop :=
  match p with
  | .nilPtr => m = 0 ∧ k [] st
  | .sptr (.list 1 (.own id) n xs) => (m = n ∧ n ≤ 9223372036854775807 ∧ st.live id = true ∧ st.ty id = some u) ∧ optK (asBytes xs) fun l => k l (st.retire id)
  | _ => False

def eop (cfg : Cfg) (P : Program) (dst : Option Nat) (type : TypeId) (op : Op) (ρ : Operand → SV) (loc : List (Option (List TV))) (st : St) (K : SV → List (Option (List TV)) → St → Prop) : Prop :=
  match op with
  | .alloc t => match zeroT P t with
    | some cells => allocK t (locIx cfg.loc dst) cells loc st K
    | none => False
  | .box t x => match aggK P t with
    | some true => match (ρ x).tv with
      | .agg cells => allocK t (locIx cfg.loc dst) cells loc st K
      | _ => False
    | some false => need (oneT (ρ x).tv) (allocK t (locIx cfg.loc dst) [(ρ x).tv] loc st K)
    | none => False
  | .buildSlice t len parts => match elemOfSl P t with
    | some e => match sizeT P e, zeroT P e with
      | some sz, some z => need (((len * sz).ble 16777216).and ((z.length.beq sz).and (Nat.ble 1 sz))) (match fillS (fun i => some (i * sz, sz)) (fun _ => scalT P e) (zrep z (len * sz)) (parts.toList.map fun p => (p.1, (ρ p.2).tv)) with
        | some cells => need (onesP (fun _ => scalT P e) (parts.toList.map fun p => (p.1, (ρ p.2).tv))) (K (.t (.list sz .full len cells)) loc st)
        | none => False)
      | _, _ => False
    | none => False
  | .build t parts => match zeroT P t, P.underlying t with
    | some z, some (.struct fs) => match fillS (placeF P fs) (scalF P fs) z (parts.toList.map fun p => (p.1, (ρ p.2).tv)) with
      | some cells => need (fs.toList.all fun f => (sizeT P f.type).isSome) (need (onesP (scalF P fs) (parts.toList.map fun p => (p.1, (ρ p.2).tv))) (K (.t (.agg cells)) loc st))
      | none => False
    | _, _ => False
  | .store t a x => match aggK P t with
    | some true => match (ρ x).tv with
      | .agg xs => need (xs.length.beq (P.cellsOf t)) (need (xs.all oneT) (stK st loc (ρ a) xs fun loc' st' => K (.t .undef) loc' st'))
      | _ => False
    | some false => need (Nat.beq 1 (P.cellsOf t)) (need ([(ρ x).tv].all oneT) (stK st loc (ρ a) [(ρ x).tv] fun loc' st' => K (.t .undef) loc' st'))
    | none => False
  | .call { callee := .value f, args, .. } => callK P (ρ f).tv (args.toList.map fun x => (ρ x).tv) (shapeOf P type) st (curryRet (shapeOf P type) fun v st' => K (.t v) loc st')
  | .makeMap t r => match P.underlying t, (r.map fun x => (ρ x).tv) with
    | some (.map _ _), none => K (.t (.map st.nb)) loc (st.push (.map []) none)
    | some (.map _ _), some (.int _ _) => K (.t (.map st.nb)) loc (st.push (.map []) none)
    | _, _ => False
  | .mapUpdate t m k v => match P.underlying t, (ρ k).tv with
    | some (.map kt _), .str key => match P.underlying kt with
      | some .string => need (oneT (ρ v).tv) (muK (ρ m).tv key (ρ v).tv st fun st' => K (.t .undef) loc st')
      | _ => False
    | _, _ => False
  | .call { callee := .builtin .unsafeString, args, argTypes } => match args.toList, argTypes.toList with
    | [p, n], [pt, _] => match P.underlying pt with
      | some (.pointer u) => match decide (P.cellsOf u = 1), (ρ n).tv with
        | true, .int .i64 m => usK u (ρ p).tv m st fun l st' => K (.t (.str l)) loc st'
        | _, _ => False
      | _ => False
    | _, _ => False
  | .call { callee := .builtin .append, args, argTypes } => match args.toList, argTypes.toList with
    | [a, x], [t, u] => match elemOfSl P t with
      | some e => match P.info? e, zeroT P e with
        | some i, some z => need ((isStr (P.underlying u)).and ((z.length.beq i.size).and ((Nat.ble 1 i.size).and (Nat.ble 1 i.bytes))))
          (optK (appSrc st i.size (ρ x).tv) fun p => need (p.2.all oneT) (appK e i.size i.bytes (ρ a).tv p.1 p.2 st fun r st' => K (.t r) loc st'))
        | _, _ => False
      | none => False
    | _, _ => False
  | .convert s d x => match P.underlying s, elemOfSl P d, (ρ x).tv with
    | some .string, some e, .str l => match P.underlying e with
      | some (.int .u8) => K (.t (.list 1 (.own st.nt) l.length (bytesT l))) loc (st.fresh (some e))
      | _ => False
    | some .unsafePointer, none, v => match P.underlying d with
      | some (.pointer u) => match P.cellsOf u with
        | 0 => False
        | n + 1 => unsK u (n + 1) v st fun r => K (.t r) loc st
      | _ => False
    | _, _, _ => False
  | .makeSlice t l c => match elemOfSl P t, (ρ l).tv, (ρ c).tv with
    | some e, .int _ n, .int _ m => match P.info? e, zeroT P e with
      | some i, some z => need ((z.length.beq i.size).and ((Nat.ble 1 i.size).and (Nat.ble 1 i.bytes))) ((0 ≤ n ∧ n ≤ m ∧ m.toNat * i.bytes ≤ 140737488355328) ∧ match isIn cfg.ms dst with
        | true => K (.t (.ms i.size st.nb 0 n.toNat m.toNat)) loc (st.push (.cells (zrep z (m.toNat * i.size))) (some e))
        | false => K (.t (.list i.size (.own st.nt) n.toNat (zrep z (n.toNat * i.size)))) loc (st.fresh (some e)))
      | _, _ => False
    | _, _, _ => False
  | _ => False

end Go.TVF
