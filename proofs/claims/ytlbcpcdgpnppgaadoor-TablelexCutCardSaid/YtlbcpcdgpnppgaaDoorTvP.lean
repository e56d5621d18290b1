/- Code, functions, and the start. -/
import Derived.Test.YtlbcpcdgpnppgaaDoorTvO
set_option linter.unusedVariables false
set_option linter.unusedSimpArgs false
namespace Go.TVF
open Go.RowKit (Below)

/-- What is kept of a frame at a loop's head, or where ways meet. -/
structure Keep where
  slots : List (Nat × CTy)
  ptrs : List (Nat × Nat × Nat)
  locs : List (Nat × Nat)
  cells : List (Nat × Nat × CTy)

inductive Hint where
  | none
  | seq (a b : Hint)
  | cut (k : Keep) (a b : Hint)
  | cond (a b : Hint)
  | block (a : Hint)
  | loop (k : Keep) (a : Hint)

def Hint.l : Hint → Hint
  | .seq a _ => a
  | .cut _ a _ => a
  | .cond a _ => a
  | .block a => a
  | .loop _ a => a
  | .none => .none
def Hint.r : Hint → Hint
  | .seq _ b => b
  | .cut _ _ b => b
  | .cond _ b => b
  | _ => .none

def Keep.tys (k : Keep) : List CTy := k.slots.map (·.2) ++ k.cells.map (·.2.2)

def slotTV (fr : Fr) (s : Nat) : TV := (fr.slots.getD s (.t .junk)).tv
def cellTV (fr : Fr) (i o : Nat) : TV := match fr.loc[i]? with | some (some l) => l.getD o .junk | _ => .junk

def Keep.vals (k : Keep) (fr : Fr) : List TV := (k.slots.map fun p => slotTV fr p.1) ++ k.cells.map fun p => cellTV fr p.1 p.2.1

def isLocAt (fr : Fr) (s i o : Nat) : Bool := match fr.slots[s]? with | some (.loc j p) => (j.beq i).and (p.beq o) | _ => false
def isSize (fr : Fr) (i n : Nat) : Bool := match fr.loc[i]? with | some (some l) => l.length.beq n | _ => false

/-- The value beside a key. -/
def look (s : Nat) : List (Nat × CTy) → List TV → Option TV
  | p :: ps, v :: vs => match p.1.beq s with | true => some v | false => look s ps vs
  | _, _ => none
def lookC (i o : Nat) : List (Nat × Nat × CTy) → List TV → Option TV
  | p :: ps, v :: vs => match (p.1.beq i).and (p.2.1.beq o) with | true => some v | false => lookC i o ps vs
  | _, _ => none
def lookP (s : Nat) : List (Nat × Nat × Nat) → Option (Nat × Nat)
  | p :: ps => match p.1.beq s with | true => some p.2 | false => lookP s ps
  | [] => none
def lookL (i : Nat) : List (Nat × Nat) → Option Nat
  | p :: ps => match p.1.beq i with | true => some p.2 | false => lookL i ps
  | [] => none

def hasLoc (k : Keep) (nl i : Nat) : Bool := match lookL i k.locs with | some _ => (i + 1).ble nl | none => false
def Keep.ok (k : Keep) (nl : Nat) (fr : Fr) : Bool := (k.ptrs.all fun p => (isLocAt fr p.1 p.2.1 p.2.2).and (hasLoc k nl p.2.1)).and (k.locs.all fun p => isSize fr p.1 p.2)

def slotAt (k : Keep) (vals : List TV) (s : Nat) : SV :=
  match look s k.slots vals with
  | some v => .t v
  | none => match lookP s k.ptrs with
    | some p => .loc p.1 p.2
    | none => .t .junk
def mkSlots (k : Keep) (vals : List TV) : Nat → Nat → List SV
  | 0, _ => []
  | n + 1, s => slotAt k vals s :: mkSlots k vals n (s + 1)
def cellAt (k : Keep) (vals : List TV) (i o : Nat) : TV := match lookC i o k.cells (vals.drop k.slots.length) with | some v => v | none => .junk
def mkCells (k : Keep) (vals : List TV) (i : Nat) : Nat → Nat → List TV
  | 0, _ => []
  | n + 1, o => cellAt k vals i o :: mkCells k vals i n (o + 1)
def mkLoc (k : Keep) (vals : List TV) : Nat → Nat → List (Option (List TV))
  | 0, _ => []
  | n + 1, i => (match lookL i k.locs with | some m => some (mkCells k vals i m 0) | none => none) :: mkLoc k vals n (i + 1)

/-- The frame of which no more is known than what is kept. -/
def Keep.frame (k : Keep) (ns nl : Nat) (vals : List TV) : Fr := ⟨mkSlots k vals ns 0, mkLoc k vals nl 0⟩

def decL2 : (cs : List CTy) → {A B : Type} → List TV → Fun cs A → Fun cs B → (A → B → Prop) → Prop
  | [], _, _, [], f, g, k => k f g
  | [], _, _, _ :: _, _, _, _ => False
  | _ :: _, _, _, [], _, _, _ => False
  | c :: cs, _, _, v :: vs, f, g, k => decT c v fun y => decL2 cs vs (f y) (g y) k

def AllC : (cs : List CTy) → Fun cs (St → Prop) → Fun cs (St → Nat) → (List TV → Nat → St → Prop) → Prop
  | [], I, M, B => ∀ st, I st → B [] (M st) st
  | c :: cs, I, M, B => ∀ y : c.I, AllC cs (I y) (M y) fun l => B (enc c y :: l)

def AllC1 : (cs : List CTy) → Fun cs (St → Prop) → (List TV → St → Prop) → Prop
  | [], I, B => ∀ st, I st → B [] st
  | c :: cs, I, B => ∀ y : c.I, AllC1 cs (I y) fun l => B (enc c y :: l)

def thenQ (next : Fr → St → Prop) (Q : Exit → Fr → St → Prop) : Exit → Fr → St → Prop
  | .normal, fr, st => next fr st
  | e, fr, st => Q e fr st

def blockQ (id : Nat) (Q : Exit → Fr → St → Prop) : Exit → Fr → St → Prop
  | .exit id', fr, st => match id'.beq id with | true => Q .normal fr st | false => Q (.exit id') fr st
  | e, fr, st => Q e fr st

def cwp (cfg : Cfg) (P : Program) (ns nl : Nat) : Code → Hint → (Exit → Fr → St → Prop) → Fr → St → Prop
  | .skip, _, Q, fr, st => Q .normal fr st
  | .region _ ops draw, _, Q, fr, st => match draw with
    | false => regWp cfg P ops (Q .normal) ops.toList fr st
    | true => drawWp cfg P ops (Q .normal) fr st
  | .seq a b, h, Q, fr, st => match h with
    | .cut k ha hb => ∃ R : Fun k.tys (St → Prop), cwp cfg P ns nl a ha (thenQ (fun fr st => need (k.ok nl fr) (decLk k.tys (k.vals fr) R fun p => p st)) Q) fr st ∧
        AllC1 k.tys R fun vals st => cwp cfg P ns nl b hb Q (k.frame ns nl vals) st
    | h => cwp cfg P ns nl a h.l (thenQ (cwp cfg P ns nl b h.r Q) Q) fr st
  | .cond c a b, h, Q, fr, st => match opS fr.slots c with
    | .t (.bool x) => BIf x (cwp cfg P ns nl a h.l Q fr st) (cwp cfg P ns nl b h.r Q fr st)
    | _ => False
  | .block id a, h, Q, fr, st => cwp cfg P ns nl a h.l (blockQ id Q) fr st
  | .loop a, h, Q, fr, st => match h with
    | .loop k ha => ∃ (I : Fun k.tys (St → Prop)) (M : Fun k.tys (St → Nat)), need (k.ok nl fr) (decLk k.tys (k.vals fr) I fun p => p st) ∧
        AllC k.tys I M fun vals m st => cwp cfg P ns nl a ha (thenQ (fun fr st => need (k.ok nl fr) (decL2 k.tys (k.vals fr) I M fun p q => p st ∧ q st < m)) Q) (k.frame ns nl vals) st
    | _ => False
  | .exit id, _, Q, fr, st => Q (.exit id) fr st
  | .ret, _, Q, fr, st => Q .ret fr st
  | _, _, _, _, _ => False

end Go.TVF
