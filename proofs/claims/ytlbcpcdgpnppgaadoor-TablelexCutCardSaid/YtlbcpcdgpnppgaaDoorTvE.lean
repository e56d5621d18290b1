/- What 'nres' says is what the model does: the second part. -/
import Derived.Test.YtlbcpcdgpnppgaaDoorTvD
import Derived.Laws.Strings2
set_option linter.unusedVariables false
set_option linter.unusedSimpArgs false
namespace Go.TVF
open Go.RowKit (Below)
section
variable {P : Program} {g : Ghost} {st : St} {loc : List (Option (List TV))} {w : World}

theorem run_bound (k : IntKind) (i : Int) (y : Nat) (c : BoundsCode) (h0 : 0 ≤ i) (h1 : i ≤ y) : (Instr.sliceBound (.int k i) y c).run P w = .ok i.toNat w := by
  simp [Instr.sliceBound, asIntOf, h0, h1]

theorem run_sizeT {t : TypeId} {n : Nat} (h : sizeT P t = some n) (w : World) : (sizeOf t).run P w = .ok n w := by
  unfold sizeT at h
  split at h
  · rename_i i hi; simp only [Option.some.injEq] at h; subst h; simp [sizeOf, typeInfo, hi]
  · cases h

theorem extract_str (s : List UInt8) (l h : Nat) : (ByteArray.mk s.toArray).extract l h = ⟨((s.take h).drop l).toArray⟩ := by
  rw [ByteArray.extract_mk, List.drop_take]

theorem sizeOfStr (s : List UInt8) : (ByteArray.mk s.toArray).size = s.length := by simp [ByteArray.size]

/-- A part of a row, as a slice. -/
theorem slT_rel {sz : Nat} {v : TV} {a : Option Addr} {n cap : Nat} (hv : Rel g w v (.slice a n cap)) (hl : isLst sz v = true) (l h m : Nat) (h1 : l ≤ h) (h2 : h ≤ lenS v) (h3 : h ≤ m) (hm : m ≤ cap)
    (tip : Tip) (ht : tip = .non ∨ (tip = .full ∧ m = h)) :
    Rel g w (slT sz tip v l h) (.slice (if m = l then a else a.map (·.add (l * sz))) (h - l) (m - l)) := by
  cases v <;> simp only [isLst, Bool.false_eq_true] at hl
  · cases hv
    simp only [lenS, Nat.le_zero] at h2
    subst h2
    have : l = 0 := by omega
    have : m = 0 := by omega
    subst l m
    exact Rel.nilSlice
  · rename_i s tip0 n0 xs
    have hsz : s = sz := Nat.eq_of_beq_eq_true hl
    subst hsz
    cases hv with
    | list _ _ _ _ b o _ us hlen hn hc hr htip =>
      simp only [lenS] at h2
      simp only [slT]
      have hle : h * s ≤ xs.length := by rw [hlen]; exact Nat.mul_le_mul_right _ h2
      have hdl : ((xs.take (h * s)).drop (l * s)).length = (h - l) * s := by
        rw [List.length_drop, List.length_take, Nat.min_eq_left hle, Nat.sub_mul]
      have htk : TipOk g tip ⟨b, o, none⟩ (h - l) (m - l) s ∧ TipOk g tip ⟨b, o + l * s, none⟩ (h - l) (m - l) s := by
        rcases ht with rfl | ⟨rfl, rfl⟩
        · exact ⟨trivial, trivial⟩
        · exact ⟨rfl, rfl⟩
      by_cases hml : m = l
      · have hhl : h = l := by omega
        rw [if_pos hml]
        refine Rel.list _ _ _ _ b o _ us hdl (by omega) (fun i hi => ?_) (fun i hi => ?_) htk.1
        · rw [hdl, hhl] at hi; simp at hi
        · rw [hdl, hhl] at hi; simp at hi
      · rw [if_neg hml]
        simp only [Option.map_some, plain_add]
        refine Rel.list _ _ _ _ b (o + l * s) _ (fun i => us (l * s + i)) hdl (by omega) (fun i hi => ?_) (fun i hi => ?_) htk.2
        · have hi' : l * s + i < xs.length := by
            rw [List.length_drop, List.length_take] at hi; omega
          have := hc (l * s + i) hi'
          rw [show o + l * s + i = o + (l * s + i) from by omega]
          exact this
        · have hi' : l * s + i < xs.length := by
            rw [List.length_drop, List.length_take] at hi; omega
          rw [List.getElem_drop, List.getElem_take]
          exact hr _ hi'

theorem optRel {x : Option TV} {xv : Option Value} (h : ∀ t, x = some t → ∃ u, xv = some u ∧ Rel g w t u) (hn : x = none → xv = none) : True := trivial

theorem isLst_slice {sz : Nat} {v : TV} {xv : Value} (hx : Rel g w v xv) (h : isLst sz v = true) : ∃ a n cap, xv = .slice a n cap ∧ lenS v = n ∧ n ≤ cap := by
  cases v <;> simp only [isLst, Bool.false_eq_true] at h
  · cases hx; exact ⟨_, _, _, rfl, rfl, Nat.le_refl _⟩
  · cases hx with
    | list _ _ _ _ b o cap us hlen hn hc hr htip => exact ⟨_, _, _, rfl, rfl, hn⟩

/-- Three optional bounds beside their values. -/
def ORelB (g : Ghost) (w : World) (x : Option TV) (xv : Option Value) : Prop :=
  match x, xv with
  | none, none => True
  | some t, some u => Rel g w t u
  | _, _ => False

theorem slice_gives {t : TypeId} {x : TV} {xv : Value} (hx : Rel g w x xv) {lo hi mx : Option TV} {lov hiv mxv : Option Value} (hlo : ORelB g w lo lov) (hhi : ORelB g w hi hiv) (hmx : ORelB g w mx mxv)
    {v : SV} (h : (sliceN P t x lo hi mx).Is v) : ∃ u, (Instr.sliceAt t xv lov hiv mxv).run P w = .ok u w ∧ SRel g w loc v u := by
  unfold sliceN at h
  split at h
  · rename_i s hu
    cases hx
    have h0 : ∀ lov hiv mxv, (Instr.sliceAt t (.string ⟨s.toArray⟩) lov hiv mxv).run P w = (Instr.slice t (.string ⟨s.toArray⟩) lov hiv mxv).run P w := by
      intro lov hiv mxv; simp [Instr.sliceAt, run_und hu]
    rw [h0]
    split at h
    · cases lov <;> cases hiv <;> cases mxv <;> simp only [ORelB] at hlo hhi hmx
      simp only [NRes.Is] at h; subst h
      refine ⟨_, ?_, Rel.str _⟩
      simp [Instr.slice, run_und hu, Instr.sliceBounds, extract_str, sizeOfStr]
    · rename_i k l
      cases lov <;> cases hiv <;> cases mxv <;> simp only [ORelB] at hlo hhi hmx
      obtain ⟨⟨h1, h2⟩, rfl⟩ := h
      cases hlo
      refine ⟨_, ?_, Rel.str _⟩
      simp [Instr.slice, run_und hu, Instr.sliceBounds, extract_str, sizeOfStr, run_bound _ _ _ _ h1 h2]
    · rename_i k h'
      cases lov <;> cases hiv <;> cases mxv <;> simp only [ORelB] at hlo hhi hmx
      obtain ⟨⟨h1, h2⟩, rfl⟩ := h
      cases hhi
      refine ⟨_, ?_, Rel.str _⟩
      simp [Instr.slice, run_und hu, Instr.sliceBounds, extract_str, sizeOfStr, run_bound _ _ _ _ h1 h2]
    · rename_i k l k' h'
      cases lov <;> cases hiv <;> cases mxv <;> simp only [ORelB] at hlo hhi hmx
      obtain ⟨⟨h1, h2, h3⟩, rfl⟩ := h
      cases hhi; cases hlo
      refine ⟨_, ?_, Rel.str _⟩
      simp [Instr.slice, run_und hu, Instr.sliceBounds, extract_str, sizeOfStr, run_bound _ _ _ _ (Int.le_trans h1 h2) h3, run_bound _ _ _ _ h1 (show l ≤ ((h'.toNat : Nat) : Int) by omega)]
    · exact h.elim
  · rename_i x _ _ e hu
    have h0 : ∀ lov hiv mxv, (Instr.sliceAt t xv lov hiv mxv).run P w = (Instr.slice t xv lov hiv mxv).run P w := by
      intro lov hiv mxv; simp [Instr.sliceAt, run_und hu]
    rw [h0]
    split at h
    · exact h.elim
    · rename_i sz hsz
      have hrs := run_sizeT hsz w
      split at h
      · rename_i k l
        cases lov <;> cases hiv <;> cases mxv <;> simp only [ORelB] at hlo hhi hmx
        obtain ⟨⟨hl, h1, h2⟩, rfl⟩ := h
        obtain ⟨a, n, cap, rfl, hn, hc⟩ := isLst_slice hx hl
        cases hlo
        refine ⟨_, ?_, slT_rel hx hl l.toNat (lenS x) cap (by omega) (Nat.le_refl _) (by omega) (Nat.le_refl _) .non (.inl rfl)⟩
        simp [Instr.slice, run_und hu, Instr.sliceBounds, run_bound _ _ _ _ h1 (show l ≤ (n : Int) by omega), hrs, hn]
      · rename_i k h'
        cases lov <;> cases hiv <;> cases mxv <;> simp only [ORelB] at hlo hhi hmx
        obtain ⟨⟨hl, h1, h2⟩, rfl⟩ := h
        obtain ⟨a, n, cap, rfl, hn, hc⟩ := isLst_slice hx hl
        cases hhi
        refine ⟨_, ?_, slT_rel hx hl 0 h'.toNat cap (by omega) (by omega) (by omega) (Nat.le_refl _) .non (.inl rfl)⟩
        simp [Instr.slice, run_und hu, Instr.sliceBounds, run_bound _ _ _ _ h1 (show h' ≤ (cap : Int) by omega), hrs, hn]
      · rename_i k l k' h'
        cases lov <;> cases hiv <;> cases mxv <;> simp only [ORelB] at hlo hhi hmx
        obtain ⟨⟨hl, h1, h2, h3⟩, rfl⟩ := h
        obtain ⟨a, n, cap, rfl, hn, hc⟩ := isLst_slice hx hl
        cases hhi; cases hlo
        refine ⟨_, ?_, slT_rel hx hl l.toNat h'.toNat cap (by omega) (by omega) (by omega) (Nat.le_refl _) .non (.inl rfl)⟩
        simp [Instr.slice, run_und hu, Instr.sliceBounds, run_bound _ _ _ _ (Int.le_trans h1 h2) (show h' ≤ (cap : Int) by omega), run_bound _ _ _ _ h1 (show l ≤ ((h'.toNat : Nat) : Int) by omega), hrs, hn]
      · rename_i k h' k' m
        cases lov <;> cases hiv <;> cases mxv <;> simp only [ORelB] at hlo hhi hmx
        obtain ⟨⟨hl, h1, h2, rfl⟩, rfl⟩ := h
        obtain ⟨a, n, cap, rfl, hn, hc⟩ := isLst_slice hx hl
        cases hhi; cases hmx
        refine ⟨_, ?_, slT_rel hx hl 0 m.toNat m.toNat (by omega) (by omega) (by omega) (by omega) .full (.inr ⟨rfl, rfl⟩)⟩
        simp [Instr.slice, run_und hu, Instr.sliceBounds, run_bound _ _ _ _ h1 (show m ≤ (cap : Int) by omega), run_bound _ _ _ _ h1 (show m ≤ ((m.toNat : Nat) : Int) by omega), hrs, hn]
      · rename_i k l k' h' k'' m
        cases lov <;> cases hiv <;> cases mxv <;> simp only [ORelB] at hlo hhi hmx
        obtain ⟨⟨hl, h1, h2, h3, rfl⟩, rfl⟩ := h
        obtain ⟨a, n, cap, rfl, hn, hc⟩ := isLst_slice hx hl
        cases hhi; cases hlo; cases hmx
        refine ⟨_, ?_, slT_rel hx hl l.toNat m.toNat m.toNat (by omega) (by omega) (by omega) (by omega) .full (.inr ⟨rfl, rfl⟩)⟩
        simp [Instr.slice, run_und hu, Instr.sliceBounds, run_bound _ _ _ _ (Int.le_trans h1 h2) (show m ≤ (cap : Int) by omega), run_bound _ _ _ _ (Int.le_trans h1 h2) (show m ≤ ((m.toNat : Nat) : Int) by omega), run_bound _ _ _ _ h1 (show l ≤ ((m.toNat : Nat) : Int) by omega), hrs, hn]
      · exact h.elim
  · exact h.elim

theorem index_gives {t : TypeId} {s : List UInt8} {k : IntKind} {n : Int} (hu : P.underlying t = some .string) (h0 : 0 ≤ n) (h1 : n < s.length) :
    (Instr.index t (.string ⟨s.toArray⟩) (.int k n)).run P w = .ok (.int .u8 ((s.getD n.toNat 0).toNat : Int)) w := by
  have hlt : n.toNat < s.length := by omega
  have hb : (ByteArray.mk s.toArray)[n.toNat]? = some (s.getD n.toNat 0) := by
    rw [List.getD_eq_getElem?_getD, List.getElem?_eq_getElem hlt, Option.getD_some]
    have hsz : n.toNat < (ByteArray.mk s.toArray).size := by rw [sizeOfStr]; exact hlt
    rw [getElem?_pos (ByteArray.mk s.toArray) n.toNat hsz]
    rfl
  simp only [Instr.index, asIntOf, Sem.run_bind, Sem.run_pure, Result.andThen_ok, run_und hu, h0, if_true, hb]

theorem rptr_drop {xs : List TV} {b o : Nat} {us : Nat → Value} (hc : ∀ i, i < xs.length → g.S ⟨b, o + i, none⟩ ∧ w.cell? ⟨b, o + i, none⟩ = some (us i)) (hr : ∀ i (h : i < xs.length), Rel g w xs[i] (us i)) (d : Nat) :
    Rel g w (.rptr (xs.drop d)) (.pointer (some ⟨b, o + d, none⟩)) := by
  refine Rel.rptr _ b (o + d) (fun i => us (d + i)) (fun i hi => ?_) (fun i hi => ?_)
  · have hi' : d + i < xs.length := by rw [List.length_drop] at hi; omega
    rw [show o + d + i = o + (d + i) from by omega]; exact hc _ hi'
  · have hi' : d + i < xs.length := by rw [List.length_drop] at hi; omega
    rw [List.getElem_drop]; exact hr _ hi'

theorem indexAddr_gives {t e : TypeId} {sz : Nat} {x : TV} {xv : Value} (hx : Rel g w x xv) {k : IntKind} {n : Int} (hu : P.underlying t = some (.slice e)) (hsz : sizeT P e = some sz) (h0 : 0 ≤ n) (h1 : n < lenZ sz x) :
    ∃ u, (Instr.indexAt t xv (.int k n)).run P w = .ok u w ∧ Rel g w (ixT sz x n.toNat) u := by
  have hrs := run_sizeT hsz w
  cases x <;> simp only [lenZ] at h1 <;> try omega
  · rename_i s tip m xs
    split at h1
    · rename_i hs
      have hs' : s = sz := Nat.eq_of_beq_eq_true hs
      subst hs'
      cases hx with
      | list _ _ _ _ b o cap us hlen hn hc hr htip =>
        refine ⟨.pointer (some ⟨b, o + n.toNat * s, none⟩), ?_, rptr_drop hc hr _⟩
        simp [Instr.indexAt, asIntOf, run_und hu, h0, h1, hrs, plain_add]
    · omega
  · rename_i s b off m cap
    split at h1
    · rename_i hs
      have hs' : s = sz := Nat.eq_of_beq_eq_true hs
      subst hs'
      cases hx with
      | ms _ _ _ _ _ hb hn =>
        refine ⟨.pointer (some ⟨g.bk b, off + n.toNat * s, none⟩), ?_, Rel.box _ _ hb⟩
        simp [Instr.indexAt, asIntOf, run_und hu, h0, h1, hrs, plain_add]
    · omega

theorem fieldOf_some {t : TypeId} {f : Nat} {fd : Field} (h : fieldOf P t f = some fd) : ∃ fs, P.underlying t = some (.struct fs) ∧ fs[f]? = some fd := by
  unfold fieldOf at h
  split at h
  · exact ⟨_, ‹_›, h⟩
  · cases h

theorem run_size_nz {t : TypeId} (h : P.cellsOf t ≠ 0) (w : World) : (sizeOf t).run P w = .ok (P.cellsOf t) w := by
  cases hi : P.info? t with
  | none => simp [Program.cellsOf, hi] at h
  | some i => simp [sizeOf, typeInfo, hi, Program.cellsOf]

theorem fieldAddr_run {t : TypeId} {f : Nat} {fd : Field} (h : fieldOf P t f = some fd) (hz : P.cellsOf fd.type ≠ 0) (b o : Nat) :
    (Instr.fieldAt t (.pointer (some ⟨b, o, none⟩)) f).run P w = .ok (.pointer (some ⟨b, o + fd.offset, none⟩)) w := by
  obtain ⟨fs, hu, hf⟩ := fieldOf_some h
  simp [Instr.fieldAt, run_und hu, hf, Instr.sureAddr, fieldPlace, run_size_nz hz, hz, plain_add]

theorem part_gives {t : TypeId} {xs : List TV} {vs : List Value} (hr : RelL g w xs vs) {off : Nat} {v : TV} (h : partT P t xs off = some v) : ∃ u, (part t vs.toArray off).run P w = .ok u w ∧ Rel g w v u := by
  unfold partT at h
  split at h
  · rename_i ha
    obtain ⟨hag, d, hd⟩ := run_aggK ha w
    split at h
    · rename_i hle
      have hle' := Nat.le_of_ble_eq_true hle
      simp only [Option.some.injEq] at h
      subst h
      have := (hr.drop off).take (P.cellsOf t)
      refine ⟨.agg ((vs.drop off).take (P.cellsOf t)).toArray, ?_, Rel.agg _ _ this.1 this.2⟩
      simp [part, hag, run_size hd]
    · cases h
  · rename_i ha
    obtain ⟨hag, d, hd⟩ := run_aggK ha w
    obtain ⟨u, hu, hrel⟩ := hr.get? h
    refine ⟨u, ?_, hrel⟩
    simp [part, hag, hu]
  · cases h

theorem isSl_slice {x : TV} {xv : Value} (hx : Rel g w x xv) (h1 : isSl x = true) : ∃ a c, xv = .slice a (lenS x) c := by
  cases x <;> simp only [isSl, Bool.false_eq_true] at h1
  · cases hx; exact ⟨_, _, rfl⟩
  · cases hx; exact ⟨_, _, rfl⟩
  · cases hx; exact ⟨_, _, rfl⟩

theorem len_gives {t : TypeId} {x : TV} {xv : Value} (hx : Rel g w x xv) {v : SV} (h : (lenN P t x).Is v) (ts : Array TypeId) (ht : ts[0]? = some t) (ty : TypeId) :
    ∃ u, (Builtin.len_ ts ty #[xv]).run P w = .ok u w ∧ SRel g w loc v u := by
  unfold lenN at h
  split at h
  · rename_i l hu
    cases hx
    simp only [NRes.Is] at h; subst h
    refine ⟨_, ?_, Rel.int _ _⟩
    simp [Builtin.len_, ht, run_und hu, goInt, sizeOfStr]
  · rename_i e hu
    obtain ⟨h1, rfl⟩ := h
    obtain ⟨a, c, rfl⟩ := isSl_slice hx h1
    refine ⟨_, ?_, Rel.int _ _⟩
    simp [Builtin.len_, ht, run_und hu, goInt]
  · exact h.elim

theorem min_gives {mx : Bool} {x y : TV} {xv yv : Value} (hx : Rel g w x xv) (hy : Rel g w y yv) {v : SV} (h : (minN mx x y).Is v) (ts : Array TypeId) (ty : TypeId) :
    ∃ u, (match mx with | true => Builtin.max_ ts ty #[xv, yv] | false => Builtin.min_ ts ty #[xv, yv]).run P w = .ok u w ∧ SRel g w loc v u := by
  unfold minN at h
  split at h
  · rename_i k a k' b
    split at h
    · rename_i hk
      have := of_decide_eq_true hk
      subst this
      simp only [NRes.Is] at h; subst h
      cases hx; cases hy
      cases mx
      · refine ⟨.int k (min a b), ?_, Rel.int _ _⟩
        simp [Builtin.min_, Builtin.min2]
        omega
      · refine ⟨.int k (max a b), ?_, Rel.int _ _⟩
        simp [Builtin.max_, Builtin.max2]
        omega
    · exact h.elim
  · exact h.elim

end
end Go.TVF
