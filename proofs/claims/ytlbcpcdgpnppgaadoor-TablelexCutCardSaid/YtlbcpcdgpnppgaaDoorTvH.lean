/- Append, and the operations that make memory, together. -/
import Derived.Test.YtlbcpcdgpnppgaaDoorTvG
set_option linter.unusedVariables false
set_option linter.unusedSimpArgs false
namespace Go.TVF
open Go.RowKit (Below)
section
variable {P : Program} {g : Ghost} {st : St} {loc : List (Option (List TV))} {w : World}

theorem run_app_room (t u ty e : TypeId) (i : TypeInfo) (du : TypeDesc) (ht : P.underlying t = some (.slice e)) (hu : P.underlying u = some du) (hdu : (∃ e', du = .slice e') ∨ du = .string) (hi : P.info? e = some i)
    (base : Option Addr) (n cap k : Nat) (x : Value) (vs : List Value) (hl : (Builtin.lenOf x).run P w = .ok k w) (hf : (Builtin.firstCells i.size k x).run P w = .ok vs.toArray w) (hroom : n + k ≤ cap) :
    (Builtin.append_ #[t, u] ty #[.slice base n cap, x]).run P w =
      ((match base with | some a => storeCells (a.add (n * i.size)) vs | none => pure ()).run P w).andThen fun _ w' => .ok (.slice base (n + k) cap) w' := by
  rcases hdu with ⟨e', rfl⟩ | rfl <;>
  simp only [Builtin.append_, List.getElem?_toArray, List.getElem?_cons_zero, List.getElem?_cons_succ, Sem.run_bind, run_und ht, run_und hu, Result.andThen_ok, sizeOf, typeInfo, run_program, hi, Sem.run_pure, hl, Bool.not_false, if_true, Bool.false_eq_true, if_false, hroom, hf] <;>
  cases base <;> simp

theorem run_app_grow (t u ty e : TypeId) (i : TypeInfo) (z : Value) (du : TypeDesc) (ht : P.underlying t = some (.slice e)) (hu : P.underlying u = some du) (hdu : (∃ e', du = .slice e') ∨ du = .string) (hi : P.info? e = some i) (hz0 : i.zero = some z)
    (base : Option Addr) (n cap k : Nat) (x : Value) (os vs : List Value) (hl : (Builtin.lenOf x).run P w = .ok k w) (hf : (Builtin.firstCells i.size k x).run P w.drew = .ok vs.toArray w.drew)
    (hfo : (Builtin.firstCells i.size n (.slice base n cap)).run P w.drew = .ok os.toArray w.drew) (hroom : ¬ n + k ≤ cap) (hb : (n + k) * i.bytes ≤ 140737488355328) (hb1 : 1 ≤ i.bytes) :
    (Builtin.append_ #[t, u] ty #[.slice base n cap, x]).run P w =
      .ok (.slice (some ⟨w.heap.size, 0, none⟩) (n + k) (grownCap w (n + k) cap e)) (w.drew.alloc (.cells ((os ++ vs).toArray ++ Builtin.zeroCells z.cells (grownCap w (n + k) cap e - (n + k))) e)) := by
  have h48 := growslice_fits (need := n + k) (old := cap) (bytes := i.bytes) (by omega) hb
  have h48' : ¬ (281474976710656 < Builtin.nextslicecap (n + k) cap * i.bytes) := by omega
  have hb0 : ¬ i.bytes = 0 := by omega
  rcases hdu with ⟨e', rfl⟩ | rfl <;> simp [Builtin.append_, run_und ht, run_und hu, sizeOf, typeInfo, zeroValue, hi, hz0, hl, hroom, h48', hb0, Question.forced, hf, hfo, newRow, grownCap] <;>
  (congr 2; apply Array.ext'; simp [List.append_assoc])


theorem nil_of_len {xs : List TV} {vs : List Value} (h : RelL g w xs vs) (hl : vs.length = 0) : xs = [] ∧ vs = [] :=
  ⟨List.eq_nil_of_length_eq_zero (h.1.trans hl), List.eq_nil_of_length_eq_zero hl⟩

theorem list_cells {sz n cap b o : Nat} {xs : List TV} {us : Nat → Value} (hl : xs.length = n * sz)
    (hc : ∀ i, i < xs.length → g.S ⟨b, o + i, none⟩ ∧ w.cell? ⟨b, o + i, none⟩ = some (us i)) (hr : ∀ i (h : i < xs.length), Rel g w xs[i] (us i)) :
    RelL g w xs ((List.range xs.length).map us) ∧ (Builtin.firstCells sz n (.slice (some ⟨b, o, none⟩) n cap)).run P w.drew = .ok ((List.range xs.length).map us).toArray w.drew := by
  refine ⟨⟨by simp, fun i hi => ?_⟩, ?_⟩
  · simp only [List.getD_eq_getElem?_getD, List.getElem?_map, List.getElem?_range hi, Option.map_some, Option.getD_some]
    exact hr i hi
  · exact run_firstCells_some w.drew sz n _ n cap _ (by simp [hl]) (fun j v hj => by
      rw [plain_add]
      rw [List.getElem?_map] at hj
      obtain ⟨i, hi, rfl⟩ := Option.map_eq_some_iff.1 hj
      obtain ⟨hlt, rfl⟩ := List.getElem?_eq_some_iff.1 hi
      simp only [List.getElem_range] at *
      exact (hc j (by simpa using hlt)).2)

theorem size_grown (os vs : List Value) (zc : Array Value) (n k C sz : Nat) (h1 : os.length = n * sz) (h2 : vs.length = k * sz) (h3 : zc.size = sz) (hC : n + k ≤ C) :
    ((os ++ vs).toArray ++ Builtin.zeroCells zc (C - (n + k))).size = C * sz := by
  simp only [Array.size_append, List.size_toArray, List.length_append, size_zeroCells, h1, h2, h3]
  rw [← Nat.add_mul, ← Nat.add_mul]
  congr 1
  omega

theorem Below.setCells {B : Nat} {a : World} {b : Nat} (hb : B ≤ b) : ∀ (vs : List Value) (o : Nat) (w : World), Below B a w → Below B a (w.setCells b o vs)
  | [], _, _, h => h
  | v :: r, o, w, h => Below.setCells hb r (o + 1) _ (h.setCell hb v)
theorem size_setCells (b : Nat) : ∀ (vs : List Value) (o : Nat) (w : World), (w.setCells b o vs).heap.size = w.heap.size
  | [], _, _ => rfl
  | v :: r, o, w => by rw [World.setCells, size_setCells b r]; simp
theorem heap_setCells (b k : Nat) (h : k ≠ b) : ∀ (vs : List Value) (o : Nat) (w : World), (w.setCells b o vs).heap[k]? = w.heap[k]?
  | [], _, _ => rfl
  | v :: r, o, w => by rw [World.setCells, heap_setCells b k h r]; exact Below.heap_setCell _ _ _ _ h

theorem isRow_setCells (b T : Nat) : ∀ (vs : List Value) (o : Nat) (w : World), IsRow w b T → IsRow (w.setCells b o vs) b T
  | [], _, _, h => h
  | v :: r, o, w, h => by
    obtain ⟨c, fz, h⟩ := h
    exact isRow_setCells b T r (o + 1) _ ⟨c.setIfInBounds o v, fz, by simp [World.setCell, Array.getElem?_modify, h]⟩

theorem append_gives (s : Sim g st loc w) {t u ty e : TypeId} {i : TypeInfo} {z : Value} {du : TypeDesc} (ht : P.underlying t = some (.slice e)) (hu : P.underlying u = some du) (hdu : (∃ e', du = .slice e') ∨ du = .string)
    (hi : P.info? e = some i) (hz0 : i.zero = some z) (hzs : z.cells.size = i.size) (hs1 : 1 ≤ i.size) (hb1 : 1 ≤ i.bytes) {v x : TV} {vv xv : Value} (hv : Rel g w v vv) (hx : Rel g w x xv)
    {k : Nat} {ys : List TV} (hsrc : appSrc st i.size x = some (k, ys)) (hone : ys.all oneT = true) {K : SV → List (Option (List TV)) → St → Prop} (h : appK e i.size i.bytes v k ys st fun r st' => K (.t r) loc st') :
    ∃ r w', (Builtin.append_ #[t, u] ty #[vv, xv]).run P w = .ok r w' ∧ Left g w loc K r w' := by
  obtain ⟨vs, hrv, hvl, hlen, hf, hfd⟩ := appSrc_sound (P := P) s hx hsrc
  have hyl : ys.length = k * i.size := hrv.1.trans hvl
  obtain ⟨sd, ed⟩ := s.drew
  unfold appK at h
  split at h
  · -- nil
    cases hv
    split at h
    · -- nothing
      refine ⟨_, _, ?_, _, _, _, _, h, s, Rel.nilSlice, Ext.refl _ _, LocKeep.refl _ _⟩
      rw [run_app_room t u ty e i du ht hu hdu hi none 0 0 0 xv vs hlen hf (by omega)]
      rfl
    · rename_i m
      rw [need_iff] at h
      obtain ⟨hble, hK⟩ := h
      have hb := Nat.le_of_ble_eq_true hble
      have hrun := run_app_grow t u ty e i z du ht hu hdu hi hz0 none 0 0 (m + 1) xv [] vs hlen hfd (by simp [Builtin.firstCells]) (by omega) (by simpa using hb) hb1
      simp only [Nat.zero_add, List.nil_append] at hrun
      refine ⟨_, _, hrun, ?_⟩
      have hfr := fresh_gives (sz := i.size) (n := m + 1) (cap := grownCap w (m + 1) 0 e) (cells := ys) (vs := vs.toArray ++ Builtin.zeroCells z.cells (grownCap w (m + 1) 0 e - (m + 1))) sd e (0, 0)
        (by
          have : (vs.toArray ++ Builtin.zeroCells z.cells (grownCap w (m + 1) 0 e - (m + 1))).toList.take ys.length = vs := by
            simp only [Array.toList_append, List.toList_toArray]
            rw [hrv.1]; exact List.take_left
          rw [this]; exact hrv.ext ed) hyl (grownCap_ge _ _ _ _)
        (by have := size_grown [] vs z.cells 0 (m + 1) (grownCap w (m + 1) 0 e) i.size (by simp) hvl hzs (by have := grownCap_ge w (m + 1) 0 e; omega); simpa using this) (fun o _ => by simp) (fun t ht => by cases ht; rfl) (K := K) hK
      obtain ⟨sv, l', st', g', h1, h2, h3, h4, h5⟩ := hfr
      exact ⟨sv, l', st', g', h1, h2, h3, ed.trans h4, h5⟩
  · rename_i s' tip n xs
    split at h
    · rename_i hss
      have hs' : s' = i.size := Nat.eq_of_beq_eq_true hss
      subst hs'
      obtain ⟨hbytes, h⟩ := h
      cases hv with
      | list _ _ _ _ b o cap us hl hn hc hr htip =>
        obtain ⟨hro, hfo⟩ := list_cells (P := P) (cap := cap) hl hc hr
        have hol : ((List.range xs.length).map us).length = n * i.size := by simp [hl]
        have hgrow : ∀ (g1 : Ghost) (st1 : St) (T' : Option Nat), (∀ t, T' = some t → t = e) → Sim g1 st1 loc w.drew → Ext g w g1 w.drew → g1.lam = g.lam → ¬ n + k ≤ cap → K (.t (.list i.size (.own st1.nt) (n + k) (xs ++ ys))) loc (st1.fresh T') →
            ∃ r w', (Builtin.append_ #[t, u] ty #[.slice (some ⟨b, o, none⟩) n cap, xv]).run P w = .ok r w' ∧ Left g w loc K r w' := by
          intro g1 st1 T' hT' s1 e1 hlam hroom hK
          have hrun := run_app_grow t u ty e i z du ht hu hdu hi hz0 (some ⟨b, o, none⟩) n cap k xv _ vs hlen hfd hfo hroom hbytes hb1
          refine ⟨_, _, hrun, ?_⟩
          have hfr := fresh_gives (sz := i.size) (n := n + k) (cap := grownCap w (n + k) cap e) (cells := xs ++ ys) (vs := ((List.range xs.length).map us ++ vs).toArray ++ Builtin.zeroCells z.cells (grownCap w (n + k) cap e - (n + k))) s1 e (0, 0)
            (by
              have : (((List.range xs.length).map us ++ vs).toArray ++ Builtin.zeroCells z.cells (grownCap w (n + k) cap e - (n + k))).toList.take (xs ++ ys).length = (List.range xs.length).map us ++ vs := by
                simp only [Array.toList_append, List.toList_toArray]
                rw [show (xs ++ ys).length = ((List.range xs.length).map us ++ vs).length from by simp [hrv.1]]
                exact List.take_left
              rw [this]; exact (hro.append hrv).ext e1) (by rw [List.length_append, hl, hyl, Nat.add_mul]) (grownCap_ge _ _ _ _)
            (size_grown _ vs z.cells n k _ i.size hol hvl hzs (grownCap_ge _ _ _ _)) (fun o _ => by simp) hT' (K := K) hK
          obtain ⟨sv, l', st', g', h1, h2, h3, h4, h5⟩ := hfr
          exact ⟨sv, l', st', g', h1, h2, h3, e1.trans h4, fun i x hx => by rw [← hlam]; exact h5 i x hx⟩
        split at h
        · -- full
          have hcn : cap = n := htip
          split at h
          · have hnil := nil_of_len hrv (by rw [hvl]; simp)
            refine ⟨_, _, ?_, _, _, _, _, h, s, Rel.list i.size .full n xs b o cap us hl hn hc hr htip, Ext.refl _ _, LocKeep.refl _ _⟩
            rw [run_app_room t u ty e i du ht hu hdu hi (some ⟨b, o, none⟩) n cap 0 xv vs hlen hf (by omega), hnil.2]
            simp [storeCells]
          · exact hgrow g st _ (fun t ht => by cases ht; rfl) sd ed rfl (by omega) h
        · -- own
          rename_i id
          obtain ⟨hlive, hK⟩ := h
          have hid : id < st.nt := s.nt ▸ htip.1
          have hne := s.own id hid hlive
          obtain ⟨r0, hr0⟩ := Option.ne_none_iff_exists'.1 hne
          have hreq := htip.2 r0 hr0
          subst hreq
          simp only at hr0
          by_cases hroom : n + k ≤ cap
          · obtain ⟨c1, c2, c3, c4, c5⟩ := s.spCell id b _ _ hr0
            have hns : n * i.size ≤ (n + k) * i.size := Nat.mul_le_mul_right _ (by omega)
            have hks : (n + k) * i.size ≤ cap * i.size := Nat.mul_le_mul_right _ hroom
            have hnk : (n + k) * i.size = n * i.size + k * i.size := Nat.add_mul _ _ _
            have hst := run_storeCells_cells (P := P) b (o + n * i.size) vs 0 w (fun j hj => by
                obtain ⟨v, hv⟩ := (c5 (o + n * i.size + j) (by omega) (by omega)).1
                simp only [Nat.add_zero]; rw [hv]; rfl) (fun j hj => by
                simp only [Nat.add_zero]; exact (c5 (o + n * i.size + j) (by omega) (by omega)).2) (allOne hrv hone)
            simp only [Nat.add_zero] at hst
            refine ⟨.slice (some ⟨b, o, none⟩) (n + k) cap, w.setCells b (o + n * i.size) vs, ?_, ?_⟩
            · rw [run_app_room t u ty e i du ht hu hdu hi (some ⟨b, o, none⟩) n cap k xv vs hlen hf hroom]
              simp only [plain_add, hst, Result.andThen_ok]
            · -- the simulation
              have hin : ∀ j, j < vs.length → (w.setCells b (o + n * i.size) vs).cell? ⟨b, o + n * i.size + j, none⟩ = some (vs.getD j Go.undef) := by
                intro j hj
                have := World.cell?_setCells_in b vs (o + n * i.size) w (fun j hj => by
                  obtain ⟨v, hv⟩ := (c5 (o + n * i.size + j) (by omega) (by omega)).1
                  rw [hv]; rfl) j hj
                rw [this, List.getD_eq_getElem?_getD, List.getElem?_eq_getElem hj, Option.getD_some]
              have hstep : Sim g st loc (w.setCells b (o + n * i.size) vs) ∧ Ext g w g (w.setCells b (o + n * i.size) vs) := by
                by_cases hk0 : k = 0
                · have hnil := nil_of_len hrv (by rw [hvl, hk0]; simp)
                  rw [hnil.2]; exact ⟨s, Ext.refl _ _⟩
                · have : 0 < k * i.size := Nat.mul_pos (by omega) hs1
                  refine s.spWrite hr0 (by omega) (size_setCells _ _ _ _) (fun k hk => heap_setCells b k hk _ _ _) (fun o' ho' => ?_) (fun o' h1 h2 => ?_) (fun o' => World.frozen?_setCells _ _ _ _ _) (Below.setCells c1 _ _ _ s.below) (fun T => isRow_setCells b T _ _ _)
                  · exact World.cell?_setCells_out b vs _ w _ (fun _ _ => by simp only; omega)
                  · by_cases hlt : o' < o + n * i.size + vs.length
                    · have := hin (o' - (o + n * i.size)) (by omega)
                      rw [show o + n * i.size + (o' - (o + n * i.size)) = o' from by omega] at this
                      exact ⟨_, this⟩
                    · rw [World.cell?_setCells_out b vs _ w _ (fun _ _ => by simp only; omega)]
                      exact (c5 o' h1 h2).1
              obtain ⟨s1, e1⟩ := hstep
              obtain ⟨s2, e2⟩ := s1.retire id
              have hnprot : ¬ g.prot b := fun hp => (s.protOk b hp).2.2.1 id _ _ hr0
              have hspr : ∀ j r, (g.retire id).sp j = some r → j ≠ id ∧ g.sp j = some r := by
                intro j r hj
                simp only [Ghost.retire] at hj
                split at hj
                · cases hj
                · exact ⟨‹_›, hj⟩
              obtain ⟨s3, e3⟩ := s2.settle (fun a => a.block = b ∧ a.spot = none ∧ o + n * i.size ≤ a.off ∧ a.off < o + (n + k) * i.size) (fun a ha => by
                obtain ⟨h1, h2, h3, h4⟩ := ha
                refine ⟨h2, ⟨vs.getD (a.off - (o + n * i.size)) Go.undef, ?_⟩, fun q d => by rw [h1]; exact c4 q d, fun j l' h' hj => ?_⟩
                · have := hin (a.off - (o + n * i.size)) (by omega)
                  rw [show o + n * i.size + (a.off - (o + n * i.size)) = a.off from by omega] at this
                  cases a; simp only at h1 h2 this ⊢; subst h1 h2; exact this
                · obtain ⟨hji, hj'⟩ := hspr j _ hj
                  rw [h1] at hj'
                  have := s.spApart j id b _ _ _ _ hji hj' hr0
                  omega) (fun a ha => by rw [ha.1]; exact hnprot)
              have hS3 : ∀ a, ((g.retire id).settle fun a => a.block = b ∧ a.spot = none ∧ o + n * i.size ≤ a.off ∧ a.off < o + (n + k) * i.size).S a → a.block = b → ¬ (o + (n + k) * i.size ≤ a.off ∧ a.off < o + cap * i.size) := by
                intro a ha hab hh
                rcases ha with ha | ha
                · have := (s.sCell a ha).2.2.2 id (o + n * i.size) (o + cap * i.size) (by rw [hab]; exact hr0)
                  omega
                · have := ha.2.2.2; omega
              obtain ⟨s4, e4, hsp4⟩ := s3.fresh b (o + (n + k) * i.size) (o + cap * i.size) (.inl c1) c1 (by rw [size_setCells]; exact c2) (by omega) c4 (fun o' h1 h2 => by
                  rw [World.cell?_setCells_out b vs _ w _ (fun _ _ => by simp only; omega), World.frozen?_setCells]
                  exact c5 o' (by omega) h2) hS3 hnprot (fun j l' h' hj => by
                  obtain ⟨hji, hj'⟩ := hspr j _ hj
                  have := s.spApart j id b _ _ _ _ hji hj' hr0
                  omega) (fun j r hj => by obtain ⟨hji, hj'⟩ := hspr j _ hj; exact s.spTop id b _ _ hr0 j r hji hj') (T := tyJoin e (st.ty id)) (fun t ht => by rw [(tyJoin_some ht).1]; exact isRow_setCells b e _ _ _ (s.spTy id b _ _ e hr0 (tyJoin_some ht).2))
              have eall := e1.trans (e2.trans (e3.trans e4))
              refine ⟨_, _, _, _, hK, s4, ?_, eall, fun j x hj => ⟨rfl, x, hj⟩⟩
              refine Rel.list i.size (.own st.nt) (n + k) (xs ++ ys) b o cap (fun j => if j < xs.length then us j else vs.getD (j - xs.length) Go.undef) (by rw [List.length_append, hl, hyl, Nat.add_mul]) hroom (fun j hj => ?_) (fun j hj => ?_) ⟨?_, fun r hr' => ?_⟩
              · by_cases hjx : j < xs.length
                · rw [if_pos hjx]
                  have := eall.S _ (hc j hjx).1
                  exact ⟨this.1, this.2.trans (hc j hjx).2⟩
                · rw [if_neg hjx]
                  rw [List.length_append] at hj
                  have hjv : j - xs.length < vs.length := by rw [← hrv.1]; omega
                  have := hin (j - xs.length) hjv
                  rw [show o + n * i.size + (j - xs.length) = o + j from by omega] at this
                  exact ⟨.inr ⟨rfl, rfl, by simp only; omega, by simp only; omega⟩, this⟩
              · by_cases hjx : j < xs.length
                · rw [if_pos hjx, List.getElem_append_left hjx]
                  exact (hr j hjx).ext eall
                · rw [if_neg hjx, List.getElem_append_right (by omega)]
                  exact (hrv.2 _ (by rw [List.length_append] at hj; omega)).ext eall
              · show st.nt < g.nt + 1
                rw [s.nt]; omega
              · have hsp4' := hsp4
                simp only [St.retire] at hsp4'
                rw [hsp4'] at hr'
                simp only [Option.some.injEq] at hr'
                exact hr'.symm
          · obtain ⟨s2, e2⟩ := sd.retire id
            exact hgrow (g.retire id) (st.retire id) _ (fun t ht => (tyJoin_some ht).1) s2 (ed.trans e2) rfl hroom hK
        · exact h.elim
    · exact h.elim
  · exact h.elim

end
end Go.TVF
