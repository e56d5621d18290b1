/- What the laws below rest on: a framework for Go programs, and contracts of the functions that they reach. -/
import Derived.Test.YtlbcpcdgpnppgaaDoorDeE
section
set_option linter.unusedVariables false
set_option linter.unusedSimpArgs false
namespace Go.TVF
open Go Go.Proofs
theorem parseV_inv {x : Cx} {hd : Bool} {l2 l3 l4 : Int} {n : Nd} (h : parseV x hd l2 l3 l4 = .ok n) : ∃ rs, n = .mk 1 [] [] rs [] ∧ dOk x.a x.q = true ∧ lOk x.dep x.nod l2 l3 l4 = true ∧ (x.s.length : Int) ≤ l2 ∧ vlen x.s = x.s.length ∧ docE x hd (x.s.length + 1) [] 0 1 [] 0 = .ok rs ∧
    Recs x.a x.q x.s 0 rs ∧ (∀ r ∈ rs, ∀ k ∈ kidsOf r, (txt x.q (entC k)).length ≤ 65536) ∧ (∃ W : Int, ∀ r ∈ rs, ((kidsOf r).length : Int) = W) := by
  unfold parseV at h
  split at h
  · cases h
  rename_i h1
  split at h
  · cases h
  rename_i h2
  split at h
  · cases h
  rename_i h3
  split at h
  · cases h
  rename_i h4
  split at h
  · cases h
  rename_i rs hr
  cases h
  obtain ⟨rs', j1, j2, j3, ⟨W, j4, j5⟩, j6⟩ := docE_inv _ (by omega) hr
  rw [List.nil_append] at j1
  subst j1
  exact ⟨_, rfl, by simpa using h1, by simpa using h2, by omega, Decidable.not_not.1 h4, hr, j2, j3, W, j5⟩
/-- A source and a dialect, with the usual limits. -/
abbrev xU (s : List UInt8) (a q : Int) : Cx := ⟨s, a, q, 48, 65536⟩
abbrev parseU (s : List UInt8) (a q : Int) (hd : Bool) : Except (Nat × Int) Nd := parseV (xU s a q) hd 1048576 1024 65536
/-- A tree of records. -/
def oursP (n : Nd) (a q : Int) (hd : Bool) : Prop := chkV n = 0 ∧ parseU (ntext n) a q hd = .ok n
theorem chkV_len {n : Nd} (h : chkV n = 0) : nlen n ≤ 1048576 := by
  unfold chkV at h
  split at h
  · rename_i e he; exact absurd h (chk_err_ne n he)
  · split at h
    · cases h
    · omega
theorem pN_cnt {x : Cx} {hd : Bool} {l2 l3 l4 : Int} (hl : x.s.length ≤ 2000000) : ncnt (pN (parseV x hd l2 l3 l4)) ≤ 1000000000000000 := by
  cases h : parseV x hd l2 l3 l4 with
  | error e => simp [pN, ncnt, kcnt]
  | ok n =>
    obtain ⟨rs, rfl, _, _, _, _, _, hr, _⟩ := parseV_inv h
    have := (kcnt_recs hr (by omega)).1
    simp only [pN, ncnt]; omega
theorem NdC.five {n : Nd} {cs : List TV} (h : NdC n cs) : ∃ k l t v tl, cs = [.int .i64 k, .str l, .str t, v, .str tl] ∧ oneT v = true := by
  cases n
  unfold NdC at h
  obtain ⟨v, xs, rfl, hr, _⟩ := h
  exact ⟨_, _, _, v, _, rfl, hr.one⟩
theorem lUsual_ok {st : St} {K : Int → Int → Int → Int → Int → St → Prop} (hk : K 48 65536 1048576 1024 65536 st) : CallT PR fn_limit_Usual [] [.agg [.int .i64, .int .i64, .int .i64, .int .i64, .int .i64]] st K := vc_limit_Usual st K hk
theorem r11Usual_ok {st : St} {K : Int → Int → Int → Int → Int → St → Prop} (hk : K 48 65536 1048576 1024 65536 st) : CallT PR fn_datakitref11_Usual [] [.agg [.int .i64, .int .i64, .int .i64, .int .i64, .int .i64]] st K := vc_datakitref11_Usual st K hk
theorem r20Usual_ok {st : St} {K : Int → Int → Int → Int → Int → St → Prop} (hk : K 48 65536 1048576 1024 65536 st) : CallT PR fn_datakitref20_Usual [] [.agg [.int .i64, .int .i64, .int .i64, .int .i64, .int .i64]] st K := vc_datakitref20_Usual st K (r11Usual_ok hk)
theorem ours_ok {n : Nd} {cs : List TV} {a q : Int} {hd ty : Bool} (hc : NdC n cs) (hl : nlen n ≤ 100000000000000) (hcn : ncnt n ≤ 1000000000000000) {st : St} {K : Bool → St → Prop}
    (hk1 : ∀ st', StExt st st' → oursP n a q hd → K true st') (hk2 : ∀ st', StExt st st' → ¬ oursP n a q hd → K false st') :
    CallT PR fn_delim_ours [.agg cs, .agg [.int .u8 a, .int .u8 q, .bool hd, .bool ty]] [.one .bool] st K := by
  obtain ⟨k, l, t, v, tl, rfl, _⟩ := hc.five
  refine vc_delim_ours k l t v tl a q hd ty st K (tCheck_ok hc (by omega) hcn fun st1 e1 => BIf_intro (fun g => hk2 st1 e1 fun h => g h.1) fun g => ?_)
  have g : chkV n = 0 := Decidable.not_not.1 g
  have hlen := chkV_len g
  have htl := ntext_len n
  refine tprint_ok hc hl hcn fun st2 e2 => lUsual_ok ?_
  refine pparse_ok (x := xU (ntext n) a q) (by show (ntext n).length ≤ _; omega) fun kd kv st3 e3 hn => ?_
  have e13 := (e1.trans e2).trans e3
  obtain ⟨_, _, _, _, _, h5, ho⟩ := hn.five
  cases h5
  refine need_intro (one5 ho) (BIf_intro (fun g2 => ?_) fun g2 => ?_)
  · refine tsame_ok _ _ hn hc (pN_cnt (by show (ntext n).length ≤ _; omega)) (fun he => hk1 _ e13 ⟨g, ?_⟩) fun he => hk2 _ e13 fun h => he ?_
    · show parseV _ _ _ _ _ = _
      revert he g2
      cases hp : parseV (xU (ntext n) a q) hd 1048576 1024 65536 with
      | error e =>
        intro _ he
        simp only [pN] at he
        rw [← he] at g
        exact absurd g (by decide)
      | ok m => intro _ he; simp only [pN] at he; rw [he]
    · rw [show parseV (xU (ntext n) a q) hd 1048576 1024 65536 = .ok n from h.2]; rfl
  · refine hk2 _ e13 fun h => g2 ?_
    rw [show parseV (xU (ntext n) a q) hd 1048576 1024 65536 = .ok n from h.2]; rfl
theorem ris_ok {n : Nd} {cs : List TV} {a q : Int} {hd ty : Bool} (hc : NdC n cs) (hl : nlen n ≤ 100000000000000) (hcn : ncnt n ≤ 1000000000000000) {st : St} {K : Bool → St → Prop}
    (hk1 : ∀ st', StExt st st' → oursP n a q hd → K true st') (hk2 : ∀ st', StExt st st' → ¬ oursP n a q hd → K false st') :
    CallT PR fn_datakitref27_Is [.agg cs, .agg [.int .u8 a, .int .u8 q, .bool hd, .bool ty]] [.one .bool] st K := by
  obtain ⟨k, l, t, v, tl, rfl, _⟩ := hc.five
  refine vc_datakitref27_Is k l t v tl a q hd ty st K (rCheck_ok hc (by omega) hcn (BIf_intro (fun g => hk2 st (StExt.refl _) fun h => g h.1) fun g => ?_))
  have g : chkV n = 0 := Decidable.not_not.1 g
  have hlen := chkV_len g
  have htl := ntext_len n
  refine rprint_ok n hc (by omega) hcn (r11Usual_ok ?_)
  refine rparse_ok (x := xU (ntext n) a q) (by show (ntext n).length ≤ _; omega) fun kd kv st3 e13 hn => ?_
  obtain ⟨_, _, _, _, _, h5, ho⟩ := hn.five
  cases h5
  refine need_intro (one5 ho) (BIf_intro (fun g2 => ?_) fun g2 => ?_)
  · refine rsame_ok _ _ hn hc (pN_cnt (by show (ntext n).length ≤ _; omega)) (fun he => hk1 _ e13 ⟨g, ?_⟩) fun he => hk2 _ e13 fun h => he ?_
    · show parseV _ _ _ _ _ = _
      revert he g2
      cases hp : parseV (xU (ntext n) a q) hd 1048576 1024 65536 with
      | error e =>
        intro _ he
        simp only [pN] at he
        rw [← he] at g
        exact absurd g (by decide)
      | ok m => intro _ he; simp only [pN] at he; rw [he]
    · rw [show parseV (xU (ntext n) a q) hd 1048576 1024 65536 = .ok n from h.2]; rfl
  · refine hk2 _ e13 fun h => g2 ?_
    rw [show parseV (xU (ntext n) a q) hd 1048576 1024 65536 = .ok n from h.2]; rfl
def RowR {α : Type} (f : α → TV) (v : TV) (row : List α) : Prop := Rd 1 v row.length (row.map f)
def GridR {α : Type} (f : α → TV) (v : TV) (rows : List (List α)) : Prop := ∃ vs : List TV, Rd 1 v rows.length vs ∧ vs.length = rows.length ∧ ∀ (i : Nat) (u : TV) (row : List α), vs[i]? = some u → rows[i]? = some row → RowR f u row
theorem RowR.ld {α : Type} {f : α → TV} {v : TV} {row : List α} (h : RowR f v row) (st : St) {i : Nat} {a : α} (ha : row[i]? = some a) : ldCell st [] (.t (ixT 1 v i)) 0 = some (f a) :=
  Rd.ldx h st i 0 (by rw [Nat.mul_one, Nat.add_zero, List.getElem?_map, ha]; rfl)
theorem GridR.ld {α : Type} {f : α → TV} {v : TV} {rows : List (List α)} (h : GridR f v rows) (st : St) {i : Nat} {row : List α} (hr : rows[i]? = some row) : ∃ u, ldCell st [] (.t (ixT 1 v i)) 0 = some u ∧ RowR f u row := by
  obtain ⟨vs, h1, h2, h3⟩ := h
  have hlt : i < vs.length := by rw [h2]; exact (List.getElem?_eq_some_iff.1 hr).1
  have hu := List.getElem?_eq_getElem hlt
  exact ⟨vs[i], Rd.ldx h1 st i 0 (by rw [Nat.mul_one, Nat.add_zero]; exact hu), h3 i _ row hu hr⟩
theorem GridR.rd {α : Type} {f : α → TV} {v : TV} {rows : List (List α)} (h : GridR f v rows) : ∃ vs, Rd 1 v rows.length vs := by obtain ⟨vs, h1, _⟩ := h; exact ⟨vs, h1⟩
theorem GridR.nil {α : Type} (f : α → TV) : GridR f .nilSlice [] := ⟨[], .inl ⟨rfl, rfl, rfl⟩, rfl, fun i u row h => by simp at h⟩
/-- The list of lists that is being made. -/
def GridO {α : Type} (f : α → TV) (b : Nat) (st : St) (v : TV) (rows : List (List α)) : Prop := ∃ vs : List TV, Own b 1 st v rows.length vs ∧ vs.length = rows.length ∧ ∀ (i : Nat) (u : TV) (row : List α), vs[i]? = some u → rows[i]? = some row → RowR f u row
theorem GridO.rd {α : Type} {f : α → TV} {b : Nat} {st : St} {v : TV} {rows : List (List α)} (h : GridO f b st v rows) : GridR f v rows := by
  obtain ⟨vs, h1, h2, h3⟩ := h; exact ⟨vs, h1.rd, h2, h3⟩
/-- The cells of a tree of records. -/
def cellsT {α : Type} (g : List UInt8 → α) (rs : List Nd) : List (List α) := rs.map fun r => (kidsOf r).map fun k => g (entC k)
/-- The text of an entry's cell. -/
theorem ent_ld {a q : Int} {k : Nd} (hk : EntF a q k) {cs : List TV} (hc : NdC k cs) : ∃ u ys, cs = [.int .i64 5, .str [], .str [], u, .str []] ∧ Rd 5 u (kidsOf k).length ys ∧ 0 < (kidsOf k).length ∧ (∀ st, ldCell st [] (.t (fldT (ixT 5 u 0) 2)) 0 = some (.str (entC k))) ∧ isPtr (ixT 5 u 0) = true := by
  obtain ⟨c, mark, rfl, _, _⟩ := hk
  unfold NdC at hc
  obtain ⟨u, ys, rfl, h1, h2⟩ := hc
  refine ⟨u, ys, rfl, h1, by simp [kidsOf], fun st => ?_, ?_⟩
  · obtain ⟨cs, h3, h4⟩ := h2.get (i := 0) rfl
    unfold NdC at h3
    obtain ⟨w, zs, rfl, _⟩ := h3
    exact h1.ldfx st 0 2 (h4 2 _ rfl)
  · rcases h1 with ⟨rfl, h, _⟩ | ⟨tip, rfl⟩
    · simp at h
    · rfl
theorem kid_fld {v : TV} {ks : List Nd} {xs : List TV} (hr : Rd 5 v ks.length xs) (hk : KidsC ks xs) {i : Nat} {k : Nd} (hi : ks[i]? = some k) :
    isPtr (ixT 5 v i) = true ∧ ∃ cs u ys, NdC k cs ∧ (∀ st, ldCell st [] (.t (fldT (ixT 5 v i) 3)) 0 = some u) ∧ Rd 5 u (kidsOf k).length ys ∧ KidsC (kidsOf k) ys ∧ cs[3]? = some u := by
  obtain ⟨cs, h1, h2⟩ := hk.get hi
  refine ⟨?_, ?_⟩
  · rcases hr with ⟨rfl, h, _⟩ | ⟨tip, rfl⟩
    · have := (List.getElem?_eq_some_iff.1 hi).1; omega
    · rfl
  · obtain ⟨a, b, c, d, e⟩ := k
    have h3 := h1
    unfold NdC at h3
    obtain ⟨u, ys, rfl, h4, h5⟩ := h3
    exact ⟨_, u, ys, h1, fun st => hr.ldfx st i 3 (h2 3 _ rfl), h4, h5, rfl⟩
theorem kid_ldc {v : TV} {ks : List Nd} {xs : List TV} (hr : Rd 5 v ks.length xs) (hk : KidsC ks xs) (st : St) {i : Nat} {k : Nd} (hi : ks[i]? = some k) :
    ∃ cs, NdC k cs ∧ (ldCells st [] (.t (ixT 5 v i)) 0 5).map TV.agg = some (.agg cs) := by
  obtain ⟨a, b, c, d, e⟩ := k
  obtain ⟨u, ys, h1, h2, h3, h4⟩ := kid_ld hr hk st hi
  exact ⟨_, by unfold NdC; exact ⟨u, ys, rfl, h2, h3⟩, h1⟩
end Go.TVF
end

section
set_option linter.unusedVariables false
set_option linter.unusedSimpArgs false
namespace Go.TVF
open Go Go.Proofs
/-- The cells, or that it is no tree of records. -/
def recsOf : Nd → List Nd | .mk _ _ _ ks _ => ks
def quotedB (q : Int) (c : List UInt8) : Bool := decide (¬ (c = [] ∨ by_ c 0 ≠ q))
open Classical in
noncomputable def cellsV {α : Type} (g : List UInt8 → α) (n : Nd) (a q : Int) (hd : Bool) : List (List α) := if oursP n a q hd then cellsT g (recsOf n) else []
open Classical in
noncomputable def oursE (n : Nd) (a q : Int) (hd : Bool) : Int := if oursP n a q hd then 0 else 1
theorem ours_inv {n : Nd} {a q : Int} {hd : Bool} (h : oursP n a q hd) : ∃ rs, n = .mk 1 [] [] rs [] ∧ (∀ r ∈ rs, RecF a q r) ∧ nlen n ≤ 1048576 ∧ rs.length ≤ nlen n ∧ ∀ r ∈ rs, (kidsOf r).length ≤ 10000000 ∧ ∀ k ∈ kidsOf r, (entC k).length ≤ 1048576 := by
  obtain ⟨rs, rfl, _, _, _, _, _, hr, _⟩ := parseV_inv h.2
  have hn := ntext_len (.mk 1 [] [] rs [])
  have hlen := chkV_len h.1
  have hkc := kcnt_recs hr (Nat.zero_le _)
  have hs0 : (xU (ntext (.mk 1 [] [] rs [])) a q).s.length = nlen (.mk 1 [] [] rs []) := hn
  rw [hs0] at hkc
  refine ⟨rs, rfl, hr.form (Nat.zero_le _), hlen, by have := hkc.2; omega, fun r hr1 => ?_⟩
  obtain ⟨i, hi⟩ := List.getElem?_of_mem hr1
  have h1 := kcnt_mem rs hi
  have h2 := klen_mem rs i r hi
  obtain ⟨a1, b1, c1, ks, e1⟩ := r
  have h3 := kcnt_len ks
  simp only [ncnt, nlen, kidsOf] at h1 h2 ⊢
  have hk1 := hkc.1
  simp only [nlen] at hlen hk1
  refine ⟨by omega, fun k hk => ?_⟩
  obtain ⟨j, hj⟩ := List.getElem?_of_mem hk
  have h4 := klen_mem ks j k hj
  have h5 : (entC k).length ≤ nlen k := by
    obtain ⟨a2, b2, c2, js, e2⟩ := k
    cases js with
    | nil => simp [entC, kidsOf]
    | cons y ys =>
      obtain ⟨a3, b3, c3, zs, e3⟩ := y
      simp only [entC, kidsOf, nlen, klen]; omega
  omega
section
variable {n : Nd} {cs : List TV} {a q : Int} {hd ty : Bool} {st : St}
theorem GridO.add {α : Type} {f : α → TV} {T by_ : Nat} {st0 st : St} {v u : TV} {rows : List (List α)} {row : List α} {K : TV → St → Prop} (e : StExt st0 st) (h : GridO f st0.nt st v rows) (hu : RowR f u row) (hby : (rows.length + 1) * by_ ≤ 140737488355328)
    (hk : ∀ v' st', StExt st0 st' → GridO f st0.nt st' v' (rows ++ [row]) → K v' st') : appK T 1 by_ v 1 [u] st K := by
  obtain ⟨vs, h1, h2, h3⟩ := h
  refine appK_own e rfl h1 hby (fun h => by cases h) fun v' st' e' _ ho => hk v' st' e' ⟨vs ++ [u], by rw [List.length_append]; exact ho, by simp [h2], fun i u' row' hi hr => ?_⟩
  by_cases hlt : i < vs.length
  · rw [List.getElem?_append_left hlt] at hi
    rw [List.getElem?_append_left (by omega)] at hr
    exact h3 i u' row' hi hr
  · rw [List.getElem?_append_right (by omega)] at hi
    rw [List.getElem?_append_right (by omega)] at hr
    have h0 : i - vs.length = 0 := by
      have := (List.getElem?_eq_some_iff.1 hi).1
      simp at this; omega
    rw [h0] at hi
    rw [show i - rows.length = 0 by omega] at hr
    simp only [List.getElem?_cons_zero, Option.some.injEq] at hi hr
    subst hi hr; exact hu
theorem GridO.ext {α : Type} {f : α → TV} {b : Nat} {st st' : St} {v : TV} {rows : List (List α)} (h : GridO f b st v rows) (e : StExt st st') : GridO f b st' v rows := by
  obtain ⟨vs, h1, h2, h3⟩ := h; exact ⟨vs, h1.ext e, h2, h3⟩
theorem GridO.nil {α : Type} (f : α → TV) (b : Nat) (st : St) : GridO f b st .nilSlice [] := ⟨[], Own.nil _ _ _, rfl, fun i u row h => by simp at h⟩
theorem precords_ok {K : TV → Int → St → Prop} (hc : NdC n cs) (hl : nlen n ≤ 100000000000000) (hcn : ncnt n ≤ 1000000000000000)
    (hk : ∀ v st', StExt st st' → GridR TV.str v (cellsV (txt q) n a q hd) → K v (oursE n a q hd) st') :
    CallT PR fn_delim_Records [.agg cs, .agg [.int .u8 a, .int .u8 q, .bool hd, .bool ty]] [.one .tv, .one (.int .i64)] st K := by
  have tn : ∀ k : Nat, Int.toNat (k : Int) = k := fun k => rfl
  have w1 : ∀ k : Nat, k ≤ 100000000 → IntKind.i64.wrap ((k : Int) + 1) = ((k + 1 : Nat) : Int) := fun k hk => by rw [wrap64 _ (by omega) (by omega)]; omega
  have hc0 := hc
  obtain ⟨k, l, t, ks, tl⟩ := n
  unfold NdC at hc
  obtain ⟨v, xs, rfl, hr, hx⟩ := hc
  refine vc_delim_Records k l t v tl a q hd ty st K (ours_ok hc0 hl hcn (fun st1 e1 ho => ?_) fun st1 e1 ho => ?_)
  case' refine_2 =>
    refine BIf_bool (fun _ => ?_) fun h => by cases h
    have := hk .nilSlice st1 e1 (by unfold cellsV; rw [if_neg ho]; exact GridR.nil _)
    unfold oursE at this
    rwa [if_neg ho] at this
  refine BIf_bool (fun h => by cases h) fun _ => need_intro hr.isSl ?_
  have hfin : ∀ v st', StExt st st' → GridR TV.str v (cellsT (txt q) ks) → K v 0 st' := fun v st' e h => by
    have := hk v st' e (by unfold cellsV; rw [if_pos ho]; exact h)
    unfold oursE at this
    rwa [if_pos ho] at this
  obtain ⟨rs, hn, hform, hlen, hrl, hkl⟩ := ours_inv ho
  cases hn
  rw [hr.lenS]
  refine ⟨fun out i v' n' a' q' b1 b2 st' => v = v' ∧ (ks.length : Int) = n' ∧ a = a' ∧ q = q' ∧ hd = b1 ∧ ty = b2 ∧ StExt st st' ∧ ∃ j : Nat, i = (j : Int) ∧ j ≤ ks.length ∧ GridO TV.str st.nt st' out (cellsT (txt q) (ks.take j)),
    fun _ i _ _ _ _ _ _ _ => (ks.length - i).toNat, ⟨rfl, rfl, rfl, rfl, rfl, rfl, e1, 0, rfl, by omega, by rw [List.take_zero]; exact GridO.nil _ _ _⟩, ?_⟩
  rintro out _ _ _ _ _ _ _ st2 ⟨rfl, rfl, rfl, rfl, rfl, rfl, e2, j, rfl, hj, hg⟩
  rw [hr.lenZ, tn]
  refine BIf_intro (fun g => ?_) fun g => ?_
  case' refine_2 =>
    rw [List.take_of_length_le (by omega)] at hg
    exact hfin _ _ e2 hg.rd
  have hlt : j < ks.length := by omega
  have hget := List.getElem?_eq_getElem hlt
  generalize ks[j] = r at hget
  have hrf := hform r (mem_of_get hget)
  have hrk := hkl r (mem_of_get hget)
  obtain ⟨ents, tail, rfl, hne, hents⟩ := hrf
  obtain ⟨rc, hrc, hld⟩ := kid_ldc hr hx st2 hget
  unfold NdC at hrc
  obtain ⟨u, ys, rfl, hu, hy⟩ := hrc
  refine ⟨⟨by omega, by omega⟩, optK_intro hld (decA5 (need_intro (one5 hu.one) (need_intro hu.isSl ?_)))⟩
  rw [hu.lenS]
  simp only [kidsOf] at hrk
  refine ⟨fun li m out' v' n' i' u' m' a' q' b1 b2 st' => out = out' ∧ v = v' ∧ (ks.length : Int) = n' ∧ (j : Int) = i' ∧ u = u' ∧ (ents.length : Int) = m' ∧ a = a' ∧ q = q' ∧ hd = b1 ∧ ty = b2 ∧ StExt st2 st' ∧ ∃ p : Nat, m = (p : Int) ∧ p ≤ ents.length ∧ Own st2.nt 1 st' li p (((ents.take p).map fun k => txt q (entC k)).map TV.str),
    fun _ m _ _ _ _ _ _ _ _ _ _ _ => (ents.length - m).toNat, ⟨rfl, rfl, rfl, rfl, rfl, rfl, rfl, rfl, rfl, rfl, StExt.refl _, 0, rfl, by omega, Own.nil _ _ _⟩, ?_⟩
  rintro li _ _ _ _ _ _ _ _ _ _ _ st3 ⟨rfl, rfl, rfl, rfl, rfl, rfl, rfl, rfl, rfl, rfl, e3, p, rfl, hp, hli⟩
  rw [hu.lenZ, tn]
  refine BIf_intro (fun g2 => ?_) fun g2 => ?_
  · have hlt2 : p < ents.length := by omega
    have hget2 := List.getElem?_eq_getElem hlt2
    generalize ents[p] = en at hget2
    have hef := hents en (mem_of_get hget2)
    obtain ⟨ec, hec, hld2⟩ := kid_ldc hu hy st3 hget2
    obtain ⟨w, zs, rfl, hw, hpos, hwl, hwp⟩ := ent_ld hef hec
    refine ⟨⟨by omega, by omega⟩, optK_intro hld2 (decA5 (need_intro (one5 hw.one) ?_))⟩
    rw [hw.lenZ]
    refine ⟨⟨by omega, by omega⟩, need_intro hwp (optK_intro (hwl _) (decT_str ?_))⟩
    have hcl := hrk.2 en (mem_of_get hget2)
    have hcw : CellW q (entC en) := by
      obtain ⟨c, mark, rfl, hcw, _⟩ := hef
      exact hcw
    refine text_ok hcw (by omega) fun st4 e4 => ?_
    refine appK_own (e3.trans e4) rfl (hli.ext e4) (by omega) (fun h => by cases h) fun v5 st5 e5 _ o5 => ?_
    rw [w1 p (by omega)]
    refine ⟨⟨rfl, rfl, rfl, rfl, rfl, rfl, rfl, rfl, rfl, rfl, e5, p + 1, rfl, by omega, ?_⟩, by dsimp only; omega⟩
    rw [List.take_add_one, hget2]
    simpa using o5
  · have hpe : p = ents.length := by omega
    rw [hpe, List.take_of_length_le (by omega)] at hli
    refine need_intro (one1 hli.rd.one) (need_intro (one1 hli.rd.one) ?_)
    refine (hg.ext e3).add (e2.trans e3) (row := ents.map fun k => txt q (entC k)) (by unfold RowR; rw [List.length_map]; exact hli.rd) (by simp only [cellsT, List.length_map, List.length_take]; omega) fun v' st' e' hg' => ?_
    rw [w1 j (by omega)]
    refine ⟨⟨rfl, rfl, rfl, rfl, rfl, rfl, e', j + 1, rfl, by omega, ?_⟩, by dsimp only; omega⟩
    rw [List.take_add_one, hget]
    simpa [cellsT, kidsOf] using hg'
end
end Go.TVF
end

section
set_option linter.unusedVariables false
set_option linter.unusedSimpArgs false
namespace Go.TVF
open Go Go.Proofs
section
variable {n : Nd} {cs : List TV} {a q : Int} {hd ty : Bool} {st : St}
theorem pquotes_ok {K : TV → Int → St → Prop} (hc : NdC n cs) (hl : nlen n ≤ 100000000000000) (hcn : ncnt n ≤ 1000000000000000)
    (hk : ∀ v st', StExt st st' → GridR TV.bool v (cellsV (quotedB q) n a q hd) → K v (oursE n a q hd) st') :
    CallT PR fn_delim_Quoted [.agg cs, .agg [.int .u8 a, .int .u8 q, .bool hd, .bool ty]] [.one .tv, .one (.int .i64)] st K := by
  have tn : ∀ k : Nat, Int.toNat (k : Int) = k := fun k => rfl
  have w1 : ∀ k : Nat, k ≤ 100000000 → IntKind.i64.wrap ((k : Int) + 1) = ((k + 1 : Nat) : Int) := fun k hk => by rw [wrap64 _ (by omega) (by omega)]; omega
  have hc0 := hc
  obtain ⟨k, l, t, ks, tl⟩ := n
  unfold NdC at hc
  obtain ⟨v, xs, rfl, hr, hx⟩ := hc
  refine vc_delim_Quoted k l t v tl a q hd ty st K (ours_ok hc0 hl hcn (fun st1 e1 ho => ?_) fun st1 e1 ho => ?_)
  case' refine_2 =>
    refine BIf_bool (fun _ => ?_) fun h => by cases h
    have := hk .nilSlice st1 e1 (by unfold cellsV; rw [if_neg ho]; exact GridR.nil _)
    unfold oursE at this
    rwa [if_neg ho] at this
  refine BIf_bool (fun h => by cases h) fun _ => need_intro hr.isSl ?_
  have hfin : ∀ v st', StExt st st' → GridR TV.bool v (cellsT (quotedB q) ks) → K v 0 st' := fun v st' e h => by
    have := hk v st' e (by unfold cellsV; rw [if_pos ho]; exact h)
    unfold oursE at this
    rwa [if_pos ho] at this
  obtain ⟨rs, hn, hform, hlen, hrl, hkl⟩ := ours_inv ho
  cases hn
  rw [hr.lenS]
  refine ⟨fun out i v' n' a' q' b1 b2 st' => v = v' ∧ (ks.length : Int) = n' ∧ a = a' ∧ q = q' ∧ hd = b1 ∧ ty = b2 ∧ StExt st st' ∧ ∃ j : Nat, i = (j : Int) ∧ j ≤ ks.length ∧ GridO TV.bool st.nt st' out (cellsT (quotedB q) (ks.take j)),
    fun _ i _ _ _ _ _ _ _ => (ks.length - i).toNat, ⟨rfl, rfl, rfl, rfl, rfl, rfl, e1, 0, rfl, by omega, by rw [List.take_zero]; exact GridO.nil _ _ _⟩, ?_⟩
  rintro out _ _ _ _ _ _ _ st2 ⟨rfl, rfl, rfl, rfl, rfl, rfl, e2, j, rfl, hj, hg⟩
  rw [hr.lenZ, tn]
  refine BIf_intro (fun g => ?_) fun g => ?_
  case' refine_2 =>
    rw [List.take_of_length_le (by omega)] at hg
    exact hfin _ _ e2 hg.rd
  have hlt : j < ks.length := by omega
  have hget := List.getElem?_eq_getElem hlt
  generalize ks[j] = r at hget
  have hrf := hform r (mem_of_get hget)
  have hrk := hkl r (mem_of_get hget)
  obtain ⟨ents, tail, rfl, hne, hents⟩ := hrf
  obtain ⟨rc, hrc, hld⟩ := kid_ldc hr hx st2 hget
  unfold NdC at hrc
  obtain ⟨u, ys, rfl, hu, hy⟩ := hrc
  refine ⟨⟨by omega, by omega⟩, optK_intro hld (decA5 (need_intro (one5 hu.one) (need_intro hu.isSl ?_)))⟩
  rw [hu.lenS]
  simp only [kidsOf] at hrk
  refine ⟨fun li m out' v' n' i' u' m' a' q' b1 b2 st' => out = out' ∧ v = v' ∧ (ks.length : Int) = n' ∧ (j : Int) = i' ∧ u = u' ∧ (ents.length : Int) = m' ∧ a = a' ∧ q = q' ∧ hd = b1 ∧ ty = b2 ∧ StExt st2 st' ∧ ∃ p : Nat, m = (p : Int) ∧ p ≤ ents.length ∧ Own st2.nt 1 st' li p (((ents.take p).map fun k => quotedB q (entC k)).map TV.bool),
    fun _ m _ _ _ _ _ _ _ _ _ _ _ => (ents.length - m).toNat, ⟨rfl, rfl, rfl, rfl, rfl, rfl, rfl, rfl, rfl, rfl, StExt.refl _, 0, rfl, by omega, Own.nil _ _ _⟩, ?_⟩
  rintro li _ _ _ _ _ _ _ _ _ _ _ st3 ⟨rfl, rfl, rfl, rfl, rfl, rfl, rfl, rfl, rfl, rfl, e3, p, rfl, hp, hli⟩
  rw [hu.lenZ, tn]
  refine BIf_intro (fun g2 => ?_) fun g2 => ?_
  · have hlt2 : p < ents.length := by omega
    have hget2 := List.getElem?_eq_getElem hlt2
    generalize ents[p] = en at hget2
    have hef := hents en (mem_of_get hget2)
    obtain ⟨ec, hec, hld2⟩ := kid_ldc hu hy st3 hget2
    obtain ⟨w, zs, rfl, hw, hpos, hwl, hwp⟩ := ent_ld hef hec
    refine ⟨⟨by omega, by omega⟩, optK_intro hld2 (decA5 (need_intro (one5 hw.one) ?_))⟩
    rw [hw.lenZ]
    refine ⟨⟨by omega, by omega⟩, need_intro hwp (optK_intro (hwl _) (decT_str ?_))⟩
    have hcl := hrk.2 en (mem_of_get hget2)
    have hcw : CellW q (entC en) := by
      obtain ⟨c, mark, rfl, hcw, _⟩ := hef
      exact hcw
    refine text_ok hcw (by omega) fun st4 e4 => ?_
    rw [show decide (¬ (entC en = [] ∨ by_ (entC en) 0 ≠ q)) = quotedB q (entC en) from rfl]
    refine appK_own (e3.trans e4) rfl (hli.ext e4) (by omega) (fun h => by cases h) fun v5 st5 e5 _ o5 => ?_
    rw [w1 p (by omega)]
    refine ⟨⟨rfl, rfl, rfl, rfl, rfl, rfl, rfl, rfl, rfl, rfl, e5, p + 1, rfl, by omega, ?_⟩, by dsimp only; omega⟩
    rw [List.take_add_one, hget2]
    simpa using o5
  · have hpe : p = ents.length := by omega
    rw [hpe, List.take_of_length_le (by omega)] at hli
    refine need_intro (one1 hli.rd.one) (need_intro (one1 hli.rd.one) ?_)
    refine (hg.ext e3).add (e2.trans e3) (row := ents.map fun k => quotedB q (entC k)) (by unfold RowR; rw [List.length_map]; exact hli.rd) (by simp only [cellsT, List.length_map, List.length_take]; omega) fun v' st' e' hg' => ?_
    rw [w1 j (by omega)]
    refine ⟨⟨rfl, rfl, rfl, rfl, rfl, rfl, e', j + 1, rfl, by omega, ?_⟩, by dsimp only; omega⟩
    rw [List.take_add_one, hget]
    simpa [cellsT, kidsOf] using hg'
theorem rrecords_ok {K : TV → Int → St → Prop} (hc : NdC n cs) (hl : nlen n ≤ 100000000000000) (hcn : ncnt n ≤ 1000000000000000)
    (hk : ∀ v st', StExt st st' → GridR TV.str v (cellsV (txt q) n a q hd) → K v (oursE n a q hd) st') :
    CallT PR fn_datakitref27_Records [.agg cs, .agg [.int .u8 a, .int .u8 q, .bool hd, .bool ty]] [.one .tv, .one (.int .i64)] st K := by
  have tn : ∀ k : Nat, Int.toNat (k : Int) = k := fun k => rfl
  have w1 : ∀ k : Nat, k ≤ 100000000 → IntKind.i64.wrap ((k : Int) + 1) = ((k + 1 : Nat) : Int) := fun k hk => by rw [wrap64 _ (by omega) (by omega)]; omega
  have hc0 := hc
  obtain ⟨k, l, t, ks, tl⟩ := n
  unfold NdC at hc
  obtain ⟨v, xs, rfl, hr, hx⟩ := hc
  refine vc_datakitref27_Records k l t v tl a q hd ty st K (ris_ok hc0 hl hcn (fun st1 e1 ho => ?_) fun st1 e1 ho => ?_)
  case' refine_2 =>
    refine BIf_bool (fun _ => ?_) fun h => by cases h
    have := hk .nilSlice st1 e1 (by unfold cellsV; rw [if_neg ho]; exact GridR.nil _)
    unfold oursE at this
    rwa [if_neg ho] at this
  refine BIf_bool (fun h => by cases h) fun _ => ?_
  have hfin : ∀ v st', StExt st st' → GridR TV.str v (cellsT (txt q) ks) → K v 0 st' := fun v st' e h => by
    have := hk v st' e (by unfold cellsV; rw [if_pos ho]; exact h)
    unfold oursE at this
    rwa [if_pos ho] at this
  obtain ⟨rs, hn, hform, hlen, hrl, hkl⟩ := ours_inv ho
  cases hn
  refine ⟨fun out i k1 l1 t1 v' tl1 a' q' b1 b2 st' => v = v' ∧ a = a' ∧ q = q' ∧ hd = b1 ∧ ty = b2 ∧ StExt st st' ∧ ∃ j : Nat, i = (j : Int) ∧ j ≤ ks.length ∧ GridO TV.str st.nt st' out (cellsT (txt q) (ks.take j)),
    fun _ i _ _ _ _ _ _ _ _ _ _ => (ks.length - i).toNat, ⟨rfl, rfl, rfl, rfl, rfl, e1, 0, rfl, by omega, by rw [List.take_zero]; exact GridO.nil _ _ _⟩, ?_⟩
  rintro out _ _ _ _ _ _ _ _ _ _ st2 ⟨rfl, rfl, rfl, rfl, rfl, e2, j, rfl, hj, hg⟩
  refine need_intro hr.isSl ?_
  rw [hr.lenS]
  refine BIf_intro (fun g => ?_) fun g => ?_
  case' refine_2 =>
    rw [List.take_of_length_le (by omega)] at hg
    exact hfin _ _ e2 hg.rd
  have hlt : j < ks.length := by omega
  have hget := List.getElem?_eq_getElem hlt
  generalize ks[j] = r at hget
  have hrf := hform r (mem_of_get hget)
  have hrk := hkl r (mem_of_get hget)
  obtain ⟨ents, tail, rfl, hne, hents⟩ := hrf
  obtain ⟨hp1, rc, u, ys, hrc, hld, hu, hy, _⟩ := kid_fld hr hx hget
  simp only [kidsOf] at hrk hu hy
  refine ⟨fun li m out' i' k1 l1 t1 v' tl1 a' q' b1 b2 st' => out = out' ∧ v = v' ∧ (j : Int) = i' ∧ a = a' ∧ q = q' ∧ hd = b1 ∧ ty = b2 ∧ StExt st2 st' ∧ ∃ p : Nat, m = (p : Int) ∧ p ≤ ents.length ∧ Own st2.nt 1 st' li p (((ents.take p).map fun k => txt q (entC k)).map TV.str),
    fun _ m _ _ _ _ _ _ _ _ _ _ _ _ => (ents.length - m).toNat, ⟨rfl, rfl, rfl, rfl, rfl, rfl, rfl, StExt.refl _, 0, rfl, by omega, Own.nil _ _ _⟩, ?_⟩
  rintro li _ _ _ _ _ _ _ _ _ _ _ _ st3 ⟨rfl, rfl, rfl, rfl, rfl, rfl, rfl, e3, p, rfl, hp, hli⟩
  rw [hr.lenZ, tn]
  refine ⟨⟨by omega, by omega⟩, need_intro hp1 (optK_intro (hld _) (need_intro hu.isSl ?_))⟩
  rw [hu.lenS]
  refine BIf_intro (fun g2 => ?_) fun g2 => ?_
  · have hlt2 : p < ents.length := by omega
    have hget2 := List.getElem?_eq_getElem hlt2
    generalize ents[p] = en at hget2
    have hef := hents en (mem_of_get hget2)
    obtain ⟨hp2, ec, w, zs, hec, hld2, hw, hz, hw3⟩ := kid_fld hu hy hget2
    obtain ⟨w', zs', rfl, hw', hpos, hwl, hwp⟩ := ent_ld hef hec
    simp only [List.getElem?_cons_succ, List.getElem?_cons_zero, Option.some.injEq] at hw3
    subst hw3
    refine ⟨⟨by omega, by omega⟩, need_intro hp1 (optK_intro (hld _) ?_)⟩
    rw [hu.lenZ, tn]
    refine ⟨⟨by omega, by omega⟩, need_intro hp2 (optK_intro (hld2 _) ?_)⟩
    rw [hw.lenZ]
    refine ⟨⟨by omega, by omega⟩, need_intro hwp (optK_intro (hwl _) (decT_str ?_))⟩
    have hcl := hrk.2 en (mem_of_get hget2)
    have hcw : CellW q (entC en) := by
      obtain ⟨c, mark, rfl, hcw, _⟩ := hef
      exact hcw
    refine rplain_ok hcw (by omega) ?_
    refine appK_own e3 rfl hli (by omega) (fun h => by cases h) fun v5 st5 e5 _ o5 => ?_
    rw [w1 p (by omega)]
    refine ⟨⟨rfl, rfl, rfl, rfl, rfl, rfl, rfl, e5, p + 1, rfl, by omega, ?_⟩, by dsimp only; omega⟩
    rw [List.take_add_one, hget2]
    simpa using o5
  · have hpe : p = ents.length := by omega
    rw [hpe, List.take_of_length_le (by omega)] at hli
    refine need_intro (one1 hli.rd.one) (need_intro (one1 hli.rd.one) ?_)
    refine (hg.ext e3).add (e2.trans e3) (row := ents.map fun k => txt q (entC k)) (by unfold RowR; rw [List.length_map]; exact hli.rd) (by simp only [cellsT, List.length_map, List.length_take]; omega) fun v' st' e' hg' => ?_
    rw [w1 j (by omega)]
    refine ⟨⟨rfl, rfl, rfl, rfl, rfl, e', j + 1, rfl, by omega, ?_⟩, by dsimp only; omega⟩
    rw [List.take_add_one, hget]
    simpa [cellsT, kidsOf] using hg'
theorem rquotes_ok {K : TV → Int → St → Prop} (hc : NdC n cs) (hl : nlen n ≤ 100000000000000) (hcn : ncnt n ≤ 1000000000000000)
    (hk : ∀ v st', StExt st st' → GridR TV.bool v (cellsV (quotedB q) n a q hd) → K v (oursE n a q hd) st') :
    CallT PR fn_datakitref27_Quoted [.agg cs, .agg [.int .u8 a, .int .u8 q, .bool hd, .bool ty]] [.one .tv, .one (.int .i64)] st K := by
  have tn : ∀ k : Nat, Int.toNat (k : Int) = k := fun k => rfl
  have w1 : ∀ k : Nat, k ≤ 100000000 → IntKind.i64.wrap ((k : Int) + 1) = ((k + 1 : Nat) : Int) := fun k hk => by rw [wrap64 _ (by omega) (by omega)]; omega
  have hc0 := hc
  obtain ⟨k, l, t, ks, tl⟩ := n
  unfold NdC at hc
  obtain ⟨v, xs, rfl, hr, hx⟩ := hc
  refine vc_datakitref27_Quoted k l t v tl a q hd ty st K (ris_ok hc0 hl hcn (fun st1 e1 ho => ?_) fun st1 e1 ho => ?_)
  case' refine_2 =>
    refine BIf_bool (fun _ => ?_) fun h => by cases h
    have := hk .nilSlice st1 e1 (by unfold cellsV; rw [if_neg ho]; exact GridR.nil _)
    unfold oursE at this
    rwa [if_neg ho] at this
  refine BIf_bool (fun h => by cases h) fun _ => ?_
  have hfin : ∀ v st', StExt st st' → GridR TV.bool v (cellsT (quotedB q) ks) → K v 0 st' := fun v st' e h => by
    have := hk v st' e (by unfold cellsV; rw [if_pos ho]; exact h)
    unfold oursE at this
    rwa [if_pos ho] at this
  obtain ⟨rs, hn, hform, hlen, hrl, hkl⟩ := ours_inv ho
  cases hn
  refine ⟨fun out i k1 l1 t1 v' tl1 a' q' b1 b2 st' => v = v' ∧ a = a' ∧ q = q' ∧ hd = b1 ∧ ty = b2 ∧ StExt st st' ∧ ∃ j : Nat, i = (j : Int) ∧ j ≤ ks.length ∧ GridO TV.bool st.nt st' out (cellsT (quotedB q) (ks.take j)),
    fun _ i _ _ _ _ _ _ _ _ _ _ => (ks.length - i).toNat, ⟨rfl, rfl, rfl, rfl, rfl, e1, 0, rfl, by omega, by rw [List.take_zero]; exact GridO.nil _ _ _⟩, ?_⟩
  rintro out _ _ _ _ _ _ _ _ _ _ st2 ⟨rfl, rfl, rfl, rfl, rfl, e2, j, rfl, hj, hg⟩
  refine need_intro hr.isSl ?_
  rw [hr.lenS]
  refine BIf_intro (fun g => ?_) fun g => ?_
  case' refine_2 =>
    rw [List.take_of_length_le (by omega)] at hg
    exact hfin _ _ e2 hg.rd
  have hlt : j < ks.length := by omega
  have hget := List.getElem?_eq_getElem hlt
  generalize ks[j] = r at hget
  have hrf := hform r (mem_of_get hget)
  have hrk := hkl r (mem_of_get hget)
  obtain ⟨ents, tail, rfl, hne, hents⟩ := hrf
  obtain ⟨hp1, rc, u, ys, hrc, hld, hu, hy, _⟩ := kid_fld hr hx hget
  simp only [kidsOf] at hrk hu hy
  refine ⟨fun li m out' i' k1 l1 t1 v' tl1 a' q' b1 b2 st' => out = out' ∧ v = v' ∧ (j : Int) = i' ∧ a = a' ∧ q = q' ∧ hd = b1 ∧ ty = b2 ∧ StExt st2 st' ∧ ∃ p : Nat, m = (p : Int) ∧ p ≤ ents.length ∧ Own st2.nt 1 st' li p (((ents.take p).map fun k => quotedB q (entC k)).map TV.bool),
    fun _ m _ _ _ _ _ _ _ _ _ _ _ _ => (ents.length - m).toNat, ⟨rfl, rfl, rfl, rfl, rfl, rfl, rfl, StExt.refl _, 0, rfl, by omega, Own.nil _ _ _⟩, ?_⟩
  rintro li _ _ _ _ _ _ _ _ _ _ _ _ st3 ⟨rfl, rfl, rfl, rfl, rfl, rfl, rfl, e3, p, rfl, hp, hli⟩
  rw [hr.lenZ, tn]
  refine ⟨⟨by omega, by omega⟩, need_intro hp1 (optK_intro (hld _) (need_intro hu.isSl ?_))⟩
  rw [hu.lenS]
  refine BIf_intro (fun g2 => ?_) fun g2 => ?_
  · have hlt2 : p < ents.length := by omega
    have hget2 := List.getElem?_eq_getElem hlt2
    generalize ents[p] = en at hget2
    have hef := hents en (mem_of_get hget2)
    obtain ⟨hp2, ec, w, zs, hec, hld2, hw, hz, hw3⟩ := kid_fld hu hy hget2
    obtain ⟨w', zs', rfl, hw', hpos, hwl, hwp⟩ := ent_ld hef hec
    simp only [List.getElem?_cons_succ, List.getElem?_cons_zero, Option.some.injEq] at hw3
    subst hw3
    refine ⟨⟨by omega, by omega⟩, need_intro hp1 (optK_intro (hld _) ?_)⟩
    rw [hu.lenZ, tn]
    refine ⟨⟨by omega, by omega⟩, need_intro hp2 (optK_intro (hld2 _) ?_)⟩
    rw [hw.lenZ]
    refine ⟨⟨by omega, by omega⟩, need_intro hwp (optK_intro (hwl _) (decT_str ?_))⟩
    have hcl := hrk.2 en (mem_of_get hget2)
    have hcw : CellW q (entC en) := by
      obtain ⟨c, mark, rfl, hcw, _⟩ := hef
      exact hcw
    refine BIf_intro (fun g3 => ⟨⟨by omega, ?_⟩, ?_⟩) fun g3 => ?_
    · cases hce : entC en with
      | nil => exact absurd hce g3
      | cons b l => simp
    · have hqb : quotedB q (entC en) = decide (((List.getD (entC en) (Int.toNat 0) 0).toNat : Int) = q) := by
        unfold quotedB
        refine decide_eq_decide.2 ⟨fun h => ?_, fun h => ?_⟩
        · exact Decidable.byContradiction fun hh => h (.inr hh)
        · rintro (h2 | h2)
          · exact g3 h2
          · exact h2 h
      rw [← hqb]
      refine appK_own e3 rfl hli (by omega) (fun h => by cases h) fun v5 st5 e5 _ o5 => ?_
      rw [w1 p (by omega)]
      refine ⟨⟨rfl, rfl, rfl, rfl, rfl, rfl, rfl, e5, p + 1, rfl, by omega, ?_⟩, by dsimp only; omega⟩
      rw [List.take_add_one, hget2]
      simpa using o5
    · have hqb : quotedB q (entC en) = false := by
        unfold quotedB
        exact decide_eq_false fun h => h (.inl (Decidable.not_not.1 g3))
      rw [← hqb]
      refine appK_own e3 rfl hli (by omega) (fun h => by cases h) fun v5 st5 e5 _ o5 => ?_
      rw [w1 p (by omega)]
      refine ⟨⟨rfl, rfl, rfl, rfl, rfl, rfl, rfl, e5, p + 1, rfl, by omega, ?_⟩, by dsimp only; omega⟩
      rw [List.take_add_one, hget2]
      simpa using o5
  · have hpe : p = ents.length := by omega
    rw [hpe, List.take_of_length_le (by omega)] at hli
    refine need_intro (one1 hli.rd.one) (need_intro (one1 hli.rd.one) ?_)
    refine (hg.ext e3).add (e2.trans e3) (row := ents.map fun k => quotedB q (entC k)) (by unfold RowR; rw [List.length_map]; exact hli.rd) (by simp only [cellsT, List.length_map, List.length_take]; omega) fun v' st' e' hg' => ?_
    rw [w1 j (by omega)]
    refine ⟨⟨rfl, rfl, rfl, rfl, rfl, e', j + 1, rfl, by omega, ?_⟩, by dsimp only; omega⟩
    rw [List.take_add_one, hget]
    simpa [cellsT, kidsOf] using hg'
end
end Go.TVF
end

section
set_option linter.unusedVariables false
set_option linter.unusedSimpArgs false
namespace Go.TVF
open Go Go.Proofs
def quoteV (a q : Int) (s : List UInt8) : Except Int (List UInt8) := if dOk a q = false then .error 1 else if vlen s = s.length then .ok (quoC a q s) else .error 5
def xT : Except Int (List UInt8) → List UInt8 | .ok t => t | .error _ => []
def xE : Except Int (List UInt8) → Int | .ok _ => 0 | .error e => e
theorem dOk_inv {a q : Int} (h : dOk a q = true) : (a = 9 ∨ (32 ≤ a ∧ a ≤ 126)) ∧ 33 ≤ q ∧ q ≤ 126 ∧ a ≠ q := by
  unfold dOk at h
  exact (of_decide_eq_true h).1
theorem needQ_take {a q : Int} {s : List UInt8} {j : Nat} (h : j < s.length) : needQ a q (s.take (j + 1)) = (needQ a q (s.take j) || decide (by_ s j = a ∨ by_ s j = q ∨ by_ s j = 10 ∨ by_ s j = 13)) := by
  unfold needQ
  rw [getD_take s j 0 h, List.any_append]
  simp only [List.any_cons, List.any_nil, Bool.or_false]
  rfl
theorem needQ_mem {a q : Int} {s : List UInt8} {j : Nat} (h : j < s.length) (hb : by_ s j = a ∨ by_ s j = q ∨ by_ s j = 10 ∨ by_ s j = 13) : needQ a q s = true := by
  unfold needQ
  rw [List.any_eq_true]
  refine ⟨s.getD j 0, ?_, decide_eq_true hb⟩
  rw [List.getD_eq_getElem?_getD, List.getElem?_eq_getElem h]
  exact List.getElem_mem h
theorem dbl_len (c : UInt8) : ∀ t : List UInt8, (dbl c t).length ≤ 2 * t.length
  | [] => by simp [dbl]
  | b :: t => by
    have := dbl_len c t
    rw [dbl_cons, List.length_append, List.length_cons]
    split <;> simp <;> omega
theorem quoC_len (a q : Int) (s : List UInt8) : (quoC a q s).length ≤ 2 * s.length + 2 := by
  unfold quoC
  split
  · have := dbl_len (UInt8.ofNat q.toNat) s
    simp; omega
  · omega
section
variable {a q : Int} {hd ty : Bool} {st : St}
theorem pquote_ok {s : List UInt8} {K : List UInt8 → Int → St → Prop} (hl : s.length ≤ 2000000) (hk : K (xT (quoteV a q s)) (xE (quoteV a q s)) st) :
    CallT PR fn_delim_Quote [.str s, .agg [.int .u8 a, .int .u8 q, .bool hd, .bool ty]] [.one .str, .one (.int .i64)] st K := by
  have tn : ∀ k : Nat, Int.toNat (k : Int) = k := fun k => rfl
  have w1 : ∀ k : Nat, k ≤ 100000000 → IntKind.i64.wrap ((k : Int) + 1) = ((k + 1 : Nat) : Int) := fun k hk => by rw [wrap64 _ (by omega) (by omega)]; omega
  unfold quoteV at hk
  refine vc_delim_Quote s a q hd ty st K (dvalid_ok (BIf_bool (fun g => ?_) fun g => ?_))
  · rw [if_pos (by simpa using g)] at hk; exact hk
  have gd : dOk a q = true := by simpa using g
  rw [if_neg (by rw [gd]; decide)] at hk
  have hdk := dOk_inv gd
  refine uValid_ok hl (BIf_bool (fun g => ?_) fun g => ?_)
  · rw [if_neg (by simpa using g)] at hk; exact hk
  rw [if_pos (by simpa using g)] at hk
  have hqn := ofNat_q (q := q) (by omega) (by omega)
  generalize hc : UInt8.ofNat q.toNat = c at hqn
  refine optK_intro (toBytes_q st c hqn) (decT_str ?_)
  refine ⟨fun i s' q' n1 n2 b1 b2 st' => s = s' ∧ [c] = q' ∧ a = n1 ∧ q = n2 ∧ hd = b1 ∧ ty = b2 ∧ st = st' ∧ ∃ j : Nat, i = (j : Int) ∧ j ≤ s.length ∧ needQ a q (s.take j) = false,
    fun i _ _ _ _ _ _ _ => (s.length - i).toNat, ⟨rfl, rfl, rfl, rfl, rfl, rfl, rfl, 0, rfl, by omega, rfl⟩, ?_⟩
  rintro _ _ _ _ _ _ _ _ ⟨rfl, rfl, rfl, rfl, rfl, rfl, rfl, j, rfl, hj, hnq⟩
  rw [tn]
  refine BIf_intro (fun g1 => ⟨⟨by omega, by omega⟩, ?_⟩) fun g1 => ?_
  · have fin : needQ a q s = true → CallT PR fn_strings_ReplaceAll [.str s, .str [c], .str ([c] ++ [c])] [.one .str] st fun s4 st6 => (([c].length + s4.length ≤ 9223372036854775807) ∧ ((([c] ++ s4).length + [c].length ≤ 9223372036854775807) ∧ K ([c] ++ s4 ++ [c]) 0 st6)) := fun hn => by
      refine replaceAll_ok (by simp) (by omega) ?_
      have hdl := dbl_len c s
      unfold dbl at hdl
      refine ⟨by simp only [List.length_cons, List.length_nil]; omega, by simp only [List.length_append, List.length_cons, List.length_nil]; omega, ?_⟩
      unfold quoC at hk
      rw [if_pos hn, hc] at hk
      exact hk
    refine BIf_intro (fun q1 => ⟨by simp, fin (needQ_mem (j := j) (by omega) (.inl q1))⟩) fun q1 => BIf_intro (fun q2 => ⟨by simp, fin (needQ_mem (j := j) (by omega) (.inr (.inl q2)))⟩) fun q2 => BIf_intro (fun q3 => ⟨by simp, fin (needQ_mem (j := j) (by omega) (.inr (.inr (.inl q3))))⟩) fun q3 =>
      BIf_intro (fun q4 => ⟨by simp, fin (needQ_mem (j := j) (by omega) (.inr (.inr (.inr q4))))⟩) fun q4 => ?_
    rw [w1 j (by omega)]
    refine ⟨⟨rfl, rfl, rfl, rfl, rfl, rfl, rfl, j + 1, rfl, by omega, ?_⟩, by dsimp only; omega⟩
    rw [needQ_take (by omega), hnq, Bool.false_or]
    exact decide_eq_false (by rintro (h | h | h | h); exact q1 h; exact q2 h; exact q3 h; exact q4 h)
  · rw [List.take_of_length_le (by omega)] at hnq
    unfold quoC at hk
    rw [if_neg (by rw [hnq]; decide)] at hk
    exact hk
theorem inQuotes_ok {s : List UInt8} {c : UInt8} {K : List UInt8 → St → Prop} (hc : (c.toNat : Int) = q) (hl : s.length ≤ 2000000) (hk : K (c :: (dbl c s ++ [c])) st) :
    CallT PR fn_datakitref27_InQuotes [.str s, .agg [.int .u8 a, .int .u8 q, .bool hd, .bool ty]] [.one .str] st K := by
  have tn : ∀ k : Nat, Int.toNat (k : Int) = k := fun k => rfl
  have w1 : ∀ k : Nat, k ≤ 100000000 → IntKind.i64.wrap ((k : Int) + 1) = ((k + 1 : Nat) : Int) := fun k hk => by rw [wrap64 _ (by omega) (by omega)]; omega
  refine vc_datakitref27_InQuotes s a q hd ty st K (optK_intro (toBytes_q st c hc) (decT_str ?_))
  refine ⟨fun out i s' q' n1 n2 b1 b2 st' => s = s' ∧ [c] = q' ∧ a = n1 ∧ q = n2 ∧ hd = b1 ∧ ty = b2 ∧ st = st' ∧ ∃ j : Nat, i = (j : Int) ∧ j ≤ s.length ∧ out = c :: dbl c (s.take j),
    fun _ i _ _ _ _ _ _ _ => (s.length - i).toNat, ⟨rfl, rfl, rfl, rfl, rfl, rfl, rfl, 0, rfl, by omega, rfl⟩, ?_⟩
  rintro _ _ _ _ _ _ _ _ _ ⟨rfl, rfl, rfl, rfl, rfl, rfl, rfl, j, rfl, hj, rfl⟩
  have hdl := dbl_len c (s.take j)
  rw [List.length_take] at hdl
  refine BIf_intro (fun g1 => ?_) fun g1 => ?_
  · have hlt : j < s.length := by omega
    rw [w1 j (by omega), tn, tn, show List.drop j (List.take (j + 1) s) = [s.getD j 0] from slc_one hlt]
    have hst := getD_take s j 0 hlt
    refine ⟨⟨by omega, by omega, by omega⟩, by simp only [List.length_cons, List.length_nil]; omega, ⟨by omega, by omega⟩, BIf_intro (fun g2 => ⟨by simp only [List.length_cons, List.length_append, List.length_nil]; omega, ?_⟩) fun g2 => ?_⟩
    · have hb : s.getD j 0 = c := UInt8.toNat_inj.1 (by omega)
      refine ⟨⟨rfl, rfl, rfl, rfl, rfl, rfl, rfl, j + 1, rfl, by omega, ?_⟩, by dsimp only; omega⟩
      rw [hst, dbl_app, hb]; simp [dbl, sub1]
    · have hb : s.getD j 0 ≠ c := fun h => g2 (by rw [h]; exact hc)
      refine ⟨⟨rfl, rfl, rfl, rfl, rfl, rfl, rfl, j + 1, rfl, by omega, ?_⟩, by dsimp only; omega⟩
      have h1 : dbl c [s.getD j 0] = [s.getD j 0] := by
        simp only [dbl, List.flatMap_cons, List.flatMap_nil, sub1, List.append_nil]
        rw [if_neg hb]
      rw [hst, dbl_app, h1]; rfl
  · rw [List.take_of_length_le (by omega)]
    have hdl2 := dbl_len c s
    refine ⟨?_, hk⟩
    rw [List.take_of_length_le (by omega)] at hdl
    simp only [List.length_cons, List.length_nil]; omega
theorem rquoteC_ok {s : List UInt8} {K : List UInt8 → Int → St → Prop} (hl : s.length ≤ 2000000) (hk : ∀ st', StExt st st' → K (xT (quoteV a q s)) (xE (quoteV a q s)) st') :
    CallT PR fn_datakitref27_Quote [.str s, .agg [.int .u8 a, .int .u8 q, .bool hd, .bool ty]] [.one .str, .one (.int .i64)] st K := by
  have tn : ∀ k : Nat, Int.toNat (k : Int) = k := fun k => rfl
  have w1 : ∀ k : Nat, k ≤ 100000000 → IntKind.i64.wrap ((k : Int) + 1) = ((k + 1 : Nat) : Int) := fun k hk => by rw [wrap64 _ (by omega) (by omega)]; omega
  unfold quoteV at hk
  refine vc_datakitref27_Quote s a q hd ty st K (rdvalid_ok (BIf_bool (fun g => ?_) fun g => ?_))
  · rw [if_pos (by simpa using g)] at hk; exact hk st (StExt.refl _)
  have gd : dOk a q = true := by simpa using g
  rw [if_neg (by rw [gd]; decide)] at hk
  have hdk := dOk_inv gd
  refine rvalid_ok hl fun st1 e1 => BIf_bool (fun g => ?_) fun g => ?_
  · rw [if_neg (by simpa using g)] at hk; exact hk st1 e1
  rw [if_pos (by simpa using g)] at hk
  have hqn := ofNat_q (q := q) (by omega) (by omega)
  generalize hc : UInt8.ofNat q.toNat = c at hqn
  refine ⟨fun i s' n1 n2 b1 b2 st' => s = s' ∧ a = n1 ∧ q = n2 ∧ hd = b1 ∧ ty = b2 ∧ st1 = st' ∧ ∃ j : Nat, i = (j : Int) ∧ j ≤ s.length ∧ needQ a q (s.take j) = false,
    fun i _ _ _ _ _ _ => (s.length - i).toNat, ⟨rfl, rfl, rfl, rfl, rfl, rfl, 0, rfl, by omega, rfl⟩, ?_⟩
  rintro _ _ _ _ _ _ _ ⟨rfl, rfl, rfl, rfl, rfl, rfl, j, rfl, hj, hnq⟩
  rw [tn]
  refine BIf_intro (fun g1 => ⟨⟨by omega, by omega⟩, ?_⟩) fun g1 => ?_
  · have fin : needQ a q s = true → CallT PR fn_datakitref27_InQuotes [.str s, .agg [.int .u8 a, .int .u8 q, .bool hd, .bool ty]] [.one .str] st1 fun s4 st6 => K s4 0 st6 := fun hn => by
      refine inQuotes_ok hqn hl ?_
      have := hk st1 e1
      unfold quoC at this
      rw [if_pos hn, hc] at this
      exact this
    refine BIf_intro (fun q1 => fin (needQ_mem (j := j) (by omega) (.inl q1))) fun q1 => ⟨⟨by omega, by omega⟩, BIf_intro (fun q2 => fin (needQ_mem (j := j) (by omega) (.inr (.inl q2)))) fun q2 => ⟨⟨by omega, by omega⟩, BIf_intro (fun q3 => fin (needQ_mem (j := j) (by omega) (.inr (.inr (.inl q3))))) fun q3 =>
      ⟨⟨by omega, by omega⟩, BIf_intro (fun q4 => fin (needQ_mem (j := j) (by omega) (.inr (.inr (.inr q4))))) fun q4 => ?_⟩⟩⟩
    rw [w1 j (by omega)]
    refine ⟨⟨rfl, rfl, rfl, rfl, rfl, rfl, j + 1, rfl, by omega, ?_⟩, by dsimp only; omega⟩
    rw [needQ_take (by omega), hnq, Bool.false_or]
    exact decide_eq_false (by rintro (h | h | h | h); exact q1 h; exact q2 h; exact q3 h; exact q4 h)
  · rw [List.take_of_length_le (by omega)] at hnq
    have := hk st1 e1
    unfold quoC at this
    rw [if_neg (by rw [hnq]; decide)] at this
    exact this
end
end Go.TVF
end

section
set_option linter.unusedVariables false
set_option linter.unusedSimpArgs false
namespace Go.TVF
open Go Go.Proofs
theorem Bld.ext {st0 st st' : St} {b : Nat} {buf : List UInt8} (h : Bld st0 b st buf) (e : StExt st st') : Bld st0 b st' buf := by
  obtain ⟨e0, h1, h2, h3, p, v, hb, hp, hv⟩ := h
  refine ⟨e0.trans e, h1, Nat.lt_of_lt_of_le h2 e.nb, by rw [e.bt b h2]; exact h3, p, v, by rw [e.box b h2]; exact hb, hp, ?_⟩
  rcases hv with hv | ⟨id, rfl, n1, n2, n3, n4, n5⟩
  · exact .inl hv
  · exact .inr ⟨id, rfl, n1, n2, Nat.lt_of_lt_of_le n3 e.nt, by rw [e.live id n3]; exact n4, by rw [e.ty id n3]; exact n5⟩
theorem writeByte_ok {st0 st : St} {b : Nat} {buf : List UInt8} {C : Int} {c : UInt8} {K : TV → St → Prop} (hC : (c.toNat : Int) = C) (h : Bld st0 b st buf) (hl : buf.length + 1 ≤ 140737488355328) (hk : ∀ st', Bld st0 b st' (buf ++ [c]) → K .nilIface st') :
    CallT PR fn_strings_Builder_WriteByte [.box b 0, .int .u8 C] [.one .tv] st K := by
  subst hC
  refine vc_strings_Builder_WriteByte b _ st K (copyCheck_ok h fun st1 h1 => ?_)
  obtain ⟨e, a1, a2, a3, p, v, hb, hp, hv⟩ := h1
  refine optK_intro (x := v) (by simp [ldCell, hb]) ?_
  have hbt : [TV.int .u8 (c.toNat : Int)] = bytesT [c] := rfl
  rw [hbt]
  rcases hv with ⟨rfl, rfl⟩ | ⟨id, rfl, n1, n2, n3, n4, n5⟩
  · simp only [appK, Nat.zero_add, Nat.mul_one]
    refine need_intro (by decide) (need_intro rfl ⟨_, hb, by simp, hk _ ?_⟩)
    exact ⟨(e.fresh _).put a1 _, a1, a2, a3, p, _, box_put _ _ _, hp, .inr ⟨st1.nt, rfl, by simp, e.nt, by simp [St.put, St.fresh], by simp [St.put, St.fresh], by simp [St.put, St.fresh]⟩⟩
  · simp only [appK, Nat.beq_refl, Nat.mul_one]
    refine ⟨hl, n4, need_intro rfl ⟨_, hb, by simp, hk _ ?_⟩⟩
    refine ⟨((e.retire n2).fresh _).put a1 _, a1, a2, a3, p, _, box_put _ _ _, hp, .inr ⟨st1.nt, ?_, by simp [n1], e.nt, by simp [St.put, St.fresh, St.retire], by simp [St.put, St.fresh, St.retire], by simp [St.put, St.fresh, St.retire, n5, tyJoin]⟩⟩
    rw [List.length_append, ← bytesT_append]; rfl
theorem builderLen_ok {st0 st : St} {b : Nat} {buf : List UInt8} {K : Int → St → Prop} (h : Bld st0 b st buf) (hk : K (buf.length : Nat) st) : CallT PR fn_strings_Builder_Len [.box b 0] [.one (.int .i64)] st K := by
  obtain ⟨e, h1, h2, h3, p, v, hb, hp, hv⟩ := h
  refine vc_strings_Builder_Len b st K (optK_intro (x := v) (by simp [ldCell, hb]) ?_)
  rcases hv with ⟨rfl, rfl⟩ | ⟨id, rfl, n1, n2, n3, n4, n5⟩
  · exact need_intro rfl hk
  · exact need_intro rfl hk
/-- Cells with separators. -/
def lineP (a q : Int) : List (List UInt8) → List UInt8
  | [] => []
  | [c] => quoC a q c
  | c :: r => quoC a q c ++ UInt8.ofNat a.toNat :: lineP a q r
theorem lineT_eq (a q : Int) : ∀ cs, lineT a q cs = lineP a q cs ++ [10]
  | [] => rfl
  | [c] => rfl
  | c :: d :: r => by simp only [lineT, lineP]; rw [lineT_eq a q (d :: r)]; simp
theorem lineP_snoc (a q : Int) (c : List UInt8) : ∀ cs, lineP a q (cs ++ [c]) = if cs = [] then quoC a q c else lineP a q cs ++ UInt8.ofNat a.toNat :: quoC a q c
  | [] => rfl
  | [d] => by simp [lineP]
  | d :: f :: r => by
    have := lineP_snoc a q c (f :: r)
    simp only [List.cons_append] at this ⊢
    simp only [lineP]
    rw [this, if_neg (by simp), if_neg (by simp)]
    simp
theorem lineP_take (a q : Int) {cs : List (List UInt8)} {j : Nat} {c : List UInt8} (h : cs[j]? = some c) : lineP a q (cs.take (j + 1)) = if j = 0 then quoC a q c else lineP a q (cs.take j) ++ UInt8.ofNat a.toNat :: quoC a q c := by
  have hlt := (List.getElem?_eq_some_iff.1 h).1
  rw [List.take_add_one, h]
  simp only [Option.toList_some]
  rw [lineP_snoc]
  by_cases hj : j = 0
  · subst hj; simp
  · rw [if_neg hj, if_neg]
    intro h0
    have := congrArg List.length h0
    rw [List.length_take, List.length_nil] at this
    omega
def allV (cs : List (List UInt8)) : Bool := cs.all fun c => decide (vlen c = c.length)
def lineV (a q : Int) (cs : List (List UInt8)) : Except Int (List UInt8) := if dOk a q = false then .error 1 else if cs = [] then .error 1 else if allV cs then .ok (lineT a q cs) else .error 5
/-- How long cells are, in all. -/
def sumL (cs : List (List UInt8)) : Nat := match cs with | [] => 0 | c :: r => c.length + sumL r
theorem sumL_take (cs : List (List UInt8)) {j : Nat} {c : List UInt8} (h : cs[j]? = some c) : sumL (cs.take (j + 1)) = sumL (cs.take j) + c.length ∧ sumL (cs.take (j + 1)) ≤ sumL cs := by
  induction cs generalizing j with
  | nil => simp at h
  | cons d r ih =>
    cases j with
    | zero => simp only [List.getElem?_cons_zero, Option.some.injEq] at h; subst h; simp [sumL]
    | succ j =>
      have := ih (j := j) (by simpa using h)
      simp only [List.take_succ_cons, sumL]; omega
theorem lineP_len (a q : Int) : ∀ cs, (lineP a q cs).length ≤ 2 * sumL cs + 3 * cs.length
  | [] => by simp [lineP]
  | [c] => by have := quoC_len a q c; simp [lineP, sumL]; omega
  | c :: d :: r => by
    have h1 := quoC_len a q c
    have h2 := lineP_len a q (d :: r)
    simp only [lineP, List.length_append, List.length_cons, sumL] at h2 ⊢
    omega
theorem allV_take {cs : List (List UInt8)} {j : Nat} {c : List UInt8} (h : cs[j]? = some c) : allV (cs.take (j + 1)) = (allV (cs.take j) && decide (vlen c = c.length)) := by
  unfold allV
  rw [List.take_add_one, h, List.all_append]
  simp
theorem allV_not {cs : List (List UInt8)} {j : Nat} {c : List UInt8} (h : cs[j]? = some c) (hv : ¬ vlen c = c.length) : allV cs = false := by
  cases hb : allV cs with
  | false => rfl
  | true =>
    unfold allV at hb
    have := List.all_eq_true.1 hb c (List.mem_of_getElem? h)
    exact absurd (of_decide_eq_true this) hv
section
variable {a q : Int} {hd ty : Bool} {st : St}
theorem pline_ok {v : TV} {cs : List (List UInt8)} {K : List UInt8 → Int → St → Prop} (hr : RowR TV.str v cs) (hl : sumL cs ≤ 1000000) (hn : cs.length ≤ 1000000) (hk : ∀ st', StExt st st' → K (xT (lineV a q cs)) (xE (lineV a q cs)) st') :
    CallT PR fn_delim_Line [v, .agg [.int .u8 a, .int .u8 q, .bool hd, .bool ty]] [.one .str, .one (.int .i64)] st K := by
  have tn : ∀ k : Nat, Int.toNat (k : Int) = k := fun k => rfl
  have w1 : ∀ k : Nat, k ≤ 100000000 → IntKind.i64.wrap ((k : Int) + 1) = ((k + 1 : Nat) : Int) := fun k hk => by rw [wrap64 _ (by omega) (by omega)]; omega
  unfold lineV at hk
  refine vc_delim_Line v a q hd ty st K (dvalid_ok (BIf_bool (fun g => ?_) fun g => ?_))
  · rw [if_pos (by simpa using g)] at hk; exact hk st (StExt.refl _)
  have gd : dOk a q = true := by simpa using g
  rw [if_neg (by rw [gd]; decide)] at hk
  have hdk := dOk_inv gd
  have hab := ofNat_q (q := a) (by omega) (by omega)
  refine need_intro (Rd.isSl hr) ?_
  rw [Rd.lenS hr]
  refine BIf_intro (fun g => ?_) fun g => need_intro (Rd.isSl hr) ?_
  · rw [if_pos (List.eq_nil_of_length_eq_zero (by omega))] at hk; exact hk st (StExt.refl _)
  rw [if_neg (by rintro rfl; simp at g)] at hk
  refine ⟨fun i w v' n n1 n2 b1 b2 st' => v = v' ∧ (cs.length : Int) = n ∧ a = n1 ∧ q = n2 ∧ hd = b1 ∧ ty = b2 ∧ TV.box st.nb 0 = w ∧ ∃ j : Nat, i = (j : Int) ∧ j ≤ cs.length ∧ allV (cs.take j) = true ∧ Bld st st.nb st' (lineP a q (cs.take j)),
    fun i _ _ _ _ _ _ _ _ => (cs.length - i).toNat, ⟨rfl, rfl, rfl, rfl, rfl, rfl, rfl, 0, rfl, by omega, rfl, Bld.new (StExt.refl st)⟩, ?_⟩
  rintro _ _ _ _ _ _ _ _ st2 ⟨rfl, rfl, rfl, rfl, rfl, rfl, rfl, j, rfl, hj, hav, hb⟩
  rw [Rd.lenZ hr, tn]
  have hpl := lineP_len a q (cs.take j)
  rw [List.length_take] at hpl
  refine BIf_intro (fun g1 => ?_) fun g1 => ?_
  · have hlt : j < cs.length := by omega
    have hget := List.getElem?_eq_getElem hlt
    generalize cs[j] = c at hget
    have hs := sumL_take cs hget
    refine ⟨⟨by omega, by omega⟩, optK_intro (hr.ld st2 hget) (decT_str ?_)⟩
    have hq := quoC_len a q c
    have hqv : quoteV a q c = if vlen c = c.length then .ok (quoC a q c) else .error 5 := by unfold quoteV; rw [if_neg (by rw [gd]; decide)]
    rw [w1 j (by omega)]
    refine BIf_intro (fun g2 => ?_) fun g2 => ?_
    · refine writeByte_ok hab hb (by omega) fun st3 hb3 => ?_
      refine pquote_ok (by omega) ?_
      rw [hqv]
      by_cases hv : vlen c = c.length
      · rw [if_pos hv]
        refine BIf_intro (fun h => absurd rfl h) fun _ => writeString_ok hb3 (by simp only [xT, List.length_append, List.length_cons, List.length_nil]; omega) fun st5 hb5 => ?_
        refine ⟨⟨rfl, rfl, rfl, rfl, rfl, rfl, rfl, j + 1, rfl, by omega, by rw [allV_take hget, hav, decide_eq_true hv]; rfl, ?_⟩, by dsimp only; omega⟩
        rw [lineP_take a q hget, if_neg (by omega)]
        simpa [xT] using hb5
      · rw [if_neg hv]
        rw [if_neg (by rw [allV_not hget hv]; decide)] at hk
        exact BIf_intro (fun _ => hk _ hb3.1) fun h => absurd (by decide) h
    · refine pquote_ok (by omega) ?_
      rw [hqv]
      by_cases hv : vlen c = c.length
      · rw [if_pos hv]
        have hj0 : j = 0 := by omega
        subst hj0
        refine BIf_intro (fun h => absurd rfl h) fun _ => writeString_ok hb (by simp only [xT]; omega) fun st5 hb5 => ?_
        refine ⟨⟨rfl, rfl, rfl, rfl, rfl, rfl, rfl, 0 + 1, rfl, by omega, by rw [allV_take hget, hav, decide_eq_true hv]; rfl, ?_⟩, by dsimp only; omega⟩
        rw [lineP_take a q hget, if_pos rfl]
        simpa [xT, lineP] using hb5
      · rw [if_neg hv]
        rw [if_neg (by rw [allV_not hget hv]; decide)] at hk
        exact BIf_intro (fun _ => hk _ hb.1) fun h => absurd (by decide) h
  · have hjl : cs.take j = cs := List.take_of_length_le (by omega)
    have hpl2 := lineP_len a q cs
    rw [hjl] at hav hb
    rw [if_pos hav] at hk
    refine writeByte_ok (c := 10) rfl hb (by omega) fun st3 hb3 => builderString_ok hb3 (by simp only [List.length_append, List.length_cons, List.length_nil]; omega) fun st4 e4 => ?_
    have := hk st4 e4
    rw [lineT_eq] at this
    exact this
theorem rline_ok {v : TV} {cs : List (List UInt8)} {K : List UInt8 → Int → St → Prop} (hr : RowR TV.str v cs) (hl : sumL cs ≤ 1000000) (hn : cs.length ≤ 1000000) (hk : ∀ st', StExt st st' → K (xT (lineV a q cs)) (xE (lineV a q cs)) st') :
    CallT PR fn_datakitref27_Line [v, .agg [.int .u8 a, .int .u8 q, .bool hd, .bool ty]] [.one .str, .one (.int .i64)] st K := by
  have tn : ∀ k : Nat, Int.toNat (k : Int) = k := fun k => rfl
  have w1 : ∀ k : Nat, k ≤ 100000000 → IntKind.i64.wrap ((k : Int) + 1) = ((k + 1 : Nat) : Int) := fun k hk => by rw [wrap64 _ (by omega) (by omega)]; omega
  unfold lineV at hk
  refine vc_datakitref27_Line v a q hd ty st K (rdvalid_ok (BIf_bool (fun g => ?_) fun g => ?_))
  · rw [if_pos (by simpa using g)] at hk; exact hk st (StExt.refl _)
  have gd : dOk a q = true := by simpa using g
  rw [if_neg (by rw [gd]; decide)] at hk
  have hdk := dOk_inv gd
  have hab := ofNat_q (q := a) (by omega) (by omega)
  refine need_intro (Rd.isSl hr) ?_
  rw [Rd.lenS hr]
  refine BIf_intro (fun g => ?_) fun g => ?_
  · rw [if_pos (List.eq_nil_of_length_eq_zero (by omega))] at hk; exact hk st (StExt.refl _)
  rw [if_neg (by rintro rfl; simp at g)] at hk
  refine ⟨fun out i v' n1 n2 b1 b2 st' => v = v' ∧ a = n1 ∧ q = n2 ∧ hd = b1 ∧ ty = b2 ∧ StExt st st' ∧ ∃ j : Nat, i = (j : Int) ∧ j ≤ cs.length ∧ allV (cs.take j) = true ∧ out = lineP a q (cs.take j),
    fun _ i _ _ _ _ _ _ => (cs.length - i).toNat, ⟨rfl, rfl, rfl, rfl, rfl, StExt.refl _, 0, rfl, by omega, rfl, rfl⟩, ?_⟩
  rintro _ _ _ _ _ _ _ st2 ⟨rfl, rfl, rfl, rfl, rfl, e2, j, rfl, hj, hav, rfl⟩
  refine need_intro (Rd.isSl hr) ?_
  rw [Rd.lenS hr, Rd.lenZ hr, tn]
  have hpl := lineP_len a q (cs.take j)
  rw [List.length_take] at hpl
  refine BIf_intro (fun g1 => ?_) fun g1 => ?_
  · have hlt : j < cs.length := by omega
    have hget := List.getElem?_eq_getElem hlt
    generalize cs[j] = c at hget
    have hs := sumL_take cs hget
    refine ⟨⟨by omega, by omega⟩, optK_intro (hr.ld _ hget) (decT_str ?_)⟩
    have hq := quoC_len a q c
    have hqv : quoteV a q c = if vlen c = c.length then .ok (quoC a q c) else .error 5 := by unfold quoteV; rw [if_neg (by rw [gd]; decide)]
    rw [w1 j (by omega)]
    refine rquoteC_ok (by omega) fun st3 e3 => ?_
    rw [hqv]
    by_cases hv : vlen c = c.length
    · rw [if_pos hv]
      refine BIf_intro (fun h => absurd rfl h) fun _ => BIf_intro (fun g2 => ?_) fun g2 => ?_
      · refine optK_intro (toBytes_q st3 _ hab) (decT_str ⟨?_, ?_, ?_⟩)
        · simp only [List.length_cons, List.length_nil]; omega
        · simp only [xT, List.length_append, List.length_cons, List.length_nil]; omega
        refine ⟨⟨rfl, rfl, rfl, rfl, rfl, e2.trans e3, j + 1, rfl, by omega, by rw [allV_take hget, hav, decide_eq_true hv]; rfl, ?_⟩, by dsimp only; omega⟩
        rw [lineP_take a q hget, if_neg (by omega)]
        simp [xT]
      · have hj0 : j = 0 := by omega
        subst hj0
        refine ⟨by simp only [xT]; omega, ⟨rfl, rfl, rfl, rfl, rfl, e2.trans e3, 0 + 1, rfl, by omega, by rw [allV_take hget, hav, decide_eq_true hv]; rfl, ?_⟩, by dsimp only; omega⟩
        rw [lineP_take a q hget, if_pos rfl]
        simp [xT, lineP]
    · rw [if_neg hv]
      rw [if_neg (by rw [allV_not hget hv]; decide)] at hk
      exact BIf_intro (fun _ => hk _ (e2.trans e3)) fun h => absurd (by decide) h
  · have hjl : cs.take j = cs := List.take_of_length_le (by omega)
    have hpl2 := lineP_len a q cs
    rw [hjl] at hav ⊢
    rw [if_pos hav] at hk
    refine ⟨by show _ + 1 ≤ _; omega, ?_⟩
    have := hk st2 e2
    rw [lineT_eq] at this
    exact this
end
end Go.TVF
end

section
set_option linter.unusedVariables false
set_option linter.unusedSimpArgs false
namespace Go.TVF
open Go Go.Proofs
theorem lineV_ok {a q : Int} {cs : List (List UInt8)} {t : List UInt8} (h : lineV a q cs = .ok t) : t = lineT a q cs ∧ allV cs = true ∧ cs ≠ [] ∧ t.length ≤ 2 * sumL cs + 3 * cs.length + 1 := by
  unfold lineV at h
  by_cases h1 : dOk a q = false
  · rw [if_pos h1] at h; cases h
  by_cases h2 : cs = []
  · rw [if_neg h1, if_pos h2] at h; cases h
  by_cases h3 : allV cs = true
  · rw [if_neg h1, if_neg h2, if_pos h3] at h
    cases h
    have h4 := lineP_len a q cs
    refine ⟨rfl, h3, h2, ?_⟩
    rw [lineT_eq]; simp; omega
  · rw [if_neg h1, if_neg h2, if_neg h3] at h; cases h
theorem lineV_err {a q : Int} {cs : List (List UInt8)} {e : Int} (h : lineV a q cs = .error e) : e ≠ 0 := by
  unfold lineV at h
  by_cases h1 : dOk a q = false
  · rw [if_pos h1] at h; cases h; decide
  by_cases h2 : cs = []
  · rw [if_neg h1, if_pos h2] at h; cases h; decide
  by_cases h3 : allV cs = true
  · rw [if_neg h1, if_neg h2, if_pos h3] at h; cases h
  · rw [if_neg h1, if_neg h2, if_neg h3] at h; cases h; decide
def textF (a q : Int) (w : Nat) : List (List (List UInt8)) → Except Int (List UInt8)
  | [] => .ok []
  | r :: rs => if r = [] then .error 1 else if r.length ≠ w then .error 10 else match lineV a q r with
    | .error e => .error e
    | .ok t => match textF a q w rs with
      | .error e => .error e
      | .ok t' => .ok (t ++ t')
def textV (a q : Int) (l : List (List (List UInt8))) : Except Int (List UInt8) := if dOk a q = false then .error 1 else textF a q (l.headD []).length l
/-- The bytes of all cells. -/
def sumG (l : List (List (List UInt8))) : Nat := match l with | [] => 0 | r :: rs => sumL r + sumG rs
def cntG (l : List (List (List UInt8))) : Nat := match l with | [] => 0 | r :: rs => r.length + cntG rs
theorem textF_len (a q : Int) (w : Nat) : ∀ (l : List (List (List UInt8))) {t : List UInt8}, textF a q w l = .ok t → t = textT a q l ∧ t.length ≤ 2 * sumG l + 3 * cntG l + l.length
  | [], t, h => by cases h; exact ⟨rfl, by simp⟩
  | r :: rs, t, h => by
    simp only [textF] at h
    split at h
    · cases h
    split at h
    · cases h
    split at h
    · cases h
    rename_i t1 h1
    split at h
    · cases h
    rename_i t2 h2
    cases h
    have ih := textF_len a q w rs h2
    obtain ⟨rfl, _, _, h3⟩ := lineV_ok h1
    refine ⟨by rw [ih.1]; simp [textT], ?_⟩
    simp only [List.length_append, List.length_cons, sumG, cntG]
    omega
theorem sumG_mem {l : List (List (List UInt8))} {j : Nat} {r : List (List UInt8)} (h : l[j]? = some r) : sumL r ≤ sumG l ∧ r.length ≤ cntG l := by
  induction l generalizing j with
  | nil => simp at h
  | cons d rs ih =>
    cases j with
    | zero => simp only [List.getElem?_cons_zero, Option.some.injEq] at h; subst h; simp [sumG, cntG]
    | succ j =>
      have := ih (j := j) (by simpa using h)
      simp only [sumG, cntG]; omega
/-- What is left to write, beside what is written. -/
def textG (out : List UInt8) (R : Except Int (List UInt8)) : Except Int (List UInt8) := match R with | .error e => .error e | .ok t => .ok (out ++ t)
section
variable {a q : Int} {hd ty : Bool} {st : St}
theorem ptext_ok {v : TV} {l : List (List (List UInt8))} {K : List UInt8 → Int → St → Prop} (hr : GridR TV.str v l) (hl : sumG l ≤ 100000) (hn : cntG l ≤ 100000) (hn2 : l.length ≤ 100000) (hk : ∀ st', StExt st st' → K (xT (textV a q l)) (xE (textV a q l)) st') :
    CallT PR fn_delim_Text [v, .agg [.int .u8 a, .int .u8 q, .bool hd, .bool ty]] [.one .str, .one (.int .i64)] st K := by
  have tn : ∀ k : Nat, Int.toNat (k : Int) = k := fun k => rfl
  have w1 : ∀ k : Nat, k ≤ 100000000 → IntKind.i64.wrap ((k : Int) + 1) = ((k + 1 : Nat) : Int) := fun k hk => by rw [wrap64 _ (by omega) (by omega)]; omega
  generalize hT : textV a q l = T at hk
  unfold textV at hT
  obtain ⟨vs0, hr0⟩ := hr.rd
  refine vc_delim_Text v a q hd ty st K (dvalid_ok (BIf_bool (fun g => ?_) fun g => ?_))
  · rw [if_pos (by simpa using g)] at hT; subst hT; exact hk st (StExt.refl _)
  have gd : dOk a q = true := by simpa using g
  rw [if_neg (by rw [gd]; decide)] at hT
  refine need_intro hr0.isSl ?_
  rw [hr0.lenS]
  refine ⟨fun i rv w v' n n1 n2 b1 b2 st' => v = rv ∧ v = v' ∧ (l.length : Int) = n ∧ a = n1 ∧ q = n2 ∧ hd = b1 ∧ ty = b2 ∧ TV.box st.nb 0 = w ∧ ∃ (j : Nat) (out : List UInt8), i = (j : Int) ∧ j ≤ l.length ∧ Bld st st.nb st' out ∧ textG out (textF a q (l.headD []).length (l.drop j)) = T ∧ out.length ≤ j * 600000,
    fun i _ _ _ _ _ _ _ _ _ => (l.length - i).toNat, ⟨rfl, rfl, rfl, rfl, rfl, rfl, rfl, rfl, 0, [], rfl, by omega, Bld.new (StExt.refl st), ?_, by simp⟩, ?_⟩
  · rw [List.drop_zero, hT]; cases T <;> rfl
  rintro _ _ _ _ _ _ _ _ _ st2 ⟨rfl, rfl, rfl, rfl, rfl, rfl, rfl, rfl, j, out, rfl, hj, hb, hE, ho⟩
  rw [hr0.lenZ, tn]
  refine BIf_intro (fun g1 => ?_) fun g1 => ?_
  · have hlt : j < l.length := by omega
    have hget := List.getElem?_eq_getElem hlt
    have hdrop := List.drop_eq_getElem_cons hlt
    generalize l[j] = r at hget hdrop
    rw [hdrop] at hE
    have hs := sumG_mem hget
    obtain ⟨u, hu1, hu2⟩ := hr.ld st2 hget
    have hget0 : l[0]? = some (l.headD []) := by cases l with | nil => simp at hlt | cons d rs => rfl
    obtain ⟨u0, hu3, hu4⟩ := hr.ld st2 hget0
    simp only [textF] at hE
    refine ⟨⟨by omega, by omega⟩, optK_intro hu1 (need_intro (Rd.isSl hu2) ?_)⟩
    rw [Rd.lenS hu2]
    refine BIf_intro (fun g2 => ?_) fun g2 => need_intro (Rd.isSl hu2) ⟨⟨by omega, by omega⟩, optK_intro hu3 (need_intro (Rd.isSl hu4) ?_)⟩
    · rw [if_pos (List.eq_nil_of_length_eq_zero (by omega))] at hE
      subst hE
      exact hk st2 hb.1
    rw [if_neg (by rintro rfl; simp at g2)] at hE
    rw [Rd.lenS hu4]
    refine BIf_intro (fun g3 => ?_) fun g3 => ?_
    · rw [if_pos (by omega)] at hE
      subst hE
      exact hk st2 hb.1
    rw [if_neg (by omega)] at hE
    refine pline_ok hu2 (by omega) (by omega) fun st3 e3 => ?_
    have hb3 := hb.ext e3
    have hlen : ∀ t, lineV a q r = .ok t → t.length ≤ 2 * sumL r + 3 * r.length + 1 := fun t ht => (lineV_ok ht).2.2.2
    cases hlv : lineV a q r with
    | error e =>
      rw [hlv] at hE
      subst hE
      have he : e ≠ 0 := lineV_err hlv
      exact BIf_intro (fun _ => hk st3 hb3.1) fun h => absurd he h
    | ok t =>
      rw [hlv] at hE
      simp only at hE
      have hlt2 := hlen t hlv
      refine BIf_intro (fun h => absurd rfl h) fun _ => writeString_ok hb3 (by simp only [xT]; omega) fun st4 hb4 => ?_
      rw [w1 j (by omega)]
      refine ⟨⟨rfl, rfl, rfl, rfl, rfl, rfl, rfl, rfl, j + 1, out ++ t, rfl, by omega, hb4, ?_, by rw [List.length_append]; omega⟩, by dsimp only; omega⟩
      rw [← hE]
      cases textF a q (l.headD []).length (l.drop (j + 1)) <;> simp [textG]
  · rw [List.drop_of_length_le (by omega)] at hE
    simp only [textF, textG, List.append_nil] at hE
    have htl : out.length ≤ 1048576 := by
      subst hE
      have h0 : textF a q (l.headD []).length l = .ok out := hT
      have := (textF_len a q _ l h0).2
      omega
    refine builderLen_ok hb (BIf_intro (fun h => absurd h (by omega)) fun _ => ?_)
    refine builderString_ok hb (by omega) fun st4 e4 => ?_
    have := hk st4 e4
    rw [← hE] at this
    exact this
theorem rtext_ok {v : TV} {l : List (List (List UInt8))} {K : List UInt8 → Int → St → Prop} (hr : GridR TV.str v l) (hl : sumG l ≤ 100000) (hn : cntG l ≤ 100000) (hn2 : l.length ≤ 100000) (hk : ∀ st', StExt st st' → K (xT (textV a q l)) (xE (textV a q l)) st') :
    CallT PR fn_datakitref27_Text [v, .agg [.int .u8 a, .int .u8 q, .bool hd, .bool ty]] [.one .str, .one (.int .i64)] st K := by
  have tn : ∀ k : Nat, Int.toNat (k : Int) = k := fun k => rfl
  have w1 : ∀ k : Nat, k ≤ 100000000 → IntKind.i64.wrap ((k : Int) + 1) = ((k + 1 : Nat) : Int) := fun k hk => by rw [wrap64 _ (by omega) (by omega)]; omega
  generalize hT : textV a q l = T at hk
  unfold textV at hT
  obtain ⟨vs0, hr0⟩ := hr.rd
  refine vc_datakitref27_Text v a q hd ty st K (rdvalid_ok (BIf_bool (fun g => ?_) fun g => ?_))
  · rw [if_pos (by simpa using g)] at hT; subst hT; exact hk st (StExt.refl _)
  have gd : dOk a q = true := by simpa using g
  rw [if_neg (by rw [gd]; decide)] at hT
  refine ⟨fun out i v' n1 n2 b1 b2 st' => v = v' ∧ a = n1 ∧ q = n2 ∧ hd = b1 ∧ ty = b2 ∧ StExt st st' ∧ ∃ (j : Nat), i = (j : Int) ∧ j ≤ l.length ∧ textG out (textF a q (l.headD []).length (l.drop j)) = T ∧ out.length ≤ j * 600000,
    fun _ i _ _ _ _ _ _ => (l.length - i).toNat, ⟨rfl, rfl, rfl, rfl, rfl, StExt.refl _, 0, rfl, by omega, ?_, by simp⟩, ?_⟩
  · rw [List.drop_zero, hT]; cases T <;> rfl
  rintro out _ _ _ _ _ _ st2 ⟨rfl, rfl, rfl, rfl, rfl, e2, j, rfl, hj, hE, ho⟩
  refine need_intro hr0.isSl ?_
  rw [hr0.lenS, hr0.lenZ, tn]
  refine BIf_intro (fun g1 => ?_) fun g1 => ?_
  · have hlt : j < l.length := by omega
    have hget := List.getElem?_eq_getElem hlt
    have hdrop := List.drop_eq_getElem_cons hlt
    generalize l[j] = r at hget hdrop
    rw [hdrop] at hE
    have hs := sumG_mem hget
    obtain ⟨u, hu1, hu2⟩ := hr.ld st2 hget
    have hget0 : l[0]? = some (l.headD []) := by cases l with | nil => simp at hlt | cons d rs => rfl
    obtain ⟨u0, hu3, hu4⟩ := hr.ld st2 hget0
    obtain ⟨u5, hu5, hu6⟩ := hr.ld blindSt hget
    simp only [textF] at hE
    refine ⟨⟨by omega, by omega⟩, optK_intro hu1 (need_intro (Rd.isSl hu2) ?_)⟩
    rw [Rd.lenS hu2]
    have fin : (r = [] ∨ r.length = (l.headD []).length) → CallT PR fn_datakitref27_Line [u5, .agg [.int .u8 a, .int .u8 q, .bool hd, .bool ty]] [.one .str, .one (.int .i64)] st2 (fun s2 n4 st4 => BIf (decide (n4 ≠ 0)) (K [] n4 st4) (out.length + s2.length ≤ 9223372036854775807 ∧
        (v = v ∧ a = a ∧ q = q ∧ hd = hd ∧ ty = ty ∧ StExt st st4 ∧ ∃ (j' : Nat), IntKind.i64.wrap ((j : Int) + 1) = (j' : Int) ∧ j' ≤ l.length ∧ textG (out ++ s2) (textF a q (l.headD []).length (l.drop j')) = T ∧ (out ++ s2).length ≤ j' * 600000) ∧ (l.length - IntKind.i64.wrap ((j : Int) + 1)).toNat < ((l.length : Int) - (j : Int)).toNat)) := fun hcond => by
      rw [w1 j (by omega)]
      refine rline_ok hu6 (by omega) (by omega) fun st3 e3 => ?_
      have hlen : ∀ t, lineV a q r = .ok t → t.length ≤ 2 * sumL r + 3 * r.length + 1 := fun t ht => (lineV_ok ht).2.2.2
      by_cases hrn : r = []
      · rw [if_pos hrn] at hE
        subst hE
        have hlv : lineV a q r = .error 1 := by unfold lineV; rw [if_neg (by rw [gd]; decide), if_pos hrn]
        rw [hlv]
        exact BIf_intro (fun _ => hk st3 (e2.trans e3)) fun h => absurd (by decide) h
      rw [if_neg hrn, if_neg (by rcases hcond with h | h; exact absurd h hrn; omega)] at hE
      cases hlv : lineV a q r with
      | error e =>
        rw [hlv] at hE
        subst hE
        have he : e ≠ 0 := lineV_err hlv
        exact BIf_intro (fun _ => hk st3 (e2.trans e3)) fun h => absurd he h
      | ok t =>
        rw [hlv] at hE
        simp only at hE
        have hlt2 := hlen t hlv
        refine BIf_intro (fun h => absurd rfl h) fun _ => ⟨by simp only [xT]; omega, ⟨rfl, rfl, rfl, rfl, rfl, e2.trans e3, j + 1, rfl, by omega, ?_, by simp only [xT, List.length_append]; omega⟩, by omega⟩
        rw [← hE]
        cases textF a q (l.headD []).length (l.drop (j + 1)) <;> simp [textG, xT]
    refine BIf_intro (fun g2 => ?_) fun g2 => ⟨⟨by omega, by omega⟩, optK_intro hu5 (fin (.inl (List.eq_nil_of_length_eq_zero (by omega))))⟩
    refine ⟨⟨by omega, by omega⟩, optK_intro hu1 (need_intro (Rd.isSl hu2) ⟨⟨by omega, by omega⟩, optK_intro hu3 (need_intro (Rd.isSl hu4) ?_)⟩)⟩
    rw [Rd.lenS hu2, Rd.lenS hu4]
    refine BIf_intro (fun g3 => ?_) fun g3 => ⟨⟨by omega, by omega⟩, optK_intro hu5 (fin (.inr (by omega)))⟩
    rw [if_neg (by rintro rfl; simp at g2), if_pos (by omega)] at hE
    subst hE
    exact hk st2 e2
  · rw [List.drop_of_length_le (by omega)] at hE
    simp only [textF, textG, List.append_nil] at hE
    have htl : out.length ≤ 1048576 := by
      subst hE
      have h0 : textF a q (l.headD []).length l = .ok out := hT
      have := (textF_len a q _ l h0).2
      omega
    refine BIf_intro (fun h => absurd h (by omega)) fun _ => ?_
    have := hk st2 e2
    rw [← hE] at this
    exact this
end
end Go.TVF
end

section
set_option linter.unusedVariables false
set_option linter.unusedSimpArgs false
namespace Go.TVF
open Go Go.Proofs
theorem vlen_ascii : ∀ l : List UInt8, (l.all fun c => decide (c.toNat < 128)) = true → vlen l = l.length
  | [], _ => vlen_nil
  | c :: l, h => by
    simp only [List.all_cons, Bool.and_eq_true, decide_eq_true_eq] at h
    exact vlen_cons h.1 (vlen_ascii l h.2)
def ndA : Nd := .mk 1 [] [] [.mk 8 [] [] [.mk 5 [] [] [.mk 2 [] [97] [] [], .mk 11 [] [44] [] []] [], .mk 5 [] [] [.mk 2 [] [34, 98, 32, 34, 34, 99, 34, 34, 44, 32, 100, 34] [] []] []] []] []
theorem docA : docE (xU str28 44 34) true (str28.length + 1) [] 0 1 [] 0 = .ok (kidsOf ndA) := by kernel_rfl
theorem parseA : parseU str28 44 34 true = .ok ndA := by
  have hv : vlen str28 = str28.length := vlen_ascii _ (by decide)
  show parseV (xU str28 44 34) true 1048576 1024 65536 = _
  unfold parseV
  rw [if_neg (by decide), if_neg (by decide), if_neg (by decide), if_neg (by rw [show (xU str28 44 34).s = str28 from rfl, hv]; simp)]
  rw [show docE (xU str28 44 34) true ((xU str28 44 34).s.length + 1) [] 0 1 [] 0 = .ok (kidsOf ndA) from docA]
  rfl
theorem oursA : oursP ndA 44 34 true := by
  have h1 : ntext ndA = str28 := by decide
  refine ⟨?_, ?_⟩
  · unfold chkV
    have : chk ndA 1 0 = .ok 7 := by kernel_rfl
    rw [this]
    decide
  · rw [h1]; exact parseA
theorem lossless {s : List UInt8} {a q : Int} {hd : Bool} {n : Nd} (hl : s.length ≤ 70000) (h : parseU s a q hd = .ok n) : ntext n = s ∧ chkV n = 0 ∧ oursP n a q hd := by
  obtain ⟨rs, rfl, _, _, _, _, _, hr, _⟩ := parseV_inv h
  have ht : ntext (.mk 1 [] [] rs []) = s := by
    have := Recs.text hr (Nat.zero_le _)
    simp only [ntext, List.nil_append, List.append_nil]
    rw [this]; rfl
  have hlen : nlen (.mk 1 [] [] rs []) = s.length := by rw [← ntext_len, ht]
  have hc : chkV (.mk 1 [] [] rs []) = 0 := by
    have hs0 : (xU s a q).s.length = s.length := rfl
    obtain ⟨s', h1, h2, h3⟩ := chkL_recs hr (Nat.zero_le _) (s := 1) (by rw [hs0]; omega)
    have h4 : chk (.mk 1 [] [] rs []) 1 0 = .ok s' := by
      have l1 : leafB 1 = false := by decide
      simp only [chk, l1]
      rw [if_neg (by omega), if_neg (by omega), if_neg (by omega), if_neg (by simp)]
      exact h1
    unfold chkV
    rw [h4]
    simp only
    rw [if_neg (by omega)]
  exact ⟨ht, hc, hc, by rw [ht]; exact h⟩
theorem lineE_ne {s : List UInt8} {i : Nat} {p : Nat × Int} (h : lineE s i = .error p) : p.2 ≠ 0 := by
  obtain ⟨o, c⟩ := p
  rcases lineE_err h with h | h <;> simp [h.2]
theorem entE_ne {x : Cx} {hd : Bool} {i : Nat} {v : Int} {ns : List (List UInt8)} {p : Nat × Int} (h : entE x hd i v ns = .error p) : p.2 ≠ 0 := by
  have hR : ∀ v, entR x hd i v ns = .error p → p.2 ≠ 0 := fun v h => by
    unfold entR at h
    split at h
    · rename_i e he
      cases h
      exact cellE_err (o := p.1) (c := p.2) he
    · rename_i e he
      by_cases h1 : (if hd then 1024 else 65536) < (txt x.q (slc x.s i e)).length
      · rw [if_pos h1] at h; cases h; simp
      · by_cases h2 : hd = true ∧ txt x.q (slc x.s i e) ∈ ns
        · rw [if_neg h1, if_pos h2] at h; cases h; simp
        · rw [if_neg h1, if_neg h2] at h; cases h
  rw [entE_eq] at h
  split at h
  · exact hR v h
  · split at h
    · rename_i e he
      cases h
      exact begE_err (o := p.1) (c := p.2) he
    · exact hR _ h
theorem recE_ne {x : Cx} {num hd : Bool} {wid : Int} : ∀ (n : Nat) {acc : List Nd} {i : Nat} {v : Int} {ns : List (List UInt8)} {p : Nat × Int}, i ≤ x.s.length → x.s.length < i + n → recE x num wid hd n acc i v ns = .error p → p.2 ≠ 0
  | 0, acc, i, v, ns, p, h1, h2, h => by omega
  | n + 1, acc, i, v, ns, p, h1, h2, h => by
    rw [recE_succ] at h
    split at h
    · cases h; simp
    split at h
    · rename_i e he; cases h; exact entE_ne he
    · rename_i e v1 ns1 he
      have hle := entE_le h1 he
      split at h
      · exact recE_ne n (by omega) (by omega) h
      · split at h
        · rename_i e2 he2; cases h; exact lineE_ne he2
        · cases h
theorem recD_ne {x : Cx} {num hd : Bool} {wid : Int} {i : Nat} {v : Int} {ns : List (List UInt8)} {p : Nat × Int} (hi : i ≤ x.s.length) (h : recD x num wid hd i v ns = .error p) : p.2 ≠ 0 := by
  have hK : ∀ v, recK x.s num wid (recE x num wid hd (x.s.length + 1) [] i v ns) = .error p → p.2 ≠ 0 := fun v h => by
    unfold recK at h
    rcases hr : recE x num wid hd (x.s.length + 1) [] i v ns with e | ⟨e, v2, ns2, ks⟩
    · rw [hr] at h; cases h; exact recE_ne _ hi (by omega) hr
    · rw [hr] at h
      simp only at h
      cases hn7 : lineE x.s e with
      | error e2 => rw [hn7] at h; cases h; exact lineE_ne hn7
      | ok n7 =>
        rw [hn7] at h
        simp only at h
        by_cases hw : (ks.length : Int) < (if num then wid else (ks.length : Int))
        · rw [if_pos hw] at h; cases h; simp
        · rw [if_neg hw] at h; cases h
  rw [recD_eq] at h
  split at h
  · exact hK v h
  · split at h
    · rename_i e he; cases h; exact begE_err (o := p.1) (c := p.2) he
    · exact hK _ h
theorem docE_ne {x : Cx} {hdr : Bool} : ∀ (n : Nat) {acc : List Nd} {i : Nat} {v : Int} {ns : List (List UInt8)} {wid : Int} {p : Nat × Int}, i ≤ x.s.length → x.s.length < i + n → docE x hdr n acc i v ns wid = .error p → p.2 ≠ 0
  | 0, acc, i, v, ns, wid, p, h1, h2, h => by omega
  | n + 1, acc, i, v, ns, wid, p, h1, h2, h => by
    rw [docE_succ] at h
    split at h
    · cases h
    split at h
    · rename_i e he; cases h; exact recD_ne h1 he
    · rename_i i' v' ns' r wid' he
      have hle := recD_le (by omega) he
      exact docE_ne n (by omega) (by omega) h
theorem parseV_err {x : Cx} {hd : Bool} {l2 l3 l4 : Int} {p : Nat × Int} (h : parseV x hd l2 l3 l4 = .error p) : p.2 ≠ 0 := by
  unfold parseV at h
  split at h
  · cases h; simp
  split at h
  · cases h; simp
  split at h
  · cases h; simp
  split at h
  · cases h; simp
  split at h
  · rename_i e he; cases h; exact docE_ne _ (by omega) (by omega) he
  · cases h
section
variable {a q : Int} {hd ty : Bool} {st : St}
theorem rdUsual_ok {K : Int → Int → Bool → Bool → St → Prop} (hk : K 44 34 true true st) : CallT PR fn_datakitref27_Usual [] [.agg [.int .u8, .int .u8, .bool, .bool]] st K := vc_datakitref27_Usual st K hk
theorem pdUsual_ok {K : Int → Int → Bool → Bool → St → Prop} (hk : K 44 34 true true st) : CallT PR fn_delim_Usual [] [.agg [.int .u8, .int .u8, .bool, .bool]] st K := vc_delim_Usual st K hk
theorem dawake_ok {K : Bool → St → Prop} (hk : ∀ st', StExt st st' → K true st') : CallT PR fn_datakitlaw27_awake [] [.one .bool] st K := by
  refine vc_datakitlaw27_awake st K (rdUsual_ok (r20Usual_ok ?_))
  refine pparse_ok (x := xU str28 44 34) (by decide) fun k kv st1 e1 hn => ?_
  rw [show parseV (xU str28 44 34) true 1048576 1024 65536 = .ok ndA from parseA] at hn ⊢
  obtain ⟨_, _, _, _, _, h5, ho⟩ := hn.five
  cases h5
  refine need_intro (one5 ho) (precords_ok hn (by decide) (by decide) fun v st2 e2 hg => ?_)
  have ho' : oursP (pN (.ok ndA)) 44 34 true := oursA
  have hcv : cellsV (txt 34) (pN (.ok ndA)) 44 34 true = [[[97], str30]] := by
    unfold cellsV; rw [if_pos ho']; decide
  have hoe : oursE (pN (.ok ndA)) 44 34 true = 0 := by unfold oursE; rw [if_pos ho']
  rw [hcv] at hg
  rw [hoe]
  refine pquote_ok (by decide) ?_
  have hq : quoteV 44 34 str29 = .ok str31 := by
    have hv : vlen str29 = str29.length := vlen_ascii _ (by decide)
    unfold quoteV
    rw [if_neg (by decide), if_pos hv]
    have : quoC 44 34 str29 = str31 := by decide
    rw [this]
  rw [hq]
  obtain ⟨vs, hr⟩ := hg.rd
  obtain ⟨u, hu1, hu2⟩ := hg.ld st2 (i := 0) rfl
  refine BIf_intro (fun _ => BIf_intro (fun _ => need_intro hr.isSl ?_) fun h => absurd rfl h) fun h => absurd rfl h
  rw [hr.lenS, hr.lenZ]
  refine BIf_intro (fun _ => ⟨by decide, optK_intro hu1 (need_intro (Rd.isSl hu2) ?_)⟩) fun h => absurd rfl h
  rw [Rd.lenS hu2]
  refine BIf_intro (fun _ => ⟨by decide, optK_intro hu1 ?_⟩) fun h => absurd rfl h
  rw [Rd.lenZ hu2]
  refine ⟨by decide, optK_intro (hu2.ld st2 (i := 1) rfl) (decT_str ?_)⟩
  exact BIf_intro (fun _ => BIf_intro (fun _ => hk _ (e1.trans e2)) fun h => absurd rfl h) fun h => absurd rfl h
theorem lparses_ok {s : List UInt8} {l0 l1 l2 l3 l4 : Int} {K : Bool → St → Prop} (hk : ∀ st', StExt st st' → K true st') :
    CallT PR fn_datakitlaw27_DelimParses [.str s, .agg [.int .u8 a, .int .u8 q, .bool hd, .bool ty], .agg [.int .i64 l0, .int .i64 l1, .int .i64 l2, .int .i64 l3, .int .i64 l4]] [.one .bool] st K := by
  refine vc_datakitlaw27_DelimParses s a q hd ty l0 l1 l2 l3 l4 st K (BIf_intro (fun _ => dawake_ok hk) fun g => ?_)
  refine pparse_ok (x := ⟨s, a, q, l0, l1⟩) (by show s.length ≤ _; omega) fun k1 kv1 st1 e1 hn1 => ?_
  obtain ⟨_, _, _, _, _, h5, ho1⟩ := hn1.five
  cases h5
  refine need_intro (one5 ho1) (rparse_ok (x := ⟨s, a, q, l0, l1⟩) (by show s.length ≤ _; omega) fun k2 kv2 st2 e2 hn2 => ?_)
  obtain ⟨_, _, _, _, _, h5, ho2⟩ := hn2.five
  cases h5
  refine need_intro (one5 ho2) (rsame_ok _ _ hn1 hn2 (pN_cnt (by show s.length ≤ _; omega)) (fun _ => ?_) fun h => absurd rfl h)
  refine (show BIf true _ _ from BIf_intro (fun _ => BIf_intro (fun _ => dvalid_ok (rdvalid_ok ?_)) fun h => absurd rfl h) fun h => absurd rfl h)
  have : (dOk a q == dOk a q) = true := by simp
  refine BIf_bool (fun _ => pdUsual_ok (rdUsual_ok ?_)) fun h => by rw [this] at h; cases h
  exact (show BIf true _ _ from dawake_ok fun st3 e3 => hk _ ((e1.trans e2).trans e3))
theorem llossless_ok {s : List UInt8} {K : Bool → St → Prop} (hk : ∀ st', StExt st st' → K true st') :
    CallT PR fn_datakitlaw27_DelimLossless [.str s, .agg [.int .u8 a, .int .u8 q, .bool hd, .bool ty]] [.one .bool] st K := by
  have tn : ∀ k : Nat, Int.toNat (k : Int) = k := fun k => rfl
  have w1 : ∀ k : Nat, k ≤ 100000000 → IntKind.i64.wrap ((k : Int) + 1) = ((k + 1 : Nat) : Int) := fun k hk => by rw [wrap64 _ (by omega) (by omega)]; omega
  refine vc_datakitlaw27_DelimLossless s a q hd ty st K (BIf_intro (fun _ => dawake_ok hk) fun g => lUsual_ok ?_)
  refine pparse_ok (x := xU s a q) (by show s.length ≤ _; omega) fun k1 kv1 st1 e1 hn1 => ?_
  have hcn : ncnt (pN (parseU s a q hd)) ≤ 1000000000000000 := pN_cnt (by show s.length ≤ _; omega)
  rw [show parseV (xU s a q) hd 1048576 1024 65536 = parseU s a q hd from rfl] at hn1 ⊢
  cases hP : parseU s a q hd with
  | error e =>
    rw [hP] at hn1 hcn
    obtain ⟨_, _, _, _, _, h5, ho1⟩ := hn1.five
    cases h5
    have he : e.2 ≠ 0 := parseV_err hP
    refine need_intro (one5 ho1) (BIf_intro (fun _ => ?_) fun h => absurd he h)
    have hnil : NdC (.mk 0 [] [] [] []) [.int .i64 0, .str [], .str [], .nilSlice, .str []] := by unfold NdC; exact ⟨_, [], rfl, .inl ⟨rfl, rfl, rfl⟩, KidsC.nil⟩
    exact tsame_ok _ _ hn1 hnil hcn (fun _ => dawake_ok fun st3 e3 => hk _ (e1.trans e3)) fun h => absurd rfl h
  | ok n =>
    rw [hP] at hn1 hcn
    obtain ⟨hL1, hL2, hL3⟩ := lossless (by omega) hP
    obtain ⟨rs, rfl, _, _, _, _, _, hrec, _, W, hW⟩ := parseV_inv hP
    have hlen : nlen (.mk 1 [] [] rs []) = s.length := by rw [← ntext_len, hL1]
    have hn0 := hn1
    unfold pN NdC at hn1
    obtain ⟨kv, xs, h5, hr, hx⟩ := hn1
    cases h5
    refine need_intro (one5 hr.one) (BIf_intro (fun h => absurd rfl h) fun _ => ?_)
    refine precords_ok hn0 (by show nlen (.mk 1 [] [] rs []) ≤ _; omega) hcn fun v st2 e2 hg => ?_
    have hcv : cellsV (txt q) (pN (.ok (.mk 1 [] [] rs []))) a q hd = cellsT (txt q) rs := by unfold cellsV; rw [if_pos (show oursP (pN (.ok (.mk 1 [] [] rs []))) a q hd from hL3)]; rfl
    have hoe : oursE (pN (.ok (.mk 1 [] [] rs []))) a q hd = 0 := by unfold oursE; rw [if_pos (show oursP (pN (.ok (.mk 1 [] [] rs []))) a q hd from hL3)]
    rw [hcv] at hg
    rw [hoe]
    refine BIf_intro (fun h => absurd rfl h) fun _ => tCheck_ok hn0 (by show nlen (.mk 1 [] [] rs []) ≤ _; omega) hcn fun st3 e3 => ?_
    rw [show chkV (pN (.ok (.mk 1 [] [] rs []))) = 0 from hL2]
    refine BIf_intro (fun h => absurd rfl h) fun _ => tprint_ok hn0 (by show nlen (.mk 1 [] [] rs []) ≤ _; omega) hcn fun st4 e4 => ?_
    rw [show ntext (pN (.ok (.mk 1 [] [] rs []))) = s from hL1]
    obtain ⟨vs, hgr⟩ := hg.rd
    have hcl : (cellsT (txt q) rs).length = rs.length := by simp [cellsT]
    rw [hcl] at hgr
    refine BIf_intro (fun h => absurd rfl h) fun _ => need_intro hgr.isSl (need_intro hr.isSl ?_)
    rw [hgr.lenS, hr.lenS]
    have hkc := (kcnt_recs hrec (Nat.zero_le _)).2
    have hkc : rs.length ≤ s.length := hkc
    refine BIf_intro (fun h => absurd rfl h) fun _ => ⟨fun i v' k1 t1 t2 kv' t3 st' => v = v' ∧ kv1 = kv' ∧ StExt st st' ∧ ∃ j : Nat, i = (j : Int) ∧ j ≤ rs.length,
      fun i _ _ _ _ _ _ _ => (rs.length - i).toNat, ⟨rfl, rfl, ((e1.trans e2).trans e3).trans e4, 0, rfl, by omega⟩, ?_⟩
    rintro _ _ _ _ _ _ _ st5 ⟨rfl, rfl, e5, j, rfl, hj⟩
    refine need_intro hgr.isSl ?_
    rw [hgr.lenS, hgr.lenZ, tn]
    refine BIf_intro (fun g1 => ?_) fun g1 => dawake_ok fun st6 e6 => hk _ (e5.trans e6)
    have hlt : j < rs.length := by omega
    have hget := List.getElem?_eq_getElem hlt
    generalize rs[j] = r at hget
    have hrow : (cellsT (txt q) rs)[j]? = some ((kidsOf r).map fun k => txt q (entC k)) := by unfold cellsT; rw [List.getElem?_map, hget]; rfl
    obtain ⟨u, hu1, hu2⟩ := hg.ld st5 hrow
    obtain ⟨r0, hr0⟩ : ∃ r0, rs[0]? = some r0 := ⟨rs[0]'(by omega), List.getElem?_eq_getElem _⟩
    have hrow0 : (cellsT (txt q) rs)[0]? = some ((kidsOf r0).map fun k => txt q (entC k)) := by unfold cellsT; rw [List.getElem?_map, hr0]; rfl
    obtain ⟨u0, hu3, hu4⟩ := hg.ld st5 hrow0
    have hW1 := hW r (mem_of_get hget)
    have hW2 := hW r0 (mem_of_get hr0)
    obtain ⟨ks', t', hrf, hne, _⟩ := hrec.form (Nat.zero_le _) r (mem_of_get hget)
    have hne' : 1 ≤ (kidsOf r).length := by rw [hrf]; exact hne
    refine ⟨⟨by omega, by omega⟩, optK_intro hu1 (need_intro (Rd.isSl hu2) ?_)⟩
    rw [Rd.lenS hu2, List.length_map]
    refine BIf_intro (fun h => absurd h (by omega)) fun _ => ⟨⟨by omega, by omega⟩, optK_intro hu1 (need_intro (Rd.isSl hu2) ⟨⟨by omega, by omega⟩, optK_intro hu3 (need_intro (Rd.isSl hu4) ?_)⟩)⟩
    rw [Rd.lenS hu2, Rd.lenS hu4, List.length_map, List.length_map, hr.lenZ]
    obtain ⟨hp1, rc, w, ys, hrc, hld, hw, _, _⟩ := kid_fld hr hx hget
    refine BIf_intro (fun h => absurd h (by omega)) fun _ => ⟨⟨by omega, by omega⟩, need_intro hp1 (optK_intro (hld _) (need_intro hw.isSl ⟨⟨by omega, by omega⟩, optK_intro hu1 (need_intro (Rd.isSl hu2) ?_)⟩))⟩
    rw [hw.lenS, Rd.lenS hu2, List.length_map, w1 j (by omega)]
    exact BIf_intro (fun h => absurd rfl h) fun _ => ⟨⟨rfl, rfl, e5, j + 1, rfl, by omega⟩, by dsimp only; omega⟩
end
end Go.TVF
end

section
set_option linter.unusedVariables false
set_option linter.unusedSimpArgs false
namespace Go.TVF
open Go Go.Proofs
section
variable {a q : Int} {hd ty : Bool} {st : St}
theorem same_ok {v u : TV} {rows : List (List (List UInt8))} {K : Bool → St → Prop} (hv : GridR TV.str v rows) (hu : GridR TV.str u rows) (hl : rows.length ≤ 100000000) (hl2 : ∀ r ∈ rows, r.length ≤ 100000000) (hk : K true st) :
    CallT PR fn_datakitlaw27_same [v, u] [.one .bool] st K := by
  have tn : ∀ k : Nat, Int.toNat (k : Int) = k := fun k => rfl
  have w1 : ∀ k : Nat, k ≤ 100000000 → IntKind.i64.wrap ((k : Int) + 1) = ((k + 1 : Nat) : Int) := fun k hk => by rw [wrap64 _ (by omega) (by omega)]; omega
  obtain ⟨vs, rv⟩ := hv.rd
  obtain ⟨us, ru⟩ := hu.rd
  refine vc_datakitlaw27_same v u st K (need_intro rv.isSl (need_intro ru.isSl ?_))
  rw [rv.lenS, ru.lenS]
  refine BIf_intro (fun h => absurd rfl h) fun _ => ⟨fun i v' u' st' => v = v' ∧ u = u' ∧ st = st' ∧ ∃ j : Nat, i = (j : Int) ∧ j ≤ rows.length, fun i _ _ _ => (rows.length - i).toNat, ⟨rfl, rfl, rfl, 0, rfl, by omega⟩, ?_⟩
  rintro _ _ _ _ ⟨rfl, rfl, rfl, j, rfl, hj⟩
  refine need_intro rv.isSl ?_
  rw [rv.lenS, rv.lenZ, ru.lenZ, tn]
  refine BIf_intro (fun g => ?_) fun g => hk
  have hlt : j < rows.length := by omega
  have hget := List.getElem?_eq_getElem hlt
  generalize rows[j] = r at hget
  have hrl := hl2 r (List.mem_of_getElem? hget)
  obtain ⟨x, hx1, hx2⟩ := hv.ld st hget
  obtain ⟨y, hy1, hy2⟩ := hu.ld st hget
  refine ⟨⟨by omega, by omega⟩, optK_intro hx1 (need_intro (Rd.isSl hx2) ⟨⟨by omega, by omega⟩, optK_intro hy1 (need_intro (Rd.isSl hy2) ?_)⟩)⟩
  rw [Rd.lenS hx2, Rd.lenS hy2]
  refine BIf_intro (fun h => absurd rfl h) fun _ => ⟨fun k v' u' i st' => v = v' ∧ u = u' ∧ (j : Int) = i ∧ st = st' ∧ ∃ p : Nat, k = (p : Int) ∧ p ≤ r.length, fun k _ _ _ _ => (r.length - k).toNat, ⟨rfl, rfl, rfl, rfl, 0, rfl, by omega⟩, ?_⟩
  rintro _ _ _ _ _ ⟨rfl, rfl, rfl, rfl, p, rfl, hp⟩
  rw [rv.lenZ, ru.lenZ, tn, tn]
  refine ⟨⟨by omega, by omega⟩, optK_intro hx1 (need_intro (Rd.isSl hx2) ?_)⟩
  rw [Rd.lenS hx2]
  refine BIf_intro (fun g2 => ?_) fun g2 => ?_
  · have hlt2 : p < r.length := by omega
    have hget2 := List.getElem?_eq_getElem hlt2
    generalize r[p] = c at hget2
    refine ⟨⟨by omega, by omega⟩, optK_intro hx1 ?_⟩
    rw [Rd.lenZ hx2]
    refine ⟨⟨by omega, by omega⟩, optK_intro (hx2.ld st hget2) (decT_str ⟨⟨by omega, by omega⟩, optK_intro hy1 ?_⟩)⟩
    rw [Rd.lenZ hy2]
    refine ⟨⟨by omega, by omega⟩, optK_intro (hy2.ld st hget2) (decT_str (BIf_intro (fun h => absurd rfl h) fun _ => ?_))⟩
    rw [w1 p (by omega)]
    exact ⟨⟨rfl, rfl, rfl, rfl, p + 1, rfl, by omega⟩, by dsimp only; omega⟩
  · rw [w1 j (by omega)]
    exact ⟨⟨rfl, rfl, rfl, j + 1, rfl, by omega⟩, by dsimp only; omega⟩
theorem cellsV_len {α : Type} (g : List UInt8 → α) (n : Nd) (a q : Int) (hd : Bool) : (cellsV g n a q hd).length ≤ 100000000 ∧ ∀ r ∈ cellsV g n a q hd, r.length ≤ 100000000 := by
  unfold cellsV
  by_cases h : oursP n a q hd
  · rw [if_pos h]
    obtain ⟨rs, rfl, hform, hlen, hrl, hkl⟩ := ours_inv h
    refine ⟨by simp only [cellsT, recsOf, List.length_map]; omega, fun r hr => ?_⟩
    simp only [cellsT, recsOf, List.mem_map] at hr
    obtain ⟨r', hr', rfl⟩ := hr
    rw [List.length_map]
    have := (hkl r' hr').1
    omega
  · rw [if_neg h]; exact ⟨by simp, fun r hr => by simp at hr⟩
theorem lrecords_ok {n : Nd} {cs : List TV} (hc : NdC n cs) {K : Bool → St → Prop} (hk : ∀ st', StExt st st' → K true st') :
    CallT PR fn_datakitlaw27_DelimRecords [.agg cs, .agg [.int .u8 a, .int .u8 q, .bool hd, .bool ty]] [.one .bool] st K := by
  have tn : ∀ k : Nat, Int.toNat (k : Int) = k := fun k => rfl
  have w1 : ∀ k : Nat, k ≤ 100000000 → IntKind.i64.wrap ((k : Int) + 1) = ((k + 1 : Nat) : Int) := fun k hk => by rw [wrap64 _ (by omega) (by omega)]; omega
  obtain ⟨k, l, t, v, tl, rfl, _⟩ := hc.five
  refine vc_datakitlaw27_DelimRecords k l t v tl a q hd ty st K (small_ok hc (BIf_bool (fun g => dawake_ok hk) fun g => ?_))
  have g : 0 ≤ roomV n 600 10 1500 := by simpa using g
  have hcnt := roomV_cnt n (left := 600) (d := 10) (long := 1500) (by decide) g
  have hlen := roomV_len n (left := 600) (d := 10) (long := 1500) (by decide) g
  have hb1 : ncnt n ≤ 1000000000000000 := by omega
  have e1 : roomV n 600 10 ((1500 : Nat) : Int) = roomV n 600 10 1500 := rfl
  rw [e1] at hlen
  have hb2 : nlen n ≤ 100000000000000 := by omega
  refine precords_ok hc hb2 hb1 fun v1 st1 e1 g1 => rrecords_ok hc hb2 hb1 fun v2 st2 e2 g2 => pquotes_ok hc hb2 hb1 fun v3 st3 e3 g3 => rquotes_ok hc hb2 hb1 fun v4 st4 e4 g4 => ?_
  have hcl := cellsV_len (txt q) n a q hd
  have hql := cellsV_len (quotedB q) n a q hd
  have e14 := ((e1.trans e2).trans e3).trans e4
  refine same_ok g1 g2 hcl.1 hcl.2 ?_
  refine (show BIf false _ _ from BIf_intro (fun h => absurd rfl h) fun _ => BIf_intro (fun h => absurd rfl h) fun _ => ?_)
  generalize cellsV (quotedB q) n a q hd = rows at *
  obtain ⟨vs, rv⟩ := g3.rd
  obtain ⟨us, ru⟩ := g4.rd
  refine need_intro rv.isSl (need_intro ru.isSl ?_)
  rw [rv.lenS, ru.lenS]
  refine BIf_intro (fun h => absurd rfl h) fun _ => ⟨fun i v' u' st' => v3 = v' ∧ v4 = u' ∧ st4 = st' ∧ ∃ j : Nat, i = (j : Int) ∧ j ≤ rows.length, fun i _ _ _ => (rows.length - i).toNat, ⟨rfl, rfl, rfl, 0, rfl, by omega⟩, ?_⟩
  rintro _ _ _ _ ⟨rfl, rfl, rfl, j, rfl, hj⟩
  refine need_intro rv.isSl ?_
  rw [rv.lenS, rv.lenZ, ru.lenZ, tn]
  refine BIf_intro (fun g5 => ?_) fun g5 => dawake_ok fun st6 e6 => hk _ (e14.trans e6)
  have hlt : j < rows.length := by omega
  have hget := List.getElem?_eq_getElem hlt
  generalize rows[j] = r at hget
  have hrl := hql.2 r (List.mem_of_getElem? hget)
  obtain ⟨x, hx1, hx2⟩ := g3.ld st4 hget
  obtain ⟨y, hy1, hy2⟩ := g4.ld st4 hget
  refine ⟨⟨by omega, by omega⟩, optK_intro hx1 (need_intro (Rd.isSl hx2) ⟨⟨by omega, by omega⟩, optK_intro hy1 (need_intro (Rd.isSl hy2) ?_)⟩)⟩
  rw [Rd.lenS hx2, Rd.lenS hy2]
  refine BIf_intro (fun h => absurd rfl h) fun _ => ⟨fun k v' u' i st' => v3 = v' ∧ v4 = u' ∧ (j : Int) = i ∧ st4 = st' ∧ ∃ p : Nat, k = (p : Int) ∧ p ≤ r.length, fun k _ _ _ _ => (r.length - k).toNat, ⟨rfl, rfl, rfl, rfl, 0, rfl, by omega⟩, ?_⟩
  rintro _ _ _ _ _ ⟨rfl, rfl, rfl, rfl, p, rfl, hp⟩
  rw [rv.lenZ, ru.lenZ, tn, tn]
  refine ⟨⟨by omega, by omega⟩, optK_intro hx1 (need_intro (Rd.isSl hx2) ?_)⟩
  rw [Rd.lenS hx2]
  refine BIf_intro (fun g2 => ?_) fun g2 => ?_
  · have hlt2 : p < r.length := by omega
    have hget2 := List.getElem?_eq_getElem hlt2
    generalize r[p] = c at hget2
    refine ⟨⟨by omega, by omega⟩, optK_intro hx1 ?_⟩
    rw [Rd.lenZ hx2]
    refine ⟨⟨by omega, by omega⟩, optK_intro (hx2.ld st4 hget2) (decT_bool ⟨⟨by omega, by omega⟩, optK_intro hy1 ?_⟩)⟩
    rw [Rd.lenZ hy2]
    have hbb : (!(c == c)) = false := by simp
    refine ⟨⟨by omega, by omega⟩, optK_intro (hy2.ld st4 hget2) (decT_bool (BIf_bool (fun h => by rw [hbb] at h; cases h) fun _ => ?_))⟩
    rw [w1 p (by omega)]
    exact ⟨⟨rfl, rfl, rfl, rfl, p + 1, rfl, by omega⟩, by dsimp only; omega⟩
  · rw [w1 j (by omega)]
    exact ⟨⟨rfl, rfl, rfl, j + 1, rfl, by omega⟩, by dsimp only; omega⟩
/-- Whether records are few and short. -/
theorem lsmall_ok {v : TV} {l : List (List (List UInt8))} {K : Bool → St → Prop} (hv : GridR TV.str v l) (hk1 : sumG l ≤ 3000 → cntG l ≤ 200 → l.length ≤ 40 → K true st) (hk2 : K false st) :
    CallT PR fn_datakitlaw27_small [v] [.one .bool] st K := by
  have tn : ∀ k : Nat, Int.toNat (k : Int) = k := fun k => rfl
  have w1 : ∀ k : Nat, k ≤ 100000000 → IntKind.i64.wrap ((k : Int) + 1) = ((k + 1 : Nat) : Int) := fun k hk => by rw [wrap64 _ (by omega) (by omega)]; omega
  obtain ⟨vs, rv⟩ := hv.rd
  refine vc_datakitlaw27_small v st K ⟨fun cl by' i v' st' => v = v' ∧ st = st' ∧ ∃ j : Nat, i = (j : Int) ∧ j ≤ l.length ∧ j ≤ 40 ∧ cl = (cntG (l.take j) : Int) ∧ by' = (sumG (l.take j) : Int) ∧ cntG (l.take j) ≤ 200 ∧ sumG (l.take j) ≤ 3000, fun _ _ i _ _ => (l.length - i).toNat, ⟨rfl, rfl, 0, rfl, by omega, by omega, rfl, rfl, by simp [cntG], by simp [sumG]⟩, ?_⟩
  rintro _ _ _ _ _ ⟨rfl, rfl, j, rfl, hj, hj40, rfl, rfl, hc, hs⟩
  refine need_intro rv.isSl ?_
  rw [rv.lenS, rv.lenZ, tn]
  refine BIf_intro (fun g => BIf_intro (fun g2 => hk2) fun g2 => ?_) fun g => ?_
  case' refine_2 =>
    rw [List.take_of_length_le (by omega)] at hc hs
    exact hk1 hs hc (by omega)
  have hlt : j < l.length := by omega
  have hget := List.getElem?_eq_getElem hlt
  generalize l[j] = r at hget
  have hct : cntG (l.take (j + 1)) = cntG (l.take j) + r.length ∧ sumG (l.take (j + 1)) = sumG (l.take j) + sumL r := by
    rw [List.take_add_one, hget]
    generalize l.take j = a
    induction a with
    | nil => simp [cntG, sumG]
    | cons b a ih => simp only [Option.toList_some, List.cons_append, cntG, sumG] at ih ⊢; omega
  obtain ⟨x, hx1, hx2⟩ := hv.ld st hget
  refine ⟨⟨by omega, by omega⟩, optK_intro hx1 (need_intro (Rd.isSl hx2) ?_)⟩
  rw [Rd.lenS hx2, wrap64 (200 - (cntG (l.take j) : Int)) (by omega) (by omega)]
  refine BIf_intro (fun g3 => hk2) fun g3 => ⟨⟨by omega, by omega⟩, optK_intro hx1 (need_intro (Rd.isSl hx2) ?_)⟩
  rw [Rd.lenS hx2, wrap64 ((cntG (l.take j) : Int) + (r.length : Int)) (by omega) (by omega)]
  refine ⟨fun by' k v' cl i st' => v = v' ∧ ((cntG (l.take j) : Int) + (r.length : Int)) = cl ∧ (j : Int) = i ∧ st = st' ∧ ∃ p : Nat, k = (p : Int) ∧ p ≤ r.length ∧ by' = ((sumG (l.take j) + sumL (r.take p) : Nat) : Int) ∧ sumG (l.take j) + sumL (r.take p) ≤ 3000, fun _ k _ _ _ _ => (r.length - k).toNat, ⟨rfl, rfl, rfl, rfl, 0, rfl, by omega, by simp [sumL], by simp [sumL]; omega⟩, ?_⟩
  rintro _ _ _ _ _ _ ⟨rfl, rfl, rfl, rfl, p, rfl, hp, rfl, hps⟩
  rw [rv.lenZ, tn, tn]
  refine ⟨⟨by omega, by omega⟩, optK_intro hx1 (need_intro (Rd.isSl hx2) ?_)⟩
  rw [Rd.lenS hx2]
  refine BIf_intro (fun g4 => ?_) fun g4 => ?_
  · have hlt2 : p < r.length := by omega
    have hget2 := List.getElem?_eq_getElem hlt2
    generalize r[p] = c at hget2
    have hst := sumL_take r hget2
    refine ⟨⟨by omega, by omega⟩, optK_intro hx1 ?_⟩
    rw [Rd.lenZ hx2]
    refine ⟨⟨by omega, by omega⟩, optK_intro (hx2.ld st hget2) (decT_str ?_)⟩
    rw [wrap64 (3000 - ((sumG (l.take j) + sumL (r.take p) : Nat) : Int)) (by omega) (by omega)]
    refine BIf_intro (fun g5 => hk2) fun g5 => ⟨⟨by omega, by omega⟩, optK_intro hx1 ?_⟩
    rw [Rd.lenZ hx2]
    refine ⟨⟨by omega, by omega⟩, optK_intro (hx2.ld st hget2) (decT_str ?_)⟩
    rw [w1 p (by omega), wrap64 _ (by omega) (by omega)]
    exact ⟨⟨rfl, rfl, rfl, rfl, p + 1, rfl, by omega, by omega, by omega⟩, by dsimp only; omega⟩
  · have hpr : r.take p = r := List.take_of_length_le (by omega)
    rw [hpr] at hps ⊢
    rw [w1 j (by omega)]
    exact ⟨⟨rfl, rfl, j + 1, rfl, by omega, by omega, by omega, by omega, by omega, by omega⟩, by dsimp only; omega⟩
end
end Go.TVF
end

section
set_option linter.unusedVariables false
set_option linter.unusedSimpArgs false
namespace Go.TVF
open Go Go.Proofs
theorem textF_all (a q : Int) (w : Nat) : ∀ (l : List (List (List UInt8))) {t : List UInt8}, textF a q w l = .ok t → ∀ r ∈ l, r ≠ [] ∧ r.length = w ∧ allV r = true
  | [], t, h, r, hr => by cases hr
  | d :: rs, t, h, r, hr => by
    simp only [textF] at h
    split at h
    · cases h
    rename_i h1
    split at h
    · cases h
    rename_i h2
    split at h
    · cases h
    rename_i t1 h3
    split at h
    · cases h
    rename_i t2 h4
    rcases List.mem_cons.1 hr with rfl | hr
    · exact ⟨h1, Decidable.not_not.1 h2, (lineV_ok h3).2.1⟩
    · exact textF_all a q w rs h4 r hr
theorem textF_err (a q : Int) (w : Nat) : ∀ (l : List (List (List UInt8))) {e : Int}, textF a q w l = .error e → e ≠ 0
  | [], e, h => by cases h
  | d :: rs, e, h => by
    simp only [textF] at h
    split at h
    · cases h; decide
    split at h
    · cases h; decide
    split at h
    · rename_i e1 h1; cases h; exact lineV_err h1
    split at h
    · rename_i e2 h2; cases h; exact textF_err a q w rs h2
    · cases h
theorem textV_err {a q : Int} {l : List (List (List UInt8))} {e : Int} (h : textV a q l = .error e) : e ≠ 0 := by
  unfold textV at h
  by_cases h1 : dOk a q = false
  · rw [if_pos h1] at h; cases h; decide
  · rw [if_neg h1] at h; exact textF_err a q _ l h
theorem vlen_quoC {a q : Int} (h0 : 0 ≤ q) (h1 : q < 128) {s : List UInt8} (hv : vlen s = s.length) : vlen (quoC a q s) = (quoC a q s).length := by
  have hc := ofNat_q (q := q) h0 (by omega)
  unfold quoC
  split
  · exact vlen_cons (by omega) (vlen_append (vlen_dbl (by omega) _ s (Nat.le_refl _) hv) (vlen_cons (by omega) (by simp [vlen_nil])))
  · exact hv
theorem vlen_lineT {a q : Int} (ha0 : 0 ≤ a) (ha1 : a < 128) (h0 : 0 ≤ q) (h1 : q < 128) : ∀ (cs : List (List UInt8)), allV cs = true → vlen (lineT a q cs) = (lineT a q cs).length
  | [], _ => by simp only [lineT]; exact vlen_cons (by decide) (by simp [vlen_nil])
  | [c], h => by
    unfold allV at h
    simp only [List.all_cons, List.all_nil, Bool.and_true, decide_eq_true_eq] at h
    simp only [lineT]
    exact vlen_append (vlen_quoC h0 h1 h) (vlen_cons (by decide) (by simp [vlen_nil]))
  | c :: d :: r, h => by
    have h' : allV (d :: r) = true := by unfold allV at h ⊢; simp only [List.all_cons, Bool.and_eq_true] at h ⊢; exact h.2
    unfold allV at h
    simp only [List.all_cons, Bool.and_eq_true, decide_eq_true_eq] at h
    have ha := ofNat_q (q := a) ha0 (by omega)
    simp only [lineT]
    exact vlen_append (vlen_quoC h0 h1 h.1) (vlen_cons (by omega) (vlen_lineT ha0 ha1 h0 h1 (d :: r) h'))
theorem vlen_textT {a q : Int} (ha0 : 0 ≤ a) (ha1 : a < 128) (h0 : 0 ≤ q) (h1 : q < 128) : ∀ (l : List (List (List UInt8))), (∀ r ∈ l, allV r = true) → vlen (textT a q l) = (textT a q l).length
  | [], _ => by simp [textT, vlen_nil]
  | r :: rs, h => by
    have : textT a q (r :: rs) = lineT a q r ++ textT a q rs := by simp [textT]
    rw [this]
    exact vlen_append (vlen_lineT ha0 ha1 h0 h1 r (h r (List.mem_cons_self ..))) (vlen_textT ha0 ha1 h0 h1 rs fun r hr => h r (List.mem_cons_of_mem _ hr))
theorem textT_len (a q : Int) : ∀ l : List (List (List UInt8)), (textT a q l).length ≤ 2 * sumG l + 3 * cntG l + l.length
  | [] => by simp [textT]
  | r :: rs => by
    have ih := textT_len a q rs
    have h1 := lineP_len a q r
    have : textT a q (r :: rs) = lineT a q r ++ textT a q rs := by simp [textT]
    rw [this, lineT_eq]
    simp only [List.length_append, List.length_cons, List.length_nil, sumG, cntG]; omega
theorem sumL_mem {cs : List (List UInt8)} {c : List UInt8} (h : c ∈ cs) : c.length ≤ sumL cs := by
  induction cs with
  | nil => cases h
  | cons d r ih =>
    simp only [sumL]
    rcases List.mem_cons.1 h with rfl | h
    · omega
    · have := ih h; omega
theorem costL_of : ∀ (rs : List Nd) (l : List (List (List UInt8))) (f : List UInt8 → List UInt8), rs.map (fun r => (kidsOf r).map entC) = l.map (fun cs => cs.map f) → costL rs = (l.length : Int) + cntG l
  | [], [], f, h => by simp [costL, cntG]
  | [], _ :: _, f, h => by simp at h
  | _ :: _, [], f, h => by simp at h
  | r :: rs, c :: l, f, h => by
    simp only [List.map_cons, List.cons.injEq] at h
    have h1 := congrArg List.length h.1
    rw [List.length_map, List.length_map] at h1
    have ih := costL_of rs l f h.2
    simp only [costL, costR, cntG, List.length_cons]; omega
theorem back {a q : Int} (hd : dOk a q = true) {l : List (List (List UInt8))} {W : Nat} (h : ∀ r ∈ l, r ≠ [] ∧ r.length = W ∧ allV r = true) (hs : sumG l ≤ 3000) (hc : cntG l ≤ 200) (hl : l.length ≤ 40) :
    ∃ rs, parseU (textT a q l) a q false = .ok (.mk 1 [] [] rs []) ∧ cellsT (txt q) rs = l ∧ (textT a q l).length ≤ 10000 := by
  have hk := dOk_inv hd
  have hsp : specB 10 = false := by decide
  have ha10 : a ≠ 10 := by omega
  obtain ⟨rs, hr, hm⟩ := recs_textT (a := a) (q := q) (by omega) (by omega) (by omega) (by omega) (by omega) (by omega) (by omega) ha10 l [] fun cs hcs => (h cs hcs).1
  rw [List.nil_append, List.length_nil] at hr
  have hlen := textT_len a q l
  have hv := vlen_textT (a := a) (q := q) (by omega) (by omega) (by omega) (by omega) l fun r hr => (h r hr).2.2
  have hmem : ∀ r ∈ rs, ∃ cs ∈ l, (kidsOf r).map entC = cs.map (quoC a q) := by
    intro r hr1
    have : (kidsOf r).map entC ∈ rs.map (fun r => (kidsOf r).map entC) := List.mem_map.2 ⟨r, hr1, rfl⟩
    rw [hm] at this
    obtain ⟨cs, hcs, he⟩ := List.mem_map.1 this
    exact ⟨cs, hcs, he.symm⟩
  have hdoc := docE_of (x := xU (textT a q l) a q) (show (3 : Int) ≤ 48 by decide) (W := (W : Int)) hr ((textT a q l).length + 1) (acc := []) (v := 1) (ns := []) (wid := 0) (Nat.zero_le _) (by show (textT a q l).length < _; omega) (fun r hr1 k hk1 => by
      obtain ⟨cs, hcs, he⟩ := hmem r hr1
      have : entC k ∈ (kidsOf r).map entC := List.mem_map.2 ⟨k, hk1, rfl⟩
      rw [he] at this
      obtain ⟨c, hcc, hce⟩ := List.mem_map.1 this
      show (txt q (entC k)).length ≤ _
      rw [← hce, txt_quoC (by omega) (by omega)]
      have h1 := sumL_mem hcc
      obtain ⟨j, hj⟩ := List.getElem?_of_mem hcs
      have h2 := (sumG_mem hj).1
      omega) (fun h => absurd rfl h) (fun r hr1 => by
      obtain ⟨cs, hcs, he⟩ := hmem r hr1
      have h1 := congrArg List.length he
      rw [List.length_map, List.length_map, (h cs hcs).2.1] at h1
      omega) (by rw [costL_of rs l _ hm]; show _ ≤ (65536 : Int); omega)
  refine ⟨rs, ?_, ?_, by omega⟩
  · show parseV (xU (textT a q l) a q) false 1048576 1024 65536 = _
    unfold parseV
    rw [if_neg (show ¬ dOk a q = false by rw [hd]; decide), if_neg (show ¬ lOk 48 65536 1048576 1024 65536 = false by decide), if_neg (show ¬ (1048576 : Int) < ((textT a q l).length : Int) by omega), if_neg (show ¬ vlen (textT a q l) ≠ (textT a q l).length by rw [hv]; simp)]
    rw [show docE (xU (textT a q l) a q) false ((xU (textT a q l) a q).s.length + 1) [] 0 1 [] 0 = .ok ([] ++ rs) from hdoc]
    rfl
  · unfold cellsT
    have : (rs.map fun r => (kidsOf r).map fun k => txt q (entC k)) = (rs.map fun r => (kidsOf r).map entC).map fun cs => cs.map (txt q) := by
      rw [List.map_map]; congr 1; funext r; simp
    rw [this, hm, List.map_map]
    conv => rhs; rw [← List.map_id l]
    congr 1; funext cs
    simp only [Function.comp_apply, List.map_map, id]
    conv => rhs; rw [← List.map_id cs]
    congr 1; funext c
    exact txt_quoC (by omega) (by omega) c
section
variable {a q : Int} {hd ty : Bool} {st : St}
theorem ltexts_ok {s : List UInt8} {v : TV} {l : List (List (List UInt8))} (hv : GridR TV.str v l) {K : Bool → St → Prop} (hk : ∀ st', StExt st st' → K true st') :
    CallT PR fn_datakitlaw27_DelimTexts [.str s, v, .agg [.int .u8 a, .int .u8 q, .bool hd, .bool ty]] [.one .bool] st K := by
  obtain ⟨vs, rv⟩ := hv.rd
  refine vc_datakitlaw27_DelimTexts s v a q hd ty st K (BIf_intro (fun _ => dawake_ok hk) fun g => lsmall_ok hv (fun h1 h2 h3 => ?_) (show BIf true _ _ from dawake_ok hk))
  refine (show BIf false _ _ from pquote_ok (by omega) (rquoteC_ok (by omega) fun st1 e1 => ptext_ok hv (by omega) (by omega) (by omega) fun st2 e2 => rtext_ok hv (by omega) (by omega) (by omega) fun st3 e3 => ?_))
  have e13 := (e1.trans e2).trans e3
  refine BIf_intro (fun h => absurd rfl h) fun _ => BIf_intro (fun h => absurd rfl h) fun _ => BIf_intro (fun h => absurd rfl h) fun _ => BIf_intro (fun h => absurd rfl h) fun _ => need_intro rv.isSl ?_
  rw [rv.lenS, rv.lenZ]
  refine BIf_intro (fun g2 => ?_) fun g2 => ?_
  · have hget0 : l[0]? = some (l.headD []) := by cases l with | nil => simp at g2 | cons d rs => rfl
    have hs := sumG_mem hget0
    obtain ⟨u, hu1, hu2⟩ := hv.ld blindSt hget0
    refine ⟨⟨by omega, by omega⟩, optK_intro hu1 (pline_ok hu2 (by omega) (by omega) fun st4 e4 => ⟨⟨by omega, by omega⟩, optK_intro hu1 (rline_ok hu2 (by omega) (by omega) fun st5 e5 => ?_)⟩)⟩
    exact BIf_intro (fun _ => BIf_intro (fun _ => dawake_ok fun st6 e6 => hk _ (((e13.trans e4).trans e5).trans e6)) fun h => absurd rfl h) fun h => absurd rfl h
  · have hrow : RowR TV.str .nilSlice [] := .inl ⟨rfl, rfl, rfl⟩
    refine pline_ok hrow (by decide) (by decide) fun st4 e4 => ?_
    have hlv : lineV a q [] = .error 1 := by unfold lineV; by_cases h : dOk a q = false; rw [if_pos h]; rw [if_neg h, if_pos rfl]
    rw [hlv]
    exact BIf_intro (fun _ => BIf_intro (fun _ => dawake_ok fun st6 e6 => hk _ ((e13.trans e4).trans e6)) fun h => absurd rfl h) fun h => absurd rfl h
theorem lback_ok {s : List UInt8} {v : TV} {l : List (List (List UInt8))} (hv : GridR TV.str v l) {K : Bool → St → Prop} (hk : ∀ st', StExt st st' → K true st') :
    CallT PR fn_datakitlaw27_DelimBack [.str s, v, .agg [.int .u8 a, .int .u8 q, .bool hd, .bool ty]] [.one .bool] st K := by
  obtain ⟨vs, rv⟩ := hv.rd
  refine vc_datakitlaw27_DelimBack s v a q hd ty st K (BIf_intro (fun _ => dawake_ok hk) fun g => lsmall_ok hv (fun h1 h2 h3 => ?_) (show BIf true _ _ from dawake_ok hk))
  refine (show BIf false _ _ from ptext_ok hv (by omega) (by omega) (by omega) fun st1 e1 => ?_)
  -- the text of a tree that was read
  have read : ∀ (l' : List (List (List UInt8))) (W : Nat), dOk a q = true → (∀ r ∈ l', r ≠ [] ∧ r.length = W ∧ allV r = true) → sumG l' ≤ 3000 → cntG l' ≤ 200 → l'.length ≤ 40 → ∃ rs, parseV (xU (textT a q l') a q) false 1048576 1024 65536 = .ok (.mk 1 [] [] rs []) ∧ (textT a q l').length ≤ 10000 ∧
      cellsV (txt q) (.mk 1 [] [] rs []) a q false = l' ∧ oursE (.mk 1 [] [] rs []) a q false = 0 ∧ nlen (.mk 1 [] [] rs []) ≤ 10000 ∧ ncnt (.mk 1 [] [] rs []) ≤ 1000000000000000 := by
    intro l' W hd' h hs hc hl
    obtain ⟨rs, h1, h2, h3⟩ := back hd' h hs hc hl
    obtain ⟨h4, h5, h6⟩ := lossless (by omega) h1
    refine ⟨rs, h1, h3, by unfold cellsV; rw [if_pos h6]; exact h2, by unfold oursE; rw [if_pos h6], by rw [← ntext_len, h4]; exact h3, ?_⟩
    have := pN_cnt (x := xU (textT a q l') a q) (hd := false) (l2 := 1048576) (l3 := 1024) (l4 := 65536) (by show (textT a q l').length ≤ _; omega)
    rw [show parseV (xU (textT a q l') a q) false 1048576 1024 65536 = _ from h1] at this
    exact this
  refine BIf_intro (fun g2 => lUsual_ok ?_) fun g2 => ?_
  case' refine_1 =>
    obtain ⟨t, hT⟩ : ∃ t, textV a q l = .ok t := by
      cases hT : textV a q l with
      | error e => rw [hT] at g2; exact absurd g2 (textV_err hT)
      | ok t => exact ⟨t, rfl⟩
    rw [hT]
    have hdd : dOk a q = true := by
      unfold textV at hT
      cases hb : dOk a q with
      | true => rfl
      | false => rw [hb, if_pos rfl] at hT; cases hT
    have hT' : textF a q (l.headD []).length l = .ok t := by
      unfold textV at hT
      rwa [if_neg (by rw [hdd]; decide)] at hT
    have hte := (textF_len a q _ l hT').1
    obtain ⟨rs, p1, p2, p3, p4, p5, p6⟩ := read l _ hdd (textF_all a q _ l hT') h1 h2 h3
    simp only [xT]
    rw [hte]
    refine pparse_ok (x := xU (textT a q l) a q) (by show (textT a q l).length ≤ _; omega) fun k1 kv1 st2 e2 hn1 => ?_
    rw [p1] at hn1 ⊢
    obtain ⟨_, _, _, _, _, h5, ho1⟩ := hn1.five
    cases h5
    refine need_intro (one5 ho1) (precords_ok hn1 (by show nlen (.mk 1 [] [] rs []) ≤ _; omega) p6 fun v2 st3 e3 g3 => ?_)
    rw [show cellsV (txt q) (pN (.ok (.mk 1 [] [] rs []))) a q false = l from p3] at g3
    rw [show oursE (pN (.ok (.mk 1 [] [] rs []))) a q false = 0 from p4]
    refine BIf_intro (fun h => absurd rfl h) fun _ => BIf_intro (fun h => absurd rfl h) fun _ => ?_
    refine same_ok hv g3 (by omega) (fun r hr => by obtain ⟨j, hj⟩ := List.getElem?_of_mem hr; have := (sumG_mem hj).2; omega) ?_
    refine BIf_bool (fun h => by cases h) fun _ => ?_
    obtain ⟨sx, hsx⟩ : ∃ sx, sx = st3 := ⟨_, rfl⟩
    have ex : StExt st sx := by rw [hsx]; exact (e1.trans e2).trans e3
    rw [← hsx]
  case' refine_2 =>
    obtain ⟨sx, hsx⟩ : ∃ sx, sx = st1 := ⟨_, rfl⟩
    have ex : StExt st sx := by rw [hsx]; exact e1
    rw [← hsx]
  all_goals
    refine pquote_ok (by omega) ?_
    by_cases hdd : dOk a q = true
    · by_cases hvs : vlen s = s.length
      · have hq : quoteV a q s = .ok (quoC a q s) := by unfold quoteV; rw [if_neg (by rw [hdd]; decide), if_pos hvs]
        rw [hq]
        refine BIf_intro (fun h => absurd rfl h) fun _ => ?_
        have ht : quoC a q s ++ str27 = textT a q [[s]] := by simp [textT, lineT, str27]
        obtain ⟨rs, p1, p2, p3, p4, p5, p6⟩ := read [[s]] 1 hdd (fun r hr => by rw [List.mem_singleton] at hr; subst hr; exact ⟨by simp, rfl, by simp [allV, hvs]⟩) (by simp [sumG, sumL]; omega) (by simp [cntG]) (by simp)
        have hqc := quoC_len a q s
        simp only [xT]
        refine ⟨by show _ + 1 ≤ _; omega, lUsual_ok ?_⟩
        rw [ht]
        refine pparse_ok (x := xU (textT a q [[s]]) a q) (by show (textT a q [[s]]).length ≤ _; omega) fun k1 kv1 st2 e2 hn1 => ?_
        rw [p1] at hn1 ⊢
        obtain ⟨_, _, _, _, _, h5, ho1⟩ := hn1.five
        cases h5
        refine need_intro (one5 ho1) (precords_ok hn1 (by show nlen (.mk 1 [] [] rs []) ≤ _; omega) p6 fun v2 st3 e3 g3 => ?_)
        rw [show cellsV (txt q) (pN (.ok (.mk 1 [] [] rs []))) a q false = [[s]] from p3] at g3
        rw [show oursE (pN (.ok (.mk 1 [] [] rs []))) a q false = 0 from p4]
        obtain ⟨vs4, r4⟩ := g3.rd
        obtain ⟨u, hu1, hu2⟩ := g3.ld st3 (i := 0) rfl
        refine BIf_intro (fun _ => BIf_intro (fun _ => need_intro r4.isSl ?_) fun h => absurd rfl h) fun h => absurd rfl h
        rw [r4.lenS, r4.lenZ]
        refine BIf_intro (fun _ => ⟨⟨by omega, by simp⟩, optK_intro hu1 (need_intro (Rd.isSl hu2) ?_)⟩) fun h => absurd rfl h
        rw [Rd.lenS hu2]
        refine BIf_intro (fun _ => ⟨⟨by omega, by simp⟩, optK_intro hu1 ?_⟩) fun h => absurd rfl h
        rw [Rd.lenZ hu2]
        refine ⟨⟨by omega, by simp⟩, optK_intro (hu2.ld st3 (i := 0) rfl) (decT_str ?_)⟩
        exact BIf_intro (fun _ => dawake_ok fun st6 e6 => hk _ (((ex.trans e2).trans e3).trans e6)) fun h => absurd rfl h
      · have hq : quoteV a q s = .error 5 := by unfold quoteV; rw [if_neg (by rw [hdd]; decide), if_neg hvs]
        rw [hq]
        exact BIf_intro (fun _ => BIf_intro (fun _ => BIf_intro (fun h => absurd h (by decide)) fun _ => BIf_intro (fun _ => dawake_ok fun st6 e6 => hk _ (ex.trans e6)) fun h => absurd rfl h) fun h => absurd rfl h) fun h => absurd (by decide) h
    · have hq : quoteV a q s = .error 1 := by unfold quoteV; rw [if_pos (by simpa using hdd)]
      rw [hq]
      exact BIf_intro (fun _ => BIf_intro (fun _ => BIf_intro (fun _ => dawake_ok fun st6 e6 => hk _ (ex.trans e6)) fun h => absurd rfl h) fun h => absurd rfl h) fun h => absurd (by decide) h
end
end Go.TVF
end
