/- tablelex: whole sources: valid beginnings, all tokens. -/
import Derived.Test.YtlbcpcdgpnppgaaDoorUsL
set_option linter.unusedVariables false
set_option linter.unusedSimpArgs false
namespace Go.TVF
open Go Go.Proofs

theorem vlen_le' (l : List UInt8) : vlen l ≤ l.length := vlen_le _ l (Nat.le_refl _)
theorem vlen_nil : vlen [] = 0 := vlen_zero _ (by simp [ul])

theorem bad_ok {s : List UInt8} {st : St} {K : Int → St → Prop} (hl : s.length ≤ 2000000) (hk : K (if vlen s = s.length then -1 else ((vlen s : Nat) : Int)) st) : CallT PR fn_tablelex_bad [.str s] [.one (.int .i64)] st K := by
  have hv := vlen_le' s
  refine vc_tablelex_bad s st K ⟨fun i s' st' => s = s' ∧ st = st' ∧ ∃ k : Nat, i = (k : Int) ∧ k ≤ s.length ∧ k + vlen (s.drop k) = vlen s, fun i _ _ => (s.length - i).toNat, ⟨rfl, rfl, 0, rfl, by omega, by simp⟩, ?_⟩
  rintro _ _ _ ⟨rfl, rfl, k, rfl, h1, h2⟩
  refine BIf_intro (fun g1 => ?_) fun g1 => ?_
  · have hlen : (s.drop k).length = s.length - k := by simp
    have hne : s.drop k ≠ [] := by
      intro h0
      have := congrArg List.length h0
      rw [hlen] at this; simp at this; omega
    refine ⟨⟨by omega, by omega⟩, ?_⟩
    rw [show Int.toNat (k : Int) = k from rfl]
    refine decode_okV hne fun R N hD => ?_
    rcases hD with ⟨h0, rfl, rfl⟩ | ⟨h0, _, hN, hn, hle, h4⟩
    · rw [vlen_zero _ h0] at h2
      rw [if_neg (by omega)] at hk
      refine BIf_intro (fun _ => BIf_intro (fun _ => ?_) fun h => absurd rfl h) fun h => absurd rfl h
      rw [show k = vlen s by omega]; exact hk
    · rw [vlen_step _ h0, List.drop_drop] at h2
      rw [hlen] at hle
      have w : IntKind.i64.wrap ((k : Int) + N) = ((k + ul (s.drop k) : Nat) : Int) := by rw [wrap64 _ (by omega) (by omega)]; omega
      rw [w]
      refine BIf_intro (fun q1 => BIf_intro (fun q2 => absurd ⟨q1, q2⟩ hn) fun _ => ⟨⟨rfl, rfl, _, rfl, by omega, by omega⟩, by dsimp only; omega⟩) fun _ => ⟨⟨rfl, rfl, _, rfl, by omega, by omega⟩, by dsimp only; omega⟩
  · rw [show s.drop k = [] from List.drop_of_length_le (by omega), vlen_nil] at h2
    rw [if_pos (by omega)] at hk; exact hk

theorem Rd.ldx {sz : Nat} {v : TV} {n : Nat} {xs : List TV} (h : Rd sz v n xs) (st : St) (i j : Nat) {x : TV} (hx : xs[i * sz + j]? = some x) : ldCell st [] (.t (ixT sz v i)) j = some x := by
  obtain ⟨hlt, hx⟩ := List.getElem?_eq_some_iff.1 hx
  rw [h.ld st i j hlt, hx]
theorem Rd.ldfx {sz : Nat} {v : TV} {n : Nat} {xs : List TV} (h : Rd sz v n xs) (st : St) (i j : Nat) {x : TV} (hx : xs[i * sz + j]? = some x) : ldCell st [] (.t (fldT (ixT sz v i) j)) 0 = some x := by
  obtain ⟨hlt, hx⟩ := List.getElem?_eq_some_iff.1 hx
  rw [h.ldf st i j hlt, hx]

theorem boundaries_ok {s : List UInt8} {st : St} {K : TV → Bool → St → Prop} (hl : s.length ≤ 2000000)
    (hk : ∀ v xs st', StExt st st' → Rd 1 v (xs.length + 1) (xs ++ [.int .i64 ((vlen s : Nat) : Int)]) → xs.length ≤ s.length → K v (decide (vlen s = s.length)) st') : CallT PR fn_datakitref03_Boundaries [.str s] [.one (.tv), .one (.bool)] st K := by
  have hv := vlen_le' s
  refine vc_datakitref03_Boundaries s st K ⟨fun v i s' st' => s = s' ∧ StExt st st' ∧ ∃ (k : Nat) (xs : List TV), i = (k : Int) ∧ k ≤ s.length ∧ k + vlen (s.drop k) = vlen s ∧ xs.length ≤ k ∧ Own st.nt 1 st' v (xs.length + 1) (xs ++ [.int .i64 (k : Int)]), fun _ i _ _ => (s.length - i).toNat, ⟨rfl, StExt.refl _, 0, [], rfl, by omega, by simp, by simp, Own.full _ _ _ _ _⟩, ?_⟩
  rintro v _ _ st1 ⟨rfl, e, k, xs, rfl, h1, h2, h3, h4⟩
  refine BIf_intro (fun g1 => ?_) fun g1 => ?_
  · have hle := ul_le (s.drop k)
    rw [List.length_drop] at hle
    refine rdecode_ok hl h1 ?_
    unfold rD
    by_cases h0 : ul (s.drop k) = 0
    · rw [if_pos h0]
      rw [vlen_zero _ h0] at h2
      refine BIf_intro (fun _ => ?_) fun h => absurd rfl h
      have := hk v xs st1 e (by rw [← h2]; exact h4.rd) (by omega)
      rw [decide_eq_false (by omega)] at this
      exact this
    · rw [if_neg h0]
      rw [vlen_step _ h0, List.drop_drop] at h2
      have w : IntKind.i64.wrap ((k : Int) + (ul (s.drop k) : Nat)) = ((k + ul (s.drop k) : Nat) : Int) := by rw [wrap64 _ (by omega) (by omega)]; omega
      refine BIf_intro (fun h => by simp only at h; omega) fun _ => ?_
      dsimp only
      rw [w]
      refine appK_own e rfl h4 (by omega) (fun h => by cases h) fun v' st' e' _ ho => ⟨⟨rfl, e', k + ul (s.drop k), xs ++ [.int .i64 (k : Int)], rfl, by omega, by omega, by rw [List.length_append]; simp; omega, ?_⟩, by omega⟩
      rw [List.length_append]; exact ho
  · rw [show s.drop k = [] from List.drop_of_length_le (by omega), vlen_nil] at h2
    have hks : k = vlen s := by omega
    have := hk v xs st1 e (by rw [← hks]; exact h4.rd) (by omega)
    rw [decide_eq_true (by omega)] at this
    exact this

theorem rbad_ok {s : List UInt8} {st : St} {K : Int → St → Prop} (hl : s.length ≤ 2000000) (hk : ∀ st', StExt st st' → K ((vlen s : Nat) : Int) st') : CallT PR fn_datakitref03_Bad [.str s] [.one (.int .i64)] st K := by
  refine vc_datakitref03_Bad s st K (boundaries_ok hl fun v xs st1 e hr hx => need_intro hr.isSl ?_)
  rw [hr.lenS, hr.lenZ]
  have w : IntKind.i64.wrap (((xs.length + 1 : Nat) : Int) - 1) = (xs.length : Nat) := by rw [wrap64 _ (by omega) (by omega)]; omega
  rw [w]
  refine ⟨⟨by omega, by omega⟩, optK_intro (hr.ldx st1 _ 0 (x := .int .i64 ((vlen s : Nat) : Int)) ?_) (hk st1 e)⟩
  rw [Int.toNat_natCast]; simp
theorem rvalid_ok {s : List UInt8} {st : St} {K : Bool → St → Prop} (hl : s.length ≤ 2000000) (hk : ∀ st', StExt st st' → K (decide (vlen s = s.length)) st') : CallT PR fn_datakitref03_Valid [.str s] [.one (.bool)] st K :=
  vc_datakitref03_Valid s st K (boundaries_ok hl fun v xs st1 e hr hx => hk st1 e)
theorem rsource_ok {s : List UInt8} {st : St} {K : Int → Int → St → Prop} (hl : s.length ≤ 1000000) (hk : ∀ st', StExt st st' → K (if vlen s = s.length then 0 else ((vlen s : Nat) : Int)) (if vlen s = s.length then 0 else 5) st') :
    CallT PR fn_datakitref19_Source [.str s] [.one (.int .i64), .one (.int .i64)] st K := by
  have hv := vlen_le' s
  refine vc_datakitref19_Source s st K (BIf_intro (fun h => by omega) fun _ => rbad_ok (by omega) fun st1 e => BIf_intro (fun h => ?_) fun h => ?_)
  · have := hk st1 e
    rw [if_neg (by omega), if_neg (by omega)] at this
    exact this
  · have := hk st1 e
    rw [if_pos (by omega), if_pos (by omega)] at this
    exact this

/-! Tokens. -/
abbrev Tok := Int × List UInt8 × Int
def tokCells : List Tok → List TV
  | [] => []
  | t :: r => .int .i64 t.1 :: .str t.2.1 :: .int .i64 t.2.2 :: tokCells r
theorem tokCells_len : ∀ l : List Tok, (tokCells l).length = 3 * l.length
  | [] => rfl
  | t :: r => by simp only [tokCells, List.length_cons, tokCells_len r]; omega
theorem tokCells_append : ∀ a b : List Tok, tokCells (a ++ b) = tokCells a ++ tokCells b
  | [], b => rfl
  | t :: r, b => by simp [tokCells, tokCells_append r b]
theorem tokCells_get : ∀ (l : List Tok) (i : Nat) (t : Tok), l[i]? = some t → (tokCells l)[i * 3 + 0]? = some (.int .i64 t.1) ∧ (tokCells l)[i * 3 + 1]? = some (.str t.2.1) ∧ (tokCells l)[i * 3 + 2]? = some (.int .i64 t.2.2)
  | [], i, t, h => by simp at h
  | x :: r, 0, t, h => by
    simp only [List.getElem?_cons_zero, Option.some.injEq] at h
    subst h; exact ⟨rfl, rfl, rfl⟩
  | x :: r, i + 1, t, h => by
    have := tokCells_get r i t (by simpa using h)
    have e : ∀ j, (i + 1) * 3 + j = (i * 3 + j) + 3 := fun j => by omega
    rw [e, e, e]
    exact this

theorem tok_ld {v : TV} {l : List Tok} (h : Rd 3 v l.length (tokCells l)) (st : St) (i : Nat) (t : Tok) (ht : l[i]? = some t) :
    (ldCells st [] (.t (ixT 3 v i)) 0 3).map TV.agg = some (.agg [.int .i64 t.1, .str t.2.1, .int .i64 t.2.2]) := by
  obtain ⟨h0, h1, h2⟩ := tokCells_get l i t ht
  simp only [ldCells, Nat.zero_add, Nat.reduceAdd]
  rw [h.ldx st i 0 h0, h.ldx st i 1 h1, h.ldx st i 2 h2]
  rfl

def tkF : Nat → List UInt8 → Nat → Except (Int × Int) (List Tok)
  | 0, _, _ => .ok []
  | f + 1, s, k => if s.length ≤ k then .ok [] else match nxt s k with
    | .error e => .error (if e = 4 then (s.length : Int) else (k : Int), e)
    | .ok t => match tkF f s (k + t.2.1.length) with
      | .error e => .error e
      | .ok l => .ok (t :: l)
def tkX (acc : List Tok) : Except (Int × Int) (List Tok) → Except (Int × Int) (List Tok)
  | .error e => .error e
  | .ok l => .ok (acc ++ l)
def toks (s : List UInt8) : Except (Int × Int) (List Tok) := if vlen s = s.length then tkF (s.length + 1) s 0 else .error (((vlen s : Nat) : Int), 5)
def tL : Except (Int × Int) (List Tok) → List Tok | .ok l => l | .error _ => []
def tA : Except (Int × Int) (List Tok) → Int | .ok _ => 0 | .error e => e.1
def tE : Except (Int × Int) (List Tok) → Int | .ok _ => 0 | .error e => e.2

theorem nxt_cases {s : List UInt8} {k : Nat} (hk : k < s.length) : (∃ e, nxt s k = .error e ∧ tokS s k = .error e ∧ e ≠ 0) ∨
    ∃ kd n, nxt s k = .ok (kd, (s.drop k).take n, (k : Int)) ∧ 0 < n ∧ k + n ≤ s.length ∧ 1 ≤ kd ∧ kd ≤ 6 ∧ tokS s k = .ok (kd, k + n) := by
  unfold nxt
  rw [if_neg (by omega), if_neg (by omega), show Int.toNat (k : Int) = k from rfl]
  cases h : tokS s k with
  | error e => exact .inl ⟨e, rfl, rfl, fun h0 => tokS_err s k (by rw [h, h0])⟩
  | ok p =>
    have := tokS_le hk h
    exact .inr ⟨p.1, p.2 - k, rfl, by omega, by omega, this.2.2.1, this.2.2.2, by rw [show k + (p.2 - k) = p.2 by omega]⟩

theorem tok_len {s : List UInt8} {k n : Nat} (h : k + n ≤ s.length) : ((s.drop k).take n).length = n := by
  rw [List.length_take, List.length_drop]; omega

theorem tokens_ok {s : List UInt8} {st : St} {K : TV → Int → Int → St → Prop} (hl : s.length ≤ 1000000)
    (hk : ∀ v st', StExt st st' → Own st.nt 3 st' v (tL (toks s)).length (tokCells (tL (toks s))) → K v (tA (toks s)) (tE (toks s)) st') :
    CallT PR fn_tablelex_Tokens [.str s] [.one (.tv), .one (.int .i64), .one (.int .i64)] st K := by
  have hv := vlen_le' s
  refine vc_tablelex_Tokens s st K (BIf_intro (fun h => by omega) fun _ => bad_ok (by omega) ?_)
  by_cases hb : vlen s = s.length
  · rw [if_pos hb]
    refine BIf_intro (fun h => absurd h (by decide)) fun _ => ?_
    generalize hX : toks s = X at *
    unfold toks at hX
    rw [if_pos hb] at hX
    refine ⟨fun v i s' st' => s = s' ∧ StExt st st' ∧ ∃ (k f : Nat) (acc : List Tok), i = (k : Int) ∧ k ≤ s.length ∧ s.length < k + f ∧ acc.length ≤ k ∧ Own st.nt 3 st' v acc.length (tokCells acc) ∧ tkX acc (tkF f s k) = X, fun _ i _ _ => (s.length - i).toNat,
      ⟨rfl, StExt.refl _, 0, s.length + 1, [], rfl, by omega, by omega, by simp, Own.nil _ _ _, by rw [hX]; cases X <;> rfl⟩, ?_⟩
    rintro v _ _ st1 ⟨rfl, e, k, f, acc, rfl, h1, h2, h3, h4, h5⟩
    cases f with
    | zero => omega
    | succ f =>
    simp only [tkF] at h5
    refine BIf_intro (fun g1 => next_ok (by omega) fun st2 e2 => ?_) fun g1 => ?_
    · rw [if_neg (by omega)] at h5
      rcases nxt_cases (s := s) (k := k) (by omega) with ⟨er, hn, _, he⟩ | ⟨kd, n, hn, n1, n2, _⟩
      · rw [hn] at h5 ⊢
        simp only [nK, nT, nA, eE, tkX] at h5 ⊢
        subst h5
        refine BIf_intro (fun q => ?_) fun q => BIf_intro (fun _ => ?_) fun h => absurd he h
        all_goals
          have := hk .nilSlice st2 (e.trans e2) (Own.nil _ _ _)
          simp only [tA, tE] at this
        · rw [if_pos q] at this; exact this
        · rw [if_neg q] at this; exact this
      · rw [hn] at h5 ⊢
        simp only at h5
        dsimp only [nK, nT, nA, eE]
        have htl := tok_len n2
        refine BIf_intro (fun q => absurd q (by decide)) fun _ => BIf_intro (fun h => absurd rfl h) fun _ => ?_
        rw [htl] at h5 ⊢
        have w : IntKind.i64.wrap ((k : Int) + (n : Nat)) = ((k + n : Nat) : Int) := by rw [wrap64 _ (by omega) (by omega)]; omega
        rw [w]
        refine appK_own (e.trans e2) rfl (h4.ext e2) (by omega) (fun h => by cases h) fun v' st' e' _ ho => ⟨⟨rfl, e', k + n, f, acc ++ [(kd, (s.drop k).take n, (k : Int))], rfl, by omega, by omega, by simp; omega, ?_, ?_⟩, by omega⟩
        · rw [List.length_append, tokCells_append]; exact ho
        · rw [← h5]
          cases tkF f s (k + n) <;> simp [tkX]
    · rw [if_pos (by omega)] at h5
      simp only [tkX, List.append_nil] at h5
      subst h5
      exact hk v st1 e h4
  · rw [if_neg hb]
    have hX : toks s = .error (((vlen s : Nat) : Int), 5) := by unfold toks; rw [if_neg hb]
    rw [hX] at hk
    exact BIf_intro (fun _ => hk .nilSlice st (StExt.refl _) (Own.nil _ _ _)) fun h => by omega

theorem rtokens_ok {s : List UInt8} {st : St} {K : TV → Int → Int → St → Prop} (hl : s.length ≤ 1000000)
    (hk : ∀ v st', StExt st st' → Own st.nt 3 st' v (tL (toks s)).length (tokCells (tL (toks s))) → K v (tA (toks s)) (tE (toks s)) st') :
    CallT PR fn_datakitref24_Tokens [.str s] [.one (.tv), .one (.int .i64), .one (.int .i64)] st K := by
  have hv := vlen_le' s
  refine vc_datakitref24_Tokens s st K (rsource_ok hl fun st0 e0 => ?_)
  by_cases hb : vlen s = s.length
  · rw [if_pos hb, if_pos hb]
    refine BIf_intro (fun h => absurd rfl h) fun _ => ?_
    generalize hX : toks s = X at *
    unfold toks at hX
    rw [if_pos hb] at hX
    refine ⟨fun v i s' st' => s = s' ∧ StExt st st' ∧ ∃ (k f : Nat) (acc : List Tok), i = (k : Int) ∧ k ≤ s.length ∧ s.length < k + f ∧ acc.length ≤ k ∧ Own st.nt 3 st' v acc.length (tokCells acc) ∧ tkX acc (tkF f s k) = X, fun _ i _ _ => (s.length - i).toNat,
      ⟨rfl, e0, 0, s.length + 1, [], rfl, by omega, by omega, by simp, Own.nil _ _ _, by rw [hX]; cases X <;> rfl⟩, ?_⟩
    rintro v _ _ st1 ⟨rfl, e, k, f, acc, rfl, h1, h2, h3, h4, h5⟩
    cases f with
    | zero => omega
    | succ f =>
    simp only [tkF] at h5
    refine BIf_intro (fun g1 => rnext_ok (by omega) ?_) fun g1 => ?_
    · rw [if_neg (by omega)] at h5
      rcases nxt_cases (s := s) (k := k) (by omega) with ⟨er, hn, _, he⟩ | ⟨kd, n, hn, n1, n2, _⟩
      · rw [hn] at h5 ⊢
        simp only [nK, nT, nA, eE, tkX] at h5 ⊢
        subst h5
        refine BIf_intro (fun q => ?_) fun q => BIf_intro (fun _ => ?_) fun h => absurd he h
        all_goals
          have := hk .nilSlice st1 e (Own.nil _ _ _)
          simp only [tA, tE] at this
        · rw [if_pos q] at this; exact this
        · rw [if_neg q] at this; exact this
      · rw [hn] at h5 ⊢
        simp only at h5
        dsimp only [nK, nT, nA, eE]
        have htl := tok_len n2
        refine BIf_intro (fun q => absurd q (by decide)) fun _ => BIf_intro (fun h => absurd rfl h) fun _ => ?_
        rw [htl] at h5 ⊢
        have w : IntKind.i64.wrap ((k : Int) + (n : Nat)) = ((k + n : Nat) : Int) := by rw [wrap64 _ (by omega) (by omega)]; omega
        rw [w]
        refine appK_own e rfl h4 (by omega) (fun h => by cases h) fun v' st' e' _ ho => ⟨⟨rfl, e', k + n, f, acc ++ [(kd, (s.drop k).take n, (k : Int))], rfl, by omega, by omega, by simp; omega, ?_, ?_⟩, by omega⟩
        · rw [List.length_append, tokCells_append]; exact ho
        · rw [← h5]
          cases tkF f s (k + n) <;> simp [tkX]
    · rw [if_pos (by omega)] at h5
      simp only [tkX, List.append_nil] at h5
      subst h5
      exact hk v st1 e h4
  · rw [if_neg hb, if_neg hb]
    have hX : toks s = .error (((vlen s : Nat) : Int), 5) := by unfold toks; rw [if_neg hb]
    rw [hX] at hk
    exact BIf_intro (fun _ => hk .nilSlice st0 e0 (Own.nil _ _ _)) fun h => absurd (by decide) h

theorem tkF_inv {f : Nat} {s : List UInt8} {k : Nat} {l : List Tok} (hk : k < s.length) (h : tkF (f + 1) s k = .ok l) :
    ∃ kd n r, l = (kd, (s.drop k).take n, (k : Int)) :: r ∧ 0 < n ∧ k + n ≤ s.length ∧ 1 ≤ kd ∧ kd ≤ 6 ∧ tokS s k = .ok (kd, k + n) ∧ nxt s k = .ok (kd, (s.drop k).take n, (k : Int)) ∧ tkF f s (k + n) = .ok r := by
  simp only [tkF] at h
  rw [if_neg (by omega)] at h
  rcases nxt_cases hk with ⟨er, hn, _, he⟩ | ⟨kd, n, hn, n1, n2, n3, n4, n5⟩
  · rw [hn] at h; cases h
  · rw [hn] at h
    simp only [tok_len n2] at h
    cases hr : tkF f s (k + n) with
    | error e => rw [hr] at h; cases h
    | ok r =>
      rw [hr] at h
      simp only [Except.ok.injEq] at h
      exact ⟨kd, n, r, h.symm, n1, n2, n3, n4, n5, hn, hr⟩
theorem tkF_end {f : Nat} {s : List UInt8} {k : Nat} (hk : s.length ≤ k) : tkF f s k = .ok [] := by
  cases f with
  | zero => rfl
  | succ f => simp only [tkF]; rw [if_pos hk]
theorem tkF_len : ∀ (f : Nat) (s : List UInt8) (k : Nat) (l : List Tok), k ≤ s.length → tkF f s k = .ok l → l.length + k ≤ s.length
  | 0, s, k, l, hk, h => by simp only [tkF, Except.ok.injEq] at h; subst h; simpa using hk
  | f + 1, s, k, l, hk, h => by
    by_cases hlt : k < s.length
    · obtain ⟨kd, n, r, rfl, n1, n2, _, _, _, _, hr⟩ := tkF_inv hlt h
      have := tkF_len f s (k + n) r n2 hr
      simp only [List.length_cons]; omega
    · rw [tkF_end (by omega), Except.ok.injEq] at h; subst h; simpa using hk
theorem toks_len (s : List UInt8) : (tL (toks s)).length ≤ s.length := by
  unfold toks
  split
  · cases h : tkF (s.length + 1) s 0 with
    | error e => simp [tL]
    | ok l => have := tkF_len _ s 0 l (by omega) h; simp only [tL]; omega
  · simp [tL]

/-- The law TablelexTokens. -/
theorem ltokens_ok {s : List UInt8} {st : St} {K : Bool → St → Prop} (hk : ∀ st', StExt st st' → K true st') : CallT PR fn_datakitlaw24_TablelexTokens [.str s] [.one (.bool)] st K := by
  refine vc_datakitlaw24_TablelexTokens s st K (BIf_intro (fun g1 => awake_ok hk) fun g1 => tokens_ok (by omega) fun v1 st1 e1 o1 => rtokens_ok (by omega) fun v2 st2 e2 o2 => ?_)
  have r1 := o1.rd
  have r2 := o2.rd
  have hcount := toks_len s
  generalize toks s = X at *
  refine need_intro r1.isSl (need_intro r2.isSl (BIf_intro (fun h => absurd (by rw [r1.lenS, r2.lenS]) h) fun _ => BIf_intro (fun h => absurd rfl h) fun _ => BIf_intro (fun h => absurd rfl h) fun _ => ?_))
  refine ⟨fun i l m st' => v1 = l ∧ v2 = m ∧ StExt st st' ∧ ∃ k : Nat, i = (k : Int) ∧ k ≤ (tL X).length, fun i _ _ _ => ((tL X).length - i).toNat, ⟨rfl, rfl, e1.trans e2, 0, rfl, by omega⟩, ?_⟩
  rintro _ _ _ st3 ⟨rfl, rfl, e, k, rfl, h1⟩
  refine need_intro r1.isSl ?_
  rw [r1.lenS, r1.lenZ, r2.lenZ]
  refine BIf_intro (fun g2 => ?_) fun g2 => awake_ok fun st4 e4 => hk _ (e.trans e4)
  have hlt : k < (tL X).length := by omega
  have hget := List.getElem?_eq_getElem hlt
  generalize (tL X)[k] = t at hget
  rw [show Int.toNat (k : Int) = k from rfl]
  refine ⟨⟨by omega, by omega⟩, optK_intro (tok_ld r1 st3 k t hget) ⟨⟨by omega, by omega⟩, optK_intro (tok_ld r2 st3 k t hget) ?_⟩⟩
  have : (!(decide (t.1 = t.1) && (decide (t.2.1 = t.2.1) && (decide (t.2.2 = t.2.2) && true)))) = false := by simp
  refine BIf_bool (fun h => absurd (this.symm.trans h) (by decide)) fun _ => ?_
  rw [wrap64 _ (by omega) (by omega)]
  exact ⟨⟨rfl, rfl, e, k + 1, by omega, by omega⟩, by dsimp only; omega⟩
end Go.TVF
