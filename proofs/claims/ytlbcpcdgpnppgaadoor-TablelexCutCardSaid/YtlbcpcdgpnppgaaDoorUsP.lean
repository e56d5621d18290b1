/- tablelex: a source that is cut off; the law TablelexCut. -/
import Derived.Test.YtlbcpcdgpnppgaaDoorUsO
set_option linter.unusedVariables false
set_option linter.unusedSimpArgs false
namespace Go.TVF
open Go Go.Proofs

theorem bt_take (l : List UInt8) (m j : Nat) : bt (l.take m) j = if j < m then bt l j else 0 := by
  unfold bt
  by_cases h : j < m
  · rw [if_pos h]; simp [List.getD, List.getElem?_take, h]
  · rw [if_neg h]; simp [List.getD, List.getElem?_take, h]
theorem bt_zero (l : List UInt8) (j : Nat) (h : l.length ≤ j) : bt l j = 0 := by
  unfold bt; simp [List.getD, List.getElem?_eq_none h]

/-- A byte at which no character begins. -/
def contB (n : Nat) : Prop := 128 ≤ n ∧ n < 192

theorem ul_cont (l : List UInt8) (j : Nat) (h1 : 0 < j) (h2 : j < ul l) : contB (bt l j) := by
  have h : ul l ≠ 0 := by omega
  have hne : l ≠ [] := fun h0 => h (by simp [ul, h0])
  have hv := dN_val l h
  have h4 := (ul_char l h).2.2.2
  unfold dN Lib.decodeN at hv
  have hz := (ul_zero l hne).2
  unfold contB
  have hj : j = 1 ∨ j = 2 ∨ j = 3 := by omega
  repeat' split at hv
  all_goals simp only [Prod.mk.injEq] at hv
  all_goals first
    | omega
    | (rcases hj with rfl | rfl | rfl <;> omega)
    | (exfalso; have := ul_not l h; omega)

theorem racc_take (l : List UInt8) (m r0 : Nat) : ∀ j, j < m → racc (l.take m) r0 j = racc l r0 j
  | 0, _ => rfl
  | j + 1, h => by
    simp only [racc]
    rw [racc_take l m r0 j (by omega), bt_take, if_pos h]
theorem ul_take {l : List UInt8} {m : Nat} (h : ul l ≠ 0) (hm : ul l ≤ m) : ul (l.take m) = ul l ∧ ur (l.take m) = ur l := by
  have hne : l ≠ [] := fun h0 => h (by simp [ul, h0])
  have hle := ul_le l
  have hne2 : l.take m ≠ [] := by
    intro h0
    have := congrArg List.length h0
    rw [List.length_take] at this
    simp only [List.length_nil] at this
    have : 0 < l.length := List.length_pos_iff.2 hne
    omega
  have e1 := refU_eq l hne
  have e2 := refU_eq (l.take m) hne2
  rw [if_neg h] at e1
  have hs := rsz_le (bt l 0)
  unfold refU at e1
  simp only at e1
  by_cases g1 : l.length < rsz (bt l 0)
  · rw [if_pos g1] at e1
    simp only [Prod.mk.injEq] at e1; omega
  rw [if_neg g1] at e1
  split at e1
  · rename_i hc
    simp only [Prod.mk.injEq] at e1
    unfold refU at e2
    simp only at e2
    rw [bt_take, if_pos (show 0 < m by omega), racc_take _ _ _ _ (by omega), if_neg (by rw [List.length_take]; omega), List.take_take, Nat.min_eq_left (by omega), if_pos hc] at e2
    split at e2
    · simp only [Prod.mk.injEq] at e2; omega
    · simp only [Prod.mk.injEq] at e2; omega
  · simp only [Prod.mk.injEq] at e1; omega

/-- A place between two characters, or the end. -/
def Bd (s : List UInt8) (k : Nat) : Prop := k ≤ s.length ∧ (k = s.length ∨ ¬ contB (bt s k))
theorem Bd.char {s : List UInt8} {k j : Nat} (h : Bd s k) (hj : j < k) : j + ul (s.drop j) ≤ k := by
  apply Decidable.byContradiction
  intro hn
  have hle := ul_le (s.drop j)
  rw [List.length_drop] at hle
  have := ul_cont (s.drop j) (k - j) (by omega) (by omega)
  rw [bt_drop, show j + (k - j) = k by omega] at this
  rcases h.2 with h | h
  · have := h; omega
  · exact h this
theorem drop_take' (s : List UInt8) (j k : Nat) : (s.take k).drop j = (s.drop j).take (k - j) := List.drop_take ..
theorem Bd.ul {s : List UInt8} {k j : Nat} (h : Bd s k) (hj : j < k) (h0 : ul (s.drop j) ≠ 0) : TVF.ul ((s.take k).drop j) = TVF.ul (s.drop j) ∧ TVF.ur ((s.take k).drop j) = TVF.ur (s.drop j) := by
  have := h.char hj
  rw [drop_take']
  exact ul_take h0 (by omega)

theorem vlen_cut : ∀ (n : Nat) (l : List UInt8) (m : Nat), l.length ≤ n → vlen l = l.length → Bd l m → vlen (l.take m) = m
  | 0, l, m, hn, hv, hb => by
    have : l = [] := List.eq_nil_of_length_eq_zero (by omega)
    subst this
    have := hb.1
    simp only [List.length_nil] at this
    rw [List.take_nil, vlen_nil]; omega
  | n + 1, l, m, hn, hv, hb => by
    cases m with
    | zero => rw [List.take_zero, vlen_nil]
    | succ m =>
    have h0 : ul l ≠ 0 := fun h => by
      rw [vlen_zero l h] at hv
      have := hb.1
      omega
    have hc := hb.char (j := 0) (by omega)
    rw [List.drop_zero, Nat.zero_add] at hc
    have hu := ul_take h0 hc
    have hle := ul_le l
    rw [vlen_step _ h0] at hv
    rw [vlen_step _ (by rw [hu.1]; exact h0), hu.1, drop_take']
    have hu4 : 0 < ul l := by omega
    rw [vlen_cut n (l.drop (ul l)) (m + 1 - ul l) (by rw [List.length_drop]; omega) (by rw [List.length_drop]; omega) ⟨by rw [List.length_drop]; have := hb.1; omega, ?_⟩]
    · omega
    · rw [List.length_drop, bt_drop, show ul l + (m + 1 - ul l) = m + 1 by omega]
      rcases hb.2 with h | h
      · left; omega
      · right; exact h

theorem twl_take (p : Int → Bool) : ∀ (l : List UInt8) (m : Nat), twl p (l.take m) = min m (twl p l)
  | [], m => by simp [twl]
  | c :: r, 0 => by simp [twl]
  | c :: r, m + 1 => by
    simp only [List.take_succ_cons, twl]
    split
    · rw [twl_take p r m]; omega
    · omega

/-- Bytes of words and spaces alone have tokens. -/
def plainB (n : Nat) : Prop := n = 32 ∨ n = 9 ∨ wordB (n : Int) = true
theorem tail_ok : ∀ (f : Nat) (t : List UInt8) (j : Nat), (∀ i, j ≤ i → i < t.length → plainB (bt t i)) → ∃ l, tkF f t j = .ok l
  | 0, t, j, h => ⟨[], rfl⟩
  | f + 1, t, j, h => by
    by_cases hlt : j < t.length
    · have hp := h j (Nat.le_refl _) hlt
      have key : ∃ p, tokS t j = .ok p := by
        unfold tokS tokC
        rw [bt_drop, Nat.add_zero]
        generalize bt t j = c at hp
        unfold plainB at hp
        by_cases g1 : c = 32 ∨ c = 9
        · rw [if_pos g1]; exact ⟨_, rfl⟩
        · have hw : wordB (c : Int) = true := by rcases hp with h | h | h <;> first | omega | exact h
          have hw' := hw
          unfold wordB at hw'
          simp only [decide_eq_true_eq] at hw'
          rw [if_neg g1, if_neg (by omega), if_neg (by omega), if_neg (by omega), if_neg (by omega), if_neg (by omega), if_pos hw]
          exact ⟨_, rfl⟩
      obtain ⟨p, hp⟩ := key
      rcases nxt_cases hlt with ⟨er, _, ht, _⟩ | ⟨kd, n, hn, n1, n2, _⟩
      · rw [hp] at ht; cases ht
      · obtain ⟨l, hl⟩ := tail_ok f t (j + n) fun i h1 h2 => h i (by omega) h2
        simp only [tkF]
        rw [if_neg (by omega), hn]
        simp only [tok_len n2]
        rw [hl]
        exact ⟨_, rfl⟩
    · exact ⟨[], tkF_end (by omega)⟩

theorem twl_all (p : Int → Bool) : ∀ (l : List UInt8) (i : Nat), i < twl p l → p (bt l i : Nat) = true
  | [], i, h => by simp [twl] at h
  | c :: r, i, h => by
    simp only [twl] at h
    split at h
    · rename_i hc
      cases i with
      | zero => exact hc
      | succ i => exact twl_all p r i (by omega)
    · omega

theorem patB_mono : ∀ (ps : List (Option UInt8)) (l : List UInt8) (m : Nat), patB ps (l.take m) = true → patB ps l = true
  | [], l, m, h => by simp [patB]
  | none :: ps, [], m, h => by simpa using h
  | some a :: ps, [], m, h => by simpa using h
  | none :: ps, c :: cs, 0, h => by simp [patB] at h
  | some a :: ps, c :: cs, 0, h => by simp [patB] at h
  | none :: ps, c :: cs, m + 1, h => by
    simp only [List.take_succ_cons, patB, Bool.and_eq_true] at h ⊢
    exact ⟨h.1, patB_mono ps cs m h.2⟩
  | some a :: ps, c :: cs, m + 1, h => by
    simp only [List.take_succ_cons, patB, Bool.and_eq_true] at h ⊢
    exact ⟨h.1, patB_mono ps cs m h.2⟩

theorem pat_tail {l : List UInt8} (h : patB (mkPat 100 str11) l = true) : 3 ≤ twl wordB (l.drop 11) ∧ bt l 10 = 32 := by
  have e : mkPat 100 str11 = (mkPat 100 str11).take 10 ++ [some 32, none, none, some 58] := by decide
  rw [e, patB_append, Bool.and_eq_true] at h
  have h2 := h.2
  rw [show ((mkPat 100 str11).take 10).length = 10 by decide] at h2
  have hb : bt l 10 = bt (l.drop 10) 0 := by rw [bt_drop]
  rw [hb, show l.drop 11 = (l.drop 10).drop 1 by rw [List.drop_drop]]
  generalize l.drop 10 = r at h2
  have dw : ∀ c : UInt8, digitB (c.toNat : Int) = true → wordB (c.toNat : Int) = true := fun c hc => by
    unfold digitB at hc; unfold wordB
    simp only [decide_eq_true_eq] at hc ⊢; omega
  rcases r with _ | ⟨a, _ | ⟨b, _ | ⟨c, _ | ⟨d, r⟩⟩⟩⟩ <;> simp [patB] at h2
  obtain ⟨rfl, h3, h4, rfl⟩ := h2
  refine ⟨?_, rfl⟩
  simp only [List.drop_succ_cons, List.drop_zero, twl, dw b h3, dw c h4, if_true]
  rw [if_pos (by decide)]
  omega

theorem cF_cut : ∀ (f f' : Nat) (s : List UInt8) (k j b : Nat), Bd s k → j ≤ k → k < j + f' → s.length < j + f → cF f (s.drop j) j = some b →
    (b ≤ k ∧ cF f' ((s.take k).drop j) j = some b) ∨ cF f' ((s.take k).drop j) j = some k
  | 0, f', s, k, j, b, hb, hj, hf', hf, h => by cases h
  | f + 1, 0, s, k, j, b, hb, hj, hf', hf, h => by omega
  | f + 1, f' + 1, s, k, j, b, hb, hj, hf', hf, h => by
    have hlen : (s.drop j).length = s.length - j := by simp
    have hlt : ((s.take k).drop j).length = k - j := by rw [List.length_drop, List.length_take]; have := hb.1; omega
    simp only [cF] at h ⊢
    rw [hlen] at h
    rw [hlt]
    by_cases g0 : j = k
    · right; rw [if_pos (by omega), g0]
    rw [if_neg (by have := hb.1; omega)] at h
    rw [if_neg (by omega)]
    have b0 : bt ((s.take k).drop j) 0 = bt (s.drop j) 0 := by rw [drop_take', bt_take, if_pos (by omega)]
    have b1 : bt ((s.take k).drop j) 1 = if 1 < k - j then bt (s.drop j) 1 else 0 := by rw [drop_take', bt_take]
    rw [b0]
    by_cases g1 : bt (s.drop j) 0 = 10
    · rw [if_pos g1] at h ⊢
      simp only [Option.some.injEq] at h
      left; exact ⟨by omega, by rw [h]⟩
    rw [if_neg g1] at h ⊢
    by_cases g2 : 1 < s.length - j ∧ bt (s.drop j) 0 = 13 ∧ bt (s.drop j) 1 = 10
    · rw [if_pos g2] at h
      simp only [Option.some.injEq] at h
      by_cases g3 : 1 < k - j
      · rw [b1, if_pos g3, if_pos ⟨g3, g2.2⟩]
        left; exact ⟨by omega, by rw [h]⟩
      · rw [if_neg (fun hh => g3 hh.1)]
        have hne : s.drop j ≠ [] := by
          intro h0
          have := congrArg List.length h0
          rw [hlen] at this; simp only [List.length_nil] at this; omega
        have hu := (ul_ascii _ hne (by omega)).1
        have hu2 := (hb.ul (show j < k by omega) (by omega)).1
        right
        rw [hu2, hu, if_neg (by omega), List.drop_drop]
        cases f' with
        | zero => omega
        | succ f' =>
          simp only [cF]
          rw [if_pos (by rw [List.length_drop, List.length_take]; omega)]
          congr 1; omega
    rw [if_neg g2] at h
    by_cases g4 : ul (s.drop j) = 0
    · rw [if_pos g4] at h; cases h
    rw [if_neg g4, List.drop_drop] at h
    have hc := hb.char (show j < k by omega)
    have hu2 := (hb.ul (show j < k by omega) g4).1
    have g5 : ¬ (1 < k - j ∧ bt (s.drop j) 0 = 13 ∧ bt ((s.take k).drop j) 1 = 10) := fun hh => by
      rw [b1, if_pos hh.1] at hh
      exact g2 ⟨by have := hb.1; omega, hh.2⟩
    rw [if_neg g5, hu2, if_neg g4, List.drop_drop]
    exact cF_cut f f' s k (j + ul (s.drop j)) b hb hc (by omega) (by omega) h

theorem hexS_cut : ∀ (n : Nat) (l : List UInt8) (m acc x : Nat), hexS n l acc = .ok x → (n ≤ m ∧ hexS n (l.take m) acc = .ok x) ∨ hexS n (l.take m) acc = .error 4
  | 0, l, m, acc, x, h => .inl ⟨by omega, h⟩
  | n + 1, [], m, acc, x, h => by cases h
  | n + 1, c :: cs, 0, acc, x, h => .inr rfl
  | n + 1, c :: cs, m + 1, acc, x, h => by
    simp only [hexS, List.take_succ_cons] at h ⊢
    cases hd : hexD c.toNat with
    | none => rw [hd] at h; cases h
    | some d =>
      rw [hd] at h
      rcases hexS_cut n cs m _ x h with ⟨h1, h2⟩ | h2
      · exact .inl ⟨by omega, h2⟩
      · exact .inr h2

theorem escS_cut {l : List UInt8} {p : Nat × Nat} (m : Nat) (h : escS l = .ok p) : (p.2 ≤ m ∧ escS (l.take m) = .ok p) ∨ escS (l.take m) = .error 4 := by
  unfold escS at h ⊢
  cases hn : hexS 4 l 0 with
  | error e => rw [hn] at h; cases h
  | ok n =>
    rw [hn] at h
    rcases hexS_cut 4 l m 0 n hn with ⟨h1, h2⟩ | h2
    · rw [h2]
      simp only at h ⊢
      by_cases g1 : 56320 ≤ n ∧ n ≤ 57343
      · rw [if_pos g1] at h; cases h
      rw [if_neg g1] at h ⊢
      by_cases g2 : n < 55296 ∨ 57343 < n
      · rw [if_pos g2] at h ⊢
        simp only [Except.ok.injEq] at h
        subst h
        exact .inl ⟨h1, rfl⟩
      rw [if_neg g2] at h ⊢
      by_cases g3 : l.length ≤ 4
      · rw [if_pos g3] at h; cases h
      rw [if_neg g3] at h
      by_cases g4 : bt l 4 ≠ 92
      · rw [if_pos g4] at h; cases h
      rw [if_neg g4] at h
      by_cases g5 : l.length ≤ 5
      · rw [if_pos g5] at h; cases h
      rw [if_neg g5] at h
      by_cases g6 : bt l 5 ≠ 117
      · rw [if_pos g6] at h; cases h
      rw [if_neg g6] at h
      by_cases q1 : m ≤ 4
      · right; rw [if_pos (by rw [List.length_take]; omega)]
      rw [if_neg (by rw [List.length_take]; omega), show bt (l.take m) 4 = bt l 4 by rw [bt_take, if_pos (by omega)], if_neg g4]
      by_cases q2 : m ≤ 5
      · right; rw [if_pos (by rw [List.length_take]; omega)]
      rw [if_neg (by rw [List.length_take]; omega), show bt (l.take m) 5 = bt l 5 by rw [bt_take, if_pos (by omega)], if_neg g6, drop_take']
      cases hm : hexS 4 (l.drop 6) 0 with
      | error e => rw [hm] at h; cases h
      | ok x =>
        rw [hm] at h
        rcases hexS_cut 4 (l.drop 6) (m - 6) 0 x hm with ⟨h3, h4⟩ | h4
        · rw [h4]
          simp only at h ⊢
          by_cases g7 : x < 56320 ∨ 57343 < x
          · rw [if_pos g7] at h; cases h
          rw [if_neg g7] at h ⊢
          simp only [Except.ok.injEq] at h
          subst h
          exact .inl ⟨by simp only; omega, rfl⟩
        · rw [h4]; exact .inr rfl
    · rw [h2]; exact .inr rfl

theorem qF_cut : ∀ (f f' m : Nat) (s : List UInt8) (k j : Nat) (acc : List UInt8) (p : List UInt8 × Nat), Bd s k → j ≤ k → k < j + f' → s.length < j + f → qF f m (s.drop j) acc j = .ok p →
    (p.2 ≤ k ∧ qF f' m ((s.take k).drop j) acc j = .ok p) ∨ qF f' m ((s.take k).drop j) acc j = .error 4
  | 0, f', m, s, k, j, acc, p, hb, hj, hf', hf, h => by cases h
  | f + 1, 0, m, s, k, j, acc, p, hb, hj, hf', hf, h => by omega
  | f + 1, f' + 1, m, s, k, j, acc, p, hb, hj, hf', hf, h => by
    have hlen : (s.drop j).length = s.length - j := by simp
    have hlt : ((s.take k).drop j).length = k - j := by rw [List.length_drop, List.length_take]; have := hb.1; omega
    have hk := hb.1
    simp only [qF] at h ⊢
    rw [hlen] at h
    rw [hlt]
    by_cases g0 : j = k
    · right; rw [if_pos (by omega)]
    rw [if_neg (by omega)] at h
    rw [if_neg (by omega)]
    have b0 : bt ((s.take k).drop j) 0 = bt (s.drop j) 0 := by rw [drop_take', bt_take, if_pos (by omega)]
    rw [b0]
    by_cases g1 : bt (s.drop j) 0 = m
    · rw [if_pos g1] at h ⊢
      simp only [Except.ok.injEq] at h
      subst h
      exact .inl ⟨by simp only; omega, rfl⟩
    rw [if_neg g1] at h ⊢
    by_cases g2 : ul (s.drop j) = 0 ∨ bt (s.drop j) 0 < 32
    · rw [if_pos g2] at h; cases h
    rw [if_neg g2] at h
    have g4 : ul (s.drop j) ≠ 0 := fun hh => g2 (.inl hh)
    have hc := hb.char (show j < k by omega)
    have hu2 := (hb.ul (show j < k by omega) g4).1
    rw [hu2, if_neg g2]
    by_cases g3 : bt (s.drop j) 0 ≠ 92 ∨ m = 39
    · rw [if_pos g3, List.drop_drop] at h
      rw [if_pos g3, List.drop_drop]
      have ht : ((s.take k).drop j).take (ul (s.drop j)) = (s.drop j).take (ul (s.drop j)) := by
        rw [drop_take', List.take_take, Nat.min_eq_left (by omega)]
      rw [ht]
      exact qF_cut f f' m s k _ _ p hb hc (by omega) (by omega) h
    rw [if_neg g3] at h ⊢
    by_cases g5 : s.length - j ≤ 1
    · rw [if_pos g5] at h; cases h
    rw [if_neg g5] at h
    by_cases g6 : k - j ≤ 1
    · right; rw [if_pos g6]
    rw [if_neg g6]
    have b1 : bt ((s.take k).drop j) 1 = bt (s.drop j) 1 := by rw [drop_take', bt_take, if_pos (by omega)]
    rw [b1]
    by_cases g7 : bt (s.drop j) 1 = 117
    · rw [if_pos g7] at h ⊢
      rw [List.drop_drop] at h ⊢
      cases hes : escS (s.drop (j + 2)) with
      | error e => rw [hes] at h; cases h
      | ok q =>
        rw [hes] at h
        have hcut := escS_cut (k - (j + 2)) hes
        rw [drop_take']
        rcases hcut with ⟨h1, h2⟩ | h2
        · rw [h2]
          simp only at h ⊢
          rw [List.drop_drop] at h
          have := (escS_ok (r := q.1) (k := q.2) hes).2.2.1
          have e : ((s.take k).drop j).drop (2 + q.2) = (s.take k).drop (j + (2 + q.2)) := by rw [List.drop_drop]
          rw [e]
          exact qF_cut f f' m s k _ _ p hb (by omega) (by omega) (by omega) h
        · rw [h2]; exact .inr rfl
    rw [if_neg g7] at h ⊢
    cases hd : simE (bt (s.drop j) 1) with
    | none => rw [hd] at h; cases h
    | some c =>
      rw [hd] at h
      simp only at h ⊢
      rw [List.drop_drop] at h ⊢
      exact qF_cut f f' m s k _ _ p hb (by omega) (by omega) (by omega) h

theorem wlen_plain (l : List UInt8) (i : Nat) (h : i < wlen l) : plainB (bt l i) := by
  unfold wlen at h
  split at h
  · rename_i hc
    have ht := pat_tail hc.2
    by_cases g1 : i < 10
    · exact .inr (.inr (twl_all wordB l i (by omega)))
    · by_cases g2 : i = 10
      · subst g2; exact .inl ht.2
      · have := twl_all wordB (l.drop 11) (i - 11) (by omega)
        rw [bt_drop, show 11 + (i - 11) = i by omega] at this
        exact .inr (.inr this)
  · exact .inr (.inr (twl_all wordB l i h))

theorem wlen_cut (l : List UInt8) (m : Nat) (h : wlen l ≤ m) : wlen (l.take m) = wlen l := by
  unfold wlen at h ⊢
  rw [twl_take]
  by_cases hc : twl wordB l = 10 ∧ patB (mkPat 100 str11) l = true
  · rw [if_pos hc] at h ⊢
    have ht := pat_tail hc.2
    rw [patB_take _ _ _ (by show 14 ≤ m; omega), if_pos ⟨by omega, hc.2⟩, drop_take', twl_take]
    omega
  · rw [if_neg hc] at h ⊢
    rw [if_neg fun hh => hc ⟨by omega, patB_mono _ _ _ hh.2⟩]
    omega

theorem tok_cut {s : List UInt8} {k i : Nat} {kd : Int} {b : Nat} (hb : Bd s k) (hi : i < k) (h : tokS s i = .ok (kd, b)) :
    (b ≤ k ∧ ∃ kd', tokS (s.take k) i = .ok (kd', b)) ∨ (∃ kd', tokS (s.take k) i = .ok (kd', k)) ∨ tokS (s.take k) i = .error 4 ∨ ∀ j, i ≤ j → j < k → plainB (bt (s.take k) j) := by
  have hk := hb.1
  have hlen : (s.take k).length = k := by rw [List.length_take]; omega
  have b0 : bt ((s.take k).drop i) 0 = bt (s.drop i) 0 := by rw [drop_take', bt_take, if_pos (by omega)]
  have b1 : bt ((s.take k).drop i) 1 = if 1 < k - i then bt (s.drop i) 1 else 0 := by rw [drop_take', bt_take]
  unfold tokS at h ⊢
  rw [b0, b1]
  have hw := wlen_plain (s.drop i)
  have hwc := wlen_cut (s.drop i) (k - i)
  rw [← drop_take'] at hwc
  have hsp := twl_take spaceB (s.drop i) (k - i)
  rw [← drop_take'] at hsp
  generalize bt (s.drop i) 0 = c at *
  generalize bt (s.drop i) 1 = c1 at *
  unfold tokC at h ⊢
  rw [hlen]
  by_cases g1 : c = 32 ∨ c = 9
  · rw [if_pos g1] at h ⊢
    simp only [Except.ok.injEq, Prod.mk.injEq] at h
    rw [hsp]
    by_cases q : b ≤ k
    · exact .inl ⟨q, 1, by rw [Nat.min_eq_right (by omega), h.2]⟩
    · exact .inr (.inl ⟨1, by rw [Nat.min_eq_left (by omega), show i + (k - i) = k by omega]⟩)
  rw [if_neg g1] at h ⊢
  by_cases g2 : c = 10
  · rw [if_pos g2] at h ⊢
    simp only [Except.ok.injEq, Prod.mk.injEq] at h
    exact .inl ⟨by omega, 2, by rw [h.2]⟩
  rw [if_neg g2] at h ⊢
  by_cases g3 : c = 13
  · rw [if_pos g3] at h ⊢
    by_cases q1 : s.length = i + 1
    · rw [if_pos q1] at h; cases h
    rw [if_neg q1] at h
    by_cases q2 : c1 = 10
    · rw [if_pos q2] at h
      simp only [Except.ok.injEq, Prod.mk.injEq] at h
      by_cases q3 : k = i + 1
      · rw [if_pos q3]; exact .inr (.inr (.inl rfl))
      · rw [if_neg q3, if_pos (show (if 1 < k - i then c1 else 0) = 10 by rw [if_pos (by omega)]; exact q2)]
        exact .inl ⟨by omega, 2, by rw [h.2]⟩
    · rw [if_neg q2] at h; cases h
  rw [if_neg g3] at h ⊢
  by_cases g4 : c = 35
  · rw [if_pos g4] at h ⊢
    cases hc : cF (s.length + 1) (s.drop i) i with
    | none => rw [hc] at h; cases h
    | some b' =>
      rw [hc] at h
      simp only [Except.ok.injEq, Prod.mk.injEq] at h
      rcases cF_cut (s.length + 1) (k + 1) s k i b' hb (by omega) (by omega) (by omega) hc with ⟨q1, q2⟩ | q2
      · rw [q2]; exact .inl ⟨by omega, 3, by rw [h.2]⟩
      · rw [q2]; exact .inr (.inl ⟨3, rfl⟩)
  rw [if_neg g4] at h ⊢
  by_cases g5 : c = 91 ∨ c = 93 ∨ c = 123 ∨ c = 125 ∨ c = 44 ∨ c = 61
  · rw [if_pos g5] at h ⊢
    simp only [Except.ok.injEq, Prod.mk.injEq] at h
    exact .inl ⟨by omega, 4, by rw [h.2]⟩
  rw [if_neg g5] at h ⊢
  by_cases g6 : c = 34 ∨ c = 39
  · rw [if_pos g6] at h ⊢
    cases hq : qF (s.length + 1) c (s.drop (i + 1)) [] (i + 1) with
    | error e => rw [hq] at h; cases h
    | ok p =>
      rw [hq] at h
      simp only [Except.ok.injEq, Prod.mk.injEq] at h
      rcases qF_cut (s.length + 1) (k + 1) c s k (i + 1) [] p hb (by omega) (by omega) (by omega) hq with ⟨q1, q2⟩ | q2
      · rw [q2]; exact .inl ⟨by omega, 5, by rw [← h.2]⟩
      · rw [q2]; exact .inr (.inr (.inl rfl))
  rw [if_neg g6] at h ⊢
  by_cases g7 : wordB (c : Int) = true
  · rw [if_pos g7] at h ⊢
    simp only [Except.ok.injEq, Prod.mk.injEq] at h
    by_cases q : b ≤ k
    · rw [hwc (by omega)]
      exact .inl ⟨q, 6, by rw [h.2]⟩
    · refine .inr (.inr (.inr fun j h1 h2 => ?_))
      have := hw (j - i) (by omega)
      rw [bt_drop, show i + (j - i) = j by omega] at this
      rw [bt_take, if_pos h2]; exact this
  · rw [if_neg g7] at h; cases h

theorem tkF_cut : ∀ (f f' : Nat) (s : List UInt8) (k i : Nat) (l : List Tok), Bd s k → i ≤ k → k < i + f' → s.length < i + f → tkF f s i = .ok l →
    (∃ l', tkF f' (s.take k) i = .ok l') ∨ tkF f' (s.take k) i = .error ((k : Int), 4)
  | 0, f', s, k, i, l, hb, hi, hf', hf, h => by have := hb.1; omega
  | f + 1, 0, s, k, i, l, hb, hi, hf', hf, h => by omega
  | f + 1, f' + 1, s, k, i, l, hb, hi, hf', hf, h => by
    have hk := hb.1
    have hlen : (s.take k).length = k := by rw [List.length_take]; omega
    by_cases g : i = k
    · exact .inl ⟨[], tkF_end (by omega)⟩
    obtain ⟨kd, n, r, rfl, n1, n2, _, _, ht, _, hr⟩ := tkF_inv (show i < s.length by omega) h
    have step : ∀ b kd', tokS (s.take k) i = .ok (kd', b) → ((∃ l', tkF f' (s.take k) b = .ok l') ∨ tkF f' (s.take k) b = .error ((k : Int), 4)) →
        (∃ l', tkF (f' + 1) (s.take k) i = .ok l') ∨ tkF (f' + 1) (s.take k) i = .error ((k : Int), 4) := by
      intro b kd' hb' hrec
      rcases nxt_cases (s := s.take k) (k := i) (by omega) with ⟨er, _, ht', _⟩ | ⟨kd2, n', hn, m1, m2, _, _, ht'⟩
      · rw [hb'] at ht'; cases ht'
      · rw [hb'] at ht'
        simp only [Except.ok.injEq, Prod.mk.injEq] at ht'
        simp only [tkF]
        rw [if_neg (by omega), hn]
        simp only [tok_len m2]
        rw [← ht'.2]
        rcases hrec with ⟨l', hl⟩ | hl
        · rw [hl]; exact .inl ⟨_, rfl⟩
        · rw [hl]; exact .inr rfl
    rcases tok_cut hb (show i < k by omega) ht with ⟨q1, kd', q2⟩ | ⟨kd', q2⟩ | q2 | q2
    · exact step _ kd' q2 (tkF_cut f f' s k (i + n) r hb q1 (by omega) (by omega) hr)
    · exact step _ kd' q2 (.inl ⟨[], tkF_end (by omega)⟩)
    · right
      rcases nxt_cases (s := s.take k) (k := i) (by omega) with ⟨er, hn, ht', _⟩ | ⟨kd2, n', hn, m1, m2, _, _, ht'⟩
      · rw [q2] at ht'
        simp only [Except.error.injEq] at ht'
        subst ht'
        simp only [tkF]
        rw [if_neg (by omega), hn]
        simp only [if_true]
        rw [hlen]
      · rw [q2] at ht'; cases ht'
    · exact .inl (tail_ok _ _ _ fun j h1 h2 => q2 j h1 (by omega))

theorem toks_cut {s : List UInt8} {k : Nat} {l : List Tok} (hb : Bd s k) (h : toks s = .ok l) : (∃ l', toks (s.take k) = .ok l') ∨ toks (s.take k) = .error ((k : Int), 4) := by
  have hk := hb.1
  have hlen : (s.take k).length = k := by rw [List.length_take]; omega
  unfold toks at h ⊢
  split at h
  · rename_i hv
    rw [vlen_cut s.length s k (Nat.le_refl _) hv hb, hlen, if_pos rfl]
    exact tkF_cut (s.length + 1) (k + 1) s k 0 l hb (by omega) (by omega) (by omega) h
  · cases h

set_option maxRecDepth 20000 in
/-- The law TablelexCut. -/
theorem lcut_ok {s : List UInt8} {C : Int} {st : St} {K : Bool → St → Prop} (hC : (Lit.int .u16 C).wf = true) (hk : ∀ st', StExt st st' → K true st') : CallT PR fn_datakitlaw24_TablelexCut [.str s, .int .u16 C] [.one (.bool)] st K := by
  have hC2 : 0 ≤ C ∧ C ≤ 65535 := by
    have h0 : IntKind.u16.min ≤ C ∧ C ≤ IntKind.u16.max := by simpa [Lit.wf] using hC
    have h1 : IntKind.u16.min = 0 := by decide
    have h2 : IntKind.u16.max = 65535 := by decide
    omega
  refine vc_datakitlaw24_TablelexCut s C st K (BIf_intro (fun g1 => awake_ok hk) fun g1 => tokens_ok (by omega) fun v1 st1 e1 o1 => ?_)
  have w1 : IntKind.i64.wrap C = C := wrap64 _ (by omega) (by omega)
  have w2 : IntKind.i64.wrap ((s.length : Int) + 1) = ((s.length + 1 : Nat) : Int) := by rw [wrap64 _ (by omega) (by omega)]; omega
  rw [w1, w2]
  obtain ⟨k, hk1, hk2⟩ : ∃ k : Nat, Int.tmod C ((s.length + 1 : Nat) : Int) = (k : Int) ∧ k ≤ s.length := by
    have h1 := Int.tmod_nonneg ((s.length + 1 : Nat) : Int) hC2.1
    have h2 := Int.tmod_lt_of_pos C (show (0 : Int) < ((s.length + 1 : Nat) : Int) by omega)
    exact ⟨(Int.tmod C ((s.length + 1 : Nat) : Int)).toNat, by omega, by omega⟩
  rw [hk1, show Int.toNat (k : Int) = k from rfl]
  refine need_intro (decide_eq_true (by omega)) ?_
  rcases toks_err s with ⟨l, hX⟩ | ⟨a, er, hX, her⟩
  · rw [hX]
    refine BIf_intro (fun h => absurd rfl h) fun _ => ?_
    have fin : Bd s k → ∀ st2, StExt st st2 → CallT PR fn_tablelex_Tokens [(.str (List.take k s))] [.one (.tv), .one (.int .i64), .one (.int .i64)] st2 (fun (v2 : TV) (n3 : Int) (n4 : Int) (st5 : St) => BIf (decide (n4 = (0 : Int))) (CallT PR fn_datakitlaw24_awake [] [.one (.bool)] st5 (fun (b4 : Bool) (st6 : St) => K (b4) st6)) (BIf (decide (n4 = (4 : Int))) (BIf (decide (n3 = (k : Int))) (CallT PR fn_datakitlaw24_awake [] [.one (.bool)] st5 (fun (b5 : Bool) (st7 : St) => K (b5) st7)) (K (false) st5)) (K (false) st5))) := by
      intro hb st2 e2
      refine tokens_ok (by rw [List.length_take]; omega) fun v2 st3 e3 o3 => ?_
      have aw : CallT PR fn_datakitlaw24_awake [] [.one (.bool)] st3 (fun (b4 : Bool) (st6 : St) => K (b4) st6) := awake_ok fun st4 e4 => hk _ (e2.trans (e3.trans e4))
      rcases toks_cut hb hX with ⟨l', h⟩ | h
      · rw [h]; exact BIf_intro (fun _ => aw) fun h => absurd rfl h
      · rw [h]; exact BIf_intro (fun _ => aw) fun _ => BIf_intro (fun _ => BIf_intro (fun _ => aw) fun h => absurd rfl h) fun h => absurd rfl h
    refine BIf_intro (fun q1 => ⟨⟨by omega, by omega⟩, ?_⟩) fun q1 => ⟨⟨by omega, by omega⟩, fin ⟨hk2, .inl (by omega)⟩ st1 e1⟩
    refine BIf_intro (fun q2 => ⟨⟨by omega, by omega⟩, ?_⟩) fun q2 => ⟨⟨by omega, by omega⟩, fin ⟨hk2, .inr ?_⟩ st1 e1⟩
    · refine BIf_intro (fun q3 => ?_) fun q3 => ?_
      · exact awake_ok fun st2 e2 => hk _ (e1.trans e2)
      · refine ⟨⟨by omega, by omega⟩, fin ⟨hk2, .inr ?_⟩ st1 e1⟩
        unfold contB
        show ¬ (128 ≤ (s.getD k 0).toNat ∧ (s.getD k 0).toNat < 192)
        omega
    all_goals
      unfold contB
      show ¬ (128 ≤ (s.getD k 0).toNat ∧ (s.getD k 0).toNat < 192)
      omega
  · rw [hX]
    exact BIf_intro (fun _ => awake_ok fun st2 e2 => hk _ (e1.trans e2)) fun h => absurd her h
end Go.TVF
