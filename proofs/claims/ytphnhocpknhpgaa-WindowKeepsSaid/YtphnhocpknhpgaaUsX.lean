/- The window's two other laws. -/
import Derived.Test.YtphnhocpknhpgaaUsW
import Derived.Test.YtphnhocpknhpgaaTvT
set_option linter.unusedVariables false
set_option linter.unusedSimpArgs false
namespace Go.TVF
open Go Go.Proofs

abbrev ActT : List CTy := [.int .i64, .str, .int .i64, .int .i64]
abbrev Act := Int × List UInt8 × Int × Int

structure Acts (l : TV) (n : Nat) (f : Nat → Act) : Prop where
  sl : isSl l = true
  lenS : lenS l = n
  lenZ : lenZ 4 l = n
  le : (n : Int) ≤ 9223372036854775807
  ptr : ∀ i, i < n → isPtr (ixT 4 l i) = true
  l0 : ∀ (st : St) (i : Nat), i < n → ldCell st [] (.t (fldT (ixT 4 l i) 0)) 0 = some (.int .i64 (f i).1)
  l1 : ∀ (st : St) (i : Nat), i < n → ldCell st [] (.t (fldT (ixT 4 l i) 1)) 0 = some (.str (f i).2.1)
  l2 : ∀ (st : St) (i : Nat), i < n → ldCell st [] (.t (fldT (ixT 4 l i) 2)) 0 = some (.int .i64 (f i).2.2.1)
  l3 : ∀ (st : St) (i : Nat), i < n → ldCell st [] (.t (fldT (ixT 4 l i) 3)) 0 = some (.int .i64 (f i).2.2.2)
  all : ∀ (st : St) (i : Nat), i < n → ldCells st [] (.t (ixT 4 l i)) 0 4 = some [.int .i64 (f i).1, .str (f i).2.1, .int .i64 (f i).2.2.1, .int .i64 (f i).2.2.2]
  r2 : ∀ i, i < n → (f i).2.2.1 ≤ 9223372036854775807

theorem acts_of {l : TV} (h : SlIs ActT l) : ∃ n f, Acts l n f := by
  have h' : l = .nilSlice ∨ ∃ n xs, l = .list 4 .non n xs ∧ (n : Int) ≤ 9223372036854775807 ∧ xs.length = n * 4 ∧ ∀ i, i < n → flatIs ActT ((xs.drop (i * 4)).take 4) := h
  rcases h' with rfl | ⟨n, xs, rfl, hn, hl, hx⟩
  · exact ⟨0, fun _ => (0, [], 0, 0), rfl, rfl, rfl, by omega, fun i h => absurd h (Nat.not_lt_zero _), fun _ i h => absurd h (Nat.not_lt_zero _), fun _ i h => absurd h (Nat.not_lt_zero _), fun _ i h => absurd h (Nat.not_lt_zero _), fun _ i h => absurd h (Nat.not_lt_zero _), fun _ i h => absurd h (Nat.not_lt_zero _), fun i h => absurd h (Nat.not_lt_zero _)⟩
  · have hrow : ∀ i, ∃ a : Act, i < n → (xs.drop (i * 4)).take 4 = [.int .i64 a.1, .str a.2.1, .int .i64 a.2.2.1, .int .i64 a.2.2.2] ∧ a.2.2.1 ≤ 9223372036854775807 := fun i => by
      by_cases h : i < n
      · obtain ⟨k, _, h1, _, s, _, rfl, _, x, _, rfl, hx2, b, _, rfl, _, rfl⟩ := hx i h
        refine ⟨(k, s, x, b), fun _ => ⟨h1, ?_⟩⟩
        simp [Lit.wf, IntKind.min, IntKind.max, IntKind.signed, IntKind.bits] at hx2
        exact hx2.2
      · exact ⟨(0, [], 0, 0), fun h' => absurd h' h⟩
    have get : ∀ i j (a b c d : TV), i < n → (xs.drop (i * 4)).take 4 = [a, b, c, d] → j < 4 → xs[i * 4 + j]? = [a, b, c, d][j]? := fun i j a b c d hi h hj => by
      rw [← h, List.getElem?_take_of_lt hj, List.getElem?_drop]
    have hlen : ∀ i j, i < n → j < 4 → i * 4 + j < xs.length := fun i j h1 h2 => by rw [hl]; omega
    have hld : ∀ (st : St) (i j : Nat), i < n → j < 4 → ldCell st [] (.t (fldT (ixT 4 (.list 4 .non n xs) i) j)) 0 = xs[i * 4 + j]? := fun st i j hi hj => by
      have h1 : Rd 4 (.list 4 .non n xs) n xs := .inr ⟨_, rfl⟩
      rw [h1.ldf st i j (hlen i j hi hj), List.getElem?_eq_getElem (hlen i j hi hj)]
    have hlc : ∀ (st : St) (i j : Nat), i < n → j < 4 → ldCell st [] (.t (ixT 4 (.list 4 .non n xs) i)) j = xs[i * 4 + j]? := fun st i j hi hj => by
      have h1 : Rd 4 (.list 4 .non n xs) n xs := .inr ⟨_, rfl⟩
      rw [h1.ld st i j (hlen i j hi hj), List.getElem?_eq_getElem (hlen i j hi hj)]
    refine ⟨n, fun i => Classical.choose (hrow i), rfl, rfl, by simp [lenZ], hn, fun i _ => rfl, ?_, ?_, ?_, ?_, ?_, ?_⟩
    · intro st i hi; rw [hld st i 0 hi (by omega), get i 0 _ _ _ _ hi (Classical.choose_spec (hrow i) hi).1 (by omega)]; rfl
    · intro st i hi; rw [hld st i 1 hi (by omega), get i 1 _ _ _ _ hi (Classical.choose_spec (hrow i) hi).1 (by omega)]; rfl
    · intro st i hi; rw [hld st i 2 hi (by omega), get i 2 _ _ _ _ hi (Classical.choose_spec (hrow i) hi).1 (by omega)]; rfl
    · intro st i hi; rw [hld st i 3 hi (by omega), get i 3 _ _ _ _ hi (Classical.choose_spec (hrow i) hi).1 (by omega)]; rfl
    · intro st i hi
      have hg := fun j hj => get i j _ _ _ _ hi (Classical.choose_spec (hrow i) hi).1 hj
      simp only [ldCells, hlc st i 0 hi (by omega), hlc st i (0 + 1) hi (by omega), hlc st i (0 + 1 + 1) hi (by omega), hlc st i (0 + 1 + 1 + 1) hi (by omega), hg 0 (by omega), hg 1 (by omega), hg 2 (by omega), hg 3 (by omega)]
      rfl
    · intro i hi; exact (Classical.choose_spec (hrow i) hi).2

theorem small_ok {l : TV} {n : Nat} {f : Nat → Act} (a : Acts l n f) {st : St} {K : Bool → St → Prop} (hk : ∀ r, (r = true → n ≤ 200 ∧ ∀ i, i < n → (f i).2.1.length ≤ 2000) → K r st) : CallT Try.prog 13 [l] [.one (.bool)] st K := by
  refine vc13 l st K ⟨fun i l' st' => l' = l ∧ st' = st ∧ 0 ≤ i ∧ i ≤ n ∧ i ≤ 201 ∧ ∀ j : Nat, (j : Int) < i → (f j).2.1.length ≤ 2000, fun i _ _ => (n - i).toNat, ⟨rfl, rfl, by omega, by omega, by omega, fun j h => absurd h (by omega)⟩, ?_⟩
  rintro i _ _ ⟨rfl, rfl, h0, h1, h2, h3⟩
  refine need_intro a.sl ?_
  rw [a.lenS, a.lenZ]
  refine BIf_intro (fun h4 => BIf_intro (fun h5 => ?_) fun h5 => need_intro a.sl (hk _ fun hd => ?_)) fun h4 => need_intro a.sl (hk _ fun hd => ?_)
  · have hi : i.toNat < n := by omega
    refine ⟨⟨h0, h4⟩, need_intro (a.ptr _ hi) (optK_intro (a.l1 _ _ hi) (BIf_intro (fun h6 => hk _ fun hf => by cases hf) fun h6 => ?_))⟩
    rw [wrap64 (i + 1) (by omega) (by omega)]
    refine ⟨⟨rfl, rfl, by omega, by omega, by omega, fun j hj => ?_⟩, by dsimp only; omega⟩
    by_cases hji : (j : Int) = i
    · have : j = i.toNat := by omega
      subst this; omega
    · exact h3 j (by omega)
  · have := of_decide_eq_true hd
    omega
  · have := of_decide_eq_true hd
    exact ⟨by omega, fun j hj => h3 j (by omega)⟩

theorem takeS_takeL (l : List UInt8) (n : Int) : takeS l n ++ takeL l n = l := by
  unfold takeS takeL
  split
  · rfl
  · split
    · rfl
    · exact List.take_append_drop _ _

theorem plays_ok (size : Int) {l : TV} (hl : SlIs ActT l) : CallT Try.prog 4 [.int .i64 size, l] [.one (.bool)] St.zero (fun r _ => r = true) := by
  obtain ⟨n, f, a⟩ := acts_of hl
  refine vc4 size l St.zero _ (small_ok a fun r hr => ?_)
  refine BIf_iff.2 ⟨fun _ => awake_ok fun _ => rfl, fun hb => ?_⟩
  have hr' : r = true := by cases r <;> simp_all
  obtain ⟨hn, hs⟩ := hr hr'
  refine new_ok (fun hbad => ?_) fun hz1 hz2 st1 b hw => ?_
  · refine vc20 size _ _ (BIf_intro (fun h1 => ?_) fun h1 => BIf_intro (fun h2 => ?_) fun h2 => absurd hbad (by omega))
    all_goals
      refine BIf_intro (fun hh => absurd rfl hh) fun _ => need_intro rfl (BIf_iff.2 ⟨fun hh => absurd hh (by decide), fun _ => BIf_intro (fun _ => awake_ok fun _ => rfl) fun hh => absurd (by decide) hh⟩)
  · refine vc20 size _ _ (BIf_intro (fun h1 => absurd h1 (by omega)) fun h1 => BIf_intro (fun h2 => absurd h2 (by omega)) fun h2 => ?_)
    refine BIf_intro (fun hh => absurd rfl hh) fun _ => need_intro rfl (BIf_iff.2 ⟨fun hh => absurd hh (by simp [isNilT]), fun _ => BIf_intro (fun hh => absurd rfl hh) fun _ => ?_⟩)
    refine ⟨fun e g i l' w n5 n6 s2 b5 st' => e = g ∧ 0 ≤ i ∧ i ≤ n ∧ l' = l ∧ w = .box b 0 ∧ n5 = size ∧ Win st' b size s2 n6 b5, fun _ _ i _ _ _ _ _ _ _ => (n - i).toNat, ⟨rfl, by omega, by omega, rfl, rfl, rfl, hw⟩, ?_⟩
    rintro e _ i _ _ _ n6 s2 b5 st' ⟨rfl, h0, h1, rfl, rfl, rfl, hw'⟩
    refine need_intro a.sl ?_
    rw [a.lenS, a.lenZ]
    refine BIf_intro (fun h4 => ?_) fun h4 => awake_ok fun _ => rfl
    have hi : i.toNat < n := by omega
    have hwr : IntKind.i64.wrap (i + 1) = i + 1 := wrap64 _ (by omega) (by omega)
    rw [hwr]
    refine ⟨⟨h0, h4⟩, optK_intro (x := .agg [.int .i64 (f i.toNat).1, .str (f i.toNat).2.1, .int .i64 (f i.toNat).2.2.1, .int .i64 (f i.toNat).2.2.2]) (by rw [a.all _ _ hi]; rfl) ?_⟩
    refine BIf_intro (fun _ => ?_) fun _ => BIf_intro (fun _ => ?_) fun _ => BIf_intro (fun _ => ?_) fun _ => ?_
    · refine feed_ok hw' fun st2 h2 => rfeed_ok hw'.len hw'.sz (BIf_intro (fun hh => absurd rfl hh) fun _ => agrees_ok h2 (BIf_iff.2 ⟨fun hh => absurd hh (by decide), fun _ => ?_⟩))
      exact ⟨⟨rfl, by omega, by omega, rfl, rfl, rfl, h2⟩, by dsimp only; omega⟩
    · refine take_ok hw' fun st2 h2 => rtake_ok (BIf_intro (fun hh => absurd rfl hh) fun _ => BIf_intro (fun hh => absurd rfl hh) fun _ => agrees_ok h2 (BIf_iff.2 ⟨fun hh => absurd hh (by decide), fun _ => ?_⟩))
      exact ⟨⟨rfl, by omega, by omega, rfl, rfl, rfl, h2⟩, by dsimp only; omega⟩
    · refine close_ok hw' fun st2 h2 => rclose_ok (BIf_intro (fun hh => absurd rfl hh) fun _ => agrees_ok h2 (BIf_iff.2 ⟨fun hh => absurd hh (by decide), fun _ => ?_⟩))
      exact ⟨⟨rfl, by omega, by omega, rfl, rfl, rfl, h2⟩, by dsimp only; omega⟩
    · have hlen := hw'.len
      have hsz := hw'.sz
      refine at_ok hw' (rat_ok (find_ok hw' (a.r2 _ hi) fun r ok hf => rfind_ok (by omega) fun r' ok' hf' => ?_))
      obtain ⟨rfl, rfl⟩ := hf.uniq hf'
      refine BIf_intro (fun hh => absurd rfl hh) fun _ => BIf_iff.2 ⟨fun hh => absurd hh (by simp), fun _ => BIf_intro (fun hh => absurd rfl hh) fun _ => BIf_iff.2 ⟨fun hh => absurd hh (by simp), fun _ => ?_⟩⟩
      refine BIf_intro (fun hh => absurd rfl hh) fun _ => agrees_ok hw' (BIf_iff.2 ⟨fun hh => absurd hh (by decide), fun _ => ?_⟩)
      exact ⟨⟨rfl, by omega, by omega, rfl, rfl, rfl, hw'⟩, by dsimp only; omega⟩

theorem keeps_ok (size : Int) {l : TV} (hl : SlIs ActT l) : CallT Try.prog 3 [.int .i64 size, l] [.one (.bool)] St.zero (fun r _ => r = true) := by
  obtain ⟨n, f, a⟩ := acts_of hl
  refine vc3 size l St.zero _ (small_ok a fun r hr => ?_)
  refine BIf_iff.2 ⟨fun _ => awake_ok fun _ => rfl, fun hb => ?_⟩
  have hr' : r = true := by cases r <;> simp_all
  obtain ⟨hn, hs⟩ := hr hr'
  refine new_ok (fun hbad => ?_) fun hz1 hz2 st1 b hw => ?_
  · exact BIf_intro (fun hh => need_intro rfl (BIf_iff.2 ⟨fun _ => awake_ok fun _ => rfl, fun hh => absurd hh (by decide)⟩)) fun hh => absurd (by decide) hh
  · refine BIf_intro (fun hh => absurd rfl hh) fun _ => ?_
    refine ⟨fun fed taken i size' l' w st' => 0 ≤ i ∧ i ≤ n ∧ size = size' ∧ l = l' ∧ .box b 0 = w ∧ (fed.length : Int) ≤ 2000 * i ∧ ∃ held, Win st' b size held taken.length false ∧ taken ++ held = fed, fun _ _ i _ _ _ _ => (n - i).toNat, ⟨by omega, by omega, rfl, rfl, rfl, by simp, [], hw, rfl⟩, ?_⟩
    rintro fed taken i _ _ _ st' ⟨h0, h1, rfl, rfl, rfl, hfl, held, hw', hcat⟩
    refine need_intro a.sl ?_
    rw [a.lenS, a.lenZ]
    refine BIf_intro (fun h4 => ?_) fun h4 => ?_
    · have hi : i.toNat < n := by omega
      have hwr : IntKind.i64.wrap (i + 1) = i + 1 := wrap64 _ (by omega) (by omega)
      have hsl := hs _ hi
      have hfe : fed.length = taken.length + held.length := by rw [← hcat, List.length_append]
      -- the end of a round
      have rest : ∀ (fed2 taken2 held2 : List UInt8) (st2 : St), Win st2 b size held2 taken2.length false → taken2 ++ held2 = fed2 → (fed2.length : Int) ≤ 2000 * (i + 1) →
          CallT Try.prog 18 [.box b 0] [.one (.int .i64)] st2 (fun (n7 : Int) (st8 : St) => BIf (decide (size < n7)) (false = true) (CallT Try.prog 19 [.box b 0] [.one (.int .i64)] st8 (fun (n8 : Int) (st9 : St) => BIf (decide (n8 ≠ (taken2.length : Int))) (false = true)
            ((0 ≤ i + 1 ∧ i + 1 ≤ n ∧ size = size ∧ l = l ∧ TV.box b 0 = .box b 0 ∧ (fed2.length : Int) ≤ 2000 * (i + 1) ∧ ∃ held, Win st9 b size held taken2.length false ∧ taken2 ++ held = fed2) ∧ (n - (i + 1)).toNat < (n - i).toNat)))) := fun fed2 taken2 held2 st2 hw2 hc2 hl2 => by
        refine len_ok hw2 (BIf_intro (fun hh => absurd hw2.len (by omega)) fun _ => offset_ok hw2 (BIf_intro (fun hh => absurd rfl hh) fun _ => ?_))
        exact ⟨⟨by omega, by omega, rfl, rfl, rfl, hl2, held2, hw2, hc2⟩, by omega⟩
      refine ⟨⟨h0, h4⟩, need_intro (a.ptr _ hi) (optK_intro (a.l0 _ _ hi) ?_)⟩
      rw [hwr]
      refine BIf_intro (fun hk0 => ⟨⟨h0, h4⟩, need_intro (a.ptr _ hi) (optK_intro (a.l1 _ _ hi) (feed_ok hw' fun st2 h2 => BIf_intro (fun hf => ?_) fun hf => ?_))⟩) fun hk0 => ?_
      · refine ⟨⟨h0, h4⟩, need_intro (a.ptr _ hi) (optK_intro (a.l1 _ _ hi) ⟨by omega, ⟨h0, h4⟩, need_intro (a.ptr _ hi) (optK_intro (a.l0 _ _ hi) ?_)⟩)⟩
        refine BIf_intro (fun hk1 => absurd hk1 (by omega)) fun _ => ?_
        have hfit : ¬ size - (held.length : Int) < ((f i.toNat).2.1.length : Int) := fun hlt => by
          simp [feedR, hlt] at hf
        have e1 : feedL size held (f i.toNat).2.1 false = held ++ (f i.toNat).2.1 := by simp [feedL, hfit]
        rw [e1] at h2
        exact rest (fed ++ (f i.toNat).2.1) taken _ _ h2 (by rw [← hcat, List.append_assoc]) (by rw [List.length_append]; omega)
      · refine ⟨⟨h0, h4⟩, need_intro (a.ptr _ hi) (optK_intro (a.l0 _ _ hi) ?_)⟩
        refine BIf_intro (fun hk1 => absurd hk1 (by omega)) fun _ => ?_
        have hfit : size - (held.length : Int) < ((f i.toNat).2.1.length : Int) := by
          by_cases hlt : size - (held.length : Int) < ((f i.toNat).2.1.length : Int)
          · exact hlt
          · simp [feedR, hlt] at hf
        have e1 : feedL size held (f i.toNat).2.1 false = held := by simp [feedL, hfit]
        rw [e1] at h2
        exact rest _ _ _ _ h2 hcat (by omega)
      · refine ⟨⟨h0, h4⟩, need_intro (a.ptr _ hi) (optK_intro (a.l0 _ _ hi) ?_)⟩
        refine BIf_intro (fun hk1 => ⟨⟨h0, h4⟩, need_intro (a.ptr _ hi) (optK_intro (a.l2 _ _ hi) (take_ok hw' fun st2 h2 => ?_))⟩) fun _ => rest _ _ _ _ hw' hcat (by omega)
        have hts := takeS_takeL held (f i.toNat).2.2.1
        have hlts : (takeS held (f i.toNat).2.2.1).length ≤ held.length := by have := congrArg List.length hts; rw [List.length_append] at this; omega
        refine ⟨by omega, ?_⟩
        have ho : takeO held taken.length (f i.toNat).2.2.1 = ((taken ++ takeS held (f i.toNat).2.2.1).length : Nat) := by
          unfold takeO takeS
          split
          · simp
          · split
            · simp
            · have := hw'.len
              have := hw'.sz
              rw [wrap64 _ (by omega) (by omega), List.length_append, List.length_take]
              omega
        rw [ho] at h2
        exact rest _ _ _ _ h2 (by rw [List.append_assoc, hts, hcat]) (by omega)
    · refine len_ok hw' (take_ok hw' fun st2 h2 => ?_)
      have e1 : takeR held held.length = 0 := by unfold takeR; rw [if_neg (by omega), if_neg (by omega)]
      have e2 : takeS held held.length = held := by unfold takeS; rw [if_neg (by omega), if_neg (by omega)]; simp
      have e3 : takeL held held.length = [] := by unfold takeL; rw [if_neg (by omega), if_neg (by omega)]; simp
      rw [e1, e2]
      rw [e3] at h2
      refine BIf_intro (fun _ => ⟨?_, BIf_intro (fun _ => len_ok h2 (BIf_intro (fun _ => awake_ok fun _ => rfl) fun hh => absurd rfl hh)) fun hh => absurd hcat hh⟩) fun hh => absurd rfl hh
      rw [← List.length_append, hcat]; omega
end Go.TVF
