/- The window: contracts of its methods, and of the reference's. -/
import Derived.Test.YtphnhocpknhpgaaVcW
set_option linter.unusedVariables false
set_option linter.unusedSimpArgs false
namespace Go.TVF
open Go Go.Proofs

theorem StExt.zero (st : St) : StExt St.zero st := ⟨Nat.zero_le _, fun i hi => absurd hi (Nat.not_lt_zero _), Nat.zero_le _, fun i hi => absurd hi (Nat.not_lt_zero _)⟩

/-- A window that holds l. -/
structure Win (st : St) (b : Nat) (size : Int) (l : List UInt8) (off : Int) (c : Bool) : Prop where
  ex : ∃ v, st.box b = .cells [.int .i64 size, v, .int .i64 off, .bool c] ∧ OwnB 0 st v l
  len : (l.length : Int) ≤ size
  sz : size ≤ 65536

def feedR (size : Int) (l s : List UInt8) (c : Bool) : Int := if c = true then 29 else if size - l.length < s.length then 28 else 0
def feedL (size : Int) (l s : List UInt8) (c : Bool) : List UInt8 := if c = true then l else if size - l.length < s.length then l else l ++ s
def takeR (l : List UInt8) (n : Int) : Int := if n < 0 then 2 else if (l.length : Int) < n then 2 else 0
def takeS (l : List UInt8) (n : Int) : List UInt8 := if n < 0 then [] else if (l.length : Int) < n then [] else l.take n.toNat
def takeL (l : List UInt8) (n : Int) : List UInt8 := if n < 0 then l else if (l.length : Int) < n then l else l.drop n.toNat
def takeO (l : List UInt8) (off n : Int) : Int := if n < 0 then off else if (l.length : Int) < n then off else IntKind.i64.wrap (off + n)
def atR (l : List UInt8) (i : Int) : Int := if i < 0 then 0 else if (l.length : Int) ≤ i then 0 else ((l.getD i.toNat 0).toNat : Int)
def atB (l : List UInt8) (i : Int) : Bool := if i < 0 then false else if (l.length : Int) ≤ i then false else true
def closeR (c : Bool) : Int := if c = true then 29 else 0
/-- r is the least place from 'a' on that has b. -/
def FindIs (l : List UInt8) (b a r : Int) (ok : Bool) : Prop :=
  (ok = false ∧ r = 0 ∧ (0 ≤ a → ∀ j : Nat, j < l.length → a ≤ j → ((l.getD j 0).toNat : Int) ≠ b)) ∨
  (ok = true ∧ 0 ≤ a ∧ a ≤ r ∧ r < l.length ∧ ((l.getD r.toNat 0).toNat : Int) = b ∧ ∀ j : Nat, (j : Int) < r → a ≤ j → ((l.getD j 0).toNat : Int) ≠ b)

theorem FindIs.uniq {l : List UInt8} {b a r r' : Int} {ok ok' : Bool} (h : FindIs l b a r ok) (h' : FindIs l b a r' ok') : r = r' ∧ ok = ok' := by
  rcases h with ⟨rfl, rfl, h⟩ | ⟨rfl, h0, h1, h2, h3, h4⟩ <;> rcases h' with ⟨rfl, rfl, h'⟩ | ⟨rfl, h0', h1', h2', h3', h4'⟩
  · exact ⟨rfl, rfl⟩
  · exact absurd h3' (h h0' r'.toNat (by omega) (by omega))
  · exact absurd h3 (h' h0 r.toNat (by omega) (by omega))
  · refine ⟨?_, rfl⟩
    rcases Int.lt_trichotomy r r' with hl | hl | hl
    · exact absurd h3 (h4' r.toNat (by omega) (by omega))
    · exact hl
    · exact absurd h3' (h4 r'.toNat (by omega) (by omega))

section
variable {st : St} {b : Nat} {size : Int} {l : List UInt8} {off : Int} {c : Bool}

theorem Win.ld0 (h : Win st b size l off c) : ldCell st [] (.t (.box b 0)) 0 = some (.int .i64 size) := by
  obtain ⟨v, hv, _⟩ := h.ex
  simp only [ldCell, hv]; rfl
theorem Win.ld1 (h : Win st b size l off c) : ∃ v, ldCell st [] (.t (.box b 1)) 0 = some v ∧ OwnB 0 st v l := by
  obtain ⟨v, hv, ho⟩ := h.ex
  exact ⟨v, by simp only [ldCell, hv]; rfl, ho⟩
theorem Win.ld2 (h : Win st b size l off c) : ldCell st [] (.t (.box b 2)) 0 = some (.int .i64 off) := by
  obtain ⟨v, hv, _⟩ := h.ex
  simp only [ldCell, hv]; rfl
theorem Win.ld3 (h : Win st b size l off c) : ldCell st [] (.t (.box b 3)) 0 = some (.bool c) := by
  obtain ⟨v, hv, _⟩ := h.ex
  simp only [ldCell, hv]; rfl

theorem byte_le (x : UInt8) : x.toNat ≤ 255 := by have := x.toNat_lt; omega
theorem wrapB (n : Nat) (h : n ≤ 255) : IntKind.wrap .i64 (n : Int) = n := wrap64 _ (by omega) (by omega)

/-- The held bytes are laid anew. -/
theorem Win.put1 {st' : St} {v : TV} {l' : List UInt8} (h : Win st b size l off c) (hb : st'.box = st.box) (ho : OwnB 0 st' v l') (hl : (l'.length : Int) ≤ size) {k : St → Prop}
    (hk : ∀ st2, Win st2 b size l' off c → k st2) : stB st' (.box b 1) [v] k := by
  obtain ⟨u, hu, _⟩ := h.ex
  refine ⟨_, by rw [hb, hu], by simp, hk _ ⟨⟨v, ?_, ?_⟩, hl, h.sz⟩⟩
  · simp [St.put, setAll]
  · rcases ho with ho | ⟨t, h1, h2⟩
    · exact .inl ho
    · exact .inr ⟨t, h1, h2⟩
theorem Win.put2 (h : Win st b size l off c) (off' : Int) {k : St → Prop} (hk : ∀ st2, Win st2 b size l off' c → k st2) : stB st (.box b 2) [.int .i64 off'] k := by
  obtain ⟨u, hu, ho⟩ := h.ex
  refine ⟨_, hu, by simp, hk _ ⟨⟨u, ?_, ?_⟩, h.len, h.sz⟩⟩
  · simp [St.put, setAll]
  · rcases ho with ho | ⟨t, h1, h2⟩
    · exact .inl ho
    · exact .inr ⟨t, h1, h2⟩
theorem Win.put3 (h : Win st b size l off c) (c' : Bool) {k : St → Prop} (hk : ∀ st2, Win st2 b size l off c' → k st2) : stB st (.box b 3) [.bool c'] k := by
  obtain ⟨u, hu, ho⟩ := h.ex
  refine ⟨_, hu, by simp, hk _ ⟨⟨u, ?_, ?_⟩, h.len, h.sz⟩⟩
  · simp [St.put, setAll]
  · rcases ho with ho | ⟨t, h1, h2⟩
    · exact .inl ho
    · exact .inr ⟨t, h1, h2⟩

theorem len_ok {K : Int → St → Prop} (h : Win st b size l off c) (hk : K l.length st) : CallT Try.prog 18 [.box b 0] [.one (.int .i64)] st K := by
  obtain ⟨v, hv, ho⟩ := h.ld1
  refine vc18 b st K (optK_intro hv (need_intro ho.rd.isSl ?_))
  rw [ho.rd.lenS]; exact hk
theorem offset_ok {K : Int → St → Prop} (h : Win st b size l off c) (hk : K off st) : CallT Try.prog 19 [.box b 0] [.one (.int .i64)] st K :=
  vc19 b st K (optK_intro h.ld2 hk)
theorem closed_ok {K : Bool → St → Prop} (h : Win st b size l off c) (hk : K c st) : CallT Try.prog 31 [.box b 0] [.one (.bool)] st K :=
  vc31 b st K (optK_intro h.ld3 hk)
theorem free_ok {K : Int → St → Prop} (h : Win st b size l off c) (hk : K (size - l.length) st) : CallT Try.prog 30 [.box b 0] [.one (.int .i64)] st K := by
  obtain ⟨v, hv, ho⟩ := h.ld1
  refine vc30 b st K (optK_intro h.ld0 (optK_intro hv (need_intro ho.rd.isSl ?_)))
  rw [ho.rd.lenS, wrap64 _ (by have := h.len; omega) (by have := h.sz; omega)]; exact hk
theorem close_ok {K : Int → St → Prop} (h : Win st b size l off c) (hk : ∀ st', Win st' b size l off true → K (closeR c) st') : CallT Try.prog 23 [.box b 0] [.one (.int .i64)] st K := by
  refine vc23 b st K (optK_intro h.ld3 ?_)
  cases c with
  | true => exact hk _ h
  | false => exact h.put3 true hk
theorem feed_ok {s : List UInt8} {K : Int → St → Prop} (h : Win st b size l off c) (hk : ∀ st', Win st' b size (feedL size l s c) off c → K (feedR size l s c) st') : CallT Try.prog 16 [.box b 0, .str s] [.one (.int .i64)] st K := by
  refine vc16 b s st K (optK_intro h.ld3 ?_)
  cases c with
  | true => exact hk _ h
  | false =>
    refine free_ok h (BIf_intro (fun hlt => ?_) fun hlt => ?_)
    · have := hk st (by simpa [feedL, hlt] using h)
      simpa [feedR, hlt] using this
    · obtain ⟨v, hv, ho⟩ := h.ld1
      refine optK_intro hv (optK_intro (src_str _ _) (need_intro (one_bytesT _) ?_))
      have hs := h.sz
      have hl := h.len
      refine appK_bytes (st0 := St.zero) (StExt.zero _) ho (by omega) fun v' st' _ hb ho' => need_intro (by simpa using ho'.rd.one) ?_
      refine h.put1 hb ho' (by simp; omega) fun st2 hw => ?_
      have := hk st2 (by simpa [feedL, hlt] using hw)
      simpa [feedR, hlt] using this
theorem at_ok {i : Int} {K : Int → Bool → St → Prop} (h : Win st b size l off c) (hk : K (atR l i) (atB l i) st) : CallT Try.prog 25 [.box b 0, .int .i64 i] [.one (.int .i64), .one (.bool)] st K := by
  refine vc25 b i st K (BIf_intro (fun hlt => ?_) fun hlt => ?_)
  · simpa [atR, atB, hlt] using hk
  · obtain ⟨v, hv, ho⟩ := h.ld1
    refine optK_intro hv (need_intro ho.rd.isSl (BIf_intro (fun h2 => ?_) fun h2 => ?_))
    · rw [ho.rd.lenS] at h2
      simpa [atR, atB, hlt, h2] using hk
    · rw [ho.rd.lenS] at h2
      have hi : i.toNat < l.length := by omega
      refine optK_intro hv ⟨⟨by omega, by rw [ho.rd.lenZ]; omega⟩, optK_intro (ho.rd.ld st i.toNat hi) ?_⟩
      have hb : l[i.toNat].toNat ≤ 255 := by have := l[i.toNat].toNat_lt; omega
      show K (IntKind.i64.wrap (l[i.toNat].toNat : Int)) true st
      rw [wrapB _ hb]
      simpa [atR, atB, hlt, h2, List.getD, hi] using hk
theorem take_ok {n : Int} {K : List UInt8 → Int → St → Prop} (h : Win st b size l off c) (hk : ∀ st', Win st' b size (takeL l n) (takeO l off n) c → K (takeS l n) (takeR l n) st') : CallT Try.prog 17 [.box b 0, .int .i64 n] [.one (.str), .one (.int .i64)] st K := by
  refine vc17 b n st K (BIf_intro (fun hlt => ?_) fun hlt => ?_)
  · have := hk st (by simpa [takeL, takeO, hlt] using h)
    simpa [takeS, takeR, hlt] using this
  · obtain ⟨v, hv, ho⟩ := h.ld1
    refine optK_intro hv (need_intro ho.rd.isSl (BIf_intro (fun h2 => ?_) fun h2 => ?_))
    · rw [ho.rd.lenS] at h2
      have := hk st (by simpa [takeL, takeO, hlt, h2] using h)
      simpa [takeS, takeR, hlt, h2] using this
    · rw [ho.rd.lenS] at h2
      have hn : n.toNat ≤ l.length := by omega
      have hs := h.sz
      have hl := h.len
      have hcut : RdB (slT 1 .full v 0 n.toNat) (l.take n.toNat) ∧ RdB (slT 1 .non v n.toNat l.length) (l.drop n.toNat) := by
        rcases ho.rd with ⟨rfl, h1, h3⟩ | ⟨tip, rfl⟩
        · have : l = [] := List.eq_nil_of_length_eq_zero h1
          subst this
          simp at hn
          simp [hn, slT, RdB, Rd, bytesT]
        · refine ⟨.inr ⟨.full, ?_⟩, .inr ⟨.non, ?_⟩⟩
          · simp [slT, bytesT, List.map_take, Nat.min_eq_left hn]
          · simp [slT, bytesT, List.map_drop]
            rw [List.take_of_length_le (by simp)]
      refine optK_intro hv ⟨⟨ho.rd.isLst, by omega, by rw [ho.rd.lenS]; omega, rfl⟩, ?_⟩
      refine optK_intro (x := .str (l.take n.toNat)) (by rw [hcut.1.toBytes]; rfl) ?_
      refine optK_intro hv ⟨⟨ho.rd.isLst, by omega, by rw [ho.rd.lenS]; omega⟩, ?_⟩
      rw [ho.rd.lenS]
      refine optK_intro (hcut.2.src st) (need_intro (one_bytesT _) ?_)
      refine appK_bytes (st0 := St.zero) (l := []) (StExt.zero _) (Own.full 0 1 st 0 []) (by simp; omega) fun v' st' _ hb ho' => need_intro (by simpa using ho'.rd.one) ?_
      refine h.put1 hb ho' (by simp; omega) fun st2 hw => ?_
      refine optK_intro hw.ld2 ?_
      refine hw.put2 _ fun st3 hw3 => ?_
      have := hk st3 (by simpa [takeL, takeO, hlt, h2] using hw3)
      simpa [takeS, takeR, hlt, h2] using this
theorem find_ok {x a : Int} {K : Int → Bool → St → Prop} (h : Win st b size l off c) (ha : a ≤ 9223372036854775807) (hk : ∀ r ok, FindIs l x a r ok → K r ok st) : CallT Try.prog 27 [.box b 0, .int .i64 x, .int .i64 a] [.one (.int .i64), .one (.bool)] st K := by
  refine vc27 b x a st K (BIf_intro (fun hlt => ?_) fun hlt => ?_)
  · exact hk _ _ (.inl ⟨rfl, rfl, fun h0 => absurd hlt (by omega)⟩)
  · refine ⟨fun i w x' st' => w = .box b 0 ∧ x' = x ∧ st' = st ∧ a ≤ i ∧ i ≤ 9223372036854775807 ∧ ∀ j : Nat, (j : Int) < i → j < l.length → a ≤ j → ((l.getD j 0).toNat : Int) ≠ x, fun i _ _ _ => (l.length - i).toNat, ⟨rfl, rfl, rfl, Int.le_refl _, ha, fun j h1 _ h2 => absurd h1 (by omega)⟩, ?_⟩
    rintro i _ _ _ ⟨rfl, rfl, rfl, h1, hi, h2⟩
    obtain ⟨v, hv, ho⟩ := h.ld1
    refine need_intro rfl (need_intro rfl (optK_intro hv (need_intro ho.rd.isSl (BIf_intro (fun h3 => ?_) fun h3 => ?_))))
    · rw [ho.rd.lenS] at h3
      have hn : i.toNat < l.length := by omega
      refine need_intro rfl (need_intro rfl (optK_intro hv ⟨⟨by omega, by rw [ho.rd.lenZ]; omega⟩, optK_intro (ho.rd.ld _ i.toNat hn) ?_⟩))
      have hb : l[i.toNat].toNat ≤ 255 := by have := l[i.toNat].toNat_lt; omega
      have hg : l.getD i.toNat 0 = l[i.toNat] := by simp [List.getD, hn]
      have hs := h.sz
      have hl := h.len
      show BIf (decide (IntKind.i64.wrap (l[i.toNat].toNat : Int) = _)) _ _
      rw [wrapB _ hb, wrap64 (i + 1) (by omega) (by omega)]
      refine BIf_intro (fun h4 => ?_) fun h4 => ?_
      · exact hk _ _ (.inr ⟨rfl, by omega, h1, h3, by rw [hg]; exact h4, fun j hj hj2 => h2 j hj (by omega) hj2⟩)
      · refine ⟨⟨rfl, rfl, rfl, by omega, by omega, fun j hj hj1 hj2 => ?_⟩, by dsimp only; omega⟩
        by_cases hji : (j : Int) = i
        · have : j = i.toNat := by omega
          subst this
          rw [hg]; exact h4
        · exact h2 j (by omega) hj1 hj2
    · rw [ho.rd.lenS] at h3
      exact hk _ _ (.inl ⟨rfl, rfl, fun h0 j hj hj2 => h2 j (by omega) hj hj2⟩)
theorem new_ok {n : Int} {K : TV → Int → St → Prop} (hbad : (n < 1 ∨ 65536 < n) → K .nilPtr 1 st) (hk : 1 ≤ n → n ≤ 65536 → ∀ st' b, Win st' b n [] 0 false → K (.box b 0) 0 st') : CallT Try.prog 15 [.int .i64 n] [.one (.tv), .one (.int .i64)] st K := by
  refine vc15 n st K (BIf_intro (fun h => hbad (.inl h)) fun h => BIf_intro (fun h2 => hbad (.inr h2)) fun h2 => ?_)
  refine hk (by omega) (by omega) _ _ ⟨⟨.nilSlice, ?_, OwnB.nil _ _⟩, by simp; omega, by omega⟩
  simp [St.push]

/-! The reference. -/
theorem rfree_ok {K : Int → St → Prop} (hl : (l.length : Int) ≤ size) (hs : size ≤ 65536) (hk : K (size - l.length) st) : CallT Try.prog 46 [.agg [.int .i64 size, .int .i64 off, .str l, .bool c]] [.one (.int .i64)] st K := by
  refine vc46 size off l c st K ?_
  rw [wrap64 _ (by omega) (by omega)]; exact hk
theorem rfeed_ok {s : List UInt8} {K : Int → Int → List UInt8 → Bool → Int → St → Prop} (hl : (l.length : Int) ≤ size) (hs : size ≤ 65536) (hk : K size off (feedL size l s c) c (feedR size l s c) st) :
    CallT Try.prog 21 [.agg [.int .i64 size, .int .i64 off, .str l, .bool c], .str s] [.agg [.int .i64, .int .i64, .str, .bool], .one (.int .i64)] st K := by
  refine vc21 size off l c s st K ?_
  cases c with
  | true => exact hk
  | false =>
    refine rfree_ok hl hs (BIf_intro (fun hlt => ?_) fun hlt => ⟨by omega, ?_⟩)
    · simpa [feedL, feedR, hlt] using hk
    · simpa [feedL, feedR, hlt] using hk
theorem rtake_ok {n : Int} {K : Int → Int → List UInt8 → Bool → List UInt8 → Int → St → Prop} (hk : K size (takeO l off n) (takeL l n) c (takeS l n) (takeR l n) st) :
    CallT Try.prog 22 [.agg [.int .i64 size, .int .i64 off, .str l, .bool c], .int .i64 n] [.agg [.int .i64, .int .i64, .str, .bool], .one (.str), .one (.int .i64)] st K := by
  refine vc22 size off l c n st K (BIf_intro (fun h => ?_) fun h => BIf_intro (fun h2 => ?_) fun h2 => ⟨⟨by omega, by omega⟩, ⟨by omega, by omega⟩, ?_⟩)
  · simpa [takeO, takeL, takeS, takeR, h] using hk
  · simpa [takeO, takeL, takeS, takeR, h, h2] using hk
  · simpa [takeO, takeL, takeS, takeR, h, h2] using hk
theorem rclose_ok {K : Int → Int → List UInt8 → Bool → Int → St → Prop} (hk : K size off l true (closeR c) st) :
    CallT Try.prog 24 [.agg [.int .i64 size, .int .i64 off, .str l, .bool c]] [.agg [.int .i64, .int .i64, .str, .bool], .one (.int .i64)] st K := by
  refine vc24 size off l c st K ?_
  cases c <;> exact hk
theorem rat_ok {i : Int} {K : Int → Bool → St → Prop} (hk : K (atR l i) (atB l i) st) : CallT Try.prog 26 [.agg [.int .i64 size, .int .i64 off, .str l, .bool c], .int .i64 i] [.one (.int .i64), .one (.bool)] st K := by
  refine vc26 size off l c i st K (BIf_intro (fun h => ?_) fun h => BIf_intro (fun h2 => ?_) fun h2 => ⟨⟨by omega, by omega⟩, ?_⟩)
  · simpa [atR, atB, h] using hk
  · simpa [atR, atB, h, h2] using hk
  · rw [wrapB _ (by have := (l.getD i.toNat 0).toNat_lt; omega)]
    simpa [atR, atB, h, h2] using hk
theorem rfind_ok {x a : Int} {K : Int → Bool → St → Prop} (hl : (l.length : Int) ≤ 65536) (hk : ∀ r ok, FindIs l x a r ok → K r ok st) :
    CallT Try.prog 28 [.agg [.int .i64 size, .int .i64 off, .str l, .bool c], .int .i64 x, .int .i64 a] [.one (.int .i64), .one (.bool)] st K := by
  refine vc28 size off l c x a st K ⟨fun i x' a' n1 n2 s1 b1 st' => x' = x ∧ a' = a ∧ s1 = l ∧ st' = st ∧ 0 ≤ i ∧ i ≤ l.length ∧ (0 ≤ a → ∀ j : Nat, (j : Int) < i → a ≤ j → ((l.getD j 0).toNat : Int) ≠ x), fun i _ _ _ _ _ _ _ => (l.length - i).toNat, ⟨rfl, rfl, rfl, rfl, by omega, by omega, fun _ j hj => absurd hj (by omega)⟩, ?_⟩
  rintro i _ _ n1 n2 _ b1 _ ⟨rfl, rfl, rfl, rfl, h1, h2, h3⟩
  refine BIf_intro (fun h4 => ?_) fun h4 => ?_
  · have hw : IntKind.i64.wrap (i + 1) = i + 1 := wrap64 _ (by omega) (by omega)
    rw [hw]
    refine BIf_intro (fun h5 => BIf_intro (fun h6 => ⟨⟨h1, h4⟩, ?_⟩) fun h6 => ?_) fun h5 => ?_
    · rw [wrapB _ (byte_le _)]
      refine BIf_intro (fun h7 => ?_) fun h7 => ⟨⟨rfl, rfl, rfl, rfl, by omega, by omega, fun h0 j hj hj2 => ?_⟩, by dsimp only; omega⟩
      · exact hk _ _ (.inr ⟨rfl, h6, h5, h4, h7, fun j hj hj2 => h3 h6 j hj hj2⟩)
      · by_cases hji : (j : Int) = i
        · have : j = i.toNat := by omega
          subst this; exact h7
        · exact h3 h0 j (by omega) hj2
    · exact ⟨⟨rfl, rfl, rfl, rfl, by omega, by omega, fun h0 => absurd h0 (by omega)⟩, by dsimp only; omega⟩
    · refine ⟨⟨rfl, rfl, rfl, rfl, by omega, by omega, fun h0 j hj hj2 => ?_⟩, by dsimp only; omega⟩
      exact h3 h0 j (by omega) hj2
  · exact hk _ _ (.inl ⟨rfl, rfl, fun h0 j hj hj2 => h3 h0 j (by omega) hj2⟩)
theorem agrees_ok {K : Bool → St → Prop} (h : Win st b size l off c) (hk : K true st) : CallT Try.prog 29 [.box b 0, .agg [.int .i64 size, .int .i64 off, .str l, .bool c]] [.one (.bool)] st K := by
  refine vc29 b size off l c st K (len_ok h (BIf_intro (fun _ => free_ok h (rfree_ok h.len h.sz (BIf_intro (fun _ => offset_ok h (BIf_intro (fun _ => closed_ok h ?_) fun hh => absurd rfl hh)) fun hh => absurd rfl hh))) fun hh => absurd rfl hh))
  cases c <;> exact hk
end

/-- The chapter's examples. -/
theorem awake_ok {st : St} {K : Bool → St → Prop} (hk : ∀ st', K true st') : CallT Try.prog 14 [] [.one (.bool)] st K := by
  refine vc14 st K (new_ok (fun h => absurd h (by omega)) fun _ _ st1 b h1 => BIf_intro (fun hh => absurd rfl hh) fun _ => ?_)
  refine feed_ok h1 fun st2 h2 => BIf_intro (fun hh => absurd hh (by decide)) fun _ => ?_
  refine feed_ok h2 fun st3 h3 => BIf_intro (fun hh => absurd hh (by decide)) fun _ => ?_
  refine take_ok h3 fun st4 h4 => at_ok h4 (BIf_intro (fun hh => absurd hh (by decide)) fun _ => BIf_intro (fun hh => absurd hh (by decide)) fun _ => ?_)
  refine offset_ok h4 (BIf_intro (fun hh => absurd hh (by decide)) fun _ => free_ok h4 (BIf_intro (fun hh => absurd hh (by decide)) fun _ => BIf_intro (fun hh => absurd hh (by decide)) fun _ => ?_))
  refine (BIf_iff.2 ⟨fun hh => absurd hh (by decide), fun _ => ?_⟩)
  refine feed_ok h4 fun st5 h5 => BIf_intro (fun hh => absurd hh (by decide)) fun _ => ?_
  refine close_ok h5 fun st6 h6 => BIf_intro (fun hh => absurd hh (by decide)) fun _ => ?_
  refine feed_ok h6 fun st7 h7 => BIf_intro (fun hh => absurd hh (by decide)) fun _ => ?_
  refine take_ok h7 fun st8 h8 => BIf_intro (fun _ => BIf_intro (fun _ => closed_ok h8 (hk _)) fun hh => absurd hh (by decide)) fun hh => absurd hh (by decide)

theorem nils_ok (s : List UInt8) (n b : Int) : CallT Try.prog 5 [.str s, .int .i64 n, .int .i64 b] [.one (.bool)] St.zero (fun r _ => r = true) := by
  refine vc5 s n b St.zero _ ?_
  refine vc25n n _ _ ?_
  refine vc27n b n _ _ ?_
  refine vc17n n _ _ ?_
  refine vc16n s _ _ (BIf_intro (fun _ => ?_) fun hh => absurd rfl hh)
  refine vc23n _ _ (BIf_intro (fun _ => ?_) fun hh => absurd rfl hh)
  refine BIf_intro (fun _ => ?_) fun hh => absurd rfl hh
  refine BIf_intro (fun _ => ?_) fun hh => absurd rfl hh
  refine BIf_intro (fun _ => ?_) fun hh => absurd rfl hh
  refine BIf_iff.2 ⟨fun _ => ?_, fun hh => absurd hh (by decide)⟩
  refine BIf_intro (fun _ => ?_) fun hh => absurd rfl hh
  refine BIf_iff.2 ⟨fun _ => ?_, fun hh => absurd hh (by decide)⟩
  refine vc18n _ _ (BIf_intro (fun _ => ?_) fun hh => absurd rfl hh)
  refine vc30n _ _ (BIf_intro (fun _ => ?_) fun hh => absurd rfl hh)
  refine vc19n _ _ (BIf_intro (fun _ => ?_) fun hh => absurd rfl hh)
  refine vc31n _ _ (BIf_iff.2 ⟨fun _ => ?_, fun hh => absurd hh (by decide)⟩)
  exact awake_ok fun _ => rfl
end Go.TVF
