/- strings.Builder; tablelex: Join, and the law TablelexJoin. -/
import Derived.Test.YtlbcpcdgpnppgaaDoorUsN
set_option linter.unusedVariables false
set_option linter.unusedSimpArgs false
namespace Go.TVF
open Go Go.Proofs Go.RowKit

theorem noEscape_ok {b : Nat} {st : St} {K : TV → St → Prop} (hk : K (.box b 0) st) : CallT PR fn_abi_NoEscape [.box b 0] [.one (.tv)] st K := by
  refine tcalls_value fun g w vargs s hr => ?_
  obtain ⟨v, rfl, hv⟩ := relL_one hr
  refine ⟨v, w, ?_, .box b 0, st, g, hk, s, hv, Ext.refl _ _⟩
  show (callFunc 138 #[v]).run Tryd.prog w = _
  rw [run_callFunc_extern Tryd.func138 (by kernel_rfl) (by kernel_rfl) (by kernel_rfl) (e := Extern.AbiNoEscape.same) (by kernel_rfl)]
  rfl

/-- A builder that the call has made (behind the state st0), and what it holds. -/
def Bld (st0 : St) (b : Nat) (st : St) (buf : List UInt8) : Prop :=
  StExt st0 st ∧ st0.nb ≤ b ∧ b < st.nb ∧ st.bt b = some 109 ∧ ∃ p v, st.box b = .cells [p, v] ∧ (p = .nilPtr ∨ p = .box b 0) ∧
    ((v = .nilSlice ∧ buf = []) ∨ ∃ id, v = .list 1 (.own id) buf.length (bytesT buf) ∧ buf ≠ [] ∧ st0.nt ≤ id ∧ id < st.nt ∧ st.live id = true ∧ st.ty id = some 5)

theorem Bld.new {st0 st : St} (e : StExt st0 st) : Bld st0 st.nb (st.push (.cells [.nilPtr, .nilSlice]) (some 109)) [] :=
  ⟨e.push _ _, e.nb, by simp [St.push], by simp [St.push], .nilPtr, .nilSlice, box_push _ _ _, .inl rfl, .inl ⟨rfl, rfl⟩⟩

theorem copyCheck_ok {st0 st : St} {b : Nat} {buf : List UInt8} {K : St → Prop} (h : Bld st0 b st buf) (hk : ∀ st', Bld st0 b st' buf → K st') : CallT PR fn_strings_Builder_copyCheck [.box b 0] [] st K := by
  have h0 := h
  obtain ⟨e, h1, h2, h3, p, v, hb, hp, hv⟩ := h
  refine vc_strings_Builder_copyCheck b st K (optK_intro (x := p) (by simp [ldCell, hb]) (need_intro (by rcases hp with rfl | rfl <;> rfl) ?_))
  rcases hp with rfl | rfl
  · refine (show BIf true _ _ from ⟨by simp [ldCell, hb], noEscape_ok ?_⟩)
    refine ⟨⟨rfl, h3, _, hb, rfl⟩, need_intro rfl ⟨_, hb, by simp, hk _ ?_⟩⟩
    exact ⟨e.put h1 _, h1, h2, h3, .box b 0, v, box_put _ _ _, .inr rfl, hv⟩
  · exact (show BIf false _ _ from optK_intro (x := .box b 0) (by simp [ldCell, hb]) ⟨rfl, hk st h0⟩)

theorem writeString_ok {st0 st : St} {b : Nat} {buf s : List UInt8} {K : Int → TV → St → Prop} (h : Bld st0 b st buf) (hl : buf.length + s.length ≤ 140737488355328) (hk : ∀ st', Bld st0 b st' (buf ++ s) → K (s.length : Int) .nilIface st') :
    CallT PR fn_strings_Builder_WriteString [.box b 0, .str s] [.one (.int .i64), .one (.tv)] st K := by
  refine vc_strings_Builder_WriteString b s st K (copyCheck_ok h fun st1 h1 => ?_)
  obtain ⟨e, a1, a2, a3, p, v, hb, hp, hv⟩ := h1
  refine optK_intro (x := v) (by simp [ldCell, hb]) (optK_intro (src_str st1 s) (need_intro (one_bytesT s) ?_))
  rcases hv with ⟨rfl, rfl⟩ | ⟨id, rfl, n1, n2, n3, n4, n5⟩
  · cases s with
    | nil =>
      simp only [appK, List.length_nil, bytesT, List.map_nil]
      exact need_intro rfl ⟨_, hb, by simp, hk _ ⟨e.put a1 _, a1, a2, a3, p, .nilSlice, box_put _ _ _, hp, .inl ⟨rfl, rfl⟩⟩⟩
    | cons c r =>
      simp only [appK, List.length_cons, Nat.mul_one]
      refine need_intro (by simp only [List.length_nil, List.length_cons] at hl; simp; omega) (need_intro rfl ⟨_, hb, by simp, hk _ ?_⟩)
      exact ⟨(e.fresh _).put a1 _, a1, a2, a3, p, _, box_put _ _ _, hp, .inr ⟨st1.nt, rfl, by simp, e.nt, by simp [St.put, St.fresh], by simp [St.put, St.fresh], by simp [St.put, St.fresh]⟩⟩
  · simp only [appK, Nat.beq_refl, Nat.mul_one]
    refine ⟨hl, n4, need_intro rfl ⟨_, hb, by simp, hk _ ?_⟩⟩
    refine ⟨((e.retire n2).fresh _).put a1 _, a1, a2, a3, p, _, box_put _ _ _, hp, .inr ⟨st1.nt, ?_, by simp [n1], e.nt, by simp [St.put, St.fresh, St.retire], by simp [St.put, St.fresh, St.retire], by simp [St.put, St.fresh, St.retire, n5, tyJoin]⟩⟩
    rw [List.length_append, ← bytesT_append]

theorem builderString_ok {st0 st : St} {b : Nat} {buf : List UInt8} {K : List UInt8 → St → Prop} (h : Bld st0 b st buf) (hl : buf.length ≤ 140737488355328) (hk : ∀ st', StExt st0 st' → K buf st') :
    CallT PR fn_strings_Builder_String [.box b 0] [.one (.str)] st K := by
  obtain ⟨e, h1, h2, h3, p, v, hb, hp, hv⟩ := h
  have hld : ldCell st [] (.t (.box b 1)) 0 = some v := by simp [ldCell, hb]
  rcases hv with ⟨rfl, rfl⟩ | ⟨id, rfl, n1, n2, n3, n4, n5⟩
  · refine vc_strings_Builder_String b st K (optK_intro hld (optK_intro (x := .nilPtr) rfl (optK_intro hld (need_intro rfl ?_))))
    exact ⟨rfl, hk st e⟩
  · refine vc_strings_Builder_String b st K (optK_intro hld (optK_intro (x := .sptr (.list 1 (.own id) buf.length (bytesT buf))) ?_ (optK_intro hld (need_intro rfl ?_))))
    case refine_2 => exact ⟨⟨rfl, by omega, n4, n5⟩, optK_intro (asBytes_bytesT buf) (hk _ (e.retire n2))⟩
    simp only [sdataO]
    cases hz : buf.length.beq 0 with
    | true => exact absurd (List.eq_nil_of_length_eq_zero (Nat.eq_of_beq_eq_true hz)) n1
    | false => rfl

/-! Join. -/
def joinT (l : List Tok) : List UInt8 := l.flatMap fun t => t.2.1
theorem joinT_snoc (l : List Tok) (k : Nat) (t : Tok) (h : l[k]? = some t) : joinT (l.take (k + 1)) = joinT (l.take k) ++ t.2.1 := by
  rw [List.take_add_one, h]; simp [joinT]
theorem joinT_take_le (l : List Tok) (k : Nat) : (joinT (l.take k)).length ≤ (joinT l).length := by
  have : joinT l = joinT (l.take k) ++ joinT (l.drop k) := by
    unfold joinT; rw [← List.flatMap_append, List.take_append_drop]
  rw [this, List.length_append]; omega

theorem join_ok {v : TV} {l : List Tok} {st : St} {K : List UInt8 → St → Prop} (hr : Rd 3 v l.length (tokCells l)) (hl : (joinT l).length ≤ 2000000) (hn : l.length ≤ 2000000) (hk : ∀ st', StExt st st' → K (joinT l) st') :
    CallT PR fn_tablelex_Join [v] [.one (.str)] st K := by
  refine vc_tablelex_Join v st K (need_intro hr.isSl ⟨fun i b v' n st' => TV.box st.nb 0 = b ∧ v = v' ∧ n = (l.length : Int) ∧ ∃ k : Nat, i = (k : Int) ∧ k ≤ l.length ∧ Bld st st.nb st' (joinT (l.take k)), fun i _ _ _ _ => (l.length - i).toNat, ⟨rfl, rfl, by rw [hr.lenS], 0, rfl, by omega, Bld.new (StExt.refl _)⟩, ?_⟩)
  rintro _ _ _ _ st1 ⟨rfl, rfl, rfl, k, rfl, h1, h2⟩
  rw [hr.lenZ, show Int.toNat (k : Int) = k from rfl]
  have hle := joinT_take_le l k
  refine BIf_intro (fun g1 => ?_) fun g1 => ?_
  · have hlt : k < l.length := by omega
    have hget := List.getElem?_eq_getElem hlt
    generalize l[k] = t at hget
    have hsn := joinT_snoc l k t hget
    have hle2 := joinT_take_le l (k + 1)
    rw [hsn, List.length_append] at hle2
    refine ⟨⟨by omega, by omega⟩, optK_intro (tok_ld hr st1 k t hget) (writeString_ok h2 (by omega) fun st2 h3 => ?_)⟩
    rw [wrap64 _ (by omega) (by omega)]
    exact ⟨⟨rfl, rfl, rfl, k + 1, by omega, by omega, by rw [hsn]; exact h3⟩, by dsimp only; omega⟩
  · rw [List.take_of_length_le (by omega)] at h2
    exact builderString_ok h2 (by omega) fun st2 e2 => hk st2 e2

theorem tkF_join : ∀ (f : Nat) (s : List UInt8) (k : Nat) (l : List Tok), k ≤ s.length → s.length < k + f → tkF f s k = .ok l → joinT l = s.drop k
  | 0, s, k, l, hk, hf, h => by omega
  | f + 1, s, k, l, hk, hf, h => by
    by_cases hlt : k < s.length
    · obtain ⟨kd, n, r, rfl, n1, n2, _, _, _, _, hr⟩ := tkF_inv hlt h
      have := tkF_join f s (k + n) r n2 (by omega) hr
      simp only [joinT, List.flatMap_cons] at this ⊢
      rw [this, ← List.drop_drop, List.take_append_drop]
    · rw [tkF_end (by omega), Except.ok.injEq] at h; subst h
      rw [List.drop_of_length_le (by omega)]; rfl

theorem toks_err (s : List UInt8) : (∃ l, toks s = .ok l) ∨ ∃ a e, toks s = .error (a, e) ∧ e ≠ 0 := by
  have key : ∀ (f : Nat) (k : Nat), k ≤ s.length → (∃ l, tkF f s k = .ok l) ∨ ∃ a e, tkF f s k = .error (a, e) ∧ e ≠ 0 := by
    intro f
    induction f with
    | zero => exact fun k hk => .inl ⟨[], rfl⟩
    | succ f ih =>
      intro k hk
      simp only [tkF]
      by_cases hlt : s.length ≤ k
      · rw [if_pos hlt]; exact .inl ⟨[], rfl⟩
      · rw [if_neg hlt]
        rcases nxt_cases (s := s) (k := k) (by omega) with ⟨er, hn, _, he⟩ | ⟨kd, n, hn, n1, n2, _⟩
        · rw [hn]; exact .inr ⟨_, er, rfl, he⟩
        · rw [hn]
          simp only [tok_len n2]
          rcases ih (k + n) n2 with ⟨l, hl⟩ | ⟨a, e, hl, he⟩
          · rw [hl]; exact .inl ⟨_, rfl⟩
          · rw [hl]; exact .inr ⟨a, e, rfl, he⟩
  unfold toks
  split
  · exact key _ 0 (by omega)
  · exact .inr ⟨_, 5, rfl, by decide⟩

theorem tokCells_gf {v : TV} {l : List Tok} (h : Rd 3 v l.length (tokCells l)) (st : St) (i : Nat) (t : Tok) (ht : l[i]? = some t) :
    ldCell st [] (.t (fldT (ixT 3 v i) 0)) 0 = some (.int .i64 t.1) ∧ ldCell st [] (.t (fldT (ixT 3 v i) 1)) 0 = some (.str t.2.1) ∧ ldCell st [] (.t (fldT (ixT 3 v i) 2)) 0 = some (.int .i64 t.2.2) := by
  obtain ⟨h0, h1, h2⟩ := tokCells_get l i t ht
  exact ⟨h.ldfx st i 0 h0, h.ldfx st i 1 h1, h.ldfx st i 2 h2⟩
theorem Rd.isPtr_ix {v : TV} {n : Nat} {xs : List TV} (h : Rd 3 v n xs) (i : Nat) (hi : 0 < xs.length) : isPtr (ixT 3 v i) = true := by
  rcases h with ⟨rfl, rfl, rfl⟩ | ⟨tip, rfl⟩
  · simp at hi
  · rfl

/-- The law TablelexJoin. -/
theorem ljoin_ok {s : List UInt8} {st : St} {K : Bool → St → Prop} (hk : ∀ st', StExt st st' → K true st') : CallT PR fn_datakitlaw24_TablelexJoin [.str s] [.one (.bool)] st K := by
  refine vc_datakitlaw24_TablelexJoin s st K (BIf_intro (fun g1 => awake_ok hk) fun g1 => tokens_ok (by omega) fun v st1 e1 o1 => ?_)
  have hr := o1.rd
  have hcount := toks_len s
  rcases toks_err s with ⟨l, hX⟩ | ⟨a, er, hX, her⟩
  · have hF : tkF (s.length + 1) s 0 = .ok l := by
      have := hX
      unfold toks at this
      split at this
      · exact this
      · cases this
    have hJ := tkF_join _ s 0 l (by omega) (by omega) hF
    rw [hX] at hr hcount ⊢
    simp only [tL] at hr hcount
    refine BIf_intro (fun h => absurd rfl h) fun _ => ⟨fun a i s' v' st' => s = s' ∧ v = v' ∧ StExt st st' ∧ ∃ k j f : Nat, a = (k : Int) ∧ i = (j : Int) ∧ j ≤ l.length ∧ k ≤ s.length ∧ s.length < k + f ∧ tkF f s k = .ok (l.drop j), fun _ i _ _ _ => (l.length - i).toNat,
      ⟨rfl, rfl, e1, 0, 0, s.length + 1, rfl, rfl, by omega, by omega, by omega, hF⟩, ?_⟩
    rintro _ _ _ _ st2 ⟨rfl, rfl, e2, k, j, f, rfl, rfl, h1, h2, h3, h4⟩
    refine need_intro hr.isSl ?_
    rw [hr.lenS, hr.lenZ, show Int.toNat (j : Int) = j from rfl]
    refine BIf_intro (fun g2 => ?_) fun g2 => ?_
    · have hlt : j < l.length := by omega
      have hget := List.getElem?_eq_getElem hlt
      rw [List.drop_eq_getElem_cons hlt] at h4
      generalize l[j] = t at hget h4
      cases f with
      | zero => omega
      | succ f =>
      have hks : k < s.length := by
        apply Decidable.byContradiction
        intro hn
        rw [tkF_end (by omega)] at h4
        cases h4
      obtain ⟨kd, n, r, hcons, n1, n2, n3, n4, _, hnx, hrest⟩ := tkF_inv hks h4
      simp only [List.cons.injEq] at hcons
      obtain ⟨rfl, rfl⟩ := hcons
      have hptr := hr.isPtr_ix j (by rw [tokCells_len]; omega)
      have htl := tok_len n2
      refine next_ok (by omega) fun st3 e3 => ?_
      obtain ⟨l0, l1, l2⟩ := tokCells_gf hr st3 j _ hget
      rw [hnx]
      dsimp only [nK, nT, nA, eE] at l0 l1 l2 ⊢
      have hne : (s.drop k).take n ≠ [] := fun h0 => by rw [h0] at htl; simp at htl; omega
      refine ⟨⟨by omega, by omega⟩, need_intro hptr (optK_intro l2 (BIf_intro (fun h => absurd rfl h) fun _ => ⟨⟨by omega, by omega⟩, need_intro hptr (optK_intro l1 (BIf_intro (fun h => absurd h hne) fun _ => ⟨⟨by omega, by omega⟩, optK_intro (tok_ld hr st3 j _ hget) ?_⟩))⟩))⟩
      refine BIf_bool (fun h => by simp at h) fun _ => BIf_intro (fun h => absurd rfl h) fun _ => ⟨⟨by omega, by omega⟩, need_intro hptr (optK_intro l0 (BIf_intro (fun h => by omega) fun _ => ⟨⟨by omega, by omega⟩, need_intro hptr (optK_intro l0 (BIf_intro (fun h => by omega) fun _ => ⟨⟨by omega, by omega⟩, need_intro hptr (optK_intro l1 ?_)⟩))⟩))⟩
      have w1 : IntKind.i64.wrap ((k : Int) + (((s.drop k).take n).length : Int)) = ((k + n : Nat) : Int) := by rw [htl, wrap64 _ (by omega) (by omega)]; omega
      have w2 : IntKind.i64.wrap ((j : Int) + 1) = ((j + 1 : Nat) : Int) := by rw [wrap64 _ (by omega) (by omega)]; omega
      dsimp only [decT]
      rw [w1, w2]
      exact ⟨⟨rfl, rfl, e2.trans e3, k + n, j + 1, f, rfl, rfl, by omega, by omega, by omega, hrest⟩, by omega⟩
    · have hj : j = l.length := by omega
      subst hj
      rw [List.drop_length] at h4
      cases f with
      | zero => omega
      | succ f =>
      have hks : k = s.length := by
        apply Decidable.byContradiction
        intro hn
        obtain ⟨kd, n, r, hcons, _⟩ := tkF_inv (show k < s.length by omega) h4
        cases hcons
      refine next_ok (by omega) fun st3 e3 => ?_
      have hnx : nxt s (s.length : Int) = .error 7 := by unfold nxt; rw [if_neg (by omega), if_pos rfl]
      rw [hnx]
      refine BIf_intro (fun _ => ?_) fun h => absurd (by omega) h
      refine join_ok hr (by rw [hJ]; simp; omega) (by omega) fun st4 e4 => BIf_intro (fun _ => BIf_intro (fun _ => awake_ok fun st5 e5 => hk _ (e2.trans (e3.trans (e4.trans e5)))) fun h => absurd rfl h) fun h => absurd (by rw [hJ]; rfl) h
  · rw [hX] at hr ⊢
    simp only [tL] at hr
    refine BIf_intro (fun _ => need_intro hr.isSl (BIf_intro (fun _ => awake_ok fun st3 e3 => hk _ (e1.trans e3)) fun h => absurd (by rw [hr.lenS]; rfl) h)) fun h => absurd her h
end Go.TVF
