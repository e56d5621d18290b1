/- What the laws below rest on: a framework for Go programs, and contracts of the functions that they reach. -/
import Derived.Test.YtlbcpcdgpnppgaaDoorDgE
section
set_option linter.unusedVariables false
set_option linter.unusedSimpArgs false
namespace Go.TVF
open Go Go.Proofs
theorem recE_succ (x : Cx) (num : Bool) (wid : Int) (hd : Bool) (n : Nat) (acc : List Nd) (i : Nat) (v : Int) (ns : List (List UInt8)) : recE x num wid hd (n + 1) acc i v ns =
    if num = true ∧ wid ≤ (acc.length : Int) then .error (i, 10) else match entE x hd i v ns with
      | .error e => .error e
      | .ok (e, v1, ns1) => if e < x.s.length ∧ by_ x.s e = x.a then recE x num wid hd n (acc ++ [entM x i e]) (e + 1) v1 ns1 else match lineE x.s e with
        | .error e => .error e
        | .ok _ => .ok (e, v1, ns1, acc ++ [entM x i e]) := by
  simp only [recE]
  by_cases hw : num = true ∧ wid ≤ (acc.length : Int)
  · rw [if_pos hw, if_pos hw]
  rw [if_neg hw, if_neg hw]
  simp only [bind, Except.bind]
  rcases entE x hd i v ns with e | ⟨e, v1, ns1⟩
  · rfl
  simp only
  by_cases hm : e < x.s.length ∧ by_ x.s e = x.a
  · rw [if_pos hm, if_pos hm]
    unfold entM; rw [if_pos hm]
  · rw [if_neg hm, if_neg hm]
    unfold entM; rw [if_neg hm]
    cases lineE x.s e <;> rfl
theorem entE_le {x : Cx} {hd : Bool} {i : Nat} {v : Int} {ns : List (List UInt8)} {e : Nat} {v1 : Int} {ns1 : List (List UInt8)} (hi : i ≤ x.s.length) (h : entE x hd i v ns = .ok (e, v1, ns1)) : i ≤ e ∧ e ≤ x.s.length ∧ v ≤ v1 ∧ v1 ≤ v + 1 := by
  cases hd with
  | true => have := entE_inv1 h; have h2 := cellE_le hi this.2.1; omega
  | false => have := entE_inv h; have h2 := cellE_le hi this.2.2.2.2.1; omega
theorem StX.out {p m r : Nat} {a b c : St} (h : StX (PM p m) a b) (k : StX (PM3 p m r) b c) (hr : a.nb ≤ r) : StX (PM p m) a c :=
  ⟨Nat.le_trans h.nb k.nb, fun i hi hs => (k.box i (Nat.lt_of_lt_of_le hi h.nb) (by rintro (g | g | g); exact hs (.inl g); exact hs (.inr g); omega)).trans (h.box i hi hs), Nat.le_trans h.nt k.nt, fun i hi => (k.live i (Nat.lt_of_lt_of_le hi h.nt)).trans (h.live i hi), fun i hi => (k.ty i (Nat.lt_of_lt_of_le hi h.nt)).trans (h.ty i hi), fun i hi => (k.bt i (Nat.lt_of_lt_of_le hi h.nb)).trans (h.bt i hi)⟩
theorem StX.r3 {p m r : Nat} {a b : St} (h : StX (· = r) a b) : StX (PM3 p m r) a b := h.mono fun _ g => .inr (.inr g)
theorem stB_A {st : St} {b off : Nat} {xs : List TV} {l : List TV} {k : St → Prop} (hb : st.box b = .cells l) (hl : off + xs.length ≤ l.length) (hk : ∀ st', StX (· = b) st st' → st'.box b = .cells (setAll l off xs) → k st') : stB st (.box b off) xs k :=
  ⟨l, hb, hl, hk _ (StX.put (S := (· = b)) rfl _) (box_put _ _ _)⟩
theorem ldsB5 {st : St} {b : Nat} {c0 c1 c2 c3 c4 : TV} (hb : st.box b = .cells [c0, c1, c2, c3, c4]) : (ldCells st [] (.t (.box b 0)) 0 5).map TV.agg = some (.agg [c0, c1, c2, c3, c4]) := by
  rw [show ldCells st [] (.t (.box b 0)) 0 5 = some [c0, c1, c2, c3, c4] from ldsB hb rfl rfl]; rfl
theorem decA5 {k : Int} {l t tl : List UInt8} {u : TV} {f : Int → List UInt8 → List UInt8 → TV → List UInt8 → Prop} (h : f k l t u tl) : decA [.int .i64, .str, .str, .tv, .str] (.agg [.int .i64 k, .str l, .str t, u, .str tl]) f := h
theorem BIf_tail {p H : Prop} [Decidable p] {A X : Prop} (t : H → X) (h1 : p → (H → X) → A) (h2 : ¬ p → H) : BIf (decide p) A X := BIf_intro (fun q => h1 q t) fun q => t (h2 q)
section
variable {p m : Nat} {x : Cx} {hd ty : Bool} {l2 l3 l4 : Int} {ns : List (List UInt8)} {I v w o e : Int} {st : St}
theorem precord_ok {i : Nat} {N : Int} {K : Int → List UInt8 → List UInt8 → TV → List UInt8 → Bool → St → Prop} (hI : I = (i : Int)) (hi : i ≤ x.s.length) (hl : x.s.length ≤ 2000000) (hv0 : 0 ≤ v) (hv : v ≤ 100000000) (hN : 0 ≤ N)
    (h : PS p m x hd ty l2 l3 l4 ns I v w o e st)
    (h0 : ∀ (k : Nat) v1 ns1 r w1 kv tl st', recD x (decide (N ≠ 0)) w (decide (N = 0) && hd) i v ns = .ok (k, v1, ns1, r, w1) → StX (PM p m) st st' → PS p m x hd ty l2 l3 l4 ns1 k v1 w1 o e st' → NdC r [.int .i64 8, .str [], .str [], kv, .str tl] → K 8 [] [] kv tl true st')
    (h1 : ∀ (o' : Nat) e' ns1 (k v1 w1 : Int) kv tl st', recD x (decide (N ≠ 0)) w (decide (N = 0) && hd) i v ns = .error (o', e') → StX (PM p m) st st' → PS p m x hd ty l2 l3 l4 ns1 k v1 w1 o' e' st' → oneT kv = true → K 8 [] [] kv tl false st') :
    CallT PR fn_delim_parser_record [.box p 0, .int .i64 N] [.agg [.int .i64, .str, .str, .tv, .str], .one .bool] st K := by
  subst hI
  have hb := h.bx
  have tn : ∀ k : Nat, Int.toNat (k : Int) = k := fun k => rfl
  obtain ⟨header, hhd⟩ : ∃ b, b = (decide (N = 0) && hd) := ⟨_, rfl⟩
  rw [← hhd] at h0 h1
  -- the record's own box
  obtain ⟨r, hr⟩ : ∃ r, r = st.nb := ⟨_, rfl⟩
  have hrp : p ≠ r := by have := h.lp; omega
  have hrm : m ≠ r := by have := h.lm; omega
  have start : ∀ st1, StX (· = r) (st.push (.cells [.int .i64 0, .str [], .str [], .nilSlice, .str []]) (some 49)) st1 → st1.box r = .cells [.int .i64 8, .str [], .str [], .nilSlice, .str []] →
      StX (PM p m) st st1 ∧ PS p m x hd ty l2 l3 l4 ns i v w o e st1 ∧ r < st1.nb := fun st1 e1 b1 => by
    have e0 : StX (PM3 p m r) (st.push (.cells [.int .i64 0, .str [], .str [], .nilSlice, .str []]) (some 49)) st1 := e1.r3
    have ep : StX (PM p m) st (st.push (.cells [.int .i64 0, .str [], .str [], .nilSlice, .str []]) (some 49)) := StX.of ((StExt.refl st).push _ _)
    refine ⟨ep.out e0 (by omega), (h.keep (StX.of (S := fun _ => False) ((StExt.refl st).push _ _)) (fun h => h) fun h => h).other e1 hrp hrm, ?_⟩
    have := e1.nb
    simp only [St.push] at this
    omega
  have rk : ∀ sta stb L, StX (PM p m) sta stb → r < sta.nb → sta.box r = .cells L → stb.box r = .cells L := fun sta stb L e hlt h => by
    rw [e.box r hlt (fun h => h.elim (fun h => hrp h.symm) fun h => hrm h.symm)]; exact h
  obtain ⟨num, hnum⟩ : ∃ b, b = decide (N ≠ 0) := ⟨_, rfl⟩
  have hnum1 : num = true ↔ N ≠ 0 := by rw [hnum]; simp
  rw [← hnum] at h0 h1
  generalize hD : recD x num w header i v ns = D0 at h0 h1
  rw [recD_eq] at hD
  -- the loop's start: behind the first value
  refine vc_delim_parser_record p N st K (BIf_intro (fun hn => ?_) fun hn => ?_)
  case' refine_1 =>
    repeat' first
      | (guard_target =~ need _ _; refine need_intro rfl ?_)
      | (guard_target =~ optK (ldCell _ _ _ _) _; refine optK_intro (ldB hb rfl) ?_)
      | (guard_target =~ decT (.int _) _ _; refine decT_int ?_)
      | (guard_target =~ decT .str _ _; refine decT_str ?_)
      | (guard_target =~ decT .bool _ _; refine decT_bool ?_)
    rw [← hr]
    refine stB_A (b := r) (by rw [hr]; exact box_push _ _ _) (by simp) fun st1 e1 b1 => ?_
    have b1 : st1.box r = .cells [.int .i64 8, .str [], .str [], .nilSlice, .str []] := b1
    obtain ⟨f1, k1, lr1⟩ := start st1 e1 b1
    refine BIf_bool (fun hh => ?_) fun hh => ?_
  case' refine_2 =>
    rw [← hr]
    refine stB_A (b := r) (by rw [hr]; exact box_push _ _ _) (by simp) fun st1 e1 b1 => ?_
    have b1 : st1.box r = .cells [.int .i64 8, .str [], .str [], .nilSlice, .str []] := b1
    obtain ⟨f1, k1, lr1⟩ := start st1 e1 b1
  case' refine_1.refine_1 =>
    have hhd' : header = hd := by rw [hhd, hn]; simp
    have hhf : header = false := by rw [hhd']; simpa using hh
  case' refine_2 =>
    have hhf : header = false := by rw [hhd]; simp [hn]
    have hhd' : header = false := hhf
  case' refine_1.refine_2 =>
    have hhd' : header = hd := by rw [hhd, hn]; simp
    have hht : header = true := by rw [hhd']; simpa using hh
    rw [if_pos hht] at hD
    have hv1 : v ≤ v ∧ v ≤ v + 1 := by omega
    have f2 := f1
    have k2 := k1
    have lr2 := lr1
    have b2 := b1
  case' refine_1.refine_1 | refine_2 =>
    rw [if_neg (by rw [hhf]; decide)] at hD
    refine pvalue_ok rfl hv0 (by omega) k1 (fun v' st2 hb1 e2 k2 => ?_) fun o' e' st2 hb1 e2 k2 => ?_
  case' refine_1.refine_1.refine_2 | refine_2.refine_2 =>
    rw [hb1] at hD
    refine BIf_bool (fun _ => ?_) fun h => by cases h
    have b2 := rk _ _ _ e2 lr1 b1
    refine optK_intro (ldsB5 b2) (decA5 ?_)
    exact need_intro (one5 (u := .nilSlice) rfl) (h1 _ _ _ _ _ _ .nilSlice [] st2 hD.symm (f1.trans e2) k2 rfl)
  case' refine_1.refine_1.refine_1 | refine_2.refine_1 =>
    rw [hb1] at hD
    simp only at hD
    refine BIf_bool (fun h => by cases h) fun _ => ?_
    have b2 := rk _ _ _ e2 lr1 b1
    have hv1 : v ≤ v' ∧ v' ≤ v + 1 := by have := begE_ok hb1; omega
    have f2 := f1.trans e2
    have lr2 : r < st2.nb := Nat.lt_of_lt_of_le lr1 e2.nb
  all_goals
    refine ⟨fun p' N' hd' r' st' => TV.box p 0 = p' ∧ N = N' ∧ header = hd' ∧ TV.box r 0 = r' ∧ ∃ (j n : Nat) (acc : List Nd) (v1 : Int) (ns1 : List (List UInt8)) (kv : TV) (xs : List TV), StX (PM p m) st st' ∧ r < st'.nb ∧ PS p m x hd ty l2 l3 l4 ns1 j v1 w o e st' ∧
        st'.box r = .cells [.int .i64 8, .str [], .str [], kv, .str []] ∧ Own st.nt 5 st' kv acc.length xs ∧ KidsC acc xs ∧ j ≤ x.s.length ∧ x.s.length < j + n ∧ acc.length ≤ j ∧ 0 ≤ v1 ∧ v1 ≤ v + 1 + j ∧ recK x.s num w (recE x num w header n acc j v1 ns1) = D0,
      fun _ _ _ _ st' => (x.s.length - cellI st' p 10).toNat, ⟨rfl, rfl, hhd', rfl, i, x.s.length + 1, [], _, ns, .nilSlice, [], f2, lr2, k2, b2, Own.nil _ _ _, KidsC.nil, hi, by omega, by simp, by omega, by omega, hD⟩, ?_⟩
    rintro _ _ _ _ st3 ⟨rfl, rfl, rfl, rfl, j, n, acc, v1, ns1, kv, xs, f3, lr3, k3, b3, o3, hx, hj, hjn, hac, hv3, hv4, hE⟩
    cases n with
    | zero => omega
    | succ n =>
    rw [recE_succ] at hE
    have bp3 := k3.bx
    refine BIf_tail (H := ¬ (num = true ∧ w ≤ (acc.length : Int))) (fun hw => ?_) (fun q t => ?_) (fun q => by rintro ⟨h, _⟩; have := hnum1.1 h; omega)
    · rw [if_neg hw] at hE
      refine pentry_ok rfl hj hl (by omega) (by omega) k3 (fun k v2 ns2 v4 st4 he e4 k4 hc4 hr4 => ?_) fun o' e' k' v' v4 st4 he e4 k4 ho4 => ?_
      · rw [he] at hE
        simp only at hE
        have hle := entE_le hj he
        refine need_intro (one5 hr4.one) (BIf_bool (fun h => by cases h) fun _ => ?_)
        have b4 := rk _ _ _ e4 lr3 b3
        repeat' first
          | (guard_target =~ need _ _; refine need_intro rfl ?_)
          | (guard_target =~ optK (ldCell _ _ _ _) _; refine optK_intro (ldB b4 rfl) ?_)
          | (guard_target =~ decT (.int _) _ _; refine decT_int ?_)
          | (guard_target =~ decT .str _ _; refine decT_str ?_)
          | (guard_target =~ decT .bool _ _; refine decT_bool ?_)
        refine need_intro o3.rd.isSl ?_
        repeat' first
          | (guard_target =~ need _ _; refine need_intro rfl ?_)
          | (guard_target =~ optK (ldCell _ _ _ _) _; refine optK_intro (ldB b4 rfl) ?_)
          | (guard_target =~ decT (.int _) _ _; refine decT_int ?_)
          | (guard_target =~ decT .str _ _; refine decT_str ?_)
          | (guard_target =~ decT .bool _ _; refine decT_bool ?_)
        refine need_intro (one5 hr4.one) ⟨rfl, ?_⟩
        refine appK_ownX (f3.trans e4) (o3.extX e4) (by omega) (fun h => by cases h) fun v5 st5 e5 hbx hnb o5 => ?_
        have b5 : st5.box r = .cells [.int .i64 8, .str [], .str [], kv, .str []] := by rw [hbx]; exact b4
        refine stB_P b5 rfl fun st6 e6 b6 => ?_
        have k6 := (k4.same hbx hnb).other e6 hrp hrm
        have f6 : StX (PM p m) st st6 := e5.out e6.r3 (by omega)
        have lr6 : r < st6.nb := by have h1 := e4.nb; have h2 := e6.nb; omega
        have hx6 := hx.append (KidsC.one hc4)
        have o6 := o5.extX e6
        have hlen : (acc ++ [entM x j k]).length = acc.length + 1 := by simp
        refine need_intro hr4.isSl ?_
        rw [hr4.lenS]
        by_cases hmk : k < x.s.length ∧ by_ x.s k = x.a
        · rw [if_pos hmk] at hE
          rw [if_pos hmk]
          refine BIf_intro (fun h => absurd h (by decide)) fun _ => ?_
          have hat : entAt x k = k + 1 := by unfold entAt; rw [if_pos hmk]
          rw [hat] at k6
          refine ⟨⟨rfl, rfl, rfl, rfl, k + 1, n, _, v2, ns2, v5, _, f6, lr6, k6, b6, by rw [hlen]; exact o6, hx6, by omega, by omega, by omega, by omega, by omega, hE⟩, ?_⟩
          dsimp only
          rw [cellI_of k6.bx rfl, cellI_of bp3 rfl]
          omega
        · rw [if_neg hmk] at hE
          rw [if_neg hmk]
          refine BIf_intro (fun _ => ?_) fun h => absurd rfl h
          have hat : entAt x k = k := by unfold entAt; rw [if_neg hmk]
          rw [hat] at k6
          have bp6 := k6.bx
          repeat' first
            | (guard_target =~ need _ _; refine need_intro rfl ?_)
            | (guard_target =~ optK (ldCell _ _ _ _) _; refine optK_intro (ldB bp6 rfl) ?_)
            | (guard_target =~ decT (.int _) _ _; refine decT_int ?_)
            | (guard_target =~ decT .str _ _; refine decT_str ?_)
            | (guard_target =~ decT .bool _ _; refine decT_bool ?_)
          refine plineEnd_ok rfl hle.2.1 hl k6 hrp hrm lr6 b6 (fun n7 st7 hle7 e7 k7 b7 => ?_) fun o' e' k' st7 hle7 e7 k7 b7 => ?_
          · rw [hle7] at hE
            simp only [recK, hle7] at hE
            rw [hlen] at hE
            have f7 := f6.out e7 (by omega)
            have lr7 : r < st7.nb := Nat.lt_of_lt_of_le lr6 e7.nb
            have o7 := o6.extX e7
            have bp7 := k7.bx
            have hnd : NdC (.mk 8 [] [] (acc ++ [entM x j k]) (slc x.s k (k + n7))) [.int .i64 8, .str [], .str [], v5, .str (slc x.s k (k + n7))] := by
              unfold NdC; exact ⟨v5, _, rfl, by rw [hlen]; exact o7.rd, hx6⟩
            refine BIf_bool (fun h => by cases h) fun _ => BIf_intro (fun q0 => ?_) fun q0 => ?_
            · have hn0 : num = false := by cases hb : num with | true => exact absurd q0 (hnum1.1 hb) | false => rfl
              rw [hn0, if_neg (by simp)] at hE
              repeat' first
                | (guard_target =~ need _ _; refine need_intro rfl ?_)
                | (guard_target =~ optK (ldCell _ _ _ _) _; refine optK_intro (ldB b7 rfl) ?_)
                | (guard_target =~ decT (.int _) _ _; refine decT_int ?_)
                | (guard_target =~ decT .str _ _; refine decT_str ?_)
                | (guard_target =~ decT .bool _ _; refine decT_bool ?_)
              refine need_intro o7.rd.isSl ?_
              rw [o7.rd.lenS]
              repeat' first
                | (guard_target =~ need _ _; refine need_intro rfl ?_)
                | (guard_target =~ optK (ldCell _ _ _ _) _; refine optK_intro (ldB b7 rfl) ?_)
                | (guard_target =~ decT (.int _) _ _; refine decT_int ?_)
                | (guard_target =~ decT .str _ _; refine decT_str ?_)
                | (guard_target =~ decT .bool _ _; refine decT_bool ?_)
              refine stB_P bp7 rfl fun st8 e8 bp8 => ?_
              have b8 : st8.box r = .cells [.int .i64 8, .str [], .str [], v5, .str (slc x.s k (k + n7))] := by rw [e8.box r lr7 fun h => hrp h.symm]; exact b7
              have k8 := k7.of e8 bp8
              repeat' first
                | (guard_target =~ need _ _; refine need_intro rfl ?_)
                | (guard_target =~ optK (ldCell _ _ _ _) _; refine optK_intro (ldB b8 rfl) ?_)
                | (guard_target =~ decT (.int _) _ _; refine decT_int ?_)
                | (guard_target =~ decT .str _ _; refine decT_str ?_)
                | (guard_target =~ decT .bool _ _; refine decT_bool ?_)
              refine need_intro o7.rd.isSl ?_
              rw [o7.rd.lenS]
              repeat' first
                | (guard_target =~ need _ _; refine need_intro rfl ?_)
                | (guard_target =~ optK (ldCell _ _ _ _) _; refine optK_intro (ldB bp8 rfl) ?_)
                | (guard_target =~ decT (.int _) _ _; refine decT_int ?_)
                | (guard_target =~ decT .str _ _; refine decT_str ?_)
                | (guard_target =~ decT .bool _ _; refine decT_bool ?_)
              refine BIf_intro (fun h => absurd h (by omega)) fun _ => ?_
              refine optK_intro (ldsB5 b8) (decA5 ?_)
              refine need_intro (one5 o7.rd.one) (h0 _ _ _ _ _ _ _ st8 hE.symm (f7.trans e8.pm) ?_ hnd)
              exact k8
            · have hn1 : num = true := hnum1.2 q0
              rw [hn1, if_pos rfl] at hE
              repeat' first
                | (guard_target =~ need _ _; refine need_intro rfl ?_)
                | (guard_target =~ optK (ldCell _ _ _ _) _; refine optK_intro (ldB b7 rfl) ?_)
                | (guard_target =~ decT (.int _) _ _; refine decT_int ?_)
                | (guard_target =~ decT .str _ _; refine decT_str ?_)
                | (guard_target =~ decT .bool _ _; refine decT_bool ?_)
              refine need_intro o7.rd.isSl ?_
              rw [o7.rd.lenS]
              repeat' first
                | (guard_target =~ need _ _; refine need_intro rfl ?_)
                | (guard_target =~ optK (ldCell _ _ _ _) _; refine optK_intro (ldB bp7 rfl) ?_)
                | (guard_target =~ decT (.int _) _ _; refine decT_int ?_)
                | (guard_target =~ decT .str _ _; refine decT_str ?_)
                | (guard_target =~ decT .bool _ _; refine decT_bool ?_)
              refine BIf_intro (fun q1 => ?_) fun q1 => ?_
              · rw [if_pos q1] at hE
                refine optK_intro (ldsB5 b7) (decA5 ?_)
                refine pfail_ok k7 fun st8 e8 k8 => ⟨?_, need_intro (one5 o7.rd.one) (h1 _ _ _ _ _ _ _ _ st8 hE.symm (f7.trans e8) k8 o7.rd.one)⟩
                rw [ldsB (rk _ _ _ e8 lr7 b7) rfl rfl]; rfl
              · rw [if_neg q1] at hE
                refine optK_intro (ldsB5 b7) (decA5 ?_)
                exact need_intro (one5 o7.rd.one) (h0 _ _ _ _ _ _ _ st7 hE.symm f7 k7 hnd)
          · rw [hle7] at hE
            refine BIf_bool (fun _ => ?_) fun h => by cases h
            refine optK_intro (ldsB5 b7) (decA5 ?_)
            exact need_intro (one5 o6.rd.one) (h1 _ _ _ _ _ _ _ _ st7 hE.symm (f6.out e7 (by omega)) k7 o6.rd.one)
      · rw [he] at hE
        refine need_intro (one5 ho4) (BIf_bool (fun _ => ?_) fun h => by cases h)
        have b4 := rk _ _ _ e4 lr3 b3
        refine optK_intro (ldsB5 b4) (decA5 ?_)
        exact need_intro (one5 o3.rd.one) (h1 _ _ _ _ _ _ _ _ st4 hE.symm (f3.trans e4) k4 o3.rd.one)
    · have hnm : num = true := hnum1.2 (by omega)
      repeat' first
        | (guard_target =~ need _ _; refine need_intro rfl ?_)
        | (guard_target =~ optK (ldCell _ _ _ _) _; refine optK_intro (ldB b3 rfl) ?_)
        | (guard_target =~ decT (.int _) _ _; refine decT_int ?_)
        | (guard_target =~ decT .str _ _; refine decT_str ?_)
        | (guard_target =~ decT .bool _ _; refine decT_bool ?_)
      refine need_intro o3.rd.isSl ?_
      repeat' first
        | (guard_target =~ need _ _; refine need_intro rfl ?_)
        | (guard_target =~ optK (ldCell _ _ _ _) _; refine optK_intro (ldB bp3 rfl) ?_)
        | (guard_target =~ decT (.int _) _ _; refine decT_int ?_)
        | (guard_target =~ decT .str _ _; refine decT_str ?_)
        | (guard_target =~ decT .bool _ _; refine decT_bool ?_)
      rw [o3.rd.lenS]
      refine BIf_intro (fun q2 => ?_) fun q2 => ?_
      · rw [if_pos ⟨hnm, q2⟩] at hE
        refine optK_intro (ldsB5 b3) (decA5 ?_)
        repeat' first
          | (guard_target =~ need _ _; refine need_intro rfl ?_)
          | (guard_target =~ optK (ldCell _ _ _ _) _; refine optK_intro (ldB bp3 rfl) ?_)
          | (guard_target =~ decT (.int _) _ _; refine decT_int ?_)
          | (guard_target =~ decT .str _ _; refine decT_str ?_)
          | (guard_target =~ decT .bool _ _; refine decT_bool ?_)
        refine pfail_ok k3 fun st4 e4 k4 => ⟨?_, need_intro (one5 o3.rd.one) (h1 _ _ _ _ _ _ _ _ st4 hE.symm (f3.trans e4) k4 o3.rd.one)⟩
        rw [ldsB (rk _ _ _ e4 lr3 b3) rfl rfl]; rfl
      · exact t fun h => q2 h.2
end
end Go.TVF
end

section
set_option linter.unusedVariables false
set_option linter.unusedSimpArgs false
namespace Go.TVF
open Go Go.Proofs
/-- What Parse answers. -/
def parseV (x : Cx) (hd : Bool) (l2 l3 l4 : Int) : Except (Nat × Int) Nd :=
  if dOk x.a x.q = false then .error (0, 1) else if lOk x.dep x.nod l2 l3 l4 = false then .error (0, 1) else if l2 < x.s.length then .error (0, 10) else if vlen x.s ≠ x.s.length then .error (vlen x.s, 5)
  else match docE x hd (x.s.length + 1) [] 0 1 [] 0 with
    | .error e => .error e
    | .ok rs => .ok (.mk 1 [] [] rs [])
def pN : Except (Nat × Int) Nd → Nd | .ok n => n | .error _ => .mk 0 [] [] [] []
def pO : Except (Nat × Int) Nd → Int | .ok _ => 0 | .error e => e.1
def pE : Except (Nat × Int) Nd → Int | .ok _ => 0 | .error e => e.2
theorem docE_succ (x : Cx) (hdr : Bool) (n : Nat) (acc : List Nd) (i : Nat) (v : Int) (ns : List (List UInt8)) (wid : Int) : docE x hdr (n + 1) acc i v ns wid =
    if x.s.length ≤ i then .ok acc else match recD x (!acc.isEmpty) wid (hdr && acc.isEmpty) i v ns with
      | .error e => .error e
      | .ok (i', v', ns', r, wid') => docE x hdr n (acc ++ [r]) i' v' ns' wid' := by
  simp only [docE, bind, Except.bind]
  by_cases h : x.s.length ≤ i
  · rw [if_pos h, if_pos h]
  · rw [if_neg h, if_neg h]
    rcases recD x (!acc.isEmpty) wid (hdr && acc.isEmpty) i v ns with e | ⟨i', v', ns', r, wid'⟩ <;> rfl
theorem recD_le {x : Cx} {num hd : Bool} {wid : Int} {i : Nat} {v : Int} {ns : List (List UInt8)} {i' : Nat} {v' : Int} {ns' : List (List UInt8)} {r : Nd} {wid' : Int} (hi : i < x.s.length)
    (h : recD x num wid hd i v ns = .ok (i', v', ns', r, wid')) : i < i' ∧ i' ≤ x.s.length ∧ v ≤ v' ∧ v' ≤ v + 3 * (i' - i : Nat) ∧ 1 ≤ wid' := by
  obtain ⟨ks, e, m, rfl, rfl, k2, k3, k4, k5, k6, k7⟩ := recD_inv (by omega) h
  have hle := k2.le (by omega)
  have hpos : 1 ≤ e + m - i := by
    have := (lineE_ok (by omega) hle.2.2.2.2).2.1
    rcases Nat.eq_zero_or_pos m with h0 | h0
    · have := this h0; omega
    · omega
  cases hd <;> simp at k3 <;> omega
theorem pparse_ok {x : Cx} {hd ty : Bool} {l2 l3 l4 : Int} {st : St} {K : Int → List UInt8 → List UInt8 → TV → List UInt8 → Int → Int → St → Prop} (hl : x.s.length ≤ 2000000)
    (hk : ∀ k kv st', StExt st st' → NdC (pN (parseV x hd l2 l3 l4)) [.int .i64 k, .str [], .str [], kv, .str []] → K k [] [] kv [] (pO (parseV x hd l2 l3 l4)) (pE (parseV x hd l2 l3 l4)) st') :
    CallT PR fn_delim_Parse [.str x.s, .agg [.int .u8 x.a, .int .u8 x.q, .bool hd, .bool ty], .agg [.int .i64 x.dep, .int .i64 x.nod, .int .i64 l2, .int .i64 l3, .int .i64 l4]] [.agg [.int .i64, .str, .str, .tv, .str], .one (.int .i64), .one (.int .i64)] st K := by
  generalize hP : parseV x hd l2 l3 l4 = P at hk
  unfold parseV at hP
  have hnil : NdC (.mk 0 [] [] [] []) [.int .i64 0, .str [], .str [], .nilSlice, .str []] := by unfold NdC; exact ⟨_, [], rfl, .inl ⟨rfl, rfl, rfl⟩, KidsC.nil⟩
  have bad : ∀ (o : Nat) (e : Int) st', P = .error (o, e) → StExt st st' → K 0 [] [] .nilSlice [] o e st' := fun o e st' h he => by
    have := hk 0 .nilSlice st' he (by rw [h]; exact hnil)
    rwa [h] at this
  refine vc_delim_Parse x.s x.a x.q hd ty x.dep x.nod l2 l3 l4 st K (dvalid_ok (BIf_bool (fun g => ?_) fun g => ?_))
  · have g : dOk x.a x.q = false := by simpa using g
    rw [if_pos g] at hP
    exact bad _ _ st hP.symm (StExt.refl _)
  have g : dOk x.a x.q = true := by simpa using g
  rw [if_neg (by rw [g]; decide)] at hP
  refine lvalid_ok (BIf_bool (fun g => ?_) fun g => ?_)
  · have g : lOk x.dep x.nod l2 l3 l4 = false := by simpa using g
    rw [if_pos g] at hP
    exact bad _ _ st hP.symm (StExt.refl _)
  have g : lOk x.dep x.nod l2 l3 l4 = true := by simpa using g
  rw [if_neg (by rw [g]; decide)] at hP
  refine BIf_intro (fun g => ?_) fun g => ?_
  · rw [if_pos g] at hP
    exact bad _ _ st hP.symm (StExt.refl _)
  rw [if_neg g] at hP
  refine invalid_ok hl (BIf_intro (fun g => ?_) fun g => ?_)
  · have h2 : vlen x.s ≠ x.s.length := fun h => by rw [if_pos h] at g; omega
    rw [if_neg h2]
    rw [if_pos h2] at hP
    exact bad _ _ st hP.symm (StExt.refl _)
  have h2 : vlen x.s = x.s.length := Decidable.byContradiction fun h => by rw [if_neg h] at g; omega
  rw [if_neg (by rw [h2]; simp)] at hP
  refine need_intro rfl ?_
  obtain ⟨m, hm⟩ : ∃ m, m = st.nb := ⟨_, rfl⟩
  obtain ⟨p, hp⟩ : ∃ p, p = (st.push (.map []) none).nb := ⟨_, rfl⟩
  rw [← hm, ← hp]
  have hpm : p = m + 1 := by rw [hp, hm]; rfl
  obtain ⟨sa, hsa⟩ : ∃ sa, sa = st.push (.map []) none := ⟨_, rfl⟩
  rw [← hsa] at hp ⊢
  obtain ⟨sb, hsb⟩ : ∃ sb, sb = sa.push (.cells (pcl x hd ty l2 l3 l4 m 0 1 0 0 0)) (some 119) := ⟨_, rfl⟩
  have e0 : StExt st sb := by rw [hsb, hsa]; exact ((StExt.refl st).push _ _).push _ _
  have k0 : PS p m x hd ty l2 l3 l4 [] 0 1 0 0 0 sb := by
    refine ⟨by omega, by rw [hsb, hp]; simp [St.push], by rw [hsb, hsa, hm]; simp [St.push]; omega, by rw [hsb, hp]; exact box_push _ _ _, [], ?_, fun t => by simp [findM]⟩
    rw [hsb, hsa, hm]
    simp [St.push]
  have lim : ∀ st', StX (PM p m) sb st' → StExt st st' := fun st' h => StX.ext e0 h fun i hi => by rcases hi with h | h <;> omega
  refine ⟨fun s' p' kd le tx kv tl st' => x.s = s' ∧ TV.box p 0 = p' ∧ 1 = kd ∧ [] = le ∧ [] = tx ∧ [] = tl ∧ ∃ (j n : Nat) (acc : List Nd) (v w : Int) (ns : List (List UInt8)) (xs : List TV), StX (PM p m) sb st' ∧ PS p m x hd ty l2 l3 l4 ns j v w 0 0 st' ∧
      Own sb.nt 5 st' kv acc.length xs ∧ KidsC acc xs ∧ j ≤ x.s.length ∧ x.s.length < j + n ∧ acc.length ≤ j ∧ 0 ≤ v ∧ v ≤ 1 + 3 * j ∧ (match docE x hd n acc j v ns w with | .error e => .error e | .ok rs => .ok (.mk 1 [] [] rs [])) = P,
    fun _ _ _ _ _ _ _ st' => (x.s.length - cellI st' p 10).toNat, ⟨rfl, rfl, rfl, rfl, rfl, rfl, 0, x.s.length + 1, [], 1, 0, [], [], hsb ▸ StX.refl _ _, hsb ▸ k0, Own.nil _ _ _, KidsC.nil, by omega, by omega, by simp, by omega, by omega, hP⟩, ?_⟩
  rintro _ _ _ _ _ kv _ st3 ⟨rfl, rfl, rfl, rfl, rfl, rfl, j, n, acc, v, w, ns, xs, f3, k3, o3, hx, hj, hjn, hac, hv0, hv, hE⟩
  have b3 := k3.bx
  cases n with
  | zero => omega
  | succ n =>
  rw [docE_succ] at hE
  repeat' first
    | (guard_target =~ need _ _; refine need_intro rfl ?_)
    | (guard_target =~ optK (ldCell _ _ _ _) _; refine optK_intro (ldB b3 rfl) ?_)
    | (guard_target =~ decT (.int _) _ _; refine decT_int ?_)
    | (guard_target =~ decT .str _ _; refine decT_str ?_)
    | (guard_target =~ decT .bool _ _; refine decT_bool ?_)
  refine BIf_intro (fun q => need_intro o3.rd.isSl ?_) fun q => ?_
  · rw [if_neg (by omega)] at hE
    rw [o3.rd.lenS]
    have hN1 : decide (((acc.length : Nat) : Int) ≠ 0) = !acc.isEmpty := by
      cases acc with
      | nil => rfl
      | cons a l => exact decide_eq_true (by simp only [List.length_cons]; omega)
    have hN2 : (decide (((acc.length : Nat) : Int) = 0) && hd) = (hd && acc.isEmpty) := by
      cases acc with
      | nil => cases hd <;> rfl
      | cons a l => rw [decide_eq_false (by simp only [List.length_cons]; omega)]; cases hd <;> rfl
    refine precord_ok rfl hj hl hv0 (by omega) (by omega) k3 (fun k v1 ns1 r w1 kv1 tl st4 hr e4 k4 hc4 => ?_) fun o' e' ns1 k v1 w1 kv1 tl st4 hr e4 k4 ho4 => ?_
    · rw [hN1, hN2] at hr
      rw [hr] at hE
      simp only at hE
      have hle := recD_le (by omega) hr
      have hone : oneT kv1 = true := by
        obtain ⟨a, b, c, d, f⟩ := r
        unfold NdC at hc4
        obtain ⟨u, ys, hu, hu2, _⟩ := hc4
        cases hu
        exact hu2.one
      refine need_intro (one5 hone) (BIf_bool (fun h => by cases h) fun _ => need_intro (one5 hone) ?_)
      refine appK_ownX (f3.trans e4) (o3.extX e4) (by omega) (fun h => by cases h) fun v5 st5 e5 hbx hnb o5 => need_intro (one1 o5.rd.one) ?_
      have hlen : (acc ++ [r]).length = acc.length + 1 := by simp
      refine ⟨⟨rfl, rfl, rfl, rfl, rfl, rfl, k, n, acc ++ [r], v1, w1, ns1, _, e5, k4.same hbx hnb, by rw [hlen]; exact o5, hx.append (KidsC.one hc4), by omega, by omega, by omega, by omega, by omega, hE⟩, ?_⟩
      dsimp only
      rw [cellI_of (k4.same hbx hnb).bx rfl, cellI_of b3 rfl]
      omega
    · rw [hN1, hN2] at hr
      rw [hr] at hE
      simp only at hE
      refine need_intro (one5 ho4) (BIf_bool (fun _ => ?_) fun h => by cases h)
      have b4 := k4.bx
      repeat' first
        | (guard_target =~ need _ _; refine need_intro rfl ?_)
        | (guard_target =~ optK (ldCell _ _ _ _) _; refine optK_intro (ldB b4 rfl) ?_)
        | (guard_target =~ decT (.int _) _ _; refine decT_int ?_)
        | (guard_target =~ decT .str _ _; refine decT_str ?_)
        | (guard_target =~ decT .bool _ _; refine decT_bool ?_)
      exact bad _ _ st4 hE.symm (lim _ (f3.trans e4))
  · rw [if_pos (by omega)] at hE
    simp only at hE
    subst hE
    exact need_intro (one5 o3.rd.one) (hk 1 kv st3 (lim _ f3) (by unfold pN NdC; exact ⟨kv, xs, rfl, o3.rd, hx⟩))
end Go.TVF
end

section
set_option linter.unusedVariables false
set_option linter.unusedSimpArgs false
namespace Go.TVF
open Go Go.Proofs
def RS (x : Cx) (hd ty : Bool) (l2 l3 l4 : Int) (s : List UInt8) (a q : Int) (h t : Bool) (m0 m1 m2 m3 m4 : Int) : Prop := x.s = s ∧ x.a = a ∧ x.q = q ∧ hd = h ∧ ty = t ∧ x.dep = m0 ∧ x.nod = m1 ∧ l2 = m2 ∧ l3 = m3 ∧ l4 = m4
theorem RS.refl (x : Cx) (hd ty : Bool) (l2 l3 l4 : Int) : RS x hd ty l2 l3 l4 x.s x.a x.q hd ty x.dep x.nod l2 l3 l4 := ⟨rfl, rfl, rfl, rfl, rfl, rfl, rfl, rfl, rfl, rfl⟩
/-- A result so far, beside the state's error. -/
def ErrS {α : Type} (E : Except (Nat × Int) α) (off err : Int) : Prop := err ≠ 0 ∧ ∃ o : Nat, off = (o : Int) ∧ E = .error (o, err)
theorem begE_err {dep nod d : Int} {i : Nat} {v : Int} {o : Nat} {c : Int} (h : begE dep nod d i v = .error (o, c)) : c ≠ 0 := by
  unfold begE at h
  split at h
  · cases h; decide
  split at h
  · cases h; decide
  · cases h
theorem cellE_err {a q : Int} {s : List UInt8} {i o : Nat} {c : Int} (h : cellE a q s i = .error (o, c)) : c ≠ 0 := by
  unfold cellE at h
  split at h <;> split at h <;> cases h <;> decide
theorem strs_ld {v : TV} {L : List (List UInt8)} (h : Rd 1 v L.length (L.map TV.str)) (st : St) {i : Nat} {t : List UInt8} (ht : L[i]? = some t) : ldCell st [] (.t (ixT 1 v i)) 0 = some (.str t) :=
  h.ldx st i 0 (by rw [Nat.mul_one, Nat.add_zero, List.getElem?_map, ht]; rfl)
theorem BIf_tailB {b : Bool} {H A X : Prop} (t : H → X) (h1 : b = true → (H → X) → A) (h2 : b = false → H) : BIf b A X := BIf_bool (fun q => h1 q t) fun q => t (h2 q)
theorem folE_err {a : Int} {s : List UInt8} {i o : Nat} {c : Int} (h : folE a s i = .error (o, c)) : c ≠ 0 ∧ by_ s i ≠ a ∧ lineE s i = .error (o, c) := by
  unfold folE at h
  split at h
  · rename_i hc
    split at h
    · cases h
    · rename_i e he
      cases h
      refine ⟨?_, hc.2, he⟩
      rcases lineE_err he with h | h <;> rw [h.2] <;> decide
  · cases h
/-- The row that a slice may grow in. -/
def tipId : TV → Option Nat
  | .list _ (.own id) _ _ => some id
  | _ => none
def Apart (u v : TV) : Prop := ∀ id, tipId u = some id → tipId v ≠ some id
theorem Apart.symm {u v : TV} (h : Apart u v) : Apart v u := fun id h1 h2 => h id h2 h1
theorem Own.tip_lt {b sz : Nat} {st : St} {v : TV} {n : Nat} {xs : List TV} (h : Own b sz st v n xs) {id : Nat} (hi : tipId v = some id) : id < st.nt := by
  rcases h with ⟨rfl, _⟩ | ⟨tip, rfl, rfl | ⟨id', rfl, h1, h2, h3⟩⟩
  · cases hi
  · cases hi
  · cases hi; exact h2
theorem Own.keep {b sz : Nat} {st st' : St} {v : TV} {n : Nat} {xs : List TV} (h : Own b sz st v n xs) (hn : st.nt ≤ st'.nt) (hl : ∀ id, tipId v = some id → st'.live id = st.live id) : Own b sz st' v n xs := by
  rcases h with h | ⟨tip, rfl, rfl | ⟨id, rfl, h1, h2, h3⟩⟩
  · exact .inl h
  · exact .inr ⟨_, rfl, .inl rfl⟩
  · exact .inr ⟨_, rfl, .inr ⟨id, rfl, h1, by omega, by rw [hl id rfl]; exact h3⟩⟩
theorem appK_two {T sz sz2 bytes : Nat} {st0 st : St} {v u : TV} {n k n2 : Nat} {xs ys ys2 : List TV} {K : TV → St → Prop} (e : StExt st0 st) (h : Own st0.nt sz st v n xs) (hu : Own st0.nt sz2 st u n2 ys2) (ha : Apart v u) (hby : (n + k) * bytes ≤ 140737488355328) (hys : k = 0 → ys = [])
    (hK : ∀ v' st', StExt st0 st' → st'.box = st.box → Own st0.nt sz st' v' (n + k) (xs ++ ys) → Own st0.nt sz2 st' u n2 ys2 → Apart v' u → K v' st') : appK T sz bytes v k ys st K := by
  have fr : ∀ T, Own st0.nt sz2 (st.fresh T) u n2 ys2 := fun T => hu.ext ((StExt.refl st).fresh T)
  have ap : ∀ m l, Apart (.list sz (.own st.nt) m l) u := fun m l id h1 h2 => by cases h1; have := hu.tip_lt h2; omega
  rcases h with ⟨rfl, rfl, rfl⟩ | ⟨tip, rfl, ht⟩
  · simp only [appK]
    cases k with
    | zero => rw [hys rfl] at hK; exact hK _ _ e rfl (.nil _ _ _) hu ha
    | succ m =>
      simp only [need_iff]
      refine ⟨by simpa using hby, hK _ _ (e.fresh _) rfl ?_ (fr _) (ap _ _)⟩
      simp only [List.nil_append, Nat.zero_add]
      exact Own.fresh _ _ e.nt
  · simp only [appK, Nat.beq_refl]
    refine ⟨hby, ?_⟩
    rcases ht with rfl | ⟨id, rfl, h1, h2, h3⟩
    · cases k with
      | zero => rw [hys rfl] at hK; simp only [List.append_nil] at hK; exact hK _ _ e rfl (Own.full _ _ _ _ _) hu ha
      | succ m => exact hK _ _ (e.fresh _) rfl (Own.fresh _ _ e.nt) (fr _) (ap _ _)
    · refine ⟨h3, hK _ _ ((e.retire h1).fresh _) rfl (Own.fresh (st := st.retire id) _ _ e.nt) (hu.keep (Nat.le_succ _) fun id' h' => ?_) (ap _ _)⟩
      have hne : id' ≠ id := fun h => ha id rfl (by rw [← h]; exact h')
      have hlt := hu.tip_lt h'
      simp only [St.fresh, St.retire]
      rw [if_neg hne]
      exact if_neg (by omega)
section
variable {x : Cx} {hd ty : Bool} {l2 l3 l4 : Int} {st : St}
theorem rrecord_ok {header num : Bool} {I off v many wid : Int} {i : Nat} {ns : List (List UInt8)} (hI : I = (i : Int)) (hi : i ≤ x.s.length) (hl : x.s.length ≤ 2000000) (hv0 : 0 ≤ v) (hv : v ≤ 100000000)
    (hm : many = if num then wid else 0) (hw : num = true → 1 ≤ wid) (hns : header = true → ns = [])
    {K : List UInt8 → Int → Int → Bool → Bool → Int → Int → Int → Int → Int → Int → Int → Int → Int → Int → List UInt8 → List UInt8 → TV → List UInt8 → Int → St → Prop}
    (h0 : ∀ (k : Nat) v1 ns1 r w1 off1 kv tl st', recD x num wid header i v ns = .ok (k, v1, ns1, r, w1) → StExt st st' → NdC r [.int .i64 8, .str [], .str [], kv, .str tl] → K x.s x.a x.q hd ty x.dep x.nod l2 l3 l4 k v1 off1 0 8 [] [] kv tl w1 st')
    (h1 : ∀ (o : Nat) e (k v1 : Int) r kv tl st', recD x num wid header i v ns = .error (o, e) → e ≠ 0 → StExt st st' → NdC r [.int .i64 8, .str [], .str [], kv, .str tl] → K x.s x.a x.q hd ty x.dep x.nod l2 l3 l4 k v1 o e 8 [] [] kv tl 0 st') :
    CallT PR fn_datakitref27_record [rst x.s x.a x.q hd ty x.dep x.nod l2 l3 l4 I v off 0, .int .i64 many, .bool header] [rsh, .agg [.int .i64, .str, .str, .tv, .str], .one (.int .i64)] st K := by
  subst hI
  have tn : ∀ k : Nat, Int.toNat (k : Int) = k := fun k => rfl
  have w1 : ∀ k : Nat, k ≤ x.s.length + 2 → IntKind.i64.wrap ((k : Int) + 1) = ((k + 1 : Nat) : Int) := fun k hk => by rw [wrap64 _ (by omega) (by omega)]; omega
  generalize hD : recD x num wid header i v ns = D0 at h0 h1
  rw [recD_eq] at hD
  refine vc_datakitref27_record x.s x.a x.q hd ty x.dep x.nod l2 l3 l4 i v off 0 many header st K ⟨fun mn hh nm s a q b1 b2 m0 m1 m2 m3 m4 at_ v' off' err kd le tx kv tl st' => RS x hd ty l2 l3 l4 s a q b1 b2 m0 m1 m2 m3 m4 ∧ many = mn ∧ header = hh ∧ TV.nilSlice = nm ∧ 8 = kd ∧ [] = le ∧ [] = tx ∧ TV.nilSlice = kv ∧ [] = tl ∧ st = st' ∧ (i : Int) = at_ ∧
      ((err = 0 ∧ v ≤ v' ∧ v' ≤ v + 1 ∧ recK x.s num wid (recE x num wid header (x.s.length + 1) [] i v' ns) = D0) ∨ ErrS D0 off' err), BIf_bool (fun hh => ?_) (fun hh => ?_), ?_⟩
  · have hh : header = false := by simpa using hh
    rw [if_neg (by rw [hh]; decide)] at hD
    refine rbegin_ok rfl (by omega) hv0 (fun v' hb => ?_) fun o e hb => ?_
    · rw [hb] at hD
      have := begE_ok hb
      exact ⟨RS.refl .., rfl, rfl, rfl, rfl, rfl, rfl, rfl, rfl, rfl, rfl, .inl ⟨rfl, by omega, by omega, hD⟩⟩
    · rw [hb] at hD
      exact ⟨RS.refl .., rfl, rfl, rfl, rfl, rfl, rfl, rfl, rfl, rfl, rfl, .inr ⟨begE_err hb, o, rfl, hD.symm⟩⟩
  · have hh : header = true := by simpa using hh
    rw [if_pos hh] at hD
    exact ⟨RS.refl .., rfl, rfl, rfl, rfl, rfl, rfl, rfl, rfl, rfl, rfl, .inl ⟨rfl, by omega, by omega, hD⟩⟩
  clear hD
  rintro _ _ _ _ _ _ _ _ _ _ _ _ _ _ v1 off1 err1 _ _ _ _ _ _ ⟨⟨rfl, rfl, rfl, rfl, rfl, rfl, rfl, rfl, rfl, rfl⟩, rfl, rfl, rfl, rfl, rfl, rfl, rfl, rfl, rfl, rfl, hS⟩
  refine ⟨fun nm k mn hh s a q b1 b2 m0 m1 m2 m3 m4 at_ v' off' err kd le tx kv tl st' => RS x hd ty l2 l3 l4 s a q b1 b2 m0 m1 m2 m3 m4 ∧ many = mn ∧ header = hh ∧ 8 = kd ∧ [] = le ∧ [] = tx ∧ [] = tl ∧ StExt st st' ∧
      ∃ (j n : Nat) (acc : List Nd) (L nsL : List (List UInt8)) (xs : List TV), at_ = (j : Int) ∧ j ≤ x.s.length ∧ k = (acc.length : Int) ∧ L.length = acc.length ∧ acc.length ≤ j ∧ (num = true → (acc.length : Int) ≤ wid) ∧ Own st.nt 1 st' nm L.length (L.map TV.str) ∧ Own st.nt 5 st' kv acc.length xs ∧ Apart nm kv ∧ KidsC acc xs ∧
        ((err = 0 ∧ x.s.length < j + n ∧ 0 ≤ v' ∧ v' ≤ v + 1 + j ∧ (header = true → nsL = L.reverse) ∧ recK x.s num wid (recE x num wid header n acc j v' nsL) = D0) ∨ ErrS D0 off' err),
    fun _ _ _ _ _ _ _ _ _ _ _ _ _ _ at_ _ _ _ _ _ _ _ _ _ => (x.s.length - at_).toNat, ?_, ?_⟩
  · refine ⟨RS.refl .., rfl, rfl, rfl, rfl, rfl, rfl, StExt.refl _, i, x.s.length + 1, [], [], ns, [], rfl, hi, rfl, rfl, by simp, fun hn => (by have := hw hn; simp; omega), Own.nil _ _ _, Own.nil _ _ _, (fun _ h => by cases h), KidsC.nil, ?_⟩
    rcases hS with ⟨h, h2, h3, h4⟩ | h
    · exact .inl ⟨h, by omega, by omega, by omega, fun hh => by rw [hns hh]; rfl, h4⟩
    · exact .inr h
  rintro nm _ _ _ _ _ _ _ _ _ _ _ _ _ _ v2 off2 err2 _ _ _ kv _ st3 ⟨⟨rfl, rfl, rfl, rfl, rfl, rfl, rfl, rfl, rfl, rfl⟩, rfl, rfl, rfl, rfl, rfl, rfl, e3, j, n, acc, L, nsL, xs, rfl, hj, rfl, hL, hac, hac2, oN, oK, hap, hx, hS2⟩
  have ndc : ∀ kv st' acc xs, Own st.nt 5 st' kv acc.length xs → KidsC acc xs → NdC (.mk 8 [] [] acc []) [.int .i64 8, .str [], .str [], kv, .str []] := fun kv st' acc xs o h => by unfold NdC; exact ⟨kv, xs, rfl, o.rd, h⟩
  refine BIf_intro (fun q0 => ?_) fun q0 => ?_
  case' refine_2 =>
    rcases hS2 with ⟨h, _⟩ | ⟨h, o, rfl, hE⟩
    · exact absurd h q0
    · exact need_intro (one5 oK.rd.one) (h1 _ _ _ _ _ _ _ _ hE h e3 (ndc _ _ _ _ oK hx))
  subst q0
  obtain ⟨hjn, hv2, hv3, hnL, hE⟩ : x.s.length < j + n ∧ 0 ≤ v2 ∧ v2 ≤ v + 1 + j ∧ (header = true → nsL = L.reverse) ∧ recK x.s num wid (recE x num wid header n acc j v2 nsL) = D0 := by
    rcases hS2 with ⟨_, h⟩ | ⟨h, _⟩
    · exact h
    · exact absurd rfl h
  clear hS2 hS
  cases n with
  | zero => omega
  | succ n =>
  rw [recE_succ] at hE
  refine BIf_tail (H := ¬ (num = true ∧ wid ≤ (acc.length : Int))) (fun hnw => ?_) (fun q t => BIf_intro (fun q2 => ?_) fun q2 => t ?_) (fun q => ?_)
  · rw [if_neg hnw] at hE
    generalize hEe : entE x header j v2 nsL = E at hE
    rw [entE_eq] at hEe
    refine ⟨fun mn hh nm' k fr s a q b1 b2 m0 m1 m2 m3 m4 at_ v' off' err kd le tx kv' tl st' => RS x hd ty l2 l3 l4 s a q b1 b2 m0 m1 m2 m3 m4 ∧ many = mn ∧ header = hh ∧ nm = nm' ∧ (acc.length : Int) = k ∧ (j : Int) = fr ∧ 8 = kd ∧ [] = le ∧ [] = tx ∧ kv = kv' ∧ [] = tl ∧ st3 = st' ∧ (j : Int) = at_ ∧
        ((err = 0 ∧ v2 ≤ v' ∧ v' ≤ v2 + 1 ∧ entR x header j v' nsL = E) ∨ ErrS E off' err), BIf_bool (fun hh => ?_) (fun hh => ?_), ?_⟩
    · have hh : header = false := by simpa using hh
      rw [if_neg (by rw [hh]; decide)] at hEe
      refine rbegin_ok rfl (by omega) hv2 (fun v' hb => ?_) fun o e hb => ?_
      · rw [hb] at hEe
        have := begE_ok hb
        exact ⟨RS.refl .., rfl, rfl, rfl, rfl, rfl, rfl, rfl, rfl, rfl, rfl, rfl, rfl, .inl ⟨rfl, by omega, by omega, hEe⟩⟩
      · rw [hb] at hEe
        exact ⟨RS.refl .., rfl, rfl, rfl, rfl, rfl, rfl, rfl, rfl, rfl, rfl, rfl, rfl, .inr ⟨begE_err hb, o, rfl, hEe.symm⟩⟩
    · have hh : header = true := by simpa using hh
      rw [if_pos hh] at hEe
      exact ⟨RS.refl .., rfl, rfl, rfl, rfl, rfl, rfl, rfl, rfl, rfl, rfl, rfl, rfl, .inl ⟨rfl, by omega, by omega, hEe⟩⟩
    clear hEe
    rintro _ _ _ _ _ _ _ _ _ _ _ _ _ _ _ _ v3 off3 err3 _ _ _ _ _ _ ⟨⟨rfl, rfl, rfl, rfl, rfl, rfl, rfl, rfl, rfl, rfl⟩, rfl, rfl, rfl, rfl, rfl, rfl, rfl, rfl, rfl, rfl, rfl, rfl, hS3⟩
    -- behind the cell
    refine rcell_ok rfl hj hl (fun kk hc hk1 hk2 => ?_) fun o cc kk hc hkk => ?_
    case' refine_1 =>
      have hW := cellE_W hj hc
      have hcl : (slc x.s j kk).length ≤ x.s.length := by rw [slc_len hk1 hk2]; omega
      have hkk : kk ≤ x.s.length := hk2
      have hS4 : (err3 = 0 ∧ v2 ≤ v3 ∧ v3 ≤ v2 + 1 ∧ j ≤ kk ∧ slc x.s j kk = slc x.s j kk ∧ (if (if header then 1024 else 65536) < (txt x.q (slc x.s j kk)).length then .error (j, 10) else if header = true ∧ txt x.q (slc x.s j kk) ∈ nsL then .error (j, 8) else .ok (kk, v3, if header then txt x.q (slc x.s j kk) :: nsL else nsL)) = E) ∨ ErrS E off3 err3 := by
        rcases hS3 with ⟨h, h2, h3, h4⟩ | h
        · refine .inl ⟨h, h2, h3, hk1, rfl, ?_⟩
          unfold entR at h4
          rw [hc] at h4
          exact h4
        · exact .inr h
      generalize off3 = off4 at hS4 ⊢
      generalize err3 = err4 at hS4 ⊢
    case' refine_2 =>
      have hW : CellW x.q [] := .inl rfl
      have hcl : ([] : List UInt8).length ≤ x.s.length := by simp
      have hS4 : ((if err3 = 0 then cc else err3) = 0 ∧ v2 ≤ v3 ∧ v3 ≤ v2 + 1 ∧ j ≤ kk ∧ slc x.s j kk = [] ∧ (if (if header then 1024 else 65536) < (txt x.q []).length then .error (j, 10) else if header = true ∧ txt x.q [] ∈ nsL then .error (j, 8) else .ok (kk, v3, if header then txt x.q [] :: nsL else nsL)) = E) ∨ ErrS E (if err3 = 0 then (o : Int) else off3) (if err3 = 0 then cc else err3) := by
        right
        rcases hS3 with ⟨h, h2, h3, h4⟩ | ⟨h, o', h2, h3⟩
        · rw [if_pos h, if_pos h]
          unfold entR at h4
          rw [hc] at h4
          exact ⟨cellE_err hc, o, rfl, h4.symm⟩
        · rw [if_neg h, if_neg h]; exact ⟨h, o', h2, h3⟩
      generalize (if err3 = 0 then (o : Int) else off3) = off4 at hS4 ⊢
      generalize (if err3 = 0 then cc else err3) = err4 at hS4 ⊢
    all_goals
      clear hS3
      refine rplain_ok hW (by omega) ?_
      refine ⟨fun mn hh nm' k fr c' t' s a q b1 b2 m0 m1 m2 m3 m4 at_ v' off' err kd le tx kv' tl st' => RS x hd ty l2 l3 l4 s a q b1 b2 m0 m1 m2 m3 m4 ∧ many = mn ∧ header = hh ∧ nm = nm' ∧ (acc.length : Int) = k ∧ (j : Int) = fr ∧ 8 = kd ∧ [] = le ∧ [] = tx ∧ kv = kv' ∧ [] = tl ∧ st3 = st' ∧
          ∃ kk : Nat, at_ = (kk : Int) ∧ kk ≤ x.s.length ∧ ((err = 0 ∧ v2 ≤ v' ∧ v' ≤ v2 + 1 ∧ j ≤ kk ∧ slc x.s j kk = c' ∧ (if header = true ∧ t' ∈ nsL then .error (j, 8) else .ok (kk, v', if header then t' :: nsL else nsL)) = E) ∨ ErrS E off' err), ?_, ?_⟩
      · refine BIf_bool (fun hh => BIf_intro (fun g => ?_) fun g => BIf_intro (fun g2 => absurd g2 (by omega)) fun g2 => ?_) (fun hh => BIf_intro (fun g => ?_) fun g => ?_)
        all_goals first
          | (refine rfail_ok (fun h => ⟨RS.refl .., rfl, rfl, rfl, rfl, rfl, rfl, rfl, rfl, rfl, rfl, rfl, kk, rfl, hkk, .inr ?_⟩) (fun h => ⟨RS.refl .., rfl, rfl, rfl, rfl, rfl, rfl, rfl, rfl, rfl, rfl, rfl, kk, rfl, hkk, .inr ?_⟩)
             · rcases hS4 with ⟨_, _, _, _, _, h6⟩ | h6
               · rw [if_pos (by rw [hh]; simp; omega)] at h6
                 exact ⟨by decide, j, rfl, h6.symm⟩
               · exact absurd h h6.1
             · rcases hS4 with ⟨h6, _⟩ | h6
               · exact absurd h6 h
               · exact h6)
          | (refine ⟨RS.refl .., rfl, rfl, rfl, rfl, rfl, rfl, rfl, rfl, rfl, rfl, rfl, kk, rfl, hkk, ?_⟩
             rcases hS4 with ⟨h6, h7, h8, h9, h10, h11⟩ | h6
             · rw [if_neg (by rw [hh]; simp; omega)] at h11
               exact .inl ⟨h6, h7, h8, h9, h10, h11⟩
             · exact .inr h6)
      clear hS4 hkk hW hcl
      rintro _ _ _ _ _ cs ts _ _ _ _ _ _ _ _ _ _ _ v4 off5 err5 _ _ _ _ _ _ ⟨⟨rfl, rfl, rfl, rfl, rfl, rfl, rfl, rfl, rfl, rfl⟩, rfl, rfl, rfl, rfl, rfl, rfl, rfl, rfl, rfl, rfl, rfl, k5, rfl, hk5, hS5⟩
      refine ⟨fun mm mn hh nm' k fr c' t' s a q b1 b2 m0 m1 m2 m3 m4 at_ v' off' err kd le tx kv' tl st' => RS x hd ty l2 l3 l4 s a q b1 b2 m0 m1 m2 m3 m4 ∧ many = mn ∧ header = hh ∧ nm = nm' ∧ (acc.length : Int) = k ∧ (j : Int) = fr ∧ 8 = kd ∧ [] = le ∧ [] = tx ∧ kv = kv' ∧ [] = tl ∧ st3 = st' ∧ (k5 : Int) = at_ ∧ cs = c' ∧ ts = t' ∧ v4 = v' ∧
          ∃ mi : Nat, mm = (mi : Int) ∧ mi ≤ L.length ∧ ((err = 0 ∧ v2 ≤ v' ∧ v' ≤ v2 + 1 ∧ j ≤ k5 ∧ slc x.s j k5 = c' ∧ (header = true → ts ∉ L.take mi) ∧ (if header = true ∧ t' ∈ nsL then .error (j, 8) else .ok (k5, v', if header then t' :: nsL else nsL)) = E) ∨ ErrS E off' err),
        fun mm _ _ _ _ _ _ _ _ _ _ _ _ _ _ _ _ _ _ _ _ _ _ _ _ _ _ _ => (L.length - mm).toNat, ⟨RS.refl .., rfl, rfl, rfl, rfl, rfl, rfl, rfl, rfl, rfl, rfl, rfl, rfl, rfl, rfl, rfl, 0, rfl, by omega, ?_⟩, ?_⟩
      · rcases hS5 with ⟨h6, h7, h8, h9, h10, h11⟩ | h6
        · exact .inl ⟨h6, h7, h8, h9, h10, by simp, h11⟩
        · exact .inr h6
      clear hS5
      rintro _ _ _ _ _ _ _ _ _ _ _ _ _ _ _ _ _ _ _ _ off6 err6 _ _ _ _ _ _ ⟨⟨rfl, rfl, rfl, rfl, rfl, rfl, rfl, rfl, rfl, rfl⟩, rfl, rfl, rfl, rfl, rfl, rfl, rfl, rfl, rfl, rfl, rfl, rfl, rfl, rfl, rfl, mi, rfl, hmi, hS6⟩
      refine BIf_tailB (H := (err6 = 0 ∧ v2 ≤ v4 ∧ v4 ≤ v2 + 1 ∧ j ≤ k5 ∧ slc x.s j k5 = cs ∧ .ok (k5, v4, if header then ts :: nsL else nsL) = E) ∨ ErrS E off6 err6) (fun hS7 => ?_) (fun hh t => ?_) (fun hh => ?_)
      · clear hS6
        refine appK_two e3 oN oK hap (by omega) (fun h => by cases h) fun v6 st15 e15 hbx o15 oK15 hap15 => ?_
        have hLl : (L ++ [ts]).length = acc.length + 1 := by simp [hL]
        refine rfollowed_ok rfl hk5 hl (fun hf => ?_) fun o cc hf => ?_
        · refine BIf_intro (fun q => ?_) fun q => ?_
          · rcases hS7 with ⟨h, _⟩ | ⟨h, o, rfl, hE7⟩
            · exact absurd h q
            · rw [hE7] at hE
              exact need_intro (one5 oK.rd.one) (h1 _ _ _ _ _ _ _ _ hE.symm h e15 (ndc _ _ _ _ oK hx))
          rcases hS7 with ⟨h6, h7, h8, h9, h10, h11⟩ | h7
          case' inr => exact absurd h7.1 q
          subst h6
          rw [← h11] at hE
          simp only at hE
          have hlen : (acc ++ [entM x j k5]).length = acc.length + 1 := by simp
          refine BIf_tail (H := ¬ (k5 < x.s.length ∧ by_ x.s k5 = x.a)) (fun hmk => ?_) (fun q1 t => ⟨⟨by omega, by omega⟩, BIf_intro (fun q2 => ?_) fun q2 => t fun h => q2 h.2⟩) (fun q h => q (by omega))
          · rw [if_neg hmk] at hE
            obtain ⟨n7, hn7⟩ : ∃ n7, lineE x.s k5 = .ok n7 := by
              unfold folE at hf
              by_cases hc : k5 < x.s.length ∧ by_ x.s k5 ≠ x.a
              · rw [if_pos hc] at hf
                cases hle : lineE x.s k5 with
                | ok n7 => exact ⟨n7, rfl⟩
                | error e => rw [hle] at hf; cases hf
              · refine ⟨0, ?_⟩
                unfold lineE
                rw [if_pos]
                apply Decidable.byContradiction
                intro hlt
                exact hmk ⟨by omega, Decidable.byContradiction fun hb => hc ⟨by omega, hb⟩⟩
            rw [hn7] at hE
            simp only [recK, hn7] at hE
            rw [hlen] at hE
            have hle := lineE_ok hk5 hn7
            have hent : entM x j k5 = entN x.s j k5 [] := by unfold entM; rw [if_neg hmk]
            have hcE : NdC (entM x j k5) [.int .i64 5, .str [], .str [], .list 5 .full 1 [.int .i64 2, .str [], .str cs, .nilSlice, .str []], .str []] := by
              rw [hent]; exact NdC.ent1 (by rw [h10]; exact .inr ⟨_, rfl⟩)
            refine appK_own e15 rfl oK15 (by omega) (fun h => by cases h) fun v9 st19 e19 hbx9 o19 => need_intro (one1 o19.rd.one) ?_
            have hx9 := hx.append (KidsC.one hcE)
            have hnd : ∀ tl, NdC (.mk 8 [] [] (acc ++ [entM x j k5]) tl) [.int .i64 8, .str [], .str [], v9, .str tl] := fun tl => by unfold NdC; exact ⟨v9, _, rfl, by rw [hlen]; exact o19.rd, hx9⟩
            rw [w1 acc.length (by omega)]
            refine BIf_intro (fun q8 => ?_) fun q8 => ?_
            · have hn : num = true := by cases hb : num with | true => rfl | false => rw [hb] at hm; simp at hm; omega
              rw [hn, if_pos rfl] at hm
              rw [hn, if_pos rfl, if_pos (by omega)] at hE
              exact rfail_ok (fun _ => need_intro (one5 o19.rd.one) (h1 _ _ _ _ _ _ _ _ hE.symm (by decide) e19 (hnd _))) fun h => absurd rfl h
            · have hE2 : .ok (k5 + n7, v4, if header = true then ts :: nsL else nsL, Nd.mk 8 [] [] (acc ++ [entM x j k5]) (slc x.s k5 (k5 + n7)), ((acc.length + 1 : Nat) : Int)) = D0 := by
                cases hb : num with
                | true =>
                  rw [hb, if_pos rfl] at hm
                  rw [hb, if_pos rfl, if_neg (by omega)] at hE
                  rw [← hE]
                  have hnw' : ¬ wid ≤ (acc.length : Int) := fun h => hnw ⟨hb, h⟩
                  have : wid = ((acc.length + 1 : Nat) : Int) := by omega
                  rw [this]
                | false =>
                  rw [hb, if_neg (by simp)] at hE
                  rw [← hE]
                  rfl
              refine ends_ok rfl hk5 hl ?_
              rw [hn7]
              have w2 : IntKind.i64.wrap ((k5 : Int) + ((n7 : Nat) : Int)) = ((k5 + n7 : Nat) : Int) := by rw [wrap64 _ (by omega) (by omega)]; omega
              simp only [w2]
              exact ⟨⟨by omega, by omega, by omega⟩, need_intro (one5 o19.rd.one) (h0 _ _ _ _ _ _ _ _ _ hE2.symm e19 (hnd _))⟩
          · rw [if_pos ⟨by omega, q2⟩] at hE
            rw [w1 k5 (by omega), w1 acc.length (by omega)]
            have hent : entM x j k5 = entN x.s j k5 [.mk 11 [] [x.s.getD k5 0] [] []] := by unfold entM; rw [if_pos ⟨by omega, q2⟩]
            refine ⟨⟨by omega, by omega, by omega⟩, ?_⟩
            rw [tn, tn, show List.drop k5 (List.take (k5 + 1) x.s) = [x.s.getD k5 0] from slc_one (by omega)]
            refine appK_own (StExt.refl st15) rfl (Own.full _ _ _ _ _) (by omega) (fun h => by cases h) fun v7 st17 e17 hbx7 o17 => need_intro (one1 o17.rd.one) (need_intro (one5 o17.rd.one) ?_)
            have hcE : NdC (entM x j k5) [.int .i64 5, .str [], .str [], v7, .str []] := by
              rw [hent]; exact NdC.ent2 (by rw [h10]; exact o17.rd)
            refine appK_two (e15.trans e17) (oK15.ext e17) (o15.ext e17) hap15.symm (by omega) (fun h => by cases h) fun v8 st18 e18 hbx8 o18 oN18 hap18 => need_intro (one1 o18.rd.one) ?_
            refine ⟨⟨RS.refl .., rfl, rfl, rfl, rfl, rfl, rfl, e18, k5 + 1, n, acc ++ [entM x j k5], L ++ [ts], if header then ts :: nsL else nsL, _, rfl, by omega, by rw [hlen], by rw [hlen, hLl], by rw [hlen]; omega, fun hn => ?_, by rw [hLl, List.map_append, ← hL]; exact oN18, by rw [hlen]; exact o18, hap18.symm, hx.append (KidsC.one hcE), .inl ⟨rfl, by omega, by omega, by omega, fun hh => ?_, hE⟩⟩, by dsimp only; omega⟩
            · have : ¬ wid ≤ (acc.length : Int) := fun h => hnw ⟨hn, h⟩
              rw [hlen]; omega
            · rw [hh, if_pos rfl, hnL hh]; simp
        · have hce := folE_err hf
          refine BIf_intro (fun q => ?_) fun q => ?_
          · by_cases h0' : err6 = 0
            · rw [if_pos h0', if_pos h0']
              rcases hS7 with ⟨h6, h7, h8, h9, h10, h11⟩ | h7
              case' inr => exact absurd h0' h7.1
              rw [← h11] at hE
              simp only at hE
              rw [if_neg (fun h => hce.2.1 h.2), hce.2.2] at hE
              exact need_intro (one5 oK.rd.one) (h1 _ _ _ _ _ _ _ _ hE.symm hce.1 e15 (ndc _ _ _ _ oK hx))
            · rw [if_neg h0', if_neg h0']
              rcases hS7 with ⟨h, _⟩ | ⟨h, o, rfl, hE7⟩
              · exact absurd h h0'
              · rw [hE7] at hE
                exact need_intro (one5 oK.rd.one) (h1 _ _ _ _ _ _ _ _ hE.symm h e15 (ndc _ _ _ _ oK hx))
          · exfalso
            apply q
            by_cases h0' : err6 = 0
            · rw [if_pos h0']; exact hce.1
            · rw [if_neg h0']; exact h0'
      · refine need_intro oN.rd.isSl ?_
        rw [oN.rd.lenS, oN.rd.lenZ, tn]
        refine BIf_intro (fun q => ?_) fun q => t ?_
        · have hlt : mi < L.length := by omega
          have hget := List.getElem?_eq_getElem hlt
          generalize L[mi] = tm at hget
          refine ⟨⟨by omega, by omega⟩, optK_intro (strs_ld oN.rd st3 hget) (decT_str ?_)⟩
          rw [w1 mi (by omega)]
          refine BIf_intro (fun q2 => ?_) fun q2 => ?_
          · subst q2
            refine rfail_ok (fun h => ⟨⟨RS.refl .., rfl, rfl, rfl, rfl, rfl, rfl, rfl, rfl, rfl, rfl, rfl, rfl, rfl, rfl, rfl, mi + 1, rfl, by omega, .inr ?_⟩, by dsimp only; omega⟩) (fun h => ⟨⟨RS.refl .., rfl, rfl, rfl, rfl, rfl, rfl, rfl, rfl, rfl, rfl, rfl, rfl, rfl, rfl, rfl, mi + 1, rfl, by omega, .inr ?_⟩, by dsimp only; omega⟩)
            · rcases hS6 with ⟨_, _, _, _, _, _, h6⟩ | h6
              · rw [if_pos ⟨hh, by rw [hnL hh]; simpa using List.mem_of_getElem? hget⟩] at h6
                exact ⟨by decide, j, rfl, h6.symm⟩
              · exact absurd h h6.1
            · rcases hS6 with ⟨h6, _⟩ | h6
              · exact absurd h6 h
              · exact h6
          · refine ⟨⟨RS.refl .., rfl, rfl, rfl, rfl, rfl, rfl, rfl, rfl, rfl, rfl, rfl, rfl, rfl, rfl, rfl, mi + 1, rfl, by omega, ?_⟩, by dsimp only; omega⟩
            rcases hS6 with ⟨h6, h7, h8, h9, h10, h11, h12⟩ | h6
            · refine .inl ⟨h6, h7, h8, h9, h10, fun hh => ?_, h12⟩
              rw [List.take_add_one, hget]
              simp only [Option.toList_some, List.mem_append, List.mem_singleton, not_or]
              exact ⟨h11 hh, fun h => q2 h.symm⟩
            · exact .inr h6
        · rcases hS6 with ⟨h6, h7, h8, h9, h10, h11, h12⟩ | h6
          · refine .inl ⟨h6, h7, h8, h9, h10, ?_⟩
            have := h11 hh
            rw [List.take_of_length_le (by omega)] at this
            rwa [if_neg (by rintro ⟨_, h⟩; rw [hnL hh] at h; simp at h; exact this h)] at h12
          · exact .inr h6
      · rcases hS6 with ⟨h6, h7, h8, h9, h10, h11, h12⟩ | h6
        · exact .inl ⟨h6, h7, h8, h9, h10, by rwa [if_neg (by rintro ⟨h, _⟩; rw [hh] at h; cases h)] at h12⟩
        · exact .inr h6
  · have hn : num = true := by cases hb : num with | true => rfl | false => rw [hb] at hm; simp at hm; omega
    rw [hn, if_pos rfl] at hm
    rw [if_pos ⟨hn, by omega⟩] at hE
    exact rfail_ok (fun _ => need_intro (one5 oK.rd.one) (h1 _ _ _ _ _ _ _ _ hE.symm (by decide) e3 (ndc _ _ _ _ oK hx))) fun h => absurd rfl h
  · rintro ⟨hn, h⟩
    have := hac2 hn
    rw [hn, if_pos rfl] at hm
    omega
  · rintro ⟨hn, _⟩
    rw [hn, if_pos rfl] at hm
    have := hw hn; omega
end
end Go.TVF
end

section
set_option linter.unusedVariables false
set_option linter.unusedSimpArgs false
namespace Go.TVF
open Go Go.Proofs
section
variable {x : Cx} {hd ty : Bool} {l2 l3 l4 : Int} {st : St}
theorem rparse_ok {K : Int → List UInt8 → List UInt8 → TV → List UInt8 → Int → Int → St → Prop} (hl : x.s.length ≤ 2000000)
    (hk : ∀ k kv st', StExt st st' → NdC (pN (parseV x hd l2 l3 l4)) [.int .i64 k, .str [], .str [], kv, .str []] → K k [] [] kv [] (pO (parseV x hd l2 l3 l4)) (pE (parseV x hd l2 l3 l4)) st') :
    CallT PR fn_datakitref27_Parse [.str x.s, .agg [.int .u8 x.a, .int .u8 x.q, .bool hd, .bool ty], .agg [.int .i64 x.dep, .int .i64 x.nod, .int .i64 l2, .int .i64 l3, .int .i64 l4]] [.agg [.int .i64, .str, .str, .tv, .str], .one (.int .i64), .one (.int .i64)] st K := by
  generalize hP : parseV x hd l2 l3 l4 = P at hk
  unfold parseV at hP
  have hnil : NdC (.mk 0 [] [] [] []) [.int .i64 0, .str [], .str [], .nilSlice, .str []] := by unfold NdC; exact ⟨_, [], rfl, .inl ⟨rfl, rfl, rfl⟩, KidsC.nil⟩
  have bad : ∀ (o : Nat) (e : Int) st', P = .error (o, e) → StExt st st' → K 0 [] [] .nilSlice [] o e st' := fun o e st' h he => by
    have := hk 0 .nilSlice st' he (by rw [h]; exact hnil)
    rwa [h] at this
  refine vc_datakitref27_Parse x.s x.a x.q hd ty x.dep x.nod l2 l3 l4 st K (rdvalid_ok (BIf_bool (fun g => ?_) fun g => ?_))
  · have g : dOk x.a x.q = false := by simpa using g
    rw [if_pos g] at hP
    exact bad _ _ st hP.symm (StExt.refl _)
  have g : dOk x.a x.q = true := by simpa using g
  rw [if_neg (by rw [g]; decide)] at hP
  refine vc_datakitref20_Before x.s x.dep x.nod l2 l3 l4 st _ (rlvalid_ok (BIf_bool (fun g => ?_) fun g => ?_))
  · have g : lOk x.dep x.nod l2 l3 l4 = false := by simpa using g
    rw [if_pos g] at hP
    exact BIf_intro (fun _ => bad 0 _ st hP.symm (StExt.refl _)) fun h => absurd (by decide) h
  have glim : lOk x.dep x.nod l2 l3 l4 = true := by simpa using g
  rw [if_neg (by rw [glim]; decide)] at hP
  refine BIf_intro (fun g => ?_) fun g => ?_
  · rw [if_pos g] at hP
    exact BIf_intro (fun _ => bad 0 _ st hP.symm (StExt.refl _)) fun h => absurd (by decide) h
  rw [if_neg g] at hP
  have hv := vlen_le' x.s
  refine rbad_ok hl fun st1 e1 => BIf_intro (fun g => ?_) fun g => ?_
  · rw [if_pos (by omega)] at hP
    exact BIf_intro (fun _ => bad _ _ st1 hP.symm e1) fun h => absurd (by decide) h
  rw [if_neg (by omega)] at hP
  refine BIf_intro (fun h => absurd rfl h) fun _ => ?_
  have hbeg : begE x.dep x.nod 1 0 0 = .ok 1 := by
    unfold lOk at glim
    have := of_decide_eq_true glim
    unfold begE
    rw [if_neg (by omega), if_neg (by omega)]; rfl
  refine rbegin_ok (k := 0) rfl (by decide) (by decide) (fun v' hb => ?_) fun o e hb => by rw [hbeg] at hb; cases hb
  rw [hbeg] at hb
  cases hb
  refine ⟨fun mn s' a' q' h' t' s a q b1 b2 m0 m1 m2 m3 m4 at_ v' off' err kd le tx kv tl st' => x.s = s' ∧ x.a = a' ∧ x.q = q' ∧ hd = h' ∧ ty = t' ∧ RS x hd ty l2 l3 l4 s a q b1 b2 m0 m1 m2 m3 m4 ∧ 1 = kd ∧ [] = le ∧ [] = tx ∧ [] = tl ∧ StExt st st' ∧
      ∃ (acc : List Nd) (xs : List TV), Own st.nt 5 st' kv acc.length xs ∧ KidsC acc xs ∧ acc.length ≤ x.s.length + 1 ∧
        ((err = 0 ∧ ∃ (j n : Nat) (w : Int) (ns : List (List UInt8)), at_ = (j : Int) ∧ j ≤ x.s.length ∧ x.s.length < j + n ∧ acc.length ≤ j ∧ 0 ≤ v' ∧ v' ≤ 1 + 3 * j ∧ mn = (if !acc.isEmpty then w else 0) ∧ ((!acc.isEmpty) = true → 1 ≤ w) ∧ (acc = [] → ns = []) ∧ (match docE x hd n acc j v' ns w with | .error e => .error e | .ok rs => .ok (.mk 1 [] [] rs [])) = P) ∨ ErrS P off' err),
    fun _ _ _ _ _ _ _ _ _ _ _ _ _ _ _ _ at_ _ _ err _ _ _ _ _ _ => if err = 0 then (x.s.length - at_).toNat + 1 else 0, ?_, ?_⟩
  · refine ⟨rfl, rfl, rfl, rfl, rfl, RS.refl .., rfl, rfl, rfl, rfl, e1, [], [], Own.nil _ _ _, KidsC.nil, by simp, .inl ⟨rfl, 0, x.s.length + 1, 0, [], rfl, by omega, by omega, by simp, by omega, by omega, rfl, fun h => (by cases h), fun _ => rfl, hP⟩⟩
  rintro mn _ _ _ _ _ _ _ _ _ _ _ _ _ _ _ at3 v3 off3 err3 _ _ _ kv _ st3 ⟨rfl, rfl, rfl, rfl, rfl, ⟨rfl, rfl, rfl, rfl, rfl, rfl, rfl, rfl, rfl, rfl⟩, rfl, rfl, rfl, rfl, e3, acc, xs, o3, hx, hlen, hS⟩
  refine BIf_intro (fun q0 => ?_) fun q0 => ?_
  case' refine_2 =>
    rcases hS with ⟨h, _⟩ | ⟨h, o, rfl, hE⟩
    · exact absurd h q0
    · exact BIf_intro (fun _ => bad _ _ st3 hE e3) fun h => absurd q0 h
  subst q0
  rcases hS with ⟨_, j, n, w, ns, rfl, hj, hjn, hac, hv0, hv1, hmn, hw, hns, hE⟩ | ⟨h, _⟩
  case' inr => exact absurd rfl h
  cases n with
  | zero => omega
  | succ n =>
  rw [docE_succ] at hE
  refine BIf_intro (fun q => ?_) fun q => ?_
  case' refine_2 =>
    rw [if_pos (by omega)] at hE
    simp only at hE
    subst hE
    exact BIf_intro (fun h => absurd rfl h) fun _ => need_intro (one5 o3.rd.one) (hk 1 kv st3 e3 (by unfold pN NdC; exact ⟨kv, xs, rfl, o3.rd, hx⟩))
  rw [if_neg (by omega)] at hE
  have hN2 : (hd = true → decide (((acc.length : Nat) : Int) = 0) = (hd && acc.isEmpty)) := fun h => by
    rw [h]
    cases acc with
    | nil => rfl
    | cons a l => exact decide_eq_false (by simp only [List.length_cons]; omega)
  refine BIf_bool (fun hh => need_intro o3.rd.isSl ?_) fun hh => ?_
  case' refine_1 => rw [o3.rd.lenS, hN2 hh]
  case' refine_2 =>
    have hN3 : false = (hd && acc.isEmpty) := by rw [hh]; rfl
    rw [hN3]
  all_goals
    have hnsx : (hd && acc.isEmpty) = true → ns = [] := fun h => hns (by simp only [Bool.and_eq_true] at h; simpa using h.2)
    refine rrecord_ok rfl hj hl hv0 (by omega) hmn hw hnsx (fun k v1 ns1 r w1 off1 kv1 tl st4 hr e4 hc4 => ?_) fun o e k v1 r kv1 tl st4 hr he e4 hc4 => ?_
    · rw [hr] at hE
      simp only at hE
      have hle := recD_le (by omega) hr
      have hone : oneT kv1 = true := by
        obtain ⟨a, b, c, d, f⟩ := r
        unfold NdC at hc4
        obtain ⟨u, ys, hu, hu2, _⟩ := hc4
        cases hu
        exact hu2.one
      refine need_intro (one5 hone) (need_intro (one5 hone) ?_)
      refine appK_own (e3.trans e4) rfl (o3.ext e4) (by omega) (fun h => by cases h) fun v5 st5 e5 hbx o5 => need_intro (one1 o5.rd.one) ?_
      have hl1 : (acc ++ [r]).length = acc.length + 1 := by simp
      have hne : (!(acc ++ [r]).isEmpty) = true := by cases acc <;> rfl
      refine ⟨⟨rfl, rfl, rfl, rfl, rfl, RS.refl .., rfl, rfl, rfl, rfl, e5, acc ++ [r], _, by rw [hl1]; exact o5, hx.append (KidsC.one hc4), by omega, .inl ⟨rfl, k, n, w1, ns1, rfl, by omega, by omega, by omega, by omega, by omega, by rw [hne]; rfl, fun _ => hle.2.2.2.2, fun h => (by simp at h), hE⟩⟩, ?_⟩
      simp only [if_true]
      omega
    · rw [hr] at hE
      simp only at hE
      have hone : oneT kv1 = true := by
        obtain ⟨a, b, c, d, f⟩ := r
        unfold NdC at hc4
        obtain ⟨u, ys, hu, hu2, _⟩ := hc4
        cases hu
        exact hu2.one
      refine need_intro (one5 hone) (need_intro (one5 hone) ?_)
      refine appK_own (e3.trans e4) rfl (o3.ext e4) (by omega) (fun h => by cases h) fun v5 st5 e5 hbx o5 => need_intro (one1 o5.rd.one) ?_
      have hl1 : (acc ++ [r]).length = acc.length + 1 := by simp
      refine ⟨⟨rfl, rfl, rfl, rfl, rfl, RS.refl .., rfl, rfl, rfl, rfl, e5, acc ++ [r], _, by rw [hl1]; exact o5, hx.append (KidsC.one hc4), by omega, .inr ⟨he, o, rfl, hE.symm⟩⟩, ?_⟩
      simp only [if_true]
      rw [if_neg he]; omega
end
end Go.TVF
end

section
set_option linter.unusedVariables false
set_option linter.unusedSimpArgs false
namespace Go.TVF
open Go Go.Proofs
theorem parseV_inv {x : Cx} {hd : Bool} {l2 l3 l4 : Int} {n : Nd} (h : parseV x hd l2 l3 l4 = .ok n) : ∃ rs, n = .mk 1 [] [] rs [] ∧ dOk x.a x.q = true ∧ lOk x.dep x.nod l2 l3 l4 = true ∧ (x.s.length : Int) ≤ l2 ∧ vlen x.s = x.s.length ∧ docE x hd (x.s.length + 1) [] 0 1 [] 0 = .ok rs ∧
    Recs x.a x.q x.s 0 rs ∧ (∀ r ∈ rs, ∀ k ∈ kidsOf r, (txt x.q (entC k)).length ≤ 65536) ∧ (∃ W : Int, ∀ r ∈ rs, ((kidsOf r).length : Int) = W) := by
  unfold parseV at h
  split at h
  · cases h
  rename_i h1
  split at h
  · cases h
  rename_i h2
  split at h
  · cases h
  rename_i h3
  split at h
  · cases h
  rename_i h4
  split at h
  · cases h
  rename_i rs hr
  cases h
  obtain ⟨rs', j1, j2, j3, ⟨W, j4, j5⟩, j6⟩ := docE_inv _ (by omega) hr
  rw [List.nil_append] at j1
  subst j1
  exact ⟨_, rfl, by simpa using h1, by simpa using h2, by omega, Decidable.not_not.1 h4, hr, j2, j3, W, j5⟩
/-- A source and a dialect, with the usual limits. -/
abbrev xU (s : List UInt8) (a q : Int) : Cx := ⟨s, a, q, 48, 65536⟩
abbrev parseU (s : List UInt8) (a q : Int) (hd : Bool) : Except (Nat × Int) Nd := parseV (xU s a q) hd 1048576 1024 65536
/-- A tree of records. -/
def oursP (n : Nd) (a q : Int) (hd : Bool) : Prop := chkV n = 0 ∧ parseU (ntext n) a q hd = .ok n
theorem chkV_len {n : Nd} (h : chkV n = 0) : nlen n ≤ 1048576 := by
  unfold chkV at h
  split at h
  · rename_i e he; exact absurd h (chk_err_ne n he)
  · split at h
    · cases h
    · omega
theorem pN_cnt {x : Cx} {hd : Bool} {l2 l3 l4 : Int} (hl : x.s.length ≤ 2000000) : ncnt (pN (parseV x hd l2 l3 l4)) ≤ 1000000000000000 := by
  cases h : parseV x hd l2 l3 l4 with
  | error e => simp [pN, ncnt, kcnt]
  | ok n =>
    obtain ⟨rs, rfl, _, _, _, _, _, hr, _⟩ := parseV_inv h
    have := (kcnt_recs hr (by omega)).1
    simp only [pN, ncnt]; omega
theorem NdC.five {n : Nd} {cs : List TV} (h : NdC n cs) : ∃ k l t v tl, cs = [.int .i64 k, .str l, .str t, v, .str tl] ∧ oneT v = true := by
  cases n
  unfold NdC at h
  obtain ⟨v, xs, rfl, hr, _⟩ := h
  exact ⟨_, _, _, v, _, rfl, hr.one⟩
theorem lUsual_ok {st : St} {K : Int → Int → Int → Int → Int → St → Prop} (hk : K 48 65536 1048576 1024 65536 st) : CallT PR fn_limit_Usual [] [.agg [.int .i64, .int .i64, .int .i64, .int .i64, .int .i64]] st K := vc_limit_Usual st K hk
theorem r11Usual_ok {st : St} {K : Int → Int → Int → Int → Int → St → Prop} (hk : K 48 65536 1048576 1024 65536 st) : CallT PR fn_datakitref11_Usual [] [.agg [.int .i64, .int .i64, .int .i64, .int .i64, .int .i64]] st K := vc_datakitref11_Usual st K hk
theorem r20Usual_ok {st : St} {K : Int → Int → Int → Int → Int → St → Prop} (hk : K 48 65536 1048576 1024 65536 st) : CallT PR fn_datakitref20_Usual [] [.agg [.int .i64, .int .i64, .int .i64, .int .i64, .int .i64]] st K := vc_datakitref20_Usual st K (r11Usual_ok hk)
theorem ours_ok {n : Nd} {cs : List TV} {a q : Int} {hd ty : Bool} (hc : NdC n cs) (hl : nlen n ≤ 100000000000000) (hcn : ncnt n ≤ 1000000000000000) {st : St} {K : Bool → St → Prop}
    (hk1 : ∀ st', StExt st st' → oursP n a q hd → K true st') (hk2 : ∀ st', StExt st st' → ¬ oursP n a q hd → K false st') :
    CallT PR fn_delim_ours [.agg cs, .agg [.int .u8 a, .int .u8 q, .bool hd, .bool ty]] [.one .bool] st K := by
  obtain ⟨k, l, t, v, tl, rfl, _⟩ := hc.five
  refine vc_delim_ours k l t v tl a q hd ty st K (tCheck_ok hc (by omega) hcn fun st1 e1 => BIf_intro (fun g => hk2 st1 e1 fun h => g h.1) fun g => ?_)
  have g : chkV n = 0 := Decidable.not_not.1 g
  have hlen := chkV_len g
  have htl := ntext_len n
  refine tprint_ok hc hl hcn fun st2 e2 => lUsual_ok ?_
  refine pparse_ok (x := xU (ntext n) a q) (by show (ntext n).length ≤ _; omega) fun kd kv st3 e3 hn => ?_
  have e13 := (e1.trans e2).trans e3
  obtain ⟨_, _, _, _, _, h5, ho⟩ := hn.five
  cases h5
  refine need_intro (one5 ho) (BIf_intro (fun g2 => ?_) fun g2 => ?_)
  · refine tsame_ok _ _ hn hc (pN_cnt (by show (ntext n).length ≤ _; omega)) (fun he => hk1 _ e13 ⟨g, ?_⟩) fun he => hk2 _ e13 fun h => he ?_
    · show parseV _ _ _ _ _ = _
      revert he g2
      cases hp : parseV (xU (ntext n) a q) hd 1048576 1024 65536 with
      | error e =>
        intro _ he
        simp only [pN] at he
        rw [← he] at g
        exact absurd g (by decide)
      | ok m => intro _ he; simp only [pN] at he; rw [he]
    · rw [show parseV (xU (ntext n) a q) hd 1048576 1024 65536 = .ok n from h.2]; rfl
  · refine hk2 _ e13 fun h => g2 ?_
    rw [show parseV (xU (ntext n) a q) hd 1048576 1024 65536 = .ok n from h.2]; rfl
theorem ris_ok {n : Nd} {cs : List TV} {a q : Int} {hd ty : Bool} (hc : NdC n cs) (hl : nlen n ≤ 100000000000000) (hcn : ncnt n ≤ 1000000000000000) {st : St} {K : Bool → St → Prop}
    (hk1 : ∀ st', StExt st st' → oursP n a q hd → K true st') (hk2 : ∀ st', StExt st st' → ¬ oursP n a q hd → K false st') :
    CallT PR fn_datakitref27_Is [.agg cs, .agg [.int .u8 a, .int .u8 q, .bool hd, .bool ty]] [.one .bool] st K := by
  obtain ⟨k, l, t, v, tl, rfl, _⟩ := hc.five
  refine vc_datakitref27_Is k l t v tl a q hd ty st K (rCheck_ok hc (by omega) hcn (BIf_intro (fun g => hk2 st (StExt.refl _) fun h => g h.1) fun g => ?_))
  have g : chkV n = 0 := Decidable.not_not.1 g
  have hlen := chkV_len g
  have htl := ntext_len n
  refine rprint_ok n hc (by omega) hcn (r11Usual_ok ?_)
  refine rparse_ok (x := xU (ntext n) a q) (by show (ntext n).length ≤ _; omega) fun kd kv st3 e13 hn => ?_
  obtain ⟨_, _, _, _, _, h5, ho⟩ := hn.five
  cases h5
  refine need_intro (one5 ho) (BIf_intro (fun g2 => ?_) fun g2 => ?_)
  · refine rsame_ok _ _ hn hc (pN_cnt (by show (ntext n).length ≤ _; omega)) (fun he => hk1 _ e13 ⟨g, ?_⟩) fun he => hk2 _ e13 fun h => he ?_
    · show parseV _ _ _ _ _ = _
      revert he g2
      cases hp : parseV (xU (ntext n) a q) hd 1048576 1024 65536 with
      | error e =>
        intro _ he
        simp only [pN] at he
        rw [← he] at g
        exact absurd g (by decide)
      | ok m => intro _ he; simp only [pN] at he; rw [he]
    · rw [show parseV (xU (ntext n) a q) hd 1048576 1024 65536 = .ok n from h.2]; rfl
  · refine hk2 _ e13 fun h => g2 ?_
    rw [show parseV (xU (ntext n) a q) hd 1048576 1024 65536 = .ok n from h.2]; rfl
def RowR {α : Type} (f : α → TV) (v : TV) (row : List α) : Prop := Rd 1 v row.length (row.map f)
def GridR {α : Type} (f : α → TV) (v : TV) (rows : List (List α)) : Prop := ∃ vs : List TV, Rd 1 v rows.length vs ∧ vs.length = rows.length ∧ ∀ (i : Nat) (u : TV) (row : List α), vs[i]? = some u → rows[i]? = some row → RowR f u row
theorem RowR.ld {α : Type} {f : α → TV} {v : TV} {row : List α} (h : RowR f v row) (st : St) {i : Nat} {a : α} (ha : row[i]? = some a) : ldCell st [] (.t (ixT 1 v i)) 0 = some (f a) :=
  Rd.ldx h st i 0 (by rw [Nat.mul_one, Nat.add_zero, List.getElem?_map, ha]; rfl)
theorem GridR.ld {α : Type} {f : α → TV} {v : TV} {rows : List (List α)} (h : GridR f v rows) (st : St) {i : Nat} {row : List α} (hr : rows[i]? = some row) : ∃ u, ldCell st [] (.t (ixT 1 v i)) 0 = some u ∧ RowR f u row := by
  obtain ⟨vs, h1, h2, h3⟩ := h
  have hlt : i < vs.length := by rw [h2]; exact (List.getElem?_eq_some_iff.1 hr).1
  have hu := List.getElem?_eq_getElem hlt
  exact ⟨vs[i], Rd.ldx h1 st i 0 (by rw [Nat.mul_one, Nat.add_zero]; exact hu), h3 i _ row hu hr⟩
theorem GridR.rd {α : Type} {f : α → TV} {v : TV} {rows : List (List α)} (h : GridR f v rows) : ∃ vs, Rd 1 v rows.length vs := by obtain ⟨vs, h1, _⟩ := h; exact ⟨vs, h1⟩
theorem GridR.nil {α : Type} (f : α → TV) : GridR f .nilSlice [] := ⟨[], .inl ⟨rfl, rfl, rfl⟩, rfl, fun i u row h => by simp at h⟩
/-- The list of lists that is being made. -/
def GridO {α : Type} (f : α → TV) (b : Nat) (st : St) (v : TV) (rows : List (List α)) : Prop := ∃ vs : List TV, Own b 1 st v rows.length vs ∧ vs.length = rows.length ∧ ∀ (i : Nat) (u : TV) (row : List α), vs[i]? = some u → rows[i]? = some row → RowR f u row
theorem GridO.rd {α : Type} {f : α → TV} {b : Nat} {st : St} {v : TV} {rows : List (List α)} (h : GridO f b st v rows) : GridR f v rows := by
  obtain ⟨vs, h1, h2, h3⟩ := h; exact ⟨vs, h1.rd, h2, h3⟩
/-- The cells of a tree of records. -/
def cellsT {α : Type} (g : List UInt8 → α) (rs : List Nd) : List (List α) := rs.map fun r => (kidsOf r).map fun k => g (entC k)
/-- The text of an entry's cell. -/
theorem ent_ld {a q : Int} {k : Nd} (hk : EntF a q k) {cs : List TV} (hc : NdC k cs) : ∃ u ys, cs = [.int .i64 5, .str [], .str [], u, .str []] ∧ Rd 5 u (kidsOf k).length ys ∧ 0 < (kidsOf k).length ∧ (∀ st, ldCell st [] (.t (fldT (ixT 5 u 0) 2)) 0 = some (.str (entC k))) ∧ isPtr (ixT 5 u 0) = true := by
  obtain ⟨c, mark, rfl, _, _⟩ := hk
  unfold NdC at hc
  obtain ⟨u, ys, rfl, h1, h2⟩ := hc
  refine ⟨u, ys, rfl, h1, by simp [kidsOf], fun st => ?_, ?_⟩
  · obtain ⟨cs, h3, h4⟩ := h2.get (i := 0) rfl
    unfold NdC at h3
    obtain ⟨w, zs, rfl, _⟩ := h3
    exact h1.ldfx st 0 2 (h4 2 _ rfl)
  · rcases h1 with ⟨rfl, h, _⟩ | ⟨tip, rfl⟩
    · simp at h
    · rfl
theorem kid_fld {v : TV} {ks : List Nd} {xs : List TV} (hr : Rd 5 v ks.length xs) (hk : KidsC ks xs) {i : Nat} {k : Nd} (hi : ks[i]? = some k) :
    isPtr (ixT 5 v i) = true ∧ ∃ cs u ys, NdC k cs ∧ (∀ st, ldCell st [] (.t (fldT (ixT 5 v i) 3)) 0 = some u) ∧ Rd 5 u (kidsOf k).length ys ∧ KidsC (kidsOf k) ys ∧ cs[3]? = some u := by
  obtain ⟨cs, h1, h2⟩ := hk.get hi
  refine ⟨?_, ?_⟩
  · rcases hr with ⟨rfl, h, _⟩ | ⟨tip, rfl⟩
    · have := (List.getElem?_eq_some_iff.1 hi).1; omega
    · rfl
  · obtain ⟨a, b, c, d, e⟩ := k
    have h3 := h1
    unfold NdC at h3
    obtain ⟨u, ys, rfl, h4, h5⟩ := h3
    exact ⟨_, u, ys, h1, fun st => hr.ldfx st i 3 (h2 3 _ rfl), h4, h5, rfl⟩
theorem kid_ldc {v : TV} {ks : List Nd} {xs : List TV} (hr : Rd 5 v ks.length xs) (hk : KidsC ks xs) (st : St) {i : Nat} {k : Nd} (hi : ks[i]? = some k) :
    ∃ cs, NdC k cs ∧ (ldCells st [] (.t (ixT 5 v i)) 0 5).map TV.agg = some (.agg cs) := by
  obtain ⟨a, b, c, d, e⟩ := k
  obtain ⟨u, ys, h1, h2, h3, h4⟩ := kid_ld hr hk st hi
  exact ⟨_, by unfold NdC; exact ⟨u, ys, rfl, h2, h3⟩, h1⟩
end Go.TVF
end

section
set_option linter.unusedVariables false
set_option linter.unusedSimpArgs false
namespace Go.TVF
open Go Go.Proofs
/-- The cells, or that it is no tree of records. -/
def recsOf : Nd → List Nd | .mk _ _ _ ks _ => ks
def quotedB (q : Int) (c : List UInt8) : Bool := decide (¬ (c = [] ∨ by_ c 0 ≠ q))
open Classical in
noncomputable def cellsV {α : Type} (g : List UInt8 → α) (n : Nd) (a q : Int) (hd : Bool) : List (List α) := if oursP n a q hd then cellsT g (recsOf n) else []
open Classical in
noncomputable def oursE (n : Nd) (a q : Int) (hd : Bool) : Int := if oursP n a q hd then 0 else 1
theorem ours_inv {n : Nd} {a q : Int} {hd : Bool} (h : oursP n a q hd) : ∃ rs, n = .mk 1 [] [] rs [] ∧ (∀ r ∈ rs, RecF a q r) ∧ nlen n ≤ 1048576 ∧ rs.length ≤ nlen n ∧ ∀ r ∈ rs, (kidsOf r).length ≤ 10000000 ∧ ∀ k ∈ kidsOf r, (entC k).length ≤ 1048576 := by
  obtain ⟨rs, rfl, _, _, _, _, _, hr, _⟩ := parseV_inv h.2
  have hn := ntext_len (.mk 1 [] [] rs [])
  have hlen := chkV_len h.1
  have hkc := kcnt_recs hr (Nat.zero_le _)
  have hs0 : (xU (ntext (.mk 1 [] [] rs [])) a q).s.length = nlen (.mk 1 [] [] rs []) := hn
  rw [hs0] at hkc
  refine ⟨rs, rfl, hr.form (Nat.zero_le _), hlen, by have := hkc.2; omega, fun r hr1 => ?_⟩
  obtain ⟨i, hi⟩ := List.getElem?_of_mem hr1
  have h1 := kcnt_mem rs hi
  have h2 := klen_mem rs i r hi
  obtain ⟨a1, b1, c1, ks, e1⟩ := r
  have h3 := kcnt_len ks
  simp only [ncnt, nlen, kidsOf] at h1 h2 ⊢
  have hk1 := hkc.1
  simp only [nlen] at hlen hk1
  refine ⟨by omega, fun k hk => ?_⟩
  obtain ⟨j, hj⟩ := List.getElem?_of_mem hk
  have h4 := klen_mem ks j k hj
  have h5 : (entC k).length ≤ nlen k := by
    obtain ⟨a2, b2, c2, js, e2⟩ := k
    cases js with
    | nil => simp [entC, kidsOf]
    | cons y ys =>
      obtain ⟨a3, b3, c3, zs, e3⟩ := y
      simp only [entC, kidsOf, nlen, klen]; omega
  omega
section
variable {n : Nd} {cs : List TV} {a q : Int} {hd ty : Bool} {st : St}
theorem GridO.add {α : Type} {f : α → TV} {T by_ : Nat} {st0 st : St} {v u : TV} {rows : List (List α)} {row : List α} {K : TV → St → Prop} (e : StExt st0 st) (h : GridO f st0.nt st v rows) (hu : RowR f u row) (hby : (rows.length + 1) * by_ ≤ 140737488355328)
    (hk : ∀ v' st', StExt st0 st' → GridO f st0.nt st' v' (rows ++ [row]) → K v' st') : appK T 1 by_ v 1 [u] st K := by
  obtain ⟨vs, h1, h2, h3⟩ := h
  refine appK_own e rfl h1 hby (fun h => by cases h) fun v' st' e' _ ho => hk v' st' e' ⟨vs ++ [u], by rw [List.length_append]; exact ho, by simp [h2], fun i u' row' hi hr => ?_⟩
  by_cases hlt : i < vs.length
  · rw [List.getElem?_append_left hlt] at hi
    rw [List.getElem?_append_left (by omega)] at hr
    exact h3 i u' row' hi hr
  · rw [List.getElem?_append_right (by omega)] at hi
    rw [List.getElem?_append_right (by omega)] at hr
    have h0 : i - vs.length = 0 := by
      have := (List.getElem?_eq_some_iff.1 hi).1
      simp at this; omega
    rw [h0] at hi
    rw [show i - rows.length = 0 by omega] at hr
    simp only [List.getElem?_cons_zero, Option.some.injEq] at hi hr
    subst hi hr; exact hu
theorem GridO.ext {α : Type} {f : α → TV} {b : Nat} {st st' : St} {v : TV} {rows : List (List α)} (h : GridO f b st v rows) (e : StExt st st') : GridO f b st' v rows := by
  obtain ⟨vs, h1, h2, h3⟩ := h; exact ⟨vs, h1.ext e, h2, h3⟩
theorem GridO.nil {α : Type} (f : α → TV) (b : Nat) (st : St) : GridO f b st .nilSlice [] := ⟨[], Own.nil _ _ _, rfl, fun i u row h => by simp at h⟩
theorem precords_ok {K : TV → Int → St → Prop} (hc : NdC n cs) (hl : nlen n ≤ 100000000000000) (hcn : ncnt n ≤ 1000000000000000)
    (hk : ∀ v st', StExt st st' → GridR TV.str v (cellsV (txt q) n a q hd) → K v (oursE n a q hd) st') :
    CallT PR fn_delim_Records [.agg cs, .agg [.int .u8 a, .int .u8 q, .bool hd, .bool ty]] [.one .tv, .one (.int .i64)] st K := by
  have tn : ∀ k : Nat, Int.toNat (k : Int) = k := fun k => rfl
  have w1 : ∀ k : Nat, k ≤ 100000000 → IntKind.i64.wrap ((k : Int) + 1) = ((k + 1 : Nat) : Int) := fun k hk => by rw [wrap64 _ (by omega) (by omega)]; omega
  have hc0 := hc
  obtain ⟨k, l, t, ks, tl⟩ := n
  unfold NdC at hc
  obtain ⟨v, xs, rfl, hr, hx⟩ := hc
  refine vc_delim_Records k l t v tl a q hd ty st K (ours_ok hc0 hl hcn (fun st1 e1 ho => ?_) fun st1 e1 ho => ?_)
  case' refine_2 =>
    refine BIf_bool (fun _ => ?_) fun h => by cases h
    have := hk .nilSlice st1 e1 (by unfold cellsV; rw [if_neg ho]; exact GridR.nil _)
    unfold oursE at this
    rwa [if_neg ho] at this
  refine BIf_bool (fun h => by cases h) fun _ => need_intro hr.isSl ?_
  have hfin : ∀ v st', StExt st st' → GridR TV.str v (cellsT (txt q) ks) → K v 0 st' := fun v st' e h => by
    have := hk v st' e (by unfold cellsV; rw [if_pos ho]; exact h)
    unfold oursE at this
    rwa [if_pos ho] at this
  obtain ⟨rs, hn, hform, hlen, hrl, hkl⟩ := ours_inv ho
  cases hn
  rw [hr.lenS]
  refine ⟨fun out i v' n' a' q' b1 b2 st' => v = v' ∧ (ks.length : Int) = n' ∧ a = a' ∧ q = q' ∧ hd = b1 ∧ ty = b2 ∧ StExt st st' ∧ ∃ j : Nat, i = (j : Int) ∧ j ≤ ks.length ∧ GridO TV.str st.nt st' out (cellsT (txt q) (ks.take j)),
    fun _ i _ _ _ _ _ _ _ => (ks.length - i).toNat, ⟨rfl, rfl, rfl, rfl, rfl, rfl, e1, 0, rfl, by omega, by rw [List.take_zero]; exact GridO.nil _ _ _⟩, ?_⟩
  rintro out _ _ _ _ _ _ _ st2 ⟨rfl, rfl, rfl, rfl, rfl, rfl, e2, j, rfl, hj, hg⟩
  rw [hr.lenZ, tn]
  refine BIf_intro (fun g => ?_) fun g => ?_
  case' refine_2 =>
    rw [List.take_of_length_le (by omega)] at hg
    exact hfin _ _ e2 hg.rd
  have hlt : j < ks.length := by omega
  have hget := List.getElem?_eq_getElem hlt
  generalize ks[j] = r at hget
  have hrf := hform r (mem_of_get hget)
  have hrk := hkl r (mem_of_get hget)
  obtain ⟨ents, tail, rfl, hne, hents⟩ := hrf
  obtain ⟨rc, hrc, hld⟩ := kid_ldc hr hx st2 hget
  unfold NdC at hrc
  obtain ⟨u, ys, rfl, hu, hy⟩ := hrc
  refine ⟨⟨by omega, by omega⟩, optK_intro hld (decA5 (need_intro (one5 hu.one) (need_intro hu.isSl ?_)))⟩
  rw [hu.lenS]
  simp only [kidsOf] at hrk
  refine ⟨fun li m out' v' n' i' u' m' a' q' b1 b2 st' => out = out' ∧ v = v' ∧ (ks.length : Int) = n' ∧ (j : Int) = i' ∧ u = u' ∧ (ents.length : Int) = m' ∧ a = a' ∧ q = q' ∧ hd = b1 ∧ ty = b2 ∧ StExt st2 st' ∧ ∃ p : Nat, m = (p : Int) ∧ p ≤ ents.length ∧ Own st2.nt 1 st' li p (((ents.take p).map fun k => txt q (entC k)).map TV.str),
    fun _ m _ _ _ _ _ _ _ _ _ _ _ => (ents.length - m).toNat, ⟨rfl, rfl, rfl, rfl, rfl, rfl, rfl, rfl, rfl, rfl, StExt.refl _, 0, rfl, by omega, Own.nil _ _ _⟩, ?_⟩
  rintro li _ _ _ _ _ _ _ _ _ _ _ st3 ⟨rfl, rfl, rfl, rfl, rfl, rfl, rfl, rfl, rfl, rfl, e3, p, rfl, hp, hli⟩
  rw [hu.lenZ, tn]
  refine BIf_intro (fun g2 => ?_) fun g2 => ?_
  · have hlt2 : p < ents.length := by omega
    have hget2 := List.getElem?_eq_getElem hlt2
    generalize ents[p] = en at hget2
    have hef := hents en (mem_of_get hget2)
    obtain ⟨ec, hec, hld2⟩ := kid_ldc hu hy st3 hget2
    obtain ⟨w, zs, rfl, hw, hpos, hwl, hwp⟩ := ent_ld hef hec
    refine ⟨⟨by omega, by omega⟩, optK_intro hld2 (decA5 (need_intro (one5 hw.one) ?_))⟩
    rw [hw.lenZ]
    refine ⟨⟨by omega, by omega⟩, need_intro hwp (optK_intro (hwl _) (decT_str ?_))⟩
    have hcl := hrk.2 en (mem_of_get hget2)
    have hcw : CellW q (entC en) := by
      obtain ⟨c, mark, rfl, hcw, _⟩ := hef
      exact hcw
    refine text_ok hcw (by omega) fun st4 e4 => ?_
    refine appK_own (e3.trans e4) rfl (hli.ext e4) (by omega) (fun h => by cases h) fun v5 st5 e5 _ o5 => ?_
    rw [w1 p (by omega)]
    refine ⟨⟨rfl, rfl, rfl, rfl, rfl, rfl, rfl, rfl, rfl, rfl, e5, p + 1, rfl, by omega, ?_⟩, by dsimp only; omega⟩
    rw [List.take_add_one, hget2]
    simpa using o5
  · have hpe : p = ents.length := by omega
    rw [hpe, List.take_of_length_le (by omega)] at hli
    refine need_intro (one1 hli.rd.one) (need_intro (one1 hli.rd.one) ?_)
    refine (hg.ext e3).add (e2.trans e3) (row := ents.map fun k => txt q (entC k)) (by unfold RowR; rw [List.length_map]; exact hli.rd) (by simp only [cellsT, List.length_map, List.length_take]; omega) fun v' st' e' hg' => ?_
    rw [w1 j (by omega)]
    refine ⟨⟨rfl, rfl, rfl, rfl, rfl, rfl, e', j + 1, rfl, by omega, ?_⟩, by dsimp only; omega⟩
    rw [List.take_add_one, hget]
    simpa [cellsT, kidsOf] using hg'
end
end Go.TVF
end

section
set_option linter.unusedVariables false
set_option linter.unusedSimpArgs false
namespace Go.TVF
open Go Go.Proofs
section
variable {n : Nd} {cs : List TV} {a q : Int} {hd ty : Bool} {st : St}
theorem pquotes_ok {K : TV → Int → St → Prop} (hc : NdC n cs) (hl : nlen n ≤ 100000000000000) (hcn : ncnt n ≤ 1000000000000000)
    (hk : ∀ v st', StExt st st' → GridR TV.bool v (cellsV (quotedB q) n a q hd) → K v (oursE n a q hd) st') :
    CallT PR fn_delim_Quoted [.agg cs, .agg [.int .u8 a, .int .u8 q, .bool hd, .bool ty]] [.one .tv, .one (.int .i64)] st K := by
  have tn : ∀ k : Nat, Int.toNat (k : Int) = k := fun k => rfl
  have w1 : ∀ k : Nat, k ≤ 100000000 → IntKind.i64.wrap ((k : Int) + 1) = ((k + 1 : Nat) : Int) := fun k hk => by rw [wrap64 _ (by omega) (by omega)]; omega
  have hc0 := hc
  obtain ⟨k, l, t, ks, tl⟩ := n
  unfold NdC at hc
  obtain ⟨v, xs, rfl, hr, hx⟩ := hc
  refine vc_delim_Quoted k l t v tl a q hd ty st K (ours_ok hc0 hl hcn (fun st1 e1 ho => ?_) fun st1 e1 ho => ?_)
  case' refine_2 =>
    refine BIf_bool (fun _ => ?_) fun h => by cases h
    have := hk .nilSlice st1 e1 (by unfold cellsV; rw [if_neg ho]; exact GridR.nil _)
    unfold oursE at this
    rwa [if_neg ho] at this
  refine BIf_bool (fun h => by cases h) fun _ => need_intro hr.isSl ?_
  have hfin : ∀ v st', StExt st st' → GridR TV.bool v (cellsT (quotedB q) ks) → K v 0 st' := fun v st' e h => by
    have := hk v st' e (by unfold cellsV; rw [if_pos ho]; exact h)
    unfold oursE at this
    rwa [if_pos ho] at this
  obtain ⟨rs, hn, hform, hlen, hrl, hkl⟩ := ours_inv ho
  cases hn
  rw [hr.lenS]
  refine ⟨fun out i v' n' a' q' b1 b2 st' => v = v' ∧ (ks.length : Int) = n' ∧ a = a' ∧ q = q' ∧ hd = b1 ∧ ty = b2 ∧ StExt st st' ∧ ∃ j : Nat, i = (j : Int) ∧ j ≤ ks.length ∧ GridO TV.bool st.nt st' out (cellsT (quotedB q) (ks.take j)),
    fun _ i _ _ _ _ _ _ _ => (ks.length - i).toNat, ⟨rfl, rfl, rfl, rfl, rfl, rfl, e1, 0, rfl, by omega, by rw [List.take_zero]; exact GridO.nil _ _ _⟩, ?_⟩
  rintro out _ _ _ _ _ _ _ st2 ⟨rfl, rfl, rfl, rfl, rfl, rfl, e2, j, rfl, hj, hg⟩
  rw [hr.lenZ, tn]
  refine BIf_intro (fun g => ?_) fun g => ?_
  case' refine_2 =>
    rw [List.take_of_length_le (by omega)] at hg
    exact hfin _ _ e2 hg.rd
  have hlt : j < ks.length := by omega
  have hget := List.getElem?_eq_getElem hlt
  generalize ks[j] = r at hget
  have hrf := hform r (mem_of_get hget)
  have hrk := hkl r (mem_of_get hget)
  obtain ⟨ents, tail, rfl, hne, hents⟩ := hrf
  obtain ⟨rc, hrc, hld⟩ := kid_ldc hr hx st2 hget
  unfold NdC at hrc
  obtain ⟨u, ys, rfl, hu, hy⟩ := hrc
  refine ⟨⟨by omega, by omega⟩, optK_intro hld (decA5 (need_intro (one5 hu.one) (need_intro hu.isSl ?_)))⟩
  rw [hu.lenS]
  simp only [kidsOf] at hrk
  refine ⟨fun li m out' v' n' i' u' m' a' q' b1 b2 st' => out = out' ∧ v = v' ∧ (ks.length : Int) = n' ∧ (j : Int) = i' ∧ u = u' ∧ (ents.length : Int) = m' ∧ a = a' ∧ q = q' ∧ hd = b1 ∧ ty = b2 ∧ StExt st2 st' ∧ ∃ p : Nat, m = (p : Int) ∧ p ≤ ents.length ∧ Own st2.nt 1 st' li p (((ents.take p).map fun k => quotedB q (entC k)).map TV.bool),
    fun _ m _ _ _ _ _ _ _ _ _ _ _ => (ents.length - m).toNat, ⟨rfl, rfl, rfl, rfl, rfl, rfl, rfl, rfl, rfl, rfl, StExt.refl _, 0, rfl, by omega, Own.nil _ _ _⟩, ?_⟩
  rintro li _ _ _ _ _ _ _ _ _ _ _ st3 ⟨rfl, rfl, rfl, rfl, rfl, rfl, rfl, rfl, rfl, rfl, e3, p, rfl, hp, hli⟩
  rw [hu.lenZ, tn]
  refine BIf_intro (fun g2 => ?_) fun g2 => ?_
  · have hlt2 : p < ents.length := by omega
    have hget2 := List.getElem?_eq_getElem hlt2
    generalize ents[p] = en at hget2
    have hef := hents en (mem_of_get hget2)
    obtain ⟨ec, hec, hld2⟩ := kid_ldc hu hy st3 hget2
    obtain ⟨w, zs, rfl, hw, hpos, hwl, hwp⟩ := ent_ld hef hec
    refine ⟨⟨by omega, by omega⟩, optK_intro hld2 (decA5 (need_intro (one5 hw.one) ?_))⟩
    rw [hw.lenZ]
    refine ⟨⟨by omega, by omega⟩, need_intro hwp (optK_intro (hwl _) (decT_str ?_))⟩
    have hcl := hrk.2 en (mem_of_get hget2)
    have hcw : CellW q (entC en) := by
      obtain ⟨c, mark, rfl, hcw, _⟩ := hef
      exact hcw
    refine text_ok hcw (by omega) fun st4 e4 => ?_
    rw [show decide (¬ (entC en = [] ∨ by_ (entC en) 0 ≠ q)) = quotedB q (entC en) from rfl]
    refine appK_own (e3.trans e4) rfl (hli.ext e4) (by omega) (fun h => by cases h) fun v5 st5 e5 _ o5 => ?_
    rw [w1 p (by omega)]
    refine ⟨⟨rfl, rfl, rfl, rfl, rfl, rfl, rfl, rfl, rfl, rfl, e5, p + 1, rfl, by omega, ?_⟩, by dsimp only; omega⟩
    rw [List.take_add_one, hget2]
    simpa using o5
  · have hpe : p = ents.length := by omega
    rw [hpe, List.take_of_length_le (by omega)] at hli
    refine need_intro (one1 hli.rd.one) (need_intro (one1 hli.rd.one) ?_)
    refine (hg.ext e3).add (e2.trans e3) (row := ents.map fun k => quotedB q (entC k)) (by unfold RowR; rw [List.length_map]; exact hli.rd) (by simp only [cellsT, List.length_map, List.length_take]; omega) fun v' st' e' hg' => ?_
    rw [w1 j (by omega)]
    refine ⟨⟨rfl, rfl, rfl, rfl, rfl, rfl, e', j + 1, rfl, by omega, ?_⟩, by dsimp only; omega⟩
    rw [List.take_add_one, hget]
    simpa [cellsT, kidsOf] using hg'
theorem rrecords_ok {K : TV → Int → St → Prop} (hc : NdC n cs) (hl : nlen n ≤ 100000000000000) (hcn : ncnt n ≤ 1000000000000000)
    (hk : ∀ v st', StExt st st' → GridR TV.str v (cellsV (txt q) n a q hd) → K v (oursE n a q hd) st') :
    CallT PR fn_datakitref27_Records [.agg cs, .agg [.int .u8 a, .int .u8 q, .bool hd, .bool ty]] [.one .tv, .one (.int .i64)] st K := by
  have tn : ∀ k : Nat, Int.toNat (k : Int) = k := fun k => rfl
  have w1 : ∀ k : Nat, k ≤ 100000000 → IntKind.i64.wrap ((k : Int) + 1) = ((k + 1 : Nat) : Int) := fun k hk => by rw [wrap64 _ (by omega) (by omega)]; omega
  have hc0 := hc
  obtain ⟨k, l, t, ks, tl⟩ := n
  unfold NdC at hc
  obtain ⟨v, xs, rfl, hr, hx⟩ := hc
  refine vc_datakitref27_Records k l t v tl a q hd ty st K (ris_ok hc0 hl hcn (fun st1 e1 ho => ?_) fun st1 e1 ho => ?_)
  case' refine_2 =>
    refine BIf_bool (fun _ => ?_) fun h => by cases h
    have := hk .nilSlice st1 e1 (by unfold cellsV; rw [if_neg ho]; exact GridR.nil _)
    unfold oursE at this
    rwa [if_neg ho] at this
  refine BIf_bool (fun h => by cases h) fun _ => ?_
  have hfin : ∀ v st', StExt st st' → GridR TV.str v (cellsT (txt q) ks) → K v 0 st' := fun v st' e h => by
    have := hk v st' e (by unfold cellsV; rw [if_pos ho]; exact h)
    unfold oursE at this
    rwa [if_pos ho] at this
  obtain ⟨rs, hn, hform, hlen, hrl, hkl⟩ := ours_inv ho
  cases hn
  refine ⟨fun out i k1 l1 t1 v' tl1 a' q' b1 b2 st' => v = v' ∧ a = a' ∧ q = q' ∧ hd = b1 ∧ ty = b2 ∧ StExt st st' ∧ ∃ j : Nat, i = (j : Int) ∧ j ≤ ks.length ∧ GridO TV.str st.nt st' out (cellsT (txt q) (ks.take j)),
    fun _ i _ _ _ _ _ _ _ _ _ _ => (ks.length - i).toNat, ⟨rfl, rfl, rfl, rfl, rfl, e1, 0, rfl, by omega, by rw [List.take_zero]; exact GridO.nil _ _ _⟩, ?_⟩
  rintro out _ _ _ _ _ _ _ _ _ _ st2 ⟨rfl, rfl, rfl, rfl, rfl, e2, j, rfl, hj, hg⟩
  refine need_intro hr.isSl ?_
  rw [hr.lenS]
  refine BIf_intro (fun g => ?_) fun g => ?_
  case' refine_2 =>
    rw [List.take_of_length_le (by omega)] at hg
    exact hfin _ _ e2 hg.rd
  have hlt : j < ks.length := by omega
  have hget := List.getElem?_eq_getElem hlt
  generalize ks[j] = r at hget
  have hrf := hform r (mem_of_get hget)
  have hrk := hkl r (mem_of_get hget)
  obtain ⟨ents, tail, rfl, hne, hents⟩ := hrf
  obtain ⟨hp1, rc, u, ys, hrc, hld, hu, hy, _⟩ := kid_fld hr hx hget
  simp only [kidsOf] at hrk hu hy
  refine ⟨fun li m out' i' k1 l1 t1 v' tl1 a' q' b1 b2 st' => out = out' ∧ v = v' ∧ (j : Int) = i' ∧ a = a' ∧ q = q' ∧ hd = b1 ∧ ty = b2 ∧ StExt st2 st' ∧ ∃ p : Nat, m = (p : Int) ∧ p ≤ ents.length ∧ Own st2.nt 1 st' li p (((ents.take p).map fun k => txt q (entC k)).map TV.str),
    fun _ m _ _ _ _ _ _ _ _ _ _ _ _ => (ents.length - m).toNat, ⟨rfl, rfl, rfl, rfl, rfl, rfl, rfl, StExt.refl _, 0, rfl, by omega, Own.nil _ _ _⟩, ?_⟩
  rintro li _ _ _ _ _ _ _ _ _ _ _ _ st3 ⟨rfl, rfl, rfl, rfl, rfl, rfl, rfl, e3, p, rfl, hp, hli⟩
  rw [hr.lenZ, tn]
  refine ⟨⟨by omega, by omega⟩, need_intro hp1 (optK_intro (hld _) (need_intro hu.isSl ?_))⟩
  rw [hu.lenS]
  refine BIf_intro (fun g2 => ?_) fun g2 => ?_
  · have hlt2 : p < ents.length := by omega
    have hget2 := List.getElem?_eq_getElem hlt2
    generalize ents[p] = en at hget2
    have hef := hents en (mem_of_get hget2)
    obtain ⟨hp2, ec, w, zs, hec, hld2, hw, hz, hw3⟩ := kid_fld hu hy hget2
    obtain ⟨w', zs', rfl, hw', hpos, hwl, hwp⟩ := ent_ld hef hec
    simp only [List.getElem?_cons_succ, List.getElem?_cons_zero, Option.some.injEq] at hw3
    subst hw3
    refine ⟨⟨by omega, by omega⟩, need_intro hp1 (optK_intro (hld _) ?_)⟩
    rw [hu.lenZ, tn]
    refine ⟨⟨by omega, by omega⟩, need_intro hp2 (optK_intro (hld2 _) ?_)⟩
    rw [hw.lenZ]
    refine ⟨⟨by omega, by omega⟩, need_intro hwp (optK_intro (hwl _) (decT_str ?_))⟩
    have hcl := hrk.2 en (mem_of_get hget2)
    have hcw : CellW q (entC en) := by
      obtain ⟨c, mark, rfl, hcw, _⟩ := hef
      exact hcw
    refine rplain_ok hcw (by omega) ?_
    refine appK_own e3 rfl hli (by omega) (fun h => by cases h) fun v5 st5 e5 _ o5 => ?_
    rw [w1 p (by omega)]
    refine ⟨⟨rfl, rfl, rfl, rfl, rfl, rfl, rfl, e5, p + 1, rfl, by omega, ?_⟩, by dsimp only; omega⟩
    rw [List.take_add_one, hget2]
    simpa using o5
  · have hpe : p = ents.length := by omega
    rw [hpe, List.take_of_length_le (by omega)] at hli
    refine need_intro (one1 hli.rd.one) (need_intro (one1 hli.rd.one) ?_)
    refine (hg.ext e3).add (e2.trans e3) (row := ents.map fun k => txt q (entC k)) (by unfold RowR; rw [List.length_map]; exact hli.rd) (by simp only [cellsT, List.length_map, List.length_take]; omega) fun v' st' e' hg' => ?_
    rw [w1 j (by omega)]
    refine ⟨⟨rfl, rfl, rfl, rfl, rfl, e', j + 1, rfl, by omega, ?_⟩, by dsimp only; omega⟩
    rw [List.take_add_one, hget]
    simpa [cellsT, kidsOf] using hg'
theorem rquotes_ok {K : TV → Int → St → Prop} (hc : NdC n cs) (hl : nlen n ≤ 100000000000000) (hcn : ncnt n ≤ 1000000000000000)
    (hk : ∀ v st', StExt st st' → GridR TV.bool v (cellsV (quotedB q) n a q hd) → K v (oursE n a q hd) st') :
    CallT PR fn_datakitref27_Quoted [.agg cs, .agg [.int .u8 a, .int .u8 q, .bool hd, .bool ty]] [.one .tv, .one (.int .i64)] st K := by
  have tn : ∀ k : Nat, Int.toNat (k : Int) = k := fun k => rfl
  have w1 : ∀ k : Nat, k ≤ 100000000 → IntKind.i64.wrap ((k : Int) + 1) = ((k + 1 : Nat) : Int) := fun k hk => by rw [wrap64 _ (by omega) (by omega)]; omega
  have hc0 := hc
  obtain ⟨k, l, t, ks, tl⟩ := n
  unfold NdC at hc
  obtain ⟨v, xs, rfl, hr, hx⟩ := hc
  refine vc_datakitref27_Quoted k l t v tl a q hd ty st K (ris_ok hc0 hl hcn (fun st1 e1 ho => ?_) fun st1 e1 ho => ?_)
  case' refine_2 =>
    refine BIf_bool (fun _ => ?_) fun h => by cases h
    have := hk .nilSlice st1 e1 (by unfold cellsV; rw [if_neg ho]; exact GridR.nil _)
    unfold oursE at this
    rwa [if_neg ho] at this
  refine BIf_bool (fun h => by cases h) fun _ => ?_
  have hfin : ∀ v st', StExt st st' → GridR TV.bool v (cellsT (quotedB q) ks) → K v 0 st' := fun v st' e h => by
    have := hk v st' e (by unfold cellsV; rw [if_pos ho]; exact h)
    unfold oursE at this
    rwa [if_pos ho] at this
  obtain ⟨rs, hn, hform, hlen, hrl, hkl⟩ := ours_inv ho
  cases hn
  refine ⟨fun out i k1 l1 t1 v' tl1 a' q' b1 b2 st' => v = v' ∧ a = a' ∧ q = q' ∧ hd = b1 ∧ ty = b2 ∧ StExt st st' ∧ ∃ j : Nat, i = (j : Int) ∧ j ≤ ks.length ∧ GridO TV.bool st.nt st' out (cellsT (quotedB q) (ks.take j)),
    fun _ i _ _ _ _ _ _ _ _ _ _ => (ks.length - i).toNat, ⟨rfl, rfl, rfl, rfl, rfl, e1, 0, rfl, by omega, by rw [List.take_zero]; exact GridO.nil _ _ _⟩, ?_⟩
  rintro out _ _ _ _ _ _ _ _ _ _ st2 ⟨rfl, rfl, rfl, rfl, rfl, e2, j, rfl, hj, hg⟩
  refine need_intro hr.isSl ?_
  rw [hr.lenS]
  refine BIf_intro (fun g => ?_) fun g => ?_
  case' refine_2 =>
    rw [List.take_of_length_le (by omega)] at hg
    exact hfin _ _ e2 hg.rd
  have hlt : j < ks.length := by omega
  have hget := List.getElem?_eq_getElem hlt
  generalize ks[j] = r at hget
  have hrf := hform r (mem_of_get hget)
  have hrk := hkl r (mem_of_get hget)
  obtain ⟨ents, tail, rfl, hne, hents⟩ := hrf
  obtain ⟨hp1, rc, u, ys, hrc, hld, hu, hy, _⟩ := kid_fld hr hx hget
  simp only [kidsOf] at hrk hu hy
  refine ⟨fun li m out' i' k1 l1 t1 v' tl1 a' q' b1 b2 st' => out = out' ∧ v = v' ∧ (j : Int) = i' ∧ a = a' ∧ q = q' ∧ hd = b1 ∧ ty = b2 ∧ StExt st2 st' ∧ ∃ p : Nat, m = (p : Int) ∧ p ≤ ents.length ∧ Own st2.nt 1 st' li p (((ents.take p).map fun k => quotedB q (entC k)).map TV.bool),
    fun _ m _ _ _ _ _ _ _ _ _ _ _ _ => (ents.length - m).toNat, ⟨rfl, rfl, rfl, rfl, rfl, rfl, rfl, StExt.refl _, 0, rfl, by omega, Own.nil _ _ _⟩, ?_⟩
  rintro li _ _ _ _ _ _ _ _ _ _ _ _ st3 ⟨rfl, rfl, rfl, rfl, rfl, rfl, rfl, e3, p, rfl, hp, hli⟩
  rw [hr.lenZ, tn]
  refine ⟨⟨by omega, by omega⟩, need_intro hp1 (optK_intro (hld _) (need_intro hu.isSl ?_))⟩
  rw [hu.lenS]
  refine BIf_intro (fun g2 => ?_) fun g2 => ?_
  · have hlt2 : p < ents.length := by omega
    have hget2 := List.getElem?_eq_getElem hlt2
    generalize ents[p] = en at hget2
    have hef := hents en (mem_of_get hget2)
    obtain ⟨hp2, ec, w, zs, hec, hld2, hw, hz, hw3⟩ := kid_fld hu hy hget2
    obtain ⟨w', zs', rfl, hw', hpos, hwl, hwp⟩ := ent_ld hef hec
    simp only [List.getElem?_cons_succ, List.getElem?_cons_zero, Option.some.injEq] at hw3
    subst hw3
    refine ⟨⟨by omega, by omega⟩, need_intro hp1 (optK_intro (hld _) ?_)⟩
    rw [hu.lenZ, tn]
    refine ⟨⟨by omega, by omega⟩, need_intro hp2 (optK_intro (hld2 _) ?_)⟩
    rw [hw.lenZ]
    refine ⟨⟨by omega, by omega⟩, need_intro hwp (optK_intro (hwl _) (decT_str ?_))⟩
    have hcl := hrk.2 en (mem_of_get hget2)
    have hcw : CellW q (entC en) := by
      obtain ⟨c, mark, rfl, hcw, _⟩ := hef
      exact hcw
    refine BIf_intro (fun g3 => ⟨⟨by omega, ?_⟩, ?_⟩) fun g3 => ?_
    · cases hce : entC en with
      | nil => exact absurd hce g3
      | cons b l => simp
    · have hqb : quotedB q (entC en) = decide (((List.getD (entC en) (Int.toNat 0) 0).toNat : Int) = q) := by
        unfold quotedB
        refine decide_eq_decide.2 ⟨fun h => ?_, fun h => ?_⟩
        · exact Decidable.byContradiction fun hh => h (.inr hh)
        · rintro (h2 | h2)
          · exact g3 h2
          · exact h2 h
      rw [← hqb]
      refine appK_own e3 rfl hli (by omega) (fun h => by cases h) fun v5 st5 e5 _ o5 => ?_
      rw [w1 p (by omega)]
      refine ⟨⟨rfl, rfl, rfl, rfl, rfl, rfl, rfl, e5, p + 1, rfl, by omega, ?_⟩, by dsimp only; omega⟩
      rw [List.take_add_one, hget2]
      simpa using o5
    · have hqb : quotedB q (entC en) = false := by
        unfold quotedB
        exact decide_eq_false fun h => h (.inl (Decidable.not_not.1 g3))
      rw [← hqb]
      refine appK_own e3 rfl hli (by omega) (fun h => by cases h) fun v5 st5 e5 _ o5 => ?_
      rw [w1 p (by omega)]
      refine ⟨⟨rfl, rfl, rfl, rfl, rfl, rfl, rfl, e5, p + 1, rfl, by omega, ?_⟩, by dsimp only; omega⟩
      rw [List.take_add_one, hget2]
      simpa using o5
  · have hpe : p = ents.length := by omega
    rw [hpe, List.take_of_length_le (by omega)] at hli
    refine need_intro (one1 hli.rd.one) (need_intro (one1 hli.rd.one) ?_)
    refine (hg.ext e3).add (e2.trans e3) (row := ents.map fun k => quotedB q (entC k)) (by unfold RowR; rw [List.length_map]; exact hli.rd) (by simp only [cellsT, List.length_map, List.length_take]; omega) fun v' st' e' hg' => ?_
    rw [w1 j (by omega)]
    refine ⟨⟨rfl, rfl, rfl, rfl, rfl, e', j + 1, rfl, by omega, ?_⟩, by dsimp only; omega⟩
    rw [List.take_add_one, hget]
    simpa [cellsT, kidsOf] using hg'
end
end Go.TVF
end

section
set_option linter.unusedVariables false
set_option linter.unusedSimpArgs false
namespace Go.TVF
open Go Go.Proofs
def quoteV (a q : Int) (s : List UInt8) : Except Int (List UInt8) := if dOk a q = false then .error 1 else if vlen s = s.length then .ok (quoC a q s) else .error 5
def xT : Except Int (List UInt8) → List UInt8 | .ok t => t | .error _ => []
def xE : Except Int (List UInt8) → Int | .ok _ => 0 | .error e => e
theorem dOk_inv {a q : Int} (h : dOk a q = true) : (a = 9 ∨ (32 ≤ a ∧ a ≤ 126)) ∧ 33 ≤ q ∧ q ≤ 126 ∧ a ≠ q := by
  unfold dOk at h
  exact (of_decide_eq_true h).1
theorem needQ_take {a q : Int} {s : List UInt8} {j : Nat} (h : j < s.length) : needQ a q (s.take (j + 1)) = (needQ a q (s.take j) || decide (by_ s j = a ∨ by_ s j = q ∨ by_ s j = 10 ∨ by_ s j = 13)) := by
  unfold needQ
  rw [getD_take s j 0 h, List.any_append]
  simp only [List.any_cons, List.any_nil, Bool.or_false]
  rfl
theorem needQ_mem {a q : Int} {s : List UInt8} {j : Nat} (h : j < s.length) (hb : by_ s j = a ∨ by_ s j = q ∨ by_ s j = 10 ∨ by_ s j = 13) : needQ a q s = true := by
  unfold needQ
  rw [List.any_eq_true]
  refine ⟨s.getD j 0, ?_, decide_eq_true hb⟩
  rw [List.getD_eq_getElem?_getD, List.getElem?_eq_getElem h]
  exact List.getElem_mem h
theorem dbl_len (c : UInt8) : ∀ t : List UInt8, (dbl c t).length ≤ 2 * t.length
  | [] => by simp [dbl]
  | b :: t => by
    have := dbl_len c t
    rw [dbl_cons, List.length_append, List.length_cons]
    split <;> simp <;> omega
theorem quoC_len (a q : Int) (s : List UInt8) : (quoC a q s).length ≤ 2 * s.length + 2 := by
  unfold quoC
  split
  · have := dbl_len (UInt8.ofNat q.toNat) s
    simp; omega
  · omega
section
variable {a q : Int} {hd ty : Bool} {st : St}
theorem pquote_ok {s : List UInt8} {K : List UInt8 → Int → St → Prop} (hl : s.length ≤ 2000000) (hk : K (xT (quoteV a q s)) (xE (quoteV a q s)) st) :
    CallT PR fn_delim_Quote [.str s, .agg [.int .u8 a, .int .u8 q, .bool hd, .bool ty]] [.one .str, .one (.int .i64)] st K := by
  have tn : ∀ k : Nat, Int.toNat (k : Int) = k := fun k => rfl
  have w1 : ∀ k : Nat, k ≤ 100000000 → IntKind.i64.wrap ((k : Int) + 1) = ((k + 1 : Nat) : Int) := fun k hk => by rw [wrap64 _ (by omega) (by omega)]; omega
  unfold quoteV at hk
  refine vc_delim_Quote s a q hd ty st K (dvalid_ok (BIf_bool (fun g => ?_) fun g => ?_))
  · rw [if_pos (by simpa using g)] at hk; exact hk
  have gd : dOk a q = true := by simpa using g
  rw [if_neg (by rw [gd]; decide)] at hk
  have hdk := dOk_inv gd
  refine uValid_ok hl (BIf_bool (fun g => ?_) fun g => ?_)
  · rw [if_neg (by simpa using g)] at hk; exact hk
  rw [if_pos (by simpa using g)] at hk
  have hqn := ofNat_q (q := q) (by omega) (by omega)
  generalize hc : UInt8.ofNat q.toNat = c at hqn
  refine optK_intro (toBytes_q st c hqn) (decT_str ?_)
  refine ⟨fun i s' q' n1 n2 b1 b2 st' => s = s' ∧ [c] = q' ∧ a = n1 ∧ q = n2 ∧ hd = b1 ∧ ty = b2 ∧ st = st' ∧ ∃ j : Nat, i = (j : Int) ∧ j ≤ s.length ∧ needQ a q (s.take j) = false,
    fun i _ _ _ _ _ _ _ => (s.length - i).toNat, ⟨rfl, rfl, rfl, rfl, rfl, rfl, rfl, 0, rfl, by omega, rfl⟩, ?_⟩
  rintro _ _ _ _ _ _ _ _ ⟨rfl, rfl, rfl, rfl, rfl, rfl, rfl, j, rfl, hj, hnq⟩
  rw [tn]
  refine BIf_intro (fun g1 => ⟨⟨by omega, by omega⟩, ?_⟩) fun g1 => ?_
  · have fin : needQ a q s = true → CallT PR fn_strings_ReplaceAll [.str s, .str [c], .str ([c] ++ [c])] [.one .str] st fun s4 st6 => (([c].length + s4.length ≤ 9223372036854775807) ∧ ((([c] ++ s4).length + [c].length ≤ 9223372036854775807) ∧ K ([c] ++ s4 ++ [c]) 0 st6)) := fun hn => by
      refine replaceAll_ok (by simp) (by omega) ?_
      have hdl := dbl_len c s
      unfold dbl at hdl
      refine ⟨by simp only [List.length_cons, List.length_nil]; omega, by simp only [List.length_append, List.length_cons, List.length_nil]; omega, ?_⟩
      unfold quoC at hk
      rw [if_pos hn, hc] at hk
      exact hk
    refine BIf_intro (fun q1 => ⟨by simp, fin (needQ_mem (j := j) (by omega) (.inl q1))⟩) fun q1 => BIf_intro (fun q2 => ⟨by simp, fin (needQ_mem (j := j) (by omega) (.inr (.inl q2)))⟩) fun q2 => BIf_intro (fun q3 => ⟨by simp, fin (needQ_mem (j := j) (by omega) (.inr (.inr (.inl q3))))⟩) fun q3 =>
      BIf_intro (fun q4 => ⟨by simp, fin (needQ_mem (j := j) (by omega) (.inr (.inr (.inr q4))))⟩) fun q4 => ?_
    rw [w1 j (by omega)]
    refine ⟨⟨rfl, rfl, rfl, rfl, rfl, rfl, rfl, j + 1, rfl, by omega, ?_⟩, by dsimp only; omega⟩
    rw [needQ_take (by omega), hnq, Bool.false_or]
    exact decide_eq_false (by rintro (h | h | h | h); exact q1 h; exact q2 h; exact q3 h; exact q4 h)
  · rw [List.take_of_length_le (by omega)] at hnq
    unfold quoC at hk
    rw [if_neg (by rw [hnq]; decide)] at hk
    exact hk
theorem inQuotes_ok {s : List UInt8} {c : UInt8} {K : List UInt8 → St → Prop} (hc : (c.toNat : Int) = q) (hl : s.length ≤ 2000000) (hk : K (c :: (dbl c s ++ [c])) st) :
    CallT PR fn_datakitref27_InQuotes [.str s, .agg [.int .u8 a, .int .u8 q, .bool hd, .bool ty]] [.one .str] st K := by
  have tn : ∀ k : Nat, Int.toNat (k : Int) = k := fun k => rfl
  have w1 : ∀ k : Nat, k ≤ 100000000 → IntKind.i64.wrap ((k : Int) + 1) = ((k + 1 : Nat) : Int) := fun k hk => by rw [wrap64 _ (by omega) (by omega)]; omega
  refine vc_datakitref27_InQuotes s a q hd ty st K (optK_intro (toBytes_q st c hc) (decT_str ?_))
  refine ⟨fun out i s' q' n1 n2 b1 b2 st' => s = s' ∧ [c] = q' ∧ a = n1 ∧ q = n2 ∧ hd = b1 ∧ ty = b2 ∧ st = st' ∧ ∃ j : Nat, i = (j : Int) ∧ j ≤ s.length ∧ out = c :: dbl c (s.take j),
    fun _ i _ _ _ _ _ _ _ => (s.length - i).toNat, ⟨rfl, rfl, rfl, rfl, rfl, rfl, rfl, 0, rfl, by omega, rfl⟩, ?_⟩
  rintro _ _ _ _ _ _ _ _ _ ⟨rfl, rfl, rfl, rfl, rfl, rfl, rfl, j, rfl, hj, rfl⟩
  have hdl := dbl_len c (s.take j)
  rw [List.length_take] at hdl
  refine BIf_intro (fun g1 => ?_) fun g1 => ?_
  · have hlt : j < s.length := by omega
    rw [w1 j (by omega), tn, tn, show List.drop j (List.take (j + 1) s) = [s.getD j 0] from slc_one hlt]
    have hst := getD_take s j 0 hlt
    refine ⟨⟨by omega, by omega, by omega⟩, by simp only [List.length_cons, List.length_nil]; omega, ⟨by omega, by omega⟩, BIf_intro (fun g2 => ⟨by simp only [List.length_cons, List.length_append, List.length_nil]; omega, ?_⟩) fun g2 => ?_⟩
    · have hb : s.getD j 0 = c := UInt8.toNat_inj.1 (by omega)
      refine ⟨⟨rfl, rfl, rfl, rfl, rfl, rfl, rfl, j + 1, rfl, by omega, ?_⟩, by dsimp only; omega⟩
      rw [hst, dbl_app, hb]; simp [dbl, sub1]
    · have hb : s.getD j 0 ≠ c := fun h => g2 (by rw [h]; exact hc)
      refine ⟨⟨rfl, rfl, rfl, rfl, rfl, rfl, rfl, j + 1, rfl, by omega, ?_⟩, by dsimp only; omega⟩
      have h1 : dbl c [s.getD j 0] = [s.getD j 0] := by
        simp only [dbl, List.flatMap_cons, List.flatMap_nil, sub1, List.append_nil]
        rw [if_neg hb]
      rw [hst, dbl_app, h1]; rfl
  · rw [List.take_of_length_le (by omega)]
    have hdl2 := dbl_len c s
    refine ⟨?_, hk⟩
    rw [List.take_of_length_le (by omega)] at hdl
    simp only [List.length_cons, List.length_nil]; omega
theorem rquoteC_ok {s : List UInt8} {K : List UInt8 → Int → St → Prop} (hl : s.length ≤ 2000000) (hk : ∀ st', StExt st st' → K (xT (quoteV a q s)) (xE (quoteV a q s)) st') :
    CallT PR fn_datakitref27_Quote [.str s, .agg [.int .u8 a, .int .u8 q, .bool hd, .bool ty]] [.one .str, .one (.int .i64)] st K := by
  have tn : ∀ k : Nat, Int.toNat (k : Int) = k := fun k => rfl
  have w1 : ∀ k : Nat, k ≤ 100000000 → IntKind.i64.wrap ((k : Int) + 1) = ((k + 1 : Nat) : Int) := fun k hk => by rw [wrap64 _ (by omega) (by omega)]; omega
  unfold quoteV at hk
  refine vc_datakitref27_Quote s a q hd ty st K (rdvalid_ok (BIf_bool (fun g => ?_) fun g => ?_))
  · rw [if_pos (by simpa using g)] at hk; exact hk st (StExt.refl _)
  have gd : dOk a q = true := by simpa using g
  rw [if_neg (by rw [gd]; decide)] at hk
  have hdk := dOk_inv gd
  refine rvalid_ok hl fun st1 e1 => BIf_bool (fun g => ?_) fun g => ?_
  · rw [if_neg (by simpa using g)] at hk; exact hk st1 e1
  rw [if_pos (by simpa using g)] at hk
  have hqn := ofNat_q (q := q) (by omega) (by omega)
  generalize hc : UInt8.ofNat q.toNat = c at hqn
  refine ⟨fun i s' n1 n2 b1 b2 st' => s = s' ∧ a = n1 ∧ q = n2 ∧ hd = b1 ∧ ty = b2 ∧ st1 = st' ∧ ∃ j : Nat, i = (j : Int) ∧ j ≤ s.length ∧ needQ a q (s.take j) = false,
    fun i _ _ _ _ _ _ => (s.length - i).toNat, ⟨rfl, rfl, rfl, rfl, rfl, rfl, 0, rfl, by omega, rfl⟩, ?_⟩
  rintro _ _ _ _ _ _ _ ⟨rfl, rfl, rfl, rfl, rfl, rfl, j, rfl, hj, hnq⟩
  rw [tn]
  refine BIf_intro (fun g1 => ⟨⟨by omega, by omega⟩, ?_⟩) fun g1 => ?_
  · have fin : needQ a q s = true → CallT PR fn_datakitref27_InQuotes [.str s, .agg [.int .u8 a, .int .u8 q, .bool hd, .bool ty]] [.one .str] st1 fun s4 st6 => K s4 0 st6 := fun hn => by
      refine inQuotes_ok hqn hl ?_
      have := hk st1 e1
      unfold quoC at this
      rw [if_pos hn, hc] at this
      exact this
    refine BIf_intro (fun q1 => fin (needQ_mem (j := j) (by omega) (.inl q1))) fun q1 => ⟨⟨by omega, by omega⟩, BIf_intro (fun q2 => fin (needQ_mem (j := j) (by omega) (.inr (.inl q2)))) fun q2 => ⟨⟨by omega, by omega⟩, BIf_intro (fun q3 => fin (needQ_mem (j := j) (by omega) (.inr (.inr (.inl q3))))) fun q3 =>
      ⟨⟨by omega, by omega⟩, BIf_intro (fun q4 => fin (needQ_mem (j := j) (by omega) (.inr (.inr (.inr q4))))) fun q4 => ?_⟩⟩⟩
    rw [w1 j (by omega)]
    refine ⟨⟨rfl, rfl, rfl, rfl, rfl, rfl, j + 1, rfl, by omega, ?_⟩, by dsimp only; omega⟩
    rw [needQ_take (by omega), hnq, Bool.false_or]
    exact decide_eq_false (by rintro (h | h | h | h); exact q1 h; exact q2 h; exact q3 h; exact q4 h)
  · rw [List.take_of_length_le (by omega)] at hnq
    have := hk st1 e1
    unfold quoC at this
    rw [if_neg (by rw [hnq]; decide)] at this
    exact this
end
end Go.TVF
end

section
set_option linter.unusedVariables false
set_option linter.unusedSimpArgs false
namespace Go.TVF
open Go Go.Proofs
theorem Bld.ext {st0 st st' : St} {b : Nat} {buf : List UInt8} (h : Bld st0 b st buf) (e : StExt st st') : Bld st0 b st' buf := by
  obtain ⟨e0, h1, h2, h3, p, v, hb, hp, hv⟩ := h
  refine ⟨e0.trans e, h1, Nat.lt_of_lt_of_le h2 e.nb, by rw [e.bt b h2]; exact h3, p, v, by rw [e.box b h2]; exact hb, hp, ?_⟩
  rcases hv with hv | ⟨id, rfl, n1, n2, n3, n4, n5⟩
  · exact .inl hv
  · exact .inr ⟨id, rfl, n1, n2, Nat.lt_of_lt_of_le n3 e.nt, by rw [e.live id n3]; exact n4, by rw [e.ty id n3]; exact n5⟩
theorem writeByte_ok {st0 st : St} {b : Nat} {buf : List UInt8} {C : Int} {c : UInt8} {K : TV → St → Prop} (hC : (c.toNat : Int) = C) (h : Bld st0 b st buf) (hl : buf.length + 1 ≤ 140737488355328) (hk : ∀ st', Bld st0 b st' (buf ++ [c]) → K .nilIface st') :
    CallT PR fn_strings_Builder_WriteByte [.box b 0, .int .u8 C] [.one .tv] st K := by
  subst hC
  refine vc_strings_Builder_WriteByte b _ st K (copyCheck_ok h fun st1 h1 => ?_)
  obtain ⟨e, a1, a2, a3, p, v, hb, hp, hv⟩ := h1
  refine optK_intro (x := v) (by simp [ldCell, hb]) ?_
  have hbt : [TV.int .u8 (c.toNat : Int)] = bytesT [c] := rfl
  rw [hbt]
  rcases hv with ⟨rfl, rfl⟩ | ⟨id, rfl, n1, n2, n3, n4, n5⟩
  · simp only [appK, Nat.zero_add, Nat.mul_one]
    refine need_intro (by decide) (need_intro rfl ⟨_, hb, by simp, hk _ ?_⟩)
    exact ⟨(e.fresh _).put a1 _, a1, a2, a3, p, _, box_put _ _ _, hp, .inr ⟨st1.nt, rfl, by simp, e.nt, by simp [St.put, St.fresh], by simp [St.put, St.fresh], by simp [St.put, St.fresh]⟩⟩
  · simp only [appK, Nat.beq_refl, Nat.mul_one]
    refine ⟨hl, n4, need_intro rfl ⟨_, hb, by simp, hk _ ?_⟩⟩
    refine ⟨((e.retire n2).fresh _).put a1 _, a1, a2, a3, p, _, box_put _ _ _, hp, .inr ⟨st1.nt, ?_, by simp [n1], e.nt, by simp [St.put, St.fresh, St.retire], by simp [St.put, St.fresh, St.retire], by simp [St.put, St.fresh, St.retire, n5, tyJoin]⟩⟩
    rw [List.length_append, ← bytesT_append]; rfl
theorem builderLen_ok {st0 st : St} {b : Nat} {buf : List UInt8} {K : Int → St → Prop} (h : Bld st0 b st buf) (hk : K (buf.length : Nat) st) : CallT PR fn_strings_Builder_Len [.box b 0] [.one (.int .i64)] st K := by
  obtain ⟨e, h1, h2, h3, p, v, hb, hp, hv⟩ := h
  refine vc_strings_Builder_Len b st K (optK_intro (x := v) (by simp [ldCell, hb]) ?_)
  rcases hv with ⟨rfl, rfl⟩ | ⟨id, rfl, n1, n2, n3, n4, n5⟩
  · exact need_intro rfl hk
  · exact need_intro rfl hk
/-- Cells with separators. -/
def lineP (a q : Int) : List (List UInt8) → List UInt8
  | [] => []
  | [c] => quoC a q c
  | c :: r => quoC a q c ++ UInt8.ofNat a.toNat :: lineP a q r
theorem lineT_eq (a q : Int) : ∀ cs, lineT a q cs = lineP a q cs ++ [10]
  | [] => rfl
  | [c] => rfl
  | c :: d :: r => by simp only [lineT, lineP]; rw [lineT_eq a q (d :: r)]; simp
theorem lineP_snoc (a q : Int) (c : List UInt8) : ∀ cs, lineP a q (cs ++ [c]) = if cs = [] then quoC a q c else lineP a q cs ++ UInt8.ofNat a.toNat :: quoC a q c
  | [] => rfl
  | [d] => by simp [lineP]
  | d :: f :: r => by
    have := lineP_snoc a q c (f :: r)
    simp only [List.cons_append] at this ⊢
    simp only [lineP]
    rw [this, if_neg (by simp), if_neg (by simp)]
    simp
theorem lineP_take (a q : Int) {cs : List (List UInt8)} {j : Nat} {c : List UInt8} (h : cs[j]? = some c) : lineP a q (cs.take (j + 1)) = if j = 0 then quoC a q c else lineP a q (cs.take j) ++ UInt8.ofNat a.toNat :: quoC a q c := by
  have hlt := (List.getElem?_eq_some_iff.1 h).1
  rw [List.take_add_one, h]
  simp only [Option.toList_some]
  rw [lineP_snoc]
  by_cases hj : j = 0
  · subst hj; simp
  · rw [if_neg hj, if_neg]
    intro h0
    have := congrArg List.length h0
    rw [List.length_take, List.length_nil] at this
    omega
def allV (cs : List (List UInt8)) : Bool := cs.all fun c => decide (vlen c = c.length)
def lineV (a q : Int) (cs : List (List UInt8)) : Except Int (List UInt8) := if dOk a q = false then .error 1 else if cs = [] then .error 1 else if allV cs then .ok (lineT a q cs) else .error 5
/-- How long cells are, in all. -/
def sumL (cs : List (List UInt8)) : Nat := match cs with | [] => 0 | c :: r => c.length + sumL r
theorem sumL_take (cs : List (List UInt8)) {j : Nat} {c : List UInt8} (h : cs[j]? = some c) : sumL (cs.take (j + 1)) = sumL (cs.take j) + c.length ∧ sumL (cs.take (j + 1)) ≤ sumL cs := by
  induction cs generalizing j with
  | nil => simp at h
  | cons d r ih =>
    cases j with
    | zero => simp only [List.getElem?_cons_zero, Option.some.injEq] at h; subst h; simp [sumL]
    | succ j =>
      have := ih (j := j) (by simpa using h)
      simp only [List.take_succ_cons, sumL]; omega
theorem lineP_len (a q : Int) : ∀ cs, (lineP a q cs).length ≤ 2 * sumL cs + 3 * cs.length
  | [] => by simp [lineP]
  | [c] => by have := quoC_len a q c; simp [lineP, sumL]; omega
  | c :: d :: r => by
    have h1 := quoC_len a q c
    have h2 := lineP_len a q (d :: r)
    simp only [lineP, List.length_append, List.length_cons, sumL] at h2 ⊢
    omega
theorem allV_take {cs : List (List UInt8)} {j : Nat} {c : List UInt8} (h : cs[j]? = some c) : allV (cs.take (j + 1)) = (allV (cs.take j) && decide (vlen c = c.length)) := by
  unfold allV
  rw [List.take_add_one, h, List.all_append]
  simp
theorem allV_not {cs : List (List UInt8)} {j : Nat} {c : List UInt8} (h : cs[j]? = some c) (hv : ¬ vlen c = c.length) : allV cs = false := by
  cases hb : allV cs with
  | false => rfl
  | true =>
    unfold allV at hb
    have := List.all_eq_true.1 hb c (List.mem_of_getElem? h)
    exact absurd (of_decide_eq_true this) hv
section
variable {a q : Int} {hd ty : Bool} {st : St}
theorem pline_ok {v : TV} {cs : List (List UInt8)} {K : List UInt8 → Int → St → Prop} (hr : RowR TV.str v cs) (hl : sumL cs ≤ 1000000) (hn : cs.length ≤ 1000000) (hk : ∀ st', StExt st st' → K (xT (lineV a q cs)) (xE (lineV a q cs)) st') :
    CallT PR fn_delim_Line [v, .agg [.int .u8 a, .int .u8 q, .bool hd, .bool ty]] [.one .str, .one (.int .i64)] st K := by
  have tn : ∀ k : Nat, Int.toNat (k : Int) = k := fun k => rfl
  have w1 : ∀ k : Nat, k ≤ 100000000 → IntKind.i64.wrap ((k : Int) + 1) = ((k + 1 : Nat) : Int) := fun k hk => by rw [wrap64 _ (by omega) (by omega)]; omega
  unfold lineV at hk
  refine vc_delim_Line v a q hd ty st K (dvalid_ok (BIf_bool (fun g => ?_) fun g => ?_))
  · rw [if_pos (by simpa using g)] at hk; exact hk st (StExt.refl _)
  have gd : dOk a q = true := by simpa using g
  rw [if_neg (by rw [gd]; decide)] at hk
  have hdk := dOk_inv gd
  have hab := ofNat_q (q := a) (by omega) (by omega)
  refine need_intro (Rd.isSl hr) ?_
  rw [Rd.lenS hr]
  refine BIf_intro (fun g => ?_) fun g => need_intro (Rd.isSl hr) ?_
  · rw [if_pos (List.eq_nil_of_length_eq_zero (by omega))] at hk; exact hk st (StExt.refl _)
  rw [if_neg (by rintro rfl; simp at g)] at hk
  refine ⟨fun i w v' n n1 n2 b1 b2 st' => v = v' ∧ (cs.length : Int) = n ∧ a = n1 ∧ q = n2 ∧ hd = b1 ∧ ty = b2 ∧ TV.box st.nb 0 = w ∧ ∃ j : Nat, i = (j : Int) ∧ j ≤ cs.length ∧ allV (cs.take j) = true ∧ Bld st st.nb st' (lineP a q (cs.take j)),
    fun i _ _ _ _ _ _ _ _ => (cs.length - i).toNat, ⟨rfl, rfl, rfl, rfl, rfl, rfl, rfl, 0, rfl, by omega, rfl, Bld.new (StExt.refl st)⟩, ?_⟩
  rintro _ _ _ _ _ _ _ _ st2 ⟨rfl, rfl, rfl, rfl, rfl, rfl, rfl, j, rfl, hj, hav, hb⟩
  rw [Rd.lenZ hr, tn]
  have hpl := lineP_len a q (cs.take j)
  rw [List.length_take] at hpl
  refine BIf_intro (fun g1 => ?_) fun g1 => ?_
  · have hlt : j < cs.length := by omega
    have hget := List.getElem?_eq_getElem hlt
    generalize cs[j] = c at hget
    have hs := sumL_take cs hget
    refine ⟨⟨by omega, by omega⟩, optK_intro (hr.ld st2 hget) (decT_str ?_)⟩
    have hq := quoC_len a q c
    have hqv : quoteV a q c = if vlen c = c.length then .ok (quoC a q c) else .error 5 := by unfold quoteV; rw [if_neg (by rw [gd]; decide)]
    rw [w1 j (by omega)]
    refine BIf_intro (fun g2 => ?_) fun g2 => ?_
    · refine writeByte_ok hab hb (by omega) fun st3 hb3 => ?_
      refine pquote_ok (by omega) ?_
      rw [hqv]
      by_cases hv : vlen c = c.length
      · rw [if_pos hv]
        refine BIf_intro (fun h => absurd rfl h) fun _ => writeString_ok hb3 (by simp only [xT, List.length_append, List.length_cons, List.length_nil]; omega) fun st5 hb5 => ?_
        refine ⟨⟨rfl, rfl, rfl, rfl, rfl, rfl, rfl, j + 1, rfl, by omega, by rw [allV_take hget, hav, decide_eq_true hv]; rfl, ?_⟩, by dsimp only; omega⟩
        rw [lineP_take a q hget, if_neg (by omega)]
        simpa [xT] using hb5
      · rw [if_neg hv]
        rw [if_neg (by rw [allV_not hget hv]; decide)] at hk
        exact BIf_intro (fun _ => hk _ hb3.1) fun h => absurd (by decide) h
    · refine pquote_ok (by omega) ?_
      rw [hqv]
      by_cases hv : vlen c = c.length
      · rw [if_pos hv]
        have hj0 : j = 0 := by omega
        subst hj0
        refine BIf_intro (fun h => absurd rfl h) fun _ => writeString_ok hb (by simp only [xT]; omega) fun st5 hb5 => ?_
        refine ⟨⟨rfl, rfl, rfl, rfl, rfl, rfl, rfl, 0 + 1, rfl, by omega, by rw [allV_take hget, hav, decide_eq_true hv]; rfl, ?_⟩, by dsimp only; omega⟩
        rw [lineP_take a q hget, if_pos rfl]
        simpa [xT, lineP] using hb5
      · rw [if_neg hv]
        rw [if_neg (by rw [allV_not hget hv]; decide)] at hk
        exact BIf_intro (fun _ => hk _ hb.1) fun h => absurd (by decide) h
  · have hjl : cs.take j = cs := List.take_of_length_le (by omega)
    have hpl2 := lineP_len a q cs
    rw [hjl] at hav hb
    rw [if_pos hav] at hk
    refine writeByte_ok (c := 10) rfl hb (by omega) fun st3 hb3 => builderString_ok hb3 (by simp only [List.length_append, List.length_cons, List.length_nil]; omega) fun st4 e4 => ?_
    have := hk st4 e4
    rw [lineT_eq] at this
    exact this
theorem rline_ok {v : TV} {cs : List (List UInt8)} {K : List UInt8 → Int → St → Prop} (hr : RowR TV.str v cs) (hl : sumL cs ≤ 1000000) (hn : cs.length ≤ 1000000) (hk : ∀ st', StExt st st' → K (xT (lineV a q cs)) (xE (lineV a q cs)) st') :
    CallT PR fn_datakitref27_Line [v, .agg [.int .u8 a, .int .u8 q, .bool hd, .bool ty]] [.one .str, .one (.int .i64)] st K := by
  have tn : ∀ k : Nat, Int.toNat (k : Int) = k := fun k => rfl
  have w1 : ∀ k : Nat, k ≤ 100000000 → IntKind.i64.wrap ((k : Int) + 1) = ((k + 1 : Nat) : Int) := fun k hk => by rw [wrap64 _ (by omega) (by omega)]; omega
  unfold lineV at hk
  refine vc_datakitref27_Line v a q hd ty st K (rdvalid_ok (BIf_bool (fun g => ?_) fun g => ?_))
  · rw [if_pos (by simpa using g)] at hk; exact hk st (StExt.refl _)
  have gd : dOk a q = true := by simpa using g
  rw [if_neg (by rw [gd]; decide)] at hk
  have hdk := dOk_inv gd
  have hab := ofNat_q (q := a) (by omega) (by omega)
  refine need_intro (Rd.isSl hr) ?_
  rw [Rd.lenS hr]
  refine BIf_intro (fun g => ?_) fun g => ?_
  · rw [if_pos (List.eq_nil_of_length_eq_zero (by omega))] at hk; exact hk st (StExt.refl _)
  rw [if_neg (by rintro rfl; simp at g)] at hk
  refine ⟨fun out i v' n1 n2 b1 b2 st' => v = v' ∧ a = n1 ∧ q = n2 ∧ hd = b1 ∧ ty = b2 ∧ StExt st st' ∧ ∃ j : Nat, i = (j : Int) ∧ j ≤ cs.length ∧ allV (cs.take j) = true ∧ out = lineP a q (cs.take j),
    fun _ i _ _ _ _ _ _ => (cs.length - i).toNat, ⟨rfl, rfl, rfl, rfl, rfl, StExt.refl _, 0, rfl, by omega, rfl, rfl⟩, ?_⟩
  rintro _ _ _ _ _ _ _ st2 ⟨rfl, rfl, rfl, rfl, rfl, e2, j, rfl, hj, hav, rfl⟩
  refine need_intro (Rd.isSl hr) ?_
  rw [Rd.lenS hr, Rd.lenZ hr, tn]
  have hpl := lineP_len a q (cs.take j)
  rw [List.length_take] at hpl
  refine BIf_intro (fun g1 => ?_) fun g1 => ?_
  · have hlt : j < cs.length := by omega
    have hget := List.getElem?_eq_getElem hlt
    generalize cs[j] = c at hget
    have hs := sumL_take cs hget
    refine ⟨⟨by omega, by omega⟩, optK_intro (hr.ld _ hget) (decT_str ?_)⟩
    have hq := quoC_len a q c
    have hqv : quoteV a q c = if vlen c = c.length then .ok (quoC a q c) else .error 5 := by unfold quoteV; rw [if_neg (by rw [gd]; decide)]
    rw [w1 j (by omega)]
    refine rquoteC_ok (by omega) fun st3 e3 => ?_
    rw [hqv]
    by_cases hv : vlen c = c.length
    · rw [if_pos hv]
      refine BIf_intro (fun h => absurd rfl h) fun _ => BIf_intro (fun g2 => ?_) fun g2 => ?_
      · refine optK_intro (toBytes_q st3 _ hab) (decT_str ⟨?_, ?_, ?_⟩)
        · simp only [List.length_cons, List.length_nil]; omega
        · simp only [xT, List.length_append, List.length_cons, List.length_nil]; omega
        refine ⟨⟨rfl, rfl, rfl, rfl, rfl, e2.trans e3, j + 1, rfl, by omega, by rw [allV_take hget, hav, decide_eq_true hv]; rfl, ?_⟩, by dsimp only; omega⟩
        rw [lineP_take a q hget, if_neg (by omega)]
        simp [xT]
      · have hj0 : j = 0 := by omega
        subst hj0
        refine ⟨by simp only [xT]; omega, ⟨rfl, rfl, rfl, rfl, rfl, e2.trans e3, 0 + 1, rfl, by omega, by rw [allV_take hget, hav, decide_eq_true hv]; rfl, ?_⟩, by dsimp only; omega⟩
        rw [lineP_take a q hget, if_pos rfl]
        simp [xT, lineP]
    · rw [if_neg hv]
      rw [if_neg (by rw [allV_not hget hv]; decide)] at hk
      exact BIf_intro (fun _ => hk _ (e2.trans e3)) fun h => absurd (by decide) h
  · have hjl : cs.take j = cs := List.take_of_length_le (by omega)
    have hpl2 := lineP_len a q cs
    rw [hjl] at hav ⊢
    rw [if_pos hav] at hk
    refine ⟨by show _ + 1 ≤ _; omega, ?_⟩
    have := hk st2 e2
    rw [lineT_eq] at this
    exact this
end
end Go.TVF
end

section
set_option linter.unusedVariables false
set_option linter.unusedSimpArgs false
namespace Go.TVF
open Go Go.Proofs
theorem lineV_ok {a q : Int} {cs : List (List UInt8)} {t : List UInt8} (h : lineV a q cs = .ok t) : t = lineT a q cs ∧ allV cs = true ∧ cs ≠ [] ∧ t.length ≤ 2 * sumL cs + 3 * cs.length + 1 := by
  unfold lineV at h
  by_cases h1 : dOk a q = false
  · rw [if_pos h1] at h; cases h
  by_cases h2 : cs = []
  · rw [if_neg h1, if_pos h2] at h; cases h
  by_cases h3 : allV cs = true
  · rw [if_neg h1, if_neg h2, if_pos h3] at h
    cases h
    have h4 := lineP_len a q cs
    refine ⟨rfl, h3, h2, ?_⟩
    rw [lineT_eq]; simp; omega
  · rw [if_neg h1, if_neg h2, if_neg h3] at h; cases h
theorem lineV_err {a q : Int} {cs : List (List UInt8)} {e : Int} (h : lineV a q cs = .error e) : e ≠ 0 := by
  unfold lineV at h
  by_cases h1 : dOk a q = false
  · rw [if_pos h1] at h; cases h; decide
  by_cases h2 : cs = []
  · rw [if_neg h1, if_pos h2] at h; cases h; decide
  by_cases h3 : allV cs = true
  · rw [if_neg h1, if_neg h2, if_pos h3] at h; cases h
  · rw [if_neg h1, if_neg h2, if_neg h3] at h; cases h; decide
def textF (a q : Int) (w : Nat) : List (List (List UInt8)) → Except Int (List UInt8)
  | [] => .ok []
  | r :: rs => if r = [] then .error 1 else if r.length ≠ w then .error 10 else match lineV a q r with
    | .error e => .error e
    | .ok t => match textF a q w rs with
      | .error e => .error e
      | .ok t' => .ok (t ++ t')
def textV (a q : Int) (l : List (List (List UInt8))) : Except Int (List UInt8) := if dOk a q = false then .error 1 else textF a q (l.headD []).length l
/-- The bytes of all cells. -/
def sumG (l : List (List (List UInt8))) : Nat := match l with | [] => 0 | r :: rs => sumL r + sumG rs
def cntG (l : List (List (List UInt8))) : Nat := match l with | [] => 0 | r :: rs => r.length + cntG rs
theorem textF_len (a q : Int) (w : Nat) : ∀ (l : List (List (List UInt8))) {t : List UInt8}, textF a q w l = .ok t → t = textT a q l ∧ t.length ≤ 2 * sumG l + 3 * cntG l + l.length
  | [], t, h => by cases h; exact ⟨rfl, by simp⟩
  | r :: rs, t, h => by
    simp only [textF] at h
    split at h
    · cases h
    split at h
    · cases h
    split at h
    · cases h
    rename_i t1 h1
    split at h
    · cases h
    rename_i t2 h2
    cases h
    have ih := textF_len a q w rs h2
    obtain ⟨rfl, _, _, h3⟩ := lineV_ok h1
    refine ⟨by rw [ih.1]; simp [textT], ?_⟩
    simp only [List.length_append, List.length_cons, sumG, cntG]
    omega
theorem sumG_mem {l : List (List (List UInt8))} {j : Nat} {r : List (List UInt8)} (h : l[j]? = some r) : sumL r ≤ sumG l ∧ r.length ≤ cntG l := by
  induction l generalizing j with
  | nil => simp at h
  | cons d rs ih =>
    cases j with
    | zero => simp only [List.getElem?_cons_zero, Option.some.injEq] at h; subst h; simp [sumG, cntG]
    | succ j =>
      have := ih (j := j) (by simpa using h)
      simp only [sumG, cntG]; omega
/-- What is left to write, beside what is written. -/
def textG (out : List UInt8) (R : Except Int (List UInt8)) : Except Int (List UInt8) := match R with | .error e => .error e | .ok t => .ok (out ++ t)
section
variable {a q : Int} {hd ty : Bool} {st : St}
theorem ptext_ok {v : TV} {l : List (List (List UInt8))} {K : List UInt8 → Int → St → Prop} (hr : GridR TV.str v l) (hl : sumG l ≤ 100000) (hn : cntG l ≤ 100000) (hn2 : l.length ≤ 100000) (hk : ∀ st', StExt st st' → K (xT (textV a q l)) (xE (textV a q l)) st') :
    CallT PR fn_delim_Text [v, .agg [.int .u8 a, .int .u8 q, .bool hd, .bool ty]] [.one .str, .one (.int .i64)] st K := by
  have tn : ∀ k : Nat, Int.toNat (k : Int) = k := fun k => rfl
  have w1 : ∀ k : Nat, k ≤ 100000000 → IntKind.i64.wrap ((k : Int) + 1) = ((k + 1 : Nat) : Int) := fun k hk => by rw [wrap64 _ (by omega) (by omega)]; omega
  generalize hT : textV a q l = T at hk
  unfold textV at hT
  obtain ⟨vs0, hr0⟩ := hr.rd
  refine vc_delim_Text v a q hd ty st K (dvalid_ok (BIf_bool (fun g => ?_) fun g => ?_))
  · rw [if_pos (by simpa using g)] at hT; subst hT; exact hk st (StExt.refl _)
  have gd : dOk a q = true := by simpa using g
  rw [if_neg (by rw [gd]; decide)] at hT
  refine need_intro hr0.isSl ?_
  rw [hr0.lenS]
  refine ⟨fun i rv w v' n n1 n2 b1 b2 st' => v = rv ∧ v = v' ∧ (l.length : Int) = n ∧ a = n1 ∧ q = n2 ∧ hd = b1 ∧ ty = b2 ∧ TV.box st.nb 0 = w ∧ ∃ (j : Nat) (out : List UInt8), i = (j : Int) ∧ j ≤ l.length ∧ Bld st st.nb st' out ∧ textG out (textF a q (l.headD []).length (l.drop j)) = T ∧ out.length ≤ j * 600000,
    fun i _ _ _ _ _ _ _ _ _ => (l.length - i).toNat, ⟨rfl, rfl, rfl, rfl, rfl, rfl, rfl, rfl, 0, [], rfl, by omega, Bld.new (StExt.refl st), ?_, by simp⟩, ?_⟩
  · rw [List.drop_zero, hT]; cases T <;> rfl
  rintro _ _ _ _ _ _ _ _ _ st2 ⟨rfl, rfl, rfl, rfl, rfl, rfl, rfl, rfl, j, out, rfl, hj, hb, hE, ho⟩
  rw [hr0.lenZ, tn]
  refine BIf_intro (fun g1 => ?_) fun g1 => ?_
  · have hlt : j < l.length := by omega
    have hget := List.getElem?_eq_getElem hlt
    have hdrop := List.drop_eq_getElem_cons hlt
    generalize l[j] = r at hget hdrop
    rw [hdrop] at hE
    have hs := sumG_mem hget
    obtain ⟨u, hu1, hu2⟩ := hr.ld st2 hget
    have hget0 : l[0]? = some (l.headD []) := by cases l with | nil => simp at hlt | cons d rs => rfl
    obtain ⟨u0, hu3, hu4⟩ := hr.ld st2 hget0
    simp only [textF] at hE
    refine ⟨⟨by omega, by omega⟩, optK_intro hu1 (need_intro (Rd.isSl hu2) ?_)⟩
    rw [Rd.lenS hu2]
    refine BIf_intro (fun g2 => ?_) fun g2 => need_intro (Rd.isSl hu2) ⟨⟨by omega, by omega⟩, optK_intro hu3 (need_intro (Rd.isSl hu4) ?_)⟩
    · rw [if_pos (List.eq_nil_of_length_eq_zero (by omega))] at hE
      subst hE
      exact hk st2 hb.1
    rw [if_neg (by rintro rfl; simp at g2)] at hE
    rw [Rd.lenS hu4]
    refine BIf_intro (fun g3 => ?_) fun g3 => ?_
    · rw [if_pos (by omega)] at hE
      subst hE
      exact hk st2 hb.1
    rw [if_neg (by omega)] at hE
    refine pline_ok hu2 (by omega) (by omega) fun st3 e3 => ?_
    have hb3 := hb.ext e3
    have hlen : ∀ t, lineV a q r = .ok t → t.length ≤ 2 * sumL r + 3 * r.length + 1 := fun t ht => (lineV_ok ht).2.2.2
    cases hlv : lineV a q r with
    | error e =>
      rw [hlv] at hE
      subst hE
      have he : e ≠ 0 := lineV_err hlv
      exact BIf_intro (fun _ => hk st3 hb3.1) fun h => absurd he h
    | ok t =>
      rw [hlv] at hE
      simp only at hE
      have hlt2 := hlen t hlv
      refine BIf_intro (fun h => absurd rfl h) fun _ => writeString_ok hb3 (by simp only [xT]; omega) fun st4 hb4 => ?_
      rw [w1 j (by omega)]
      refine ⟨⟨rfl, rfl, rfl, rfl, rfl, rfl, rfl, rfl, j + 1, out ++ t, rfl, by omega, hb4, ?_, by rw [List.length_append]; omega⟩, by dsimp only; omega⟩
      rw [← hE]
      cases textF a q (l.headD []).length (l.drop (j + 1)) <;> simp [textG]
  · rw [List.drop_of_length_le (by omega)] at hE
    simp only [textF, textG, List.append_nil] at hE
    have htl : out.length ≤ 1048576 := by
      subst hE
      have h0 : textF a q (l.headD []).length l = .ok out := hT
      have := (textF_len a q _ l h0).2
      omega
    refine builderLen_ok hb (BIf_intro (fun h => absurd h (by omega)) fun _ => ?_)
    refine builderString_ok hb (by omega) fun st4 e4 => ?_
    have := hk st4 e4
    rw [← hE] at this
    exact this
theorem rtext_ok {v : TV} {l : List (List (List UInt8))} {K : List UInt8 → Int → St → Prop} (hr : GridR TV.str v l) (hl : sumG l ≤ 100000) (hn : cntG l ≤ 100000) (hn2 : l.length ≤ 100000) (hk : ∀ st', StExt st st' → K (xT (textV a q l)) (xE (textV a q l)) st') :
    CallT PR fn_datakitref27_Text [v, .agg [.int .u8 a, .int .u8 q, .bool hd, .bool ty]] [.one .str, .one (.int .i64)] st K := by
  have tn : ∀ k : Nat, Int.toNat (k : Int) = k := fun k => rfl
  have w1 : ∀ k : Nat, k ≤ 100000000 → IntKind.i64.wrap ((k : Int) + 1) = ((k + 1 : Nat) : Int) := fun k hk => by rw [wrap64 _ (by omega) (by omega)]; omega
  generalize hT : textV a q l = T at hk
  unfold textV at hT
  obtain ⟨vs0, hr0⟩ := hr.rd
  refine vc_datakitref27_Text v a q hd ty st K (rdvalid_ok (BIf_bool (fun g => ?_) fun g => ?_))
  · rw [if_pos (by simpa using g)] at hT; subst hT; exact hk st (StExt.refl _)
  have gd : dOk a q = true := by simpa using g
  rw [if_neg (by rw [gd]; decide)] at hT
  refine ⟨fun out i v' n1 n2 b1 b2 st' => v = v' ∧ a = n1 ∧ q = n2 ∧ hd = b1 ∧ ty = b2 ∧ StExt st st' ∧ ∃ (j : Nat), i = (j : Int) ∧ j ≤ l.length ∧ textG out (textF a q (l.headD []).length (l.drop j)) = T ∧ out.length ≤ j * 600000,
    fun _ i _ _ _ _ _ _ => (l.length - i).toNat, ⟨rfl, rfl, rfl, rfl, rfl, StExt.refl _, 0, rfl, by omega, ?_, by simp⟩, ?_⟩
  · rw [List.drop_zero, hT]; cases T <;> rfl
  rintro out _ _ _ _ _ _ st2 ⟨rfl, rfl, rfl, rfl, rfl, e2, j, rfl, hj, hE, ho⟩
  refine need_intro hr0.isSl ?_
  rw [hr0.lenS, hr0.lenZ, tn]
  refine BIf_intro (fun g1 => ?_) fun g1 => ?_
  · have hlt : j < l.length := by omega
    have hget := List.getElem?_eq_getElem hlt
    have hdrop := List.drop_eq_getElem_cons hlt
    generalize l[j] = r at hget hdrop
    rw [hdrop] at hE
    have hs := sumG_mem hget
    obtain ⟨u, hu1, hu2⟩ := hr.ld st2 hget
    have hget0 : l[0]? = some (l.headD []) := by cases l with | nil => simp at hlt | cons d rs => rfl
    obtain ⟨u0, hu3, hu4⟩ := hr.ld st2 hget0
    obtain ⟨u5, hu5, hu6⟩ := hr.ld blindSt hget
    simp only [textF] at hE
    refine ⟨⟨by omega, by omega⟩, optK_intro hu1 (need_intro (Rd.isSl hu2) ?_)⟩
    rw [Rd.lenS hu2]
    have fin : (r = [] ∨ r.length = (l.headD []).length) → CallT PR fn_datakitref27_Line [u5, .agg [.int .u8 a, .int .u8 q, .bool hd, .bool ty]] [.one .str, .one (.int .i64)] st2 (fun s2 n4 st4 => BIf (decide (n4 ≠ 0)) (K [] n4 st4) (out.length + s2.length ≤ 9223372036854775807 ∧
        (v = v ∧ a = a ∧ q = q ∧ hd = hd ∧ ty = ty ∧ StExt st st4 ∧ ∃ (j' : Nat), IntKind.i64.wrap ((j : Int) + 1) = (j' : Int) ∧ j' ≤ l.length ∧ textG (out ++ s2) (textF a q (l.headD []).length (l.drop j')) = T ∧ (out ++ s2).length ≤ j' * 600000) ∧ (l.length - IntKind.i64.wrap ((j : Int) + 1)).toNat < ((l.length : Int) - (j : Int)).toNat)) := fun hcond => by
      rw [w1 j (by omega)]
      refine rline_ok hu6 (by omega) (by omega) fun st3 e3 => ?_
      have hlen : ∀ t, lineV a q r = .ok t → t.length ≤ 2 * sumL r + 3 * r.length + 1 := fun t ht => (lineV_ok ht).2.2.2
      by_cases hrn : r = []
      · rw [if_pos hrn] at hE
        subst hE
        have hlv : lineV a q r = .error 1 := by unfold lineV; rw [if_neg (by rw [gd]; decide), if_pos hrn]
        rw [hlv]
        exact BIf_intro (fun _ => hk st3 (e2.trans e3)) fun h => absurd (by decide) h
      rw [if_neg hrn, if_neg (by rcases hcond with h | h; exact absurd h hrn; omega)] at hE
      cases hlv : lineV a q r with
      | error e =>
        rw [hlv] at hE
        subst hE
        have he : e ≠ 0 := lineV_err hlv
        exact BIf_intro (fun _ => hk st3 (e2.trans e3)) fun h => absurd he h
      | ok t =>
        rw [hlv] at hE
        simp only at hE
        have hlt2 := hlen t hlv
        refine BIf_intro (fun h => absurd rfl h) fun _ => ⟨by simp only [xT]; omega, ⟨rfl, rfl, rfl, rfl, rfl, e2.trans e3, j + 1, rfl, by omega, ?_, by simp only [xT, List.length_append]; omega⟩, by omega⟩
        rw [← hE]
        cases textF a q (l.headD []).length (l.drop (j + 1)) <;> simp [textG, xT]
    refine BIf_intro (fun g2 => ?_) fun g2 => ⟨⟨by omega, by omega⟩, optK_intro hu5 (fin (.inl (List.eq_nil_of_length_eq_zero (by omega))))⟩
    refine ⟨⟨by omega, by omega⟩, optK_intro hu1 (need_intro (Rd.isSl hu2) ⟨⟨by omega, by omega⟩, optK_intro hu3 (need_intro (Rd.isSl hu4) ?_)⟩)⟩
    rw [Rd.lenS hu2, Rd.lenS hu4]
    refine BIf_intro (fun g3 => ?_) fun g3 => ⟨⟨by omega, by omega⟩, optK_intro hu5 (fin (.inr (by omega)))⟩
    rw [if_neg (by rintro rfl; simp at g2), if_pos (by omega)] at hE
    subst hE
    exact hk st2 e2
  · rw [List.drop_of_length_le (by omega)] at hE
    simp only [textF, textG, List.append_nil] at hE
    have htl : out.length ≤ 1048576 := by
      subst hE
      have h0 : textF a q (l.headD []).length l = .ok out := hT
      have := (textF_len a q _ l h0).2
      omega
    refine BIf_intro (fun h => absurd h (by omega)) fun _ => ?_
    have := hk st2 e2
    rw [← hE] at this
    exact this
end
end Go.TVF
end

section
set_option linter.unusedVariables false
set_option linter.unusedSimpArgs false
namespace Go.TVF
open Go Go.Proofs
theorem vlen_ascii : ∀ l : List UInt8, (l.all fun c => decide (c.toNat < 128)) = true → vlen l = l.length
  | [], _ => vlen_nil
  | c :: l, h => by
    simp only [List.all_cons, Bool.and_eq_true, decide_eq_true_eq] at h
    exact vlen_cons h.1 (vlen_ascii l h.2)
def ndA : Nd := .mk 1 [] [] [.mk 8 [] [] [.mk 5 [] [] [.mk 2 [] [97] [] [], .mk 11 [] [44] [] []] [], .mk 5 [] [] [.mk 2 [] [34, 98, 32, 34, 34, 99, 34, 34, 44, 32, 100, 34] [] []] []] []] []
theorem docA : docE (xU str28 44 34) true (str28.length + 1) [] 0 1 [] 0 = .ok (kidsOf ndA) := by kernel_rfl
theorem parseA : parseU str28 44 34 true = .ok ndA := by
  have hv : vlen str28 = str28.length := vlen_ascii _ (by decide)
  show parseV (xU str28 44 34) true 1048576 1024 65536 = _
  unfold parseV
  rw [if_neg (by decide), if_neg (by decide), if_neg (by decide), if_neg (by rw [show (xU str28 44 34).s = str28 from rfl, hv]; simp)]
  rw [show docE (xU str28 44 34) true ((xU str28 44 34).s.length + 1) [] 0 1 [] 0 = .ok (kidsOf ndA) from docA]
  rfl
theorem oursA : oursP ndA 44 34 true := by
  have h1 : ntext ndA = str28 := by decide
  refine ⟨?_, ?_⟩
  · unfold chkV
    have : chk ndA 1 0 = .ok 7 := by kernel_rfl
    rw [this]
    decide
  · rw [h1]; exact parseA
theorem lossless {s : List UInt8} {a q : Int} {hd : Bool} {n : Nd} (hl : s.length ≤ 70000) (h : parseU s a q hd = .ok n) : ntext n = s ∧ chkV n = 0 ∧ oursP n a q hd := by
  obtain ⟨rs, rfl, _, _, _, _, _, hr, _⟩ := parseV_inv h
  have ht : ntext (.mk 1 [] [] rs []) = s := by
    have := Recs.text hr (Nat.zero_le _)
    simp only [ntext, List.nil_append, List.append_nil]
    rw [this]; rfl
  have hlen : nlen (.mk 1 [] [] rs []) = s.length := by rw [← ntext_len, ht]
  have hc : chkV (.mk 1 [] [] rs []) = 0 := by
    have hs0 : (xU s a q).s.length = s.length := rfl
    obtain ⟨s', h1, h2, h3⟩ := chkL_recs hr (Nat.zero_le _) (s := 1) (by rw [hs0]; omega)
    have h4 : chk (.mk 1 [] [] rs []) 1 0 = .ok s' := by
      have l1 : leafB 1 = false := by decide
      simp only [chk, l1]
      rw [if_neg (by omega), if_neg (by omega), if_neg (by omega), if_neg (by simp)]
      exact h1
    unfold chkV
    rw [h4]
    simp only
    rw [if_neg (by omega)]
  exact ⟨ht, hc, hc, by rw [ht]; exact h⟩
theorem lineE_ne {s : List UInt8} {i : Nat} {p : Nat × Int} (h : lineE s i = .error p) : p.2 ≠ 0 := by
  obtain ⟨o, c⟩ := p
  rcases lineE_err h with h | h <;> simp [h.2]
theorem entE_ne {x : Cx} {hd : Bool} {i : Nat} {v : Int} {ns : List (List UInt8)} {p : Nat × Int} (h : entE x hd i v ns = .error p) : p.2 ≠ 0 := by
  have hR : ∀ v, entR x hd i v ns = .error p → p.2 ≠ 0 := fun v h => by
    unfold entR at h
    split at h
    · rename_i e he
      cases h
      exact cellE_err (o := p.1) (c := p.2) he
    · rename_i e he
      by_cases h1 : (if hd then 1024 else 65536) < (txt x.q (slc x.s i e)).length
      · rw [if_pos h1] at h; cases h; simp
      · by_cases h2 : hd = true ∧ txt x.q (slc x.s i e) ∈ ns
        · rw [if_neg h1, if_pos h2] at h; cases h; simp
        · rw [if_neg h1, if_neg h2] at h; cases h
  rw [entE_eq] at h
  split at h
  · exact hR v h
  · split at h
    · rename_i e he
      cases h
      exact begE_err (o := p.1) (c := p.2) he
    · exact hR _ h
theorem recE_ne {x : Cx} {num hd : Bool} {wid : Int} : ∀ (n : Nat) {acc : List Nd} {i : Nat} {v : Int} {ns : List (List UInt8)} {p : Nat × Int}, i ≤ x.s.length → x.s.length < i + n → recE x num wid hd n acc i v ns = .error p → p.2 ≠ 0
  | 0, acc, i, v, ns, p, h1, h2, h => by omega
  | n + 1, acc, i, v, ns, p, h1, h2, h => by
    rw [recE_succ] at h
    split at h
    · cases h; simp
    split at h
    · rename_i e he; cases h; exact entE_ne he
    · rename_i e v1 ns1 he
      have hle := entE_le h1 he
      split at h
      · exact recE_ne n (by omega) (by omega) h
      · split at h
        · rename_i e2 he2; cases h; exact lineE_ne he2
        · cases h
theorem recD_ne {x : Cx} {num hd : Bool} {wid : Int} {i : Nat} {v : Int} {ns : List (List UInt8)} {p : Nat × Int} (hi : i ≤ x.s.length) (h : recD x num wid hd i v ns = .error p) : p.2 ≠ 0 := by
  have hK : ∀ v, recK x.s num wid (recE x num wid hd (x.s.length + 1) [] i v ns) = .error p → p.2 ≠ 0 := fun v h => by
    unfold recK at h
    rcases hr : recE x num wid hd (x.s.length + 1) [] i v ns with e | ⟨e, v2, ns2, ks⟩
    · rw [hr] at h; cases h; exact recE_ne _ hi (by omega) hr
    · rw [hr] at h
      simp only at h
      cases hn7 : lineE x.s e with
      | error e2 => rw [hn7] at h; cases h; exact lineE_ne hn7
      | ok n7 =>
        rw [hn7] at h
        simp only at h
        by_cases hw : (ks.length : Int) < (if num then wid else (ks.length : Int))
        · rw [if_pos hw] at h; cases h; simp
        · rw [if_neg hw] at h; cases h
  rw [recD_eq] at h
  split at h
  · exact hK v h
  · split at h
    · rename_i e he; cases h; exact begE_err (o := p.1) (c := p.2) he
    · exact hK _ h
theorem docE_ne {x : Cx} {hdr : Bool} : ∀ (n : Nat) {acc : List Nd} {i : Nat} {v : Int} {ns : List (List UInt8)} {wid : Int} {p : Nat × Int}, i ≤ x.s.length → x.s.length < i + n → docE x hdr n acc i v ns wid = .error p → p.2 ≠ 0
  | 0, acc, i, v, ns, wid, p, h1, h2, h => by omega
  | n + 1, acc, i, v, ns, wid, p, h1, h2, h => by
    rw [docE_succ] at h
    split at h
    · cases h
    split at h
    · rename_i e he; cases h; exact recD_ne h1 he
    · rename_i i' v' ns' r wid' he
      have hle := recD_le (by omega) he
      exact docE_ne n (by omega) (by omega) h
theorem parseV_err {x : Cx} {hd : Bool} {l2 l3 l4 : Int} {p : Nat × Int} (h : parseV x hd l2 l3 l4 = .error p) : p.2 ≠ 0 := by
  unfold parseV at h
  split at h
  · cases h; simp
  split at h
  · cases h; simp
  split at h
  · cases h; simp
  split at h
  · cases h; simp
  split at h
  · rename_i e he; cases h; exact docE_ne _ (by omega) (by omega) he
  · cases h
section
variable {a q : Int} {hd ty : Bool} {st : St}
theorem rdUsual_ok {K : Int → Int → Bool → Bool → St → Prop} (hk : K 44 34 true true st) : CallT PR fn_datakitref27_Usual [] [.agg [.int .u8, .int .u8, .bool, .bool]] st K := vc_datakitref27_Usual st K hk
theorem pdUsual_ok {K : Int → Int → Bool → Bool → St → Prop} (hk : K 44 34 true true st) : CallT PR fn_delim_Usual [] [.agg [.int .u8, .int .u8, .bool, .bool]] st K := vc_delim_Usual st K hk
theorem dawake_ok {K : Bool → St → Prop} (hk : ∀ st', StExt st st' → K true st') : CallT PR fn_datakitlaw27_awake [] [.one .bool] st K := by
  refine vc_datakitlaw27_awake st K (rdUsual_ok (r20Usual_ok ?_))
  refine pparse_ok (x := xU str28 44 34) (by decide) fun k kv st1 e1 hn => ?_
  rw [show parseV (xU str28 44 34) true 1048576 1024 65536 = .ok ndA from parseA] at hn ⊢
  obtain ⟨_, _, _, _, _, h5, ho⟩ := hn.five
  cases h5
  refine need_intro (one5 ho) (precords_ok hn (by decide) (by decide) fun v st2 e2 hg => ?_)
  have ho' : oursP (pN (.ok ndA)) 44 34 true := oursA
  have hcv : cellsV (txt 34) (pN (.ok ndA)) 44 34 true = [[[97], str30]] := by
    unfold cellsV; rw [if_pos ho']; decide
  have hoe : oursE (pN (.ok ndA)) 44 34 true = 0 := by unfold oursE; rw [if_pos ho']
  rw [hcv] at hg
  rw [hoe]
  refine pquote_ok (by decide) ?_
  have hq : quoteV 44 34 str29 = .ok str31 := by
    have hv : vlen str29 = str29.length := vlen_ascii _ (by decide)
    unfold quoteV
    rw [if_neg (by decide), if_pos hv]
    have : quoC 44 34 str29 = str31 := by decide
    rw [this]
  rw [hq]
  obtain ⟨vs, hr⟩ := hg.rd
  obtain ⟨u, hu1, hu2⟩ := hg.ld st2 (i := 0) rfl
  refine BIf_intro (fun _ => BIf_intro (fun _ => need_intro hr.isSl ?_) fun h => absurd rfl h) fun h => absurd rfl h
  rw [hr.lenS, hr.lenZ]
  refine BIf_intro (fun _ => ⟨by decide, optK_intro hu1 (need_intro (Rd.isSl hu2) ?_)⟩) fun h => absurd rfl h
  rw [Rd.lenS hu2]
  refine BIf_intro (fun _ => ⟨by decide, optK_intro hu1 ?_⟩) fun h => absurd rfl h
  rw [Rd.lenZ hu2]
  refine ⟨by decide, optK_intro (hu2.ld st2 (i := 1) rfl) (decT_str ?_)⟩
  exact BIf_intro (fun _ => BIf_intro (fun _ => hk _ (e1.trans e2)) fun h => absurd rfl h) fun h => absurd rfl h
theorem lparses_ok {s : List UInt8} {l0 l1 l2 l3 l4 : Int} {K : Bool → St → Prop} (hk : ∀ st', StExt st st' → K true st') :
    CallT PR fn_datakitlaw27_DelimParses [.str s, .agg [.int .u8 a, .int .u8 q, .bool hd, .bool ty], .agg [.int .i64 l0, .int .i64 l1, .int .i64 l2, .int .i64 l3, .int .i64 l4]] [.one .bool] st K := by
  refine vc_datakitlaw27_DelimParses s a q hd ty l0 l1 l2 l3 l4 st K (BIf_intro (fun _ => dawake_ok hk) fun g => ?_)
  refine pparse_ok (x := ⟨s, a, q, l0, l1⟩) (by show s.length ≤ _; omega) fun k1 kv1 st1 e1 hn1 => ?_
  obtain ⟨_, _, _, _, _, h5, ho1⟩ := hn1.five
  cases h5
  refine need_intro (one5 ho1) (rparse_ok (x := ⟨s, a, q, l0, l1⟩) (by show s.length ≤ _; omega) fun k2 kv2 st2 e2 hn2 => ?_)
  obtain ⟨_, _, _, _, _, h5, ho2⟩ := hn2.five
  cases h5
  refine need_intro (one5 ho2) (rsame_ok _ _ hn1 hn2 (pN_cnt (by show s.length ≤ _; omega)) (fun _ => ?_) fun h => absurd rfl h)
  refine (show BIf true _ _ from BIf_intro (fun _ => BIf_intro (fun _ => dvalid_ok (rdvalid_ok ?_)) fun h => absurd rfl h) fun h => absurd rfl h)
  have : (dOk a q == dOk a q) = true := by simp
  refine BIf_bool (fun _ => pdUsual_ok (rdUsual_ok ?_)) fun h => by rw [this] at h; cases h
  exact (show BIf true _ _ from dawake_ok fun st3 e3 => hk _ ((e1.trans e2).trans e3))
theorem llossless_ok {s : List UInt8} {K : Bool → St → Prop} (hk : ∀ st', StExt st st' → K true st') :
    CallT PR fn_datakitlaw27_DelimLossless [.str s, .agg [.int .u8 a, .int .u8 q, .bool hd, .bool ty]] [.one .bool] st K := by
  have tn : ∀ k : Nat, Int.toNat (k : Int) = k := fun k => rfl
  have w1 : ∀ k : Nat, k ≤ 100000000 → IntKind.i64.wrap ((k : Int) + 1) = ((k + 1 : Nat) : Int) := fun k hk => by rw [wrap64 _ (by omega) (by omega)]; omega
  refine vc_datakitlaw27_DelimLossless s a q hd ty st K (BIf_intro (fun _ => dawake_ok hk) fun g => lUsual_ok ?_)
  refine pparse_ok (x := xU s a q) (by show s.length ≤ _; omega) fun k1 kv1 st1 e1 hn1 => ?_
  have hcn : ncnt (pN (parseU s a q hd)) ≤ 1000000000000000 := pN_cnt (by show s.length ≤ _; omega)
  rw [show parseV (xU s a q) hd 1048576 1024 65536 = parseU s a q hd from rfl] at hn1 ⊢
  cases hP : parseU s a q hd with
  | error e =>
    rw [hP] at hn1 hcn
    obtain ⟨_, _, _, _, _, h5, ho1⟩ := hn1.five
    cases h5
    have he : e.2 ≠ 0 := parseV_err hP
    refine need_intro (one5 ho1) (BIf_intro (fun _ => ?_) fun h => absurd he h)
    have hnil : NdC (.mk 0 [] [] [] []) [.int .i64 0, .str [], .str [], .nilSlice, .str []] := by unfold NdC; exact ⟨_, [], rfl, .inl ⟨rfl, rfl, rfl⟩, KidsC.nil⟩
    exact tsame_ok _ _ hn1 hnil hcn (fun _ => dawake_ok fun st3 e3 => hk _ (e1.trans e3)) fun h => absurd rfl h
  | ok n =>
    rw [hP] at hn1 hcn
    obtain ⟨hL1, hL2, hL3⟩ := lossless (by omega) hP
    obtain ⟨rs, rfl, _, _, _, _, _, hrec, _, W, hW⟩ := parseV_inv hP
    have hlen : nlen (.mk 1 [] [] rs []) = s.length := by rw [← ntext_len, hL1]
    have hn0 := hn1
    unfold pN NdC at hn1
    obtain ⟨kv, xs, h5, hr, hx⟩ := hn1
    cases h5
    refine need_intro (one5 hr.one) (BIf_intro (fun h => absurd rfl h) fun _ => ?_)
    refine precords_ok hn0 (by show nlen (.mk 1 [] [] rs []) ≤ _; omega) hcn fun v st2 e2 hg => ?_
    have hcv : cellsV (txt q) (pN (.ok (.mk 1 [] [] rs []))) a q hd = cellsT (txt q) rs := by unfold cellsV; rw [if_pos (show oursP (pN (.ok (.mk 1 [] [] rs []))) a q hd from hL3)]; rfl
    have hoe : oursE (pN (.ok (.mk 1 [] [] rs []))) a q hd = 0 := by unfold oursE; rw [if_pos (show oursP (pN (.ok (.mk 1 [] [] rs []))) a q hd from hL3)]
    rw [hcv] at hg
    rw [hoe]
    refine BIf_intro (fun h => absurd rfl h) fun _ => tCheck_ok hn0 (by show nlen (.mk 1 [] [] rs []) ≤ _; omega) hcn fun st3 e3 => ?_
    rw [show chkV (pN (.ok (.mk 1 [] [] rs []))) = 0 from hL2]
    refine BIf_intro (fun h => absurd rfl h) fun _ => tprint_ok hn0 (by show nlen (.mk 1 [] [] rs []) ≤ _; omega) hcn fun st4 e4 => ?_
    rw [show ntext (pN (.ok (.mk 1 [] [] rs []))) = s from hL1]
    obtain ⟨vs, hgr⟩ := hg.rd
    have hcl : (cellsT (txt q) rs).length = rs.length := by simp [cellsT]
    rw [hcl] at hgr
    refine BIf_intro (fun h => absurd rfl h) fun _ => need_intro hgr.isSl (need_intro hr.isSl ?_)
    rw [hgr.lenS, hr.lenS]
    have hkc := (kcnt_recs hrec (Nat.zero_le _)).2
    have hkc : rs.length ≤ s.length := hkc
    refine BIf_intro (fun h => absurd rfl h) fun _ => ⟨fun i v' k1 t1 t2 kv' t3 st' => v = v' ∧ kv1 = kv' ∧ StExt st st' ∧ ∃ j : Nat, i = (j : Int) ∧ j ≤ rs.length,
      fun i _ _ _ _ _ _ _ => (rs.length - i).toNat, ⟨rfl, rfl, ((e1.trans e2).trans e3).trans e4, 0, rfl, by omega⟩, ?_⟩
    rintro _ _ _ _ _ _ _ st5 ⟨rfl, rfl, e5, j, rfl, hj⟩
    refine need_intro hgr.isSl ?_
    rw [hgr.lenS, hgr.lenZ, tn]
    refine BIf_intro (fun g1 => ?_) fun g1 => dawake_ok fun st6 e6 => hk _ (e5.trans e6)
    have hlt : j < rs.length := by omega
    have hget := List.getElem?_eq_getElem hlt
    generalize rs[j] = r at hget
    have hrow : (cellsT (txt q) rs)[j]? = some ((kidsOf r).map fun k => txt q (entC k)) := by unfold cellsT; rw [List.getElem?_map, hget]; rfl
    obtain ⟨u, hu1, hu2⟩ := hg.ld st5 hrow
    obtain ⟨r0, hr0⟩ : ∃ r0, rs[0]? = some r0 := ⟨rs[0]'(by omega), List.getElem?_eq_getElem _⟩
    have hrow0 : (cellsT (txt q) rs)[0]? = some ((kidsOf r0).map fun k => txt q (entC k)) := by unfold cellsT; rw [List.getElem?_map, hr0]; rfl
    obtain ⟨u0, hu3, hu4⟩ := hg.ld st5 hrow0
    have hW1 := hW r (mem_of_get hget)
    have hW2 := hW r0 (mem_of_get hr0)
    obtain ⟨ks', t', hrf, hne, _⟩ := hrec.form (Nat.zero_le _) r (mem_of_get hget)
    have hne' : 1 ≤ (kidsOf r).length := by rw [hrf]; exact hne
    refine ⟨⟨by omega, by omega⟩, optK_intro hu1 (need_intro (Rd.isSl hu2) ?_)⟩
    rw [Rd.lenS hu2, List.length_map]
    refine BIf_intro (fun h => absurd h (by omega)) fun _ => ⟨⟨by omega, by omega⟩, optK_intro hu1 (need_intro (Rd.isSl hu2) ⟨⟨by omega, by omega⟩, optK_intro hu3 (need_intro (Rd.isSl hu4) ?_)⟩)⟩
    rw [Rd.lenS hu2, Rd.lenS hu4, List.length_map, List.length_map, hr.lenZ]
    obtain ⟨hp1, rc, w, ys, hrc, hld, hw, _, _⟩ := kid_fld hr hx hget
    refine BIf_intro (fun h => absurd h (by omega)) fun _ => ⟨⟨by omega, by omega⟩, need_intro hp1 (optK_intro (hld _) (need_intro hw.isSl ⟨⟨by omega, by omega⟩, optK_intro hu1 (need_intro (Rd.isSl hu2) ?_)⟩))⟩
    rw [hw.lenS, Rd.lenS hu2, List.length_map, w1 j (by omega)]
    exact BIf_intro (fun h => absurd rfl h) fun _ => ⟨⟨rfl, rfl, e5, j + 1, rfl, by omega⟩, by dsimp only; omega⟩
end
end Go.TVF
end

section
set_option linter.unusedVariables false
set_option linter.unusedSimpArgs false
namespace Go.TVF
open Go Go.Proofs
section
variable {a q : Int} {hd ty : Bool} {st : St}
theorem same_ok {v u : TV} {rows : List (List (List UInt8))} {K : Bool → St → Prop} (hv : GridR TV.str v rows) (hu : GridR TV.str u rows) (hl : rows.length ≤ 100000000) (hl2 : ∀ r ∈ rows, r.length ≤ 100000000) (hk : K true st) :
    CallT PR fn_datakitlaw27_same [v, u] [.one .bool] st K := by
  have tn : ∀ k : Nat, Int.toNat (k : Int) = k := fun k => rfl
  have w1 : ∀ k : Nat, k ≤ 100000000 → IntKind.i64.wrap ((k : Int) + 1) = ((k + 1 : Nat) : Int) := fun k hk => by rw [wrap64 _ (by omega) (by omega)]; omega
  obtain ⟨vs, rv⟩ := hv.rd
  obtain ⟨us, ru⟩ := hu.rd
  refine vc_datakitlaw27_same v u st K (need_intro rv.isSl (need_intro ru.isSl ?_))
  rw [rv.lenS, ru.lenS]
  refine BIf_intro (fun h => absurd rfl h) fun _ => ⟨fun i v' u' st' => v = v' ∧ u = u' ∧ st = st' ∧ ∃ j : Nat, i = (j : Int) ∧ j ≤ rows.length, fun i _ _ _ => (rows.length - i).toNat, ⟨rfl, rfl, rfl, 0, rfl, by omega⟩, ?_⟩
  rintro _ _ _ _ ⟨rfl, rfl, rfl, j, rfl, hj⟩
  refine need_intro rv.isSl ?_
  rw [rv.lenS, rv.lenZ, ru.lenZ, tn]
  refine BIf_intro (fun g => ?_) fun g => hk
  have hlt : j < rows.length := by omega
  have hget := List.getElem?_eq_getElem hlt
  generalize rows[j] = r at hget
  have hrl := hl2 r (List.mem_of_getElem? hget)
  obtain ⟨x, hx1, hx2⟩ := hv.ld st hget
  obtain ⟨y, hy1, hy2⟩ := hu.ld st hget
  refine ⟨⟨by omega, by omega⟩, optK_intro hx1 (need_intro (Rd.isSl hx2) ⟨⟨by omega, by omega⟩, optK_intro hy1 (need_intro (Rd.isSl hy2) ?_)⟩)⟩
  rw [Rd.lenS hx2, Rd.lenS hy2]
  refine BIf_intro (fun h => absurd rfl h) fun _ => ⟨fun k v' u' i st' => v = v' ∧ u = u' ∧ (j : Int) = i ∧ st = st' ∧ ∃ p : Nat, k = (p : Int) ∧ p ≤ r.length, fun k _ _ _ _ => (r.length - k).toNat, ⟨rfl, rfl, rfl, rfl, 0, rfl, by omega⟩, ?_⟩
  rintro _ _ _ _ _ ⟨rfl, rfl, rfl, rfl, p, rfl, hp⟩
  rw [rv.lenZ, ru.lenZ, tn, tn]
  refine ⟨⟨by omega, by omega⟩, optK_intro hx1 (need_intro (Rd.isSl hx2) ?_)⟩
  rw [Rd.lenS hx2]
  refine BIf_intro (fun g2 => ?_) fun g2 => ?_
  · have hlt2 : p < r.length := by omega
    have hget2 := List.getElem?_eq_getElem hlt2
    generalize r[p] = c at hget2
    refine ⟨⟨by omega, by omega⟩, optK_intro hx1 ?_⟩
    rw [Rd.lenZ hx2]
    refine ⟨⟨by omega, by omega⟩, optK_intro (hx2.ld st hget2) (decT_str ⟨⟨by omega, by omega⟩, optK_intro hy1 ?_⟩)⟩
    rw [Rd.lenZ hy2]
    refine ⟨⟨by omega, by omega⟩, optK_intro (hy2.ld st hget2) (decT_str (BIf_intro (fun h => absurd rfl h) fun _ => ?_))⟩
    rw [w1 p (by omega)]
    exact ⟨⟨rfl, rfl, rfl, rfl, p + 1, rfl, by omega⟩, by dsimp only; omega⟩
  · rw [w1 j (by omega)]
    exact ⟨⟨rfl, rfl, rfl, j + 1, rfl, by omega⟩, by dsimp only; omega⟩
theorem cellsV_len {α : Type} (g : List UInt8 → α) (n : Nd) (a q : Int) (hd : Bool) : (cellsV g n a q hd).length ≤ 100000000 ∧ ∀ r ∈ cellsV g n a q hd, r.length ≤ 100000000 := by
  unfold cellsV
  by_cases h : oursP n a q hd
  · rw [if_pos h]
    obtain ⟨rs, rfl, hform, hlen, hrl, hkl⟩ := ours_inv h
    refine ⟨by simp only [cellsT, recsOf, List.length_map]; omega, fun r hr => ?_⟩
    simp only [cellsT, recsOf, List.mem_map] at hr
    obtain ⟨r', hr', rfl⟩ := hr
    rw [List.length_map]
    have := (hkl r' hr').1
    omega
  · rw [if_neg h]; exact ⟨by simp, fun r hr => by simp at hr⟩
theorem lrecords_ok {n : Nd} {cs : List TV} (hc : NdC n cs) {K : Bool → St → Prop} (hk : ∀ st', StExt st st' → K true st') :
    CallT PR fn_datakitlaw27_DelimRecords [.agg cs, .agg [.int .u8 a, .int .u8 q, .bool hd, .bool ty]] [.one .bool] st K := by
  have tn : ∀ k : Nat, Int.toNat (k : Int) = k := fun k => rfl
  have w1 : ∀ k : Nat, k ≤ 100000000 → IntKind.i64.wrap ((k : Int) + 1) = ((k + 1 : Nat) : Int) := fun k hk => by rw [wrap64 _ (by omega) (by omega)]; omega
  obtain ⟨k, l, t, v, tl, rfl, _⟩ := hc.five
  refine vc_datakitlaw27_DelimRecords k l t v tl a q hd ty st K (small_ok hc (BIf_bool (fun g => dawake_ok hk) fun g => ?_))
  have g : 0 ≤ roomV n 600 10 1500 := by simpa using g
  have hcnt := roomV_cnt n (left := 600) (d := 10) (long := 1500) (by decide) g
  have hlen := roomV_len n (left := 600) (d := 10) (long := 1500) (by decide) g
  have hb1 : ncnt n ≤ 1000000000000000 := by omega
  have e1 : roomV n 600 10 ((1500 : Nat) : Int) = roomV n 600 10 1500 := rfl
  rw [e1] at hlen
  have hb2 : nlen n ≤ 100000000000000 := by omega
  refine precords_ok hc hb2 hb1 fun v1 st1 e1 g1 => rrecords_ok hc hb2 hb1 fun v2 st2 e2 g2 => pquotes_ok hc hb2 hb1 fun v3 st3 e3 g3 => rquotes_ok hc hb2 hb1 fun v4 st4 e4 g4 => ?_
  have hcl := cellsV_len (txt q) n a q hd
  have hql := cellsV_len (quotedB q) n a q hd
  have e14 := ((e1.trans e2).trans e3).trans e4
  refine same_ok g1 g2 hcl.1 hcl.2 ?_
  refine (show BIf false _ _ from BIf_intro (fun h => absurd rfl h) fun _ => BIf_intro (fun h => absurd rfl h) fun _ => ?_)
  generalize cellsV (quotedB q) n a q hd = rows at *
  obtain ⟨vs, rv⟩ := g3.rd
  obtain ⟨us, ru⟩ := g4.rd
  refine need_intro rv.isSl (need_intro ru.isSl ?_)
  rw [rv.lenS, ru.lenS]
  refine BIf_intro (fun h => absurd rfl h) fun _ => ⟨fun i v' u' st' => v3 = v' ∧ v4 = u' ∧ st4 = st' ∧ ∃ j : Nat, i = (j : Int) ∧ j ≤ rows.length, fun i _ _ _ => (rows.length - i).toNat, ⟨rfl, rfl, rfl, 0, rfl, by omega⟩, ?_⟩
  rintro _ _ _ _ ⟨rfl, rfl, rfl, j, rfl, hj⟩
  refine need_intro rv.isSl ?_
  rw [rv.lenS, rv.lenZ, ru.lenZ, tn]
  refine BIf_intro (fun g5 => ?_) fun g5 => dawake_ok fun st6 e6 => hk _ (e14.trans e6)
  have hlt : j < rows.length := by omega
  have hget := List.getElem?_eq_getElem hlt
  generalize rows[j] = r at hget
  have hrl := hql.2 r (List.mem_of_getElem? hget)
  obtain ⟨x, hx1, hx2⟩ := g3.ld st4 hget
  obtain ⟨y, hy1, hy2⟩ := g4.ld st4 hget
  refine ⟨⟨by omega, by omega⟩, optK_intro hx1 (need_intro (Rd.isSl hx2) ⟨⟨by omega, by omega⟩, optK_intro hy1 (need_intro (Rd.isSl hy2) ?_)⟩)⟩
  rw [Rd.lenS hx2, Rd.lenS hy2]
  refine BIf_intro (fun h => absurd rfl h) fun _ => ⟨fun k v' u' i st' => v3 = v' ∧ v4 = u' ∧ (j : Int) = i ∧ st4 = st' ∧ ∃ p : Nat, k = (p : Int) ∧ p ≤ r.length, fun k _ _ _ _ => (r.length - k).toNat, ⟨rfl, rfl, rfl, rfl, 0, rfl, by omega⟩, ?_⟩
  rintro _ _ _ _ _ ⟨rfl, rfl, rfl, rfl, p, rfl, hp⟩
  rw [rv.lenZ, ru.lenZ, tn, tn]
  refine ⟨⟨by omega, by omega⟩, optK_intro hx1 (need_intro (Rd.isSl hx2) ?_)⟩
  rw [Rd.lenS hx2]
  refine BIf_intro (fun g2 => ?_) fun g2 => ?_
  · have hlt2 : p < r.length := by omega
    have hget2 := List.getElem?_eq_getElem hlt2
    generalize r[p] = c at hget2
    refine ⟨⟨by omega, by omega⟩, optK_intro hx1 ?_⟩
    rw [Rd.lenZ hx2]
    refine ⟨⟨by omega, by omega⟩, optK_intro (hx2.ld st4 hget2) (decT_bool ⟨⟨by omega, by omega⟩, optK_intro hy1 ?_⟩)⟩
    rw [Rd.lenZ hy2]
    have hbb : (!(c == c)) = false := by simp
    refine ⟨⟨by omega, by omega⟩, optK_intro (hy2.ld st4 hget2) (decT_bool (BIf_bool (fun h => by rw [hbb] at h; cases h) fun _ => ?_))⟩
    rw [w1 p (by omega)]
    exact ⟨⟨rfl, rfl, rfl, rfl, p + 1, rfl, by omega⟩, by dsimp only; omega⟩
  · rw [w1 j (by omega)]
    exact ⟨⟨rfl, rfl, rfl, j + 1, rfl, by omega⟩, by dsimp only; omega⟩
/-- Whether records are few and short. -/
theorem lsmall_ok {v : TV} {l : List (List (List UInt8))} {K : Bool → St → Prop} (hv : GridR TV.str v l) (hk1 : sumG l ≤ 3000 → cntG l ≤ 200 → l.length ≤ 40 → K true st) (hk2 : K false st) :
    CallT PR fn_datakitlaw27_small [v] [.one .bool] st K := by
  have tn : ∀ k : Nat, Int.toNat (k : Int) = k := fun k => rfl
  have w1 : ∀ k : Nat, k ≤ 100000000 → IntKind.i64.wrap ((k : Int) + 1) = ((k + 1 : Nat) : Int) := fun k hk => by rw [wrap64 _ (by omega) (by omega)]; omega
  obtain ⟨vs, rv⟩ := hv.rd
  refine vc_datakitlaw27_small v st K ⟨fun cl by' i v' st' => v = v' ∧ st = st' ∧ ∃ j : Nat, i = (j : Int) ∧ j ≤ l.length ∧ j ≤ 40 ∧ cl = (cntG (l.take j) : Int) ∧ by' = (sumG (l.take j) : Int) ∧ cntG (l.take j) ≤ 200 ∧ sumG (l.take j) ≤ 3000, fun _ _ i _ _ => (l.length - i).toNat, ⟨rfl, rfl, 0, rfl, by omega, by omega, rfl, rfl, by simp [cntG], by simp [sumG]⟩, ?_⟩
  rintro _ _ _ _ _ ⟨rfl, rfl, j, rfl, hj, hj40, rfl, rfl, hc, hs⟩
  refine need_intro rv.isSl ?_
  rw [rv.lenS, rv.lenZ, tn]
  refine BIf_intro (fun g => BIf_intro (fun g2 => hk2) fun g2 => ?_) fun g => ?_
  case' refine_2 =>
    rw [List.take_of_length_le (by omega)] at hc hs
    exact hk1 hs hc (by omega)
  have hlt : j < l.length := by omega
  have hget := List.getElem?_eq_getElem hlt
  generalize l[j] = r at hget
  have hct : cntG (l.take (j + 1)) = cntG (l.take j) + r.length ∧ sumG (l.take (j + 1)) = sumG (l.take j) + sumL r := by
    rw [List.take_add_one, hget]
    generalize l.take j = a
    induction a with
    | nil => simp [cntG, sumG]
    | cons b a ih => simp only [Option.toList_some, List.cons_append, cntG, sumG] at ih ⊢; omega
  obtain ⟨x, hx1, hx2⟩ := hv.ld st hget
  refine ⟨⟨by omega, by omega⟩, optK_intro hx1 (need_intro (Rd.isSl hx2) ?_)⟩
  rw [Rd.lenS hx2, wrap64 (200 - (cntG (l.take j) : Int)) (by omega) (by omega)]
  refine BIf_intro (fun g3 => hk2) fun g3 => ⟨⟨by omega, by omega⟩, optK_intro hx1 (need_intro (Rd.isSl hx2) ?_)⟩
  rw [Rd.lenS hx2, wrap64 ((cntG (l.take j) : Int) + (r.length : Int)) (by omega) (by omega)]
  refine ⟨fun by' k v' cl i st' => v = v' ∧ ((cntG (l.take j) : Int) + (r.length : Int)) = cl ∧ (j : Int) = i ∧ st = st' ∧ ∃ p : Nat, k = (p : Int) ∧ p ≤ r.length ∧ by' = ((sumG (l.take j) + sumL (r.take p) : Nat) : Int) ∧ sumG (l.take j) + sumL (r.take p) ≤ 3000, fun _ k _ _ _ _ => (r.length - k).toNat, ⟨rfl, rfl, rfl, rfl, 0, rfl, by omega, by simp [sumL], by simp [sumL]; omega⟩, ?_⟩
  rintro _ _ _ _ _ _ ⟨rfl, rfl, rfl, rfl, p, rfl, hp, rfl, hps⟩
  rw [rv.lenZ, tn, tn]
  refine ⟨⟨by omega, by omega⟩, optK_intro hx1 (need_intro (Rd.isSl hx2) ?_)⟩
  rw [Rd.lenS hx2]
  refine BIf_intro (fun g4 => ?_) fun g4 => ?_
  · have hlt2 : p < r.length := by omega
    have hget2 := List.getElem?_eq_getElem hlt2
    generalize r[p] = c at hget2
    have hst := sumL_take r hget2
    refine ⟨⟨by omega, by omega⟩, optK_intro hx1 ?_⟩
    rw [Rd.lenZ hx2]
    refine ⟨⟨by omega, by omega⟩, optK_intro (hx2.ld st hget2) (decT_str ?_)⟩
    rw [wrap64 (3000 - ((sumG (l.take j) + sumL (r.take p) : Nat) : Int)) (by omega) (by omega)]
    refine BIf_intro (fun g5 => hk2) fun g5 => ⟨⟨by omega, by omega⟩, optK_intro hx1 ?_⟩
    rw [Rd.lenZ hx2]
    refine ⟨⟨by omega, by omega⟩, optK_intro (hx2.ld st hget2) (decT_str ?_)⟩
    rw [w1 p (by omega), wrap64 _ (by omega) (by omega)]
    exact ⟨⟨rfl, rfl, rfl, rfl, p + 1, rfl, by omega, by omega, by omega⟩, by dsimp only; omega⟩
  · have hpr : r.take p = r := List.take_of_length_le (by omega)
    rw [hpr] at hps ⊢
    rw [w1 j (by omega)]
    exact ⟨⟨rfl, rfl, j + 1, rfl, by omega, by omega, by omega, by omega, by omega, by omega⟩, by dsimp only; omega⟩
end
end Go.TVF
end

section
set_option linter.unusedVariables false
set_option linter.unusedSimpArgs false
namespace Go.TVF
open Go Go.Proofs
theorem textF_all (a q : Int) (w : Nat) : ∀ (l : List (List (List UInt8))) {t : List UInt8}, textF a q w l = .ok t → ∀ r ∈ l, r ≠ [] ∧ r.length = w ∧ allV r = true
  | [], t, h, r, hr => by cases hr
  | d :: rs, t, h, r, hr => by
    simp only [textF] at h
    split at h
    · cases h
    rename_i h1
    split at h
    · cases h
    rename_i h2
    split at h
    · cases h
    rename_i t1 h3
    split at h
    · cases h
    rename_i t2 h4
    rcases List.mem_cons.1 hr with rfl | hr
    · exact ⟨h1, Decidable.not_not.1 h2, (lineV_ok h3).2.1⟩
    · exact textF_all a q w rs h4 r hr
theorem textF_err (a q : Int) (w : Nat) : ∀ (l : List (List (List UInt8))) {e : Int}, textF a q w l = .error e → e ≠ 0
  | [], e, h => by cases h
  | d :: rs, e, h => by
    simp only [textF] at h
    split at h
    · cases h; decide
    split at h
    · cases h; decide
    split at h
    · rename_i e1 h1; cases h; exact lineV_err h1
    split at h
    · rename_i e2 h2; cases h; exact textF_err a q w rs h2
    · cases h
theorem textV_err {a q : Int} {l : List (List (List UInt8))} {e : Int} (h : textV a q l = .error e) : e ≠ 0 := by
  unfold textV at h
  by_cases h1 : dOk a q = false
  · rw [if_pos h1] at h; cases h; decide
  · rw [if_neg h1] at h; exact textF_err a q _ l h
theorem vlen_quoC {a q : Int} (h0 : 0 ≤ q) (h1 : q < 128) {s : List UInt8} (hv : vlen s = s.length) : vlen (quoC a q s) = (quoC a q s).length := by
  have hc := ofNat_q (q := q) h0 (by omega)
  unfold quoC
  split
  · exact vlen_cons (by omega) (vlen_append (vlen_dbl (by omega) _ s (Nat.le_refl _) hv) (vlen_cons (by omega) (by simp [vlen_nil])))
  · exact hv
theorem vlen_lineT {a q : Int} (ha0 : 0 ≤ a) (ha1 : a < 128) (h0 : 0 ≤ q) (h1 : q < 128) : ∀ (cs : List (List UInt8)), allV cs = true → vlen (lineT a q cs) = (lineT a q cs).length
  | [], _ => by simp only [lineT]; exact vlen_cons (by decide) (by simp [vlen_nil])
  | [c], h => by
    unfold allV at h
    simp only [List.all_cons, List.all_nil, Bool.and_true, decide_eq_true_eq] at h
    simp only [lineT]
    exact vlen_append (vlen_quoC h0 h1 h) (vlen_cons (by decide) (by simp [vlen_nil]))
  | c :: d :: r, h => by
    have h' : allV (d :: r) = true := by unfold allV at h ⊢; simp only [List.all_cons, Bool.and_eq_true] at h ⊢; exact h.2
    unfold allV at h
    simp only [List.all_cons, Bool.and_eq_true, decide_eq_true_eq] at h
    have ha := ofNat_q (q := a) ha0 (by omega)
    simp only [lineT]
    exact vlen_append (vlen_quoC h0 h1 h.1) (vlen_cons (by omega) (vlen_lineT ha0 ha1 h0 h1 (d :: r) h'))
theorem vlen_textT {a q : Int} (ha0 : 0 ≤ a) (ha1 : a < 128) (h0 : 0 ≤ q) (h1 : q < 128) : ∀ (l : List (List (List UInt8))), (∀ r ∈ l, allV r = true) → vlen (textT a q l) = (textT a q l).length
  | [], _ => by simp [textT, vlen_nil]
  | r :: rs, h => by
    have : textT a q (r :: rs) = lineT a q r ++ textT a q rs := by simp [textT]
    rw [this]
    exact vlen_append (vlen_lineT ha0 ha1 h0 h1 r (h r (List.mem_cons_self ..))) (vlen_textT ha0 ha1 h0 h1 rs fun r hr => h r (List.mem_cons_of_mem _ hr))
theorem textT_len (a q : Int) : ∀ l : List (List (List UInt8)), (textT a q l).length ≤ 2 * sumG l + 3 * cntG l + l.length
  | [] => by simp [textT]
  | r :: rs => by
    have ih := textT_len a q rs
    have h1 := lineP_len a q r
    have : textT a q (r :: rs) = lineT a q r ++ textT a q rs := by simp [textT]
    rw [this, lineT_eq]
    simp only [List.length_append, List.length_cons, List.length_nil, sumG, cntG]; omega
theorem sumL_mem {cs : List (List UInt8)} {c : List UInt8} (h : c ∈ cs) : c.length ≤ sumL cs := by
  induction cs with
  | nil => cases h
  | cons d r ih =>
    simp only [sumL]
    rcases List.mem_cons.1 h with rfl | h
    · omega
    · have := ih h; omega
theorem costL_of : ∀ (rs : List Nd) (l : List (List (List UInt8))) (f : List UInt8 → List UInt8), rs.map (fun r => (kidsOf r).map entC) = l.map (fun cs => cs.map f) → costL rs = (l.length : Int) + cntG l
  | [], [], f, h => by simp [costL, cntG]
  | [], _ :: _, f, h => by simp at h
  | _ :: _, [], f, h => by simp at h
  | r :: rs, c :: l, f, h => by
    simp only [List.map_cons, List.cons.injEq] at h
    have h1 := congrArg List.length h.1
    rw [List.length_map, List.length_map] at h1
    have ih := costL_of rs l f h.2
    simp only [costL, costR, cntG, List.length_cons]; omega
theorem back {a q : Int} (hd : dOk a q = true) {l : List (List (List UInt8))} {W : Nat} (h : ∀ r ∈ l, r ≠ [] ∧ r.length = W ∧ allV r = true) (hs : sumG l ≤ 3000) (hc : cntG l ≤ 200) (hl : l.length ≤ 40) :
    ∃ rs, parseU (textT a q l) a q false = .ok (.mk 1 [] [] rs []) ∧ cellsT (txt q) rs = l ∧ (textT a q l).length ≤ 10000 := by
  have hk := dOk_inv hd
  have hsp : specB 10 = false := by decide
  have ha10 : a ≠ 10 := by omega
  obtain ⟨rs, hr, hm⟩ := recs_textT (a := a) (q := q) (by omega) (by omega) (by omega) (by omega) (by omega) (by omega) (by omega) ha10 l [] fun cs hcs => (h cs hcs).1
  rw [List.nil_append, List.length_nil] at hr
  have hlen := textT_len a q l
  have hv := vlen_textT (a := a) (q := q) (by omega) (by omega) (by omega) (by omega) l fun r hr => (h r hr).2.2
  have hmem : ∀ r ∈ rs, ∃ cs ∈ l, (kidsOf r).map entC = cs.map (quoC a q) := by
    intro r hr1
    have : (kidsOf r).map entC ∈ rs.map (fun r => (kidsOf r).map entC) := List.mem_map.2 ⟨r, hr1, rfl⟩
    rw [hm] at this
    obtain ⟨cs, hcs, he⟩ := List.mem_map.1 this
    exact ⟨cs, hcs, he.symm⟩
  have hdoc := docE_of (x := xU (textT a q l) a q) (show (3 : Int) ≤ 48 by decide) (W := (W : Int)) hr ((textT a q l).length + 1) (acc := []) (v := 1) (ns := []) (wid := 0) (Nat.zero_le _) (by show (textT a q l).length < _; omega) (fun r hr1 k hk1 => by
      obtain ⟨cs, hcs, he⟩ := hmem r hr1
      have : entC k ∈ (kidsOf r).map entC := List.mem_map.2 ⟨k, hk1, rfl⟩
      rw [he] at this
      obtain ⟨c, hcc, hce⟩ := List.mem_map.1 this
      show (txt q (entC k)).length ≤ _
      rw [← hce, txt_quoC (by omega) (by omega)]
      have h1 := sumL_mem hcc
      obtain ⟨j, hj⟩ := List.getElem?_of_mem hcs
      have h2 := (sumG_mem hj).1
      omega) (fun h => absurd rfl h) (fun r hr1 => by
      obtain ⟨cs, hcs, he⟩ := hmem r hr1
      have h1 := congrArg List.length he
      rw [List.length_map, List.length_map, (h cs hcs).2.1] at h1
      omega) (by rw [costL_of rs l _ hm]; show _ ≤ (65536 : Int); omega)
  refine ⟨rs, ?_, ?_, by omega⟩
  · show parseV (xU (textT a q l) a q) false 1048576 1024 65536 = _
    unfold parseV
    rw [if_neg (show ¬ dOk a q = false by rw [hd]; decide), if_neg (show ¬ lOk 48 65536 1048576 1024 65536 = false by decide), if_neg (show ¬ (1048576 : Int) < ((textT a q l).length : Int) by omega), if_neg (show ¬ vlen (textT a q l) ≠ (textT a q l).length by rw [hv]; simp)]
    rw [show docE (xU (textT a q l) a q) false ((xU (textT a q l) a q).s.length + 1) [] 0 1 [] 0 = .ok ([] ++ rs) from hdoc]
    rfl
  · unfold cellsT
    have : (rs.map fun r => (kidsOf r).map fun k => txt q (entC k)) = (rs.map fun r => (kidsOf r).map entC).map fun cs => cs.map (txt q) := by
      rw [List.map_map]; congr 1; funext r; simp
    rw [this, hm, List.map_map]
    conv => rhs; rw [← List.map_id l]
    congr 1; funext cs
    simp only [Function.comp_apply, List.map_map, id]
    conv => rhs; rw [← List.map_id cs]
    congr 1; funext c
    exact txt_quoC (by omega) (by omega) c
section
variable {a q : Int} {hd ty : Bool} {st : St}
theorem ltexts_ok {s : List UInt8} {v : TV} {l : List (List (List UInt8))} (hv : GridR TV.str v l) {K : Bool → St → Prop} (hk : ∀ st', StExt st st' → K true st') :
    CallT PR fn_datakitlaw27_DelimTexts [.str s, v, .agg [.int .u8 a, .int .u8 q, .bool hd, .bool ty]] [.one .bool] st K := by
  obtain ⟨vs, rv⟩ := hv.rd
  refine vc_datakitlaw27_DelimTexts s v a q hd ty st K (BIf_intro (fun _ => dawake_ok hk) fun g => lsmall_ok hv (fun h1 h2 h3 => ?_) (show BIf true _ _ from dawake_ok hk))
  refine (show BIf false _ _ from pquote_ok (by omega) (rquoteC_ok (by omega) fun st1 e1 => ptext_ok hv (by omega) (by omega) (by omega) fun st2 e2 => rtext_ok hv (by omega) (by omega) (by omega) fun st3 e3 => ?_))
  have e13 := (e1.trans e2).trans e3
  refine BIf_intro (fun h => absurd rfl h) fun _ => BIf_intro (fun h => absurd rfl h) fun _ => BIf_intro (fun h => absurd rfl h) fun _ => BIf_intro (fun h => absurd rfl h) fun _ => need_intro rv.isSl ?_
  rw [rv.lenS, rv.lenZ]
  refine BIf_intro (fun g2 => ?_) fun g2 => ?_
  · have hget0 : l[0]? = some (l.headD []) := by cases l with | nil => simp at g2 | cons d rs => rfl
    have hs := sumG_mem hget0
    obtain ⟨u, hu1, hu2⟩ := hv.ld blindSt hget0
    refine ⟨⟨by omega, by omega⟩, optK_intro hu1 (pline_ok hu2 (by omega) (by omega) fun st4 e4 => ⟨⟨by omega, by omega⟩, optK_intro hu1 (rline_ok hu2 (by omega) (by omega) fun st5 e5 => ?_)⟩)⟩
    exact BIf_intro (fun _ => BIf_intro (fun _ => dawake_ok fun st6 e6 => hk _ (((e13.trans e4).trans e5).trans e6)) fun h => absurd rfl h) fun h => absurd rfl h
  · have hrow : RowR TV.str .nilSlice [] := .inl ⟨rfl, rfl, rfl⟩
    refine pline_ok hrow (by decide) (by decide) fun st4 e4 => ?_
    have hlv : lineV a q [] = .error 1 := by unfold lineV; by_cases h : dOk a q = false; rw [if_pos h]; rw [if_neg h, if_pos rfl]
    rw [hlv]
    exact BIf_intro (fun _ => BIf_intro (fun _ => dawake_ok fun st6 e6 => hk _ ((e13.trans e4).trans e6)) fun h => absurd rfl h) fun h => absurd rfl h
theorem lback_ok {s : List UInt8} {v : TV} {l : List (List (List UInt8))} (hv : GridR TV.str v l) {K : Bool → St → Prop} (hk : ∀ st', StExt st st' → K true st') :
    CallT PR fn_datakitlaw27_DelimBack [.str s, v, .agg [.int .u8 a, .int .u8 q, .bool hd, .bool ty]] [.one .bool] st K := by
  obtain ⟨vs, rv⟩ := hv.rd
  refine vc_datakitlaw27_DelimBack s v a q hd ty st K (BIf_intro (fun _ => dawake_ok hk) fun g => lsmall_ok hv (fun h1 h2 h3 => ?_) (show BIf true _ _ from dawake_ok hk))
  refine (show BIf false _ _ from ptext_ok hv (by omega) (by omega) (by omega) fun st1 e1 => ?_)
  -- the text of a tree that was read
  have read : ∀ (l' : List (List (List UInt8))) (W : Nat), dOk a q = true → (∀ r ∈ l', r ≠ [] ∧ r.length = W ∧ allV r = true) → sumG l' ≤ 3000 → cntG l' ≤ 200 → l'.length ≤ 40 → ∃ rs, parseV (xU (textT a q l') a q) false 1048576 1024 65536 = .ok (.mk 1 [] [] rs []) ∧ (textT a q l').length ≤ 10000 ∧
      cellsV (txt q) (.mk 1 [] [] rs []) a q false = l' ∧ oursE (.mk 1 [] [] rs []) a q false = 0 ∧ nlen (.mk 1 [] [] rs []) ≤ 10000 ∧ ncnt (.mk 1 [] [] rs []) ≤ 1000000000000000 := by
    intro l' W hd' h hs hc hl
    obtain ⟨rs, h1, h2, h3⟩ := back hd' h hs hc hl
    obtain ⟨h4, h5, h6⟩ := lossless (by omega) h1
    refine ⟨rs, h1, h3, by unfold cellsV; rw [if_pos h6]; exact h2, by unfold oursE; rw [if_pos h6], by rw [← ntext_len, h4]; exact h3, ?_⟩
    have := pN_cnt (x := xU (textT a q l') a q) (hd := false) (l2 := 1048576) (l3 := 1024) (l4 := 65536) (by show (textT a q l').length ≤ _; omega)
    rw [show parseV (xU (textT a q l') a q) false 1048576 1024 65536 = _ from h1] at this
    exact this
  refine BIf_intro (fun g2 => lUsual_ok ?_) fun g2 => ?_
  case' refine_1 =>
    obtain ⟨t, hT⟩ : ∃ t, textV a q l = .ok t := by
      cases hT : textV a q l with
      | error e => rw [hT] at g2; exact absurd g2 (textV_err hT)
      | ok t => exact ⟨t, rfl⟩
    rw [hT]
    have hdd : dOk a q = true := by
      unfold textV at hT
      cases hb : dOk a q with
      | true => rfl
      | false => rw [hb, if_pos rfl] at hT; cases hT
    have hT' : textF a q (l.headD []).length l = .ok t := by
      unfold textV at hT
      rwa [if_neg (by rw [hdd]; decide)] at hT
    have hte := (textF_len a q _ l hT').1
    obtain ⟨rs, p1, p2, p3, p4, p5, p6⟩ := read l _ hdd (textF_all a q _ l hT') h1 h2 h3
    simp only [xT]
    rw [hte]
    refine pparse_ok (x := xU (textT a q l) a q) (by show (textT a q l).length ≤ _; omega) fun k1 kv1 st2 e2 hn1 => ?_
    rw [p1] at hn1 ⊢
    obtain ⟨_, _, _, _, _, h5, ho1⟩ := hn1.five
    cases h5
    refine need_intro (one5 ho1) (precords_ok hn1 (by show nlen (.mk 1 [] [] rs []) ≤ _; omega) p6 fun v2 st3 e3 g3 => ?_)
    rw [show cellsV (txt q) (pN (.ok (.mk 1 [] [] rs []))) a q false = l from p3] at g3
    rw [show oursE (pN (.ok (.mk 1 [] [] rs []))) a q false = 0 from p4]
    refine BIf_intro (fun h => absurd rfl h) fun _ => BIf_intro (fun h => absurd rfl h) fun _ => ?_
    refine same_ok hv g3 (by omega) (fun r hr => by obtain ⟨j, hj⟩ := List.getElem?_of_mem hr; have := (sumG_mem hj).2; omega) ?_
    refine BIf_bool (fun h => by cases h) fun _ => ?_
    obtain ⟨sx, hsx⟩ : ∃ sx, sx = st3 := ⟨_, rfl⟩
    have ex : StExt st sx := by rw [hsx]; exact (e1.trans e2).trans e3
    rw [← hsx]
  case' refine_2 =>
    obtain ⟨sx, hsx⟩ : ∃ sx, sx = st1 := ⟨_, rfl⟩
    have ex : StExt st sx := by rw [hsx]; exact e1
    rw [← hsx]
  all_goals
    refine pquote_ok (by omega) ?_
    by_cases hdd : dOk a q = true
    · by_cases hvs : vlen s = s.length
      · have hq : quoteV a q s = .ok (quoC a q s) := by unfold quoteV; rw [if_neg (by rw [hdd]; decide), if_pos hvs]
        rw [hq]
        refine BIf_intro (fun h => absurd rfl h) fun _ => ?_
        have ht : quoC a q s ++ str27 = textT a q [[s]] := by simp [textT, lineT, str27]
        obtain ⟨rs, p1, p2, p3, p4, p5, p6⟩ := read [[s]] 1 hdd (fun r hr => by rw [List.mem_singleton] at hr; subst hr; exact ⟨by simp, rfl, by simp [allV, hvs]⟩) (by simp [sumG, sumL]; omega) (by simp [cntG]) (by simp)
        have hqc := quoC_len a q s
        simp only [xT]
        refine ⟨by show _ + 1 ≤ _; omega, lUsual_ok ?_⟩
        rw [ht]
        refine pparse_ok (x := xU (textT a q [[s]]) a q) (by show (textT a q [[s]]).length ≤ _; omega) fun k1 kv1 st2 e2 hn1 => ?_
        rw [p1] at hn1 ⊢
        obtain ⟨_, _, _, _, _, h5, ho1⟩ := hn1.five
        cases h5
        refine need_intro (one5 ho1) (precords_ok hn1 (by show nlen (.mk 1 [] [] rs []) ≤ _; omega) p6 fun v2 st3 e3 g3 => ?_)
        rw [show cellsV (txt q) (pN (.ok (.mk 1 [] [] rs []))) a q false = [[s]] from p3] at g3
        rw [show oursE (pN (.ok (.mk 1 [] [] rs []))) a q false = 0 from p4]
        obtain ⟨vs4, r4⟩ := g3.rd
        obtain ⟨u, hu1, hu2⟩ := g3.ld st3 (i := 0) rfl
        refine BIf_intro (fun _ => BIf_intro (fun _ => need_intro r4.isSl ?_) fun h => absurd rfl h) fun h => absurd rfl h
        rw [r4.lenS, r4.lenZ]
        refine BIf_intro (fun _ => ⟨⟨by omega, by simp⟩, optK_intro hu1 (need_intro (Rd.isSl hu2) ?_)⟩) fun h => absurd rfl h
        rw [Rd.lenS hu2]
        refine BIf_intro (fun _ => ⟨⟨by omega, by simp⟩, optK_intro hu1 ?_⟩) fun h => absurd rfl h
        rw [Rd.lenZ hu2]
        refine ⟨⟨by omega, by simp⟩, optK_intro (hu2.ld st3 (i := 0) rfl) (decT_str ?_)⟩
        exact BIf_intro (fun _ => dawake_ok fun st6 e6 => hk _ (((ex.trans e2).trans e3).trans e6)) fun h => absurd rfl h
      · have hq : quoteV a q s = .error 5 := by unfold quoteV; rw [if_neg (by rw [hdd]; decide), if_neg hvs]
        rw [hq]
        exact BIf_intro (fun _ => BIf_intro (fun _ => BIf_intro (fun h => absurd h (by decide)) fun _ => BIf_intro (fun _ => dawake_ok fun st6 e6 => hk _ (ex.trans e6)) fun h => absurd rfl h) fun h => absurd rfl h) fun h => absurd (by decide) h
    · have hq : quoteV a q s = .error 1 := by unfold quoteV; rw [if_pos (by simpa using hdd)]
      rw [hq]
      exact BIf_intro (fun _ => BIf_intro (fun _ => BIf_intro (fun _ => dawake_ok fun st6 e6 => hk _ (ex.trans e6)) fun h => absurd rfl h) fun h => absurd rfl h) fun h => absurd (by decide) h
end
end Go.TVF
end

section
set_option linter.unusedVariables false
set_option linter.unusedSimpArgs false
namespace Go.TVF
open Go Go.Proofs
/-- Whether a cell can be a name. -/
def nameB (c : List UInt8) : Bool := decide (c ≠ []) && (letB (by_ c 0) || decide (by_ c 0 = 95))
/-- Whether cells can be names of columns. -/
def namesB : List (List UInt8) → List (List UInt8) → Bool
  | _, [] => true
  | seen, c :: r => nameB c && !(decide (c ∈ seen)) && namesB (c :: seen) r
/-- One separator: the best so far. -/
def sniff1 (src : List UInt8) (sep : Int) (b : Nat × Int × Bool) : Nat × Int × Bool :=
  match parseU src sep 34 false with
  | .error _ => b
  | .ok n => match kidsOf n with
    | [] => b
    | r :: rs => if (kidsOf r).length ≤ b.1 then b else ((kidsOf r).length, sep, decide (1 ≤ rs.length) && namesB [] ((kidsOf r).map fun k => txt 34 (entC k)))
def seps : List Int := [44, 59, 9, 124]
def sniffF (src : List UInt8) : List Int → Nat × Int × Bool → Nat × Int × Bool
  | [], b => b
  | s :: r, b => sniffF src r (sniff1 src s b)
section
variable {st : St}
theorem named_ok {a q : Int} {hd ty : Bool} {n : Nd} {cs : List TV} {K : Bool → St → Prop} (hc : NdC n cs) (hf : ∀ k ∈ kidsOf n, EntF a q k ∧ (entC k).length ≤ 1000000) (hl : (kidsOf n).length ≤ 1000000)
    (hk : ∀ st', StExt st st' → K (namesB [] ((kidsOf n).map fun k => txt q (entC k))) st') :
    CallT PR fn_delim_named [.agg cs, .agg [.int .u8 a, .int .u8 q, .bool hd, .bool ty]] [.one .bool] st K := by
  have tn : ∀ k : Nat, Int.toNat (k : Int) = k := fun k => rfl
  have w1 : ∀ k : Nat, k ≤ 100000000 → IntKind.i64.wrap ((k : Int) + 1) = ((k + 1 : Nat) : Int) := fun k hk => by rw [wrap64 _ (by omega) (by omega)]; omega
  obtain ⟨k, l, t, ks, tl⟩ := n
  unfold NdC at hc
  obtain ⟨v, xs, rfl, hr, hx⟩ := hc
  simp only [kidsOf] at hf hl hk
  refine vc_delim_named k l t v tl a q hd ty st K (need_intro hr.isSl ?_)
  rw [hr.lenS]
  obtain ⟨m, hm⟩ : ∃ m, m = st.nb := ⟨_, rfl⟩
  rw [← hm]
  refine ⟨fun i sn v' n' a' q' b1 b2 st' => TV.map m = sn ∧ v = v' ∧ (ks.length : Int) = n' ∧ a = a' ∧ q = q' ∧ hd = b1 ∧ ty = b2 ∧ StExt st st' ∧ m < st'.nb ∧ ∃ (j : Nat) (es : List (List UInt8 × TV)) (seen : List (List UInt8)), i = (j : Int) ∧ j ≤ ks.length ∧ st'.box m = .map es ∧ MapN es seen ∧
      namesB [] (ks.map fun k => txt q (entC k)) = namesB seen ((ks.drop j).map fun k => txt q (entC k)),
    fun i _ _ _ _ _ _ _ _ => (ks.length - i).toNat, ⟨rfl, rfl, rfl, rfl, rfl, rfl, rfl, (StExt.refl st).push _ _, by rw [hm]; simp [St.push], 0, [], [], rfl, by omega, by rw [hm]; exact box_push _ _ _, fun t => by simp [findM], rfl⟩, ?_⟩
  rintro _ _ _ _ _ _ _ _ st1 ⟨rfl, rfl, rfl, rfl, rfl, rfl, rfl, e1, lm, j, es, seen, rfl, hj, hmb, hmn, hE⟩
  rw [hr.lenZ, tn]
  refine BIf_intro (fun g => ?_) fun g => ?_
  case' refine_2 =>
    rw [List.drop_of_length_le (by omega)] at hE
    have := hk st1 e1
    rw [hE] at this
    exact this
  have hlt : j < ks.length := by omega
  have hget := List.getElem?_eq_getElem hlt
  have hdrop := List.drop_eq_getElem_cons hlt
  generalize ks[j] = en at hget hdrop
  obtain ⟨hef, hel⟩ := hf en (mem_of_get hget)
  obtain ⟨ec, hec, hld⟩ := kid_ldc hr hx st1 hget
  obtain ⟨w, zs, rfl, hw, hpos, hwl, hwp⟩ := ent_ld hef hec
  rw [hdrop] at hE
  simp only [List.map_cons, namesB] at hE
  refine ⟨⟨by omega, by omega⟩, optK_intro hld (decA5 (need_intro (one5 hw.one) ?_))⟩
  rw [hw.lenZ]
  refine ⟨⟨by omega, by omega⟩, need_intro hwp (optK_intro (hwl _) (decT_str ?_))⟩
  have hcw : CellW q (entC en) := by
    obtain ⟨c, mark, rfl, hcw, _⟩ := hef
    exact hcw
  refine text_ok hcw (by omega) fun st2 e2 => ?_
  generalize txt q (entC en) = c at hE ⊢
  have e12 := e1.trans e2
  have no : (nameB c && !(decide (c ∈ seen)) && namesB (c :: seen) ((ks.drop (j + 1)).map fun k => txt q (entC k))) = false → K false st2 := fun h => by
    have := hk st2 e12
    rw [hE, h] at this
    exact this
  refine BIf_intro (fun g2 => no (by simp [nameB, g2])) fun g2 => ?_
  have hm2 : st2.box m = .map es := by rw [e2.box m lm]; exact hmb
  refine optK_intro (x := es) (by simp only [mapOf, hm2]) ?_
  rw [hmn]
  by_cases hin : c ∈ seen
  · rw [if_pos hin]
    exact decT_bool (BIf_bool (fun _ => no (by simp [hin])) fun h => by cases h)
  rw [if_neg hin]
  have hpos : 0 < c.length := List.length_pos_iff.2 g2
  refine decT_bool (BIf_bool (fun h => by cases h) fun _ => ⟨⟨by omega, by omega⟩, dletter_ok ?_⟩)
  have yes : nameB c = true → muK (.map m) c (.bool true) st2 fun st4 => ((TV.map m = TV.map m ∧ v = v ∧ (ks.length : Int) = (ks.length : Int) ∧ a = a ∧ q = q ∧ hd = hd ∧ ty = ty ∧ StExt st st4 ∧ m < st4.nb ∧ ∃ (j' : Nat) (es : List (List UInt8 × TV)) (seen : List (List UInt8)), IntKind.i64.wrap ((j : Int) + 1) = (j' : Int) ∧ j' ≤ ks.length ∧ st4.box m = .map es ∧ MapN es seen ∧
      namesB [] (ks.map fun k => txt q (entC k)) = namesB seen ((ks.drop j').map fun k => txt q (entC k))) ∧ ((ks.length : Int) - IntKind.i64.wrap ((j : Int) + 1)).toNat < ((ks.length : Int) - (j : Int)).toNat) := fun hn => by
    rw [w1 j (by omega)]
    refine ⟨es, hm2, ⟨rfl, rfl, rfl, rfl, rfl, rfl, rfl, e12.put (by omega) _, Nat.lt_of_lt_of_le lm e2.nb, j + 1, _, c :: seen, rfl, by omega, box_put _ _ _, hmn.add c, ?_⟩, by omega⟩
    rw [hE, hn]
    simp [hin]
  refine BIf_bool (fun hl2 => ⟨⟨by omega, by omega⟩, BIf_intro (fun g3 => no ?_) fun g3 => yes ?_⟩) fun hl2 => yes ?_
  · have : nameB c = false := by
      unfold nameB
      have hl3 : (!letB (by_ c 0)) = true := hl2
      have h1 : letB (by_ c 0) = false := by simpa using hl3
      have h2 : by_ c 0 ≠ 95 := g3
      simp [h1, h2]
    simp [this]
  · unfold nameB
    have h2 : by_ c 0 = 95 := Decidable.not_not.1 g3
    simp [h2, g2]
  · unfold nameB
    have hl3 : (!letB (by_ c 0)) = false := hl2
    have h1 : letB (by_ c 0) = true := by simpa using hl3
    simp [h1, g2]
theorem psniff_ok {src : List UInt8} {K : Int → Int → Bool → Bool → St → Prop} (hl : src.length ≤ 1500)
    (hk : ∀ st', StExt st st' → K (sniffF src seps (0, 44, true)).2.1 34 (sniffF src seps (0, 44, true)).2.2 true st') :
    CallT PR fn_delim_Sniff [.str src] [.agg [.int .u8, .int .u8, .bool, .bool]] st K := by
  have tn : ∀ k : Nat, Int.toNat (k : Int) = k := fun k => rfl
  have w1 : ∀ k : Nat, k ≤ 100000000 → IntKind.i64.wrap ((k : Int) + 1) = ((k + 1 : Nat) : Int) := fun k hk => by rw [wrap64 _ (by omega) (by omega)]; omega
  obtain ⟨vS, hvS⟩ : ∃ v, v = TV.list 1 .full 4 [.int .u8 44, .int .u8 59, .int .u8 9, .int .u8 124] := ⟨_, rfl⟩
  have hS : RowR (TV.int .u8) vS seps := by rw [hvS]; exact .inr ⟨_, rfl⟩
  refine vc_delim_Sniff src st K (pdUsual_ok ?_)
  rw [← hvS]
  refine ⟨fun mo i s' v' n' a q h t st' => src = s' ∧ vS = v' ∧ 4 = n' ∧ 34 = q ∧ true = t ∧ StExt st st' ∧ ∃ (j m : Nat), i = (j : Int) ∧ j ≤ 4 ∧ mo = (m : Int) ∧ sniffF src (seps.drop j) (m, a, h) = sniffF src seps (0, 44, true),
    fun _ i _ _ _ _ _ _ _ _ => (4 - i).toNat, ⟨rfl, rfl, by rw [Rd.lenS hS]; rfl, rfl, rfl, StExt.refl _, 0, 0, rfl, by omega, rfl, rfl⟩, ?_⟩
  rintro _ _ _ _ _ a _ h _ st1 ⟨rfl, rfl, rfl, rfl, rfl, e1, j, m, rfl, hj, rfl, hE⟩
  rw [Rd.lenZ hS, tn]
  refine BIf_intro (fun g => ?_) fun g => ?_
  case' refine_2 =>
    have : j = 4 := by omega
    subst this
    have := hk st1 e1
    rw [← hE] at this
    exact this
  have hlt : j < seps.length := by show j < 4; omega
  have hget := List.getElem?_eq_getElem hlt
  have hdrop := List.drop_eq_getElem_cons hlt
  generalize seps[j] = sp at hget hdrop
  rw [hdrop] at hE
  simp only [sniffF, sniff1] at hE
  have hsl : seps.length = 4 := rfl
  refine ⟨⟨by omega, by omega⟩, optK_intro (hS.ld st1 hget) (decT_int (lUsual_ok ?_))⟩
  refine pparse_ok (x := xU src sp 34) (by show src.length ≤ _; omega) fun k1 kv1 st2 e2 hn1 => ?_
  rw [show parseV (xU src sp 34) false 1048576 1024 65536 = parseU src sp 34 false from rfl] at hn1 ⊢
  rw [w1 j (by omega)]
  have e12 := e1.trans e2
  have same : ∀ m a h, sniffF src (seps.drop (j + 1)) (m, a, h) = sniffF src seps (0, 44, true) → ∀ st3, StExt st st3 → (src = src ∧ vS = vS ∧ (4 : Int) = 4 ∧ (34 : Int) = 34 ∧ true = true ∧ StExt st st3 ∧ ∃ (j' m' : Nat), ((j + 1 : Nat) : Int) = (j' : Int) ∧ j' ≤ 4 ∧ ((m : Nat) : Int) = (m' : Int) ∧ sniffF src (seps.drop j') (m', a, h) = sniffF src seps (0, 44, true)) ∧ ((4 : Int) - ((j + 1 : Nat) : Int)).toNat < ((4 : Int) - (j : Int)).toNat :=
    fun m a h hh st3 e3 => ⟨⟨rfl, rfl, rfl, rfl, rfl, e3, j + 1, m, rfl, by omega, rfl, hh⟩, by omega⟩
  cases hP : parseU src sp 34 false with
  | error e =>
    rw [hP] at hn1 hE
    obtain ⟨_, _, _, _, _, h5, ho1⟩ := hn1.five
    cases h5
    exact need_intro (one5 ho1) (BIf_intro (fun _ => same m a h hE st2 e12) fun h => absurd (parseV_err hP) h)
  | ok n =>
    obtain ⟨hL1, hL2, hL3⟩ := lossless (by omega) hP
    obtain ⟨rs, rfl, _, _, _, _, _, hrec, _, W, hW⟩ := parseV_inv hP
    rw [hP] at hn1 hE
    rw [show pN (.ok (.mk 1 [] [] rs [])) = .mk 1 [] [] rs [] from rfl] at hn1
    simp only [show kidsOf (.mk 1 [] [] rs []) = rs from rfl] at hE
    have hform := hrec.form (Nat.zero_le _)
    have hn0 := hn1
    unfold NdC at hn1
    obtain ⟨kv, xs, h5, hr, hx⟩ := hn1
    cases h5
    refine need_intro (one5 hr.one) (BIf_intro (fun h => absurd rfl h) fun _ => need_intro hr.isSl ?_)
    rw [hr.lenS]
    cases rs with
    | nil => exact BIf_intro (fun _ => same m a h hE st2 e12) fun h => absurd rfl h
    | cons r rs =>
      simp only at hE
      refine BIf_intro (fun h => by simp only [List.length_cons] at h; omega) fun _ => ?_
      rw [hr.lenZ]
      obtain ⟨hp1, rc, u, ys, hrc, hld, hu, hy, _⟩ := kid_fld hr hx (i := 0) (k := r) rfl
      refine ⟨⟨by omega, by simp only [List.length_cons]; omega⟩, need_intro hp1 (optK_intro (hld _) (need_intro hu.isSl ?_))⟩
      rw [hu.lenS]
      refine BIf_intro (fun g2 => ?_) fun g2 => ⟨⟨by omega, by simp only [List.length_cons]; omega⟩, need_intro hp1 (optK_intro (hld _) (need_intro hu.isSl (need_intro hr.isSl ?_)))⟩
      · rw [if_pos (by omega)] at hE
        exact same m a h hE st2 e12
      rw [if_neg (by omega)] at hE
      rw [hu.lenS]
      refine BIf_intro (fun g3 => ?_) fun g3 => ?_
      · obtain ⟨cs, hcs, hld2⟩ := kid_ldc hr hx blindSt (i := 0) (k := r) rfl
        obtain ⟨_, _, _, _, _, h5, ho2⟩ := hcs.five
        subst h5
        refine ⟨⟨by omega, by simp only [List.length_cons]; omega⟩, optK_intro hld2 (decA5 ?_)⟩
        obtain ⟨rs', hn', _, _, _, hkl⟩ := ours_inv hL3
        cases hn'
        have hkr := hkl r (List.mem_cons_self ..)
        have hrf := hform r (List.mem_cons_self ..)
        have hlr : nlen (.mk 1 [] [] (r :: rs) []) = src.length := by rw [← ntext_len, hL1]
        have hcnt := (kcnt_recs hrec (Nat.zero_le _)).1
        have hs0 : (xU src sp 34).s.length = src.length := rfl
        rw [hs0] at hcnt
        have hkk : (kidsOf r).length ≤ 1000000 := by
          have h1 := kcnt_mem (r :: rs) (i := 0) (n := r) rfl
          obtain ⟨a1, b1, c1, d1, f1⟩ := r
          have h2 := kcnt_len d1
          simp only [ncnt, kidsOf] at h1 ⊢
          omega
        refine named_ok hcs (fun k hk1 => ?_) hkk fun st3 e3 => ?_
        · obtain ⟨ks', t', hre, _, hents⟩ := hrf
          have hk2 : k ∈ ks' := by rw [hre] at hk1; exact hk1
          refine ⟨hents k hk2, ?_⟩
          obtain ⟨jj, hjj⟩ := List.getElem?_of_mem hk1
          have h1 := klen_mem (r :: rs) 0 r rfl
          have h3 : klen (kidsOf r) ≤ nlen r := by obtain ⟨a1, b1, c1, d1, f1⟩ := r; simp only [kidsOf, nlen]; omega
          have h4 := klen_mem (kidsOf r) jj k hjj
          have h5 : (entC k).length ≤ nlen k := by
            obtain ⟨c, mark, rfl, _, _⟩ := hents k hk2
            simp only [entC, kidsOf, nlen, klen]; omega
          simp only [nlen] at hlr
          omega
        · have hd1 : decide (1 ≤ rs.length) = true := decide_eq_true (by simp only [List.length_cons] at g3; omega)
          rw [hd1, Bool.true_and] at hE
          exact same _ _ _ hE st3 (e12.trans e3)
      · have hd1 : decide (1 ≤ rs.length) = false := decide_eq_false (by simp only [List.length_cons] at g3; omega)
        rw [hd1, Bool.false_and] at hE
        exact same _ _ _ hE st2 e12
end
end Go.TVF
end

section
set_option linter.unusedVariables false
set_option linter.unusedSimpArgs false
namespace Go.TVF
open Go Go.Proofs
theorem namesB_snoc (c : List UInt8) : ∀ (l seen : List (List UInt8)), namesB seen (l ++ [c]) = (namesB seen l && (nameB c && !(decide (c ∈ seen)) && !(decide (c ∈ l))))
  | [], seen => by simp [namesB]
  | d :: l, seen => by
    simp only [List.cons_append, namesB, namesB_snoc c l (d :: seen)]
    by_cases h1 : c = d
    · subst h1; simp
    · simp only [List.mem_cons, h1, false_or]
      cases nameB d <;> cases decide (d ∈ seen) <;> cases namesB (d :: seen) l <;> cases nameB c <;> cases decide (c ∈ seen) <;> cases decide (c ∈ l) <;> rfl
theorem sniff1_rel {src : List UInt8} {sp : Int} {b b' : Nat × Int × Bool} (h : b.1 = b'.1 ∧ (b.1 = 0 ∨ b = b') ∧ (b.1 = 0 → b.2 = (44, true))) :
    (sniff1 src sp b).1 = (sniff1 src sp b').1 ∧ ((sniff1 src sp b).1 = 0 ∨ sniff1 src sp b = sniff1 src sp b') ∧ ((sniff1 src sp b).1 = 0 → (sniff1 src sp b).2 = (44, true)) := by
  obtain ⟨h1, h2, h3⟩ := h
  unfold sniff1
  cases parseU src sp 34 false with
  | error e => exact ⟨h1, h2, h3⟩
  | ok n =>
    simp only
    cases kidsOf n with
    | nil => exact ⟨h1, h2, h3⟩
    | cons r rs =>
      simp only
      rw [← h1]
      by_cases hc : (kidsOf r).length ≤ b.1
      · rw [if_pos hc, if_pos hc]; exact ⟨h1, h2, h3⟩
      · rw [if_neg hc, if_neg hc]; exact ⟨rfl, .inr rfl, fun h => by simp only at h; omega⟩
theorem sniffF_rel (src : List UInt8) : ∀ (l : List Int) {b b' : Nat × Int × Bool}, (b.1 = b'.1 ∧ (b.1 = 0 ∨ b = b') ∧ (b.1 = 0 → b.2 = (44, true))) →
    (sniffF src l b).1 = (sniffF src l b').1 ∧ ((sniffF src l b).1 = 0 ∨ sniffF src l b = sniffF src l b') ∧ ((sniffF src l b).1 = 0 → (sniffF src l b).2 = (44, true))
  | [], b, b', h => h
  | s :: r, b, b', h => sniffF_rel src r (sniff1_rel h)
section
variable {st : St}
theorem rsniff_ok {src : List UInt8} {K : Int → Int → Bool → Bool → St → Prop} (hl : src.length ≤ 1500)
    (hk : ∀ st', StExt st st' → K (sniffF src seps (0, 44, true)).2.1 34 (sniffF src seps (0, 44, true)).2.2 true st') :
    CallT PR fn_datakitref27_Sniff [.str src] [.agg [.int .u8, .int .u8, .bool, .bool]] st K := by
  have tn : ∀ k : Nat, Int.toNat (k : Int) = k := fun k => rfl
  have w1 : ∀ k : Nat, k ≤ 100000000 → IntKind.i64.wrap ((k : Int) + 1) = ((k + 1 : Nat) : Int) := fun k hk => by rw [wrap64 _ (by omega) (by omega)]; omega
  have hrel := sniffF_rel src seps (b := (0, 44, true)) (b' := (0, 0, false)) ⟨rfl, .inl rfl, fun _ => rfl⟩
  generalize sniffF src seps (0, 44, true) = R at hk hrel
  obtain ⟨vS, hvS⟩ : ∃ v, v = TV.list 1 .full 4 [.int .u8 44, .int .u8 59, .int .u8 9, .int .u8 124] := ⟨_, rfl⟩
  have hS : RowR (TV.int .u8) vS seps := by rw [hvS]; exact .inr ⟨_, rfl⟩
  refine vc_datakitref27_Sniff src st K ?_
  rw [← hvS]
  refine ⟨fun mo i s' v' a q h t st' => src = s' ∧ vS = v' ∧ StExt st st' ∧ ∃ (j m : Nat), i = (j : Int) ∧ j ≤ 4 ∧ mo = (m : Int) ∧ (m ≠ 0 → q = 34 ∧ t = true) ∧ sniffF src (seps.drop j) (m, a, h) = sniffF src seps (0, 0, false),
    fun _ i _ _ _ _ _ _ _ => (4 - i).toNat, ⟨rfl, rfl, StExt.refl _, 0, 0, rfl, by omega, rfl, fun h => absurd rfl h, rfl⟩, ?_⟩
  rintro _ _ _ _ a q h t st1 ⟨rfl, rfl, e1, j, m, rfl, hj, rfl, hqt, hE⟩
  refine need_intro (Rd.isSl hS) ?_
  rw [Rd.lenS hS, Rd.lenZ hS, tn]
  have hsl : seps.length = 4 := rfl
  refine BIf_intro (fun g => ?_) fun g => ?_
  case' refine_2 =>
    have : j = 4 := by omega
    subst this
    rw [show sniffF src (seps.drop 4) (m, a, h) = (m, a, h) from rfl] at hE
    rw [← hE] at hrel
    simp only at hrel
    refine BIf_intro (fun g2 => rdUsual_ok ?_) fun g2 => ?_
    · have hm : R.1 = 0 := by omega
      have := hk st1 e1
      rw [hrel.2.2 hm] at this
      exact this
    · have hm : ¬ R.1 = 0 := by omega
      have hR : R = (m, a, h) := by rcases hrel.2.1 with h | h; exact absurd h hm; exact h
      obtain ⟨rfl, rfl⟩ := hqt (by omega)
      have := hk st1 e1
      rw [hR] at this
      exact this
  have hlt : j < seps.length := by omega
  have hget := List.getElem?_eq_getElem hlt
  have hdrop := List.drop_eq_getElem_cons hlt
  generalize seps[j] = sp at hget hdrop
  rw [hdrop] at hE
  simp only [sniffF, sniff1] at hE
  refine ⟨⟨by omega, by omega⟩, optK_intro (hS.ld st1 hget) (decT_int (r11Usual_ok ?_))⟩
  refine rparse_ok (x := xU src sp 34) (by show src.length ≤ _; omega) fun k1 kv1 st2 e2 hn1 => ?_
  rw [show parseV (xU src sp 34) false 1048576 1024 65536 = parseU src sp 34 false from rfl] at hn1 ⊢
  rw [w1 j (by omega)]
  have e12 := e1.trans e2
  have same : ∀ m a h q t, (m ≠ 0 → q = 34 ∧ t = true) → sniffF src (seps.drop (j + 1)) (m, a, h) = sniffF src seps (0, 0, false) → ∀ st3, StExt st st3 → (src = src ∧ vS = vS ∧ StExt st st3 ∧ ∃ (j' m' : Nat), ((j + 1 : Nat) : Int) = (j' : Int) ∧ j' ≤ 4 ∧ ((m : Nat) : Int) = (m' : Int) ∧ (m' ≠ 0 → q = (34 : Int) ∧ t = true) ∧ sniffF src (seps.drop j') (m', a, h) = sniffF src seps (0, 0, false)) ∧ ((4 : Int) - ((j + 1 : Nat) : Int)).toNat < ((4 : Int) - (j : Int)).toNat :=
    fun m a h q t hqt hh st3 e3 => ⟨⟨rfl, rfl, e3, j + 1, m, rfl, by omega, rfl, hqt, hh⟩, by omega⟩
  cases hP : parseU src sp 34 false with
  | error e =>
    rw [hP] at hn1 hE
    obtain ⟨_, _, _, _, _, h5, ho1⟩ := hn1.five
    cases h5
    exact need_intro (one5 ho1) (BIf_intro (fun _ => same m a h q t hqt hE st2 e12) fun h => absurd (parseV_err hP) h)
  | ok n =>
    obtain ⟨hL1, hL2, hL3⟩ := lossless (by omega) hP
    obtain ⟨rs, rfl, _, _, _, _, _, hrec, _, W, hW⟩ := parseV_inv hP
    rw [hP] at hn1 hE
    rw [show pN (.ok (.mk 1 [] [] rs [])) = .mk 1 [] [] rs [] from rfl] at hn1
    simp only [show kidsOf (.mk 1 [] [] rs []) = rs from rfl] at hE
    have hlr : nlen (.mk 1 [] [] rs []) = src.length := by rw [← ntext_len, hL1]
    have hcnt := (kcnt_recs hrec (Nat.zero_le _)).1
    have hs0 : (xU src sp 34).s.length = src.length := rfl
    rw [hs0] at hcnt
    have hn0 := hn1
    unfold NdC at hn1
    obtain ⟨kv, xs, h5, hr, hx⟩ := hn1
    cases h5
    refine need_intro (one5 hr.one) (BIf_intro (fun h => absurd rfl h) fun _ => need_intro hr.isSl ?_)
    rw [hr.lenS]
    cases rs with
    | nil => exact BIf_intro (fun _ => same m a h q t hqt hE st2 e12) fun h => absurd rfl h
    | cons r rs =>
      simp only at hE
      refine BIf_intro (fun h => by simp only [List.length_cons] at h; omega) fun _ => ?_
      rw [hr.lenZ]
      obtain ⟨hp1, rc, u, ys, hrc, hld, hu, hy, _⟩ := kid_fld hr hx (i := 0) (k := r) rfl
      refine ⟨⟨by omega, by simp only [List.length_cons]; omega⟩, need_intro hp1 (optK_intro (hld _) (need_intro hu.isSl ?_))⟩
      rw [hu.lenS]
      refine BIf_intro (fun g2 => ?_) fun g2 => ⟨⟨by omega, by simp only [List.length_cons]; omega⟩, need_intro hp1 (optK_intro (hld _) (need_intro hu.isSl (need_intro hr.isSl ?_)))⟩
      · rw [if_pos (by omega)] at hE
        exact same m a h q t hqt hE st2 e12
      rw [if_neg (by omega)] at hE
      rw [hu.lenS]
      refine rrecords_ok hn0 (by omega) (by simp only [ncnt]; omega) fun vG st3 e3 hg => ?_
      have hcv : cellsV (txt 34) (.mk 1 [] [] (r :: rs) []) sp 34 false = cellsT (txt 34) (r :: rs) := by unfold cellsV; rw [if_pos hL3]; rfl
      rw [hcv] at hg
      have hrow : (cellsT (txt 34) (r :: rs))[0]? = some ((kidsOf r).map fun k => txt 34 (entC k)) := rfl
      have hkk : (kidsOf r).length ≤ 1000000 := by
        have h1 := kcnt_mem (r :: rs) (i := 0) (n := r) rfl
        obtain ⟨a1, b1, c1, d1, f1⟩ := r
        have h2 := kcnt_len d1
        simp only [ncnt, kidsOf] at h1 ⊢
        omega
      have hrl : ((kidsOf r).map fun k => txt 34 (entC k)).length = (kidsOf r).length := by rw [List.length_map]
      generalize ((kidsOf r).map fun k => txt 34 (entC k)) = row at hrow hrl hE
      have e13 := e12.trans e3
      obtain ⟨vs, rg⟩ := hg.rd
      have hgl : (cellsT (txt 34) (r :: rs)).length = rs.length + 1 := by simp [cellsT]
      rw [hgl] at rg
      obtain ⟨uR, hu1, hu2⟩ := hg.ld st3 hrow
      refine ⟨fun k s' sp' mo i l' a' q' h' t' st' => src = s' ∧ vS = sp' ∧ ((kidsOf r).length : Int) = mo ∧ (j : Int) = i ∧ vG = l' ∧ sp = a' ∧ 34 = q' ∧ true = t' ∧ st3 = st' ∧ ∃ kk : Nat, k = (kk : Int) ∧ kk ≤ row.length ∧ h' = (decide (1 ≤ rs.length) && namesB [] (row.take kk)),
        fun k _ _ _ _ _ _ _ _ _ _ => (row.length - k).toNat, ⟨rfl, rfl, rfl, rfl, rfl, rfl, rfl, rfl, rfl, 0, rfl, by omega, ?_⟩, ?_⟩
      · simp only [List.take_zero, namesB, Bool.and_true]
        exact decide_eq_decide.2 (by simp only [List.length_cons]; omega)
      rintro _ _ _ _ _ _ _ _ hh _ _ ⟨rfl, rfl, rfl, rfl, rfl, rfl, rfl, rfl, rfl, kk, rfl, hkk2, rfl⟩
      rw [rg.lenZ]
      refine ⟨⟨by omega, by omega⟩, optK_intro hu1 (need_intro (Rd.isSl hu2) ?_)⟩
      rw [Rd.lenS hu2]
      refine BIf_intro (fun g5 => ?_) fun g5 => ?_
      case' refine_2 =>
        rw [List.take_of_length_le (by omega)]
        rw [w1 j (by omega)]
        exact same _ _ _ 34 true (fun _ => ⟨rfl, rfl⟩) hE st3 e13
      have hlt2 : kk < row.length := by omega
      have hget2 := List.getElem?_eq_getElem hlt2
      have htk : row.take (kk + 1) = row.take kk ++ [row[kk]] := by rw [List.take_add_one, hget2]; rfl
      generalize row[kk] = c at hget2 htk
      refine ⟨⟨by omega, by omega⟩, optK_intro hu1 ?_⟩
      rw [Rd.lenZ hu2, tn]
      refine ⟨⟨by omega, by omega⟩, optK_intro (hu2.ld st3 hget2) (decT_str ?_)⟩
      -- the flag behind this cell
      obtain ⟨T, hT⟩ : ∃ T, T = (decide (1 ≤ rs.length) && namesB [] (row.take (kk + 1))) := ⟨_, rfl⟩
      have hT2 : T = ((decide (1 ≤ rs.length) && namesB [] (row.take kk)) && (nameB c && !(decide (c ∈ row.take kk)))) := by
        rw [hT, htk, namesB_snoc]; simp [Bool.and_assoc]
      have hkl : (row.take kk).length = kk := by rw [List.length_take]; omega
      generalize hF0 : (decide (1 ≤ rs.length) && namesB [] (row.take kk)) = F0 at hT2
      have start : ∀ F, F = (F0 && nameB c) → T = (F && !(decide (c ∈ (row.take kk).drop 0))) := fun F hF => by rw [hT2, hF, List.drop_zero]; simp [Bool.and_assoc]
      refine BIf_intro (fun g6 => ?_) fun g6 => ⟨⟨by omega, by have := List.length_pos_iff.2 g6; omega⟩, letter_ok (BIf_bool (fun g7 => ⟨⟨by omega, by have := List.length_pos_iff.2 g6; omega⟩, BIf_intro (fun g8 => ?_) fun g8 => ?_⟩) fun g7 => ?_)⟩
      case' refine_1 => have hs := start false (by simp [nameB, g6])
      case' refine_2 =>
        have hs := start false (by
          have h1 : (!letB (by_ c 0)) = true := g7
          have h2 : by_ c 0 ≠ 95 := g8
          have h3 : letB (by_ c 0) = false := by simpa using h1
          simp [nameB, h2, h3])
      case' refine_3 =>
        have hs := start F0 (by
          have h2 : by_ c 0 = 95 := Decidable.not_not.1 g8
          simp [nameB, g6, h2])
      case' refine_4 =>
        have hs := start F0 (by
          have h1 : (!letB (by_ c 0)) = false := g7
          have h3 : letB (by_ c 0) = true := by simpa using h1
          simp [nameB, g6, h3])
      all_goals
        refine ⟨fun jx s' sp' mo i l' k' c' a' q' h' t' st' => src = s' ∧ vS = sp' ∧ ((kidsOf r).length : Int) = mo ∧ (j : Int) = i ∧ vG = l' ∧ (kk : Int) = k' ∧ c = c' ∧ sp = a' ∧ 34 = q' ∧ true = t' ∧ st3 = st' ∧ ∃ jj : Nat, jx = (jj : Int) ∧ jj ≤ kk ∧ T = (h' && !(decide (c ∈ (row.take kk).drop jj))),
          fun jx _ _ _ _ _ _ _ _ _ _ _ _ => (kk - jx).toNat, ⟨rfl, rfl, rfl, rfl, rfl, rfl, rfl, rfl, rfl, rfl, rfl, 0, rfl, by omega, hs⟩, ?_⟩
        rintro _ _ _ _ _ _ _ _ _ _ hf _ _ ⟨rfl, rfl, rfl, rfl, rfl, rfl, rfl, rfl, rfl, rfl, rfl, jj, rfl, hjj, hTT⟩
        refine BIf_intro (fun g9 => ?_) fun g9 => ?_
        · rw [w1 jj (by omega)]
          have hlt3 : jj < row.length := by omega
          have hget3 := List.getElem?_eq_getElem hlt3
          have hdr : (row.take kk).drop jj = row[jj] :: (row.take kk).drop (jj + 1) := by
            rw [List.drop_eq_getElem_cons (by omega)]
            congr 1
            rw [List.getElem_take]
          generalize row[jj] = c3 at hget3 hdr
          refine BIf_bool (fun g10 => ?_) fun g10 => ?_
          · rw [rg.lenZ]
            refine ⟨⟨by omega, by omega⟩, optK_intro hu1 ?_⟩
            rw [Rd.lenZ hu2, tn]
            refine ⟨⟨by omega, by omega⟩, optK_intro (hu2.ld st3 hget3) (decT_str ⟨⟨rfl, rfl, rfl, rfl, rfl, rfl, rfl, rfl, rfl, rfl, rfl, jj + 1, rfl, by omega, ?_⟩, by dsimp only; omega⟩)⟩
            rw [hTT, g10, hdr]
            by_cases hcc : c3 = c
            · subst hcc; simp
            · simp [hcc, Ne.symm hcc]
          · refine ⟨⟨rfl, rfl, rfl, rfl, rfl, rfl, rfl, rfl, rfl, rfl, rfl, jj + 1, rfl, by omega, ?_⟩, by dsimp only; omega⟩
            rw [hTT, g10]; simp
        · rw [w1 kk (by omega)]
          refine ⟨⟨rfl, rfl, rfl, rfl, rfl, rfl, rfl, rfl, rfl, kk + 1, rfl, by omega, ?_⟩, by dsimp only; omega⟩
          rw [List.drop_of_length_le (by omega)] at hTT
          rw [← hT, hTT]
          simp
theorem lsniffs_ok {s : List UInt8} {K : Bool → St → Prop} (hk : ∀ st', StExt st st' → K true st') : CallT PR fn_datakitlaw27_DelimSniffs [.str s] [.one .bool] st K := by
  refine vc_datakitlaw27_DelimSniffs s st K (BIf_intro (fun _ => dawake_ok hk) fun g => psniff_ok (by omega) fun st1 e1 => rsniff_ok (by omega) fun st2 e2 => ?_)
  refine BIf_bool (fun _ => dawake_ok fun st3 e3 => hk _ ((e1.trans e2).trans e3)) fun h => ?_
  simp at h
end
end Go.TVF
end

section
set_option linter.unusedVariables false
set_option linter.unusedSimpArgs false
namespace Go.TVF
open Go Go.Proofs
theorem KidsC.take {ks : List Nd} {xs : List TV} (h : KidsC ks xs) : ∀ k, KidsC (ks.take k) (xs.take (k * 5)) := by
  intro k
  induction ks generalizing xs k with
  | nil => unfold KidsC at h; subst h; simp [KidsC]
  | cons n r ih =>
    unfold KidsC at h
    obtain ⟨a, b, rfl, ha, hb⟩ := h
    cases k with
    | zero => simp [KidsC]
    | succ k =>
      rw [List.take_succ_cons]
      unfold KidsC
      have hl := ha.len
      refine ⟨a, b.take (k * 5), ?_, ha, ih hb k⟩
      rw [List.take_append, List.take_of_length_le (by omega), show (k + 1) * 5 - a.length = k * 5 by omega]
theorem Rd.cut {v : TV} {n : Nat} {xs : List TV} (h : Rd 5 v n xs) (k : Nat) (hk : k ≤ n) (hx : xs.length = 5 * n) : Rd 5 (slT 5 .non v 0 k) k (xs.take (k * 5)) := by
  rcases h with ⟨rfl, rfl, rfl⟩ | ⟨tip, rfl⟩
  · exact .inl ⟨rfl, by omega, by simp⟩
  · right
    refine ⟨.non, ?_⟩
    simp [slT]
theorem costL_take (rs : List Nd) : ∀ k, costL (rs.take k) ≤ costL rs := by
  induction rs with
  | nil => intro k; simp
  | cons r rs ih =>
    intro k
    cases k with
    | zero => simp only [List.take_zero, costL, costR]; have := costL_nonneg rs; omega
    | succ k => rw [List.take_succ_cons]; simp only [costL]; have := ih k; omega
theorem costL_snoc (r : Nd) : ∀ l : List Nd, costL (l ++ [r]) = costL l + costR r
  | [] => by simp [costL]
  | d :: l => by simp only [List.cons_append, costL, costL_snoc r l]; omega
theorem costH_nonneg (hd : Bool) (rs : List Nd) : 0 ≤ costH hd rs := by unfold costH; split <;> exact costL_nonneg _
theorem costH_step (hd : Bool) {rs : List Nd} {j : Nat} {r : Nd} (h : rs[j]? = some r) : costH hd (rs.take (j + 1)) = costH hd (rs.take j) + (if 0 < j ∨ hd = false then costR r else 0) := by
  rw [List.take_add_one, h]
  simp only [Option.toList_some]
  have hlt := (List.getElem?_eq_some_iff.1 h).1
  unfold costH
  cases hd with
  | false => simp only [Bool.false_eq_true, if_false, or_true, if_true]; exact costL_snoc r _
  | true =>
    simp only [if_true]
    by_cases hj : 0 < j
    · rw [if_pos (.inl hj)]
      have hne : rs.take j ≠ [] := by
        intro h0
        have := congrArg List.length h0
        rw [List.length_take, List.length_nil] at this; omega
      rw [List.tail_append_of_ne_nil hne, costL_snoc]
    · rw [if_neg (by simp [hj])]
      have : j = 0 := by omega
      subst this; simp
theorem Recs.bd {a q : Int} {s : List UInt8} {i : Nat} {rs : List Nd} (h : Recs a q s i rs) : i ≤ s.length → ∀ k, i + klen (rs.take k) = i ∨ i + klen (rs.take k) = s.length ∨ (i < i + klen (rs.take k) ∧ by_ s (i + klen (rs.take k) - 1) = 10) := by
  induction h with
  | nil h => intro hi k; left; simp [klen]
  | @cons i e n ks rs h1 h2 h3 ih =>
    intro hi k
    have hle := h2.le hi
    have hlo := lineE_ok (by omega) hle.2.2.2.2
    cases k with
    | zero => left; simp [klen]
    | succ k =>
      have hn : nlen (.mk 8 [] [] ks (slc s e (e + n))) = e + n - i := by
        have h5 := ktext_len ks
        rw [h2.text hi, slc_len (by omega) (by omega)] at h5
        have h6 := slc_len (s := s) (i := e) (e := e + n) (by omega) (by omega)
        simp only [nlen, List.length_nil]; omega
      have he : i + klen ((.mk 8 [] [] ks (slc s e (e + n)) :: rs : List Nd).take (k + 1)) = e + n + klen (rs.take k) := by
        rw [List.take_succ_cons, klen, hn]; omega
      rw [he]
      rcases ih (by omega) k with h | h | ⟨h, h'⟩
      · rcases Nat.eq_zero_or_pos n with h0 | h0
        · right; left
          have := hlo.2.1 h0
          omega
        · right; right
          refine ⟨by omega, ?_⟩
          rw [h]
          exact hlo.2.2.1 h0
      · exact .inr (.inl h)
      · exact .inr (.inr ⟨by omega, h'⟩)
theorem prefixes {s : List UInt8} {a q : Int} {rs : List Nd} (h : parseU s a q false = .ok (.mk 1 [] [] rs [])) (k : Nat) : klen (rs.take k) ≤ s.length ∧ parseU (s.take (klen (rs.take k))) a q false = .ok (.mk 1 [] [] (rs.take k) []) := by
  obtain ⟨rs', hn, hd, hlo, hlen, hv, hdoc, hrec, hsz, W, hW⟩ := parseV_inv h
  cases hn
  have ht := Recs.take hrec (Nat.zero_le _) k
  rw [Nat.zero_add] at ht
  have hs0 : (xU s a q).s = s := rfl
  rw [hs0] at ht hv hlen
  obtain ⟨hle, hrt⟩ := ht
  refine ⟨hle, ?_⟩
  have hl1 : (s.take (klen (rs.take k))).length = klen (rs.take k) := by rw [List.length_take]; omega
  have hbd := Recs.bd hrec (Nat.zero_le _) k
  rw [Nat.zero_add, hs0] at hbd
  have hvt : vlen (s.take (klen (rs.take k))) = klen (rs.take k) := by
    rcases hbd with h0 | h0 | ⟨h0, h1⟩
    · rw [h0, List.take_zero, vlen_nil]
    · rw [h0, List.take_length, hv]
    · refine vlen_cut _ s _ (Nat.le_refl _) hv ?_
      have hb := bd_after _ s (klen (rs.take k) - 1) (Nat.le_refl _) hv (by omega) (by
        unfold by_ at h1
        unfold bt
        omega)
      rwa [show klen (rs.take k) - 1 + 1 = klen (rs.take k) by omega] at hb
  obtain ⟨_, hcost⟩ : True ∧ costL rs ≤ 65535 := by
    obtain ⟨rs2, j1, _, _, _, j6⟩ := docE_inv _ (Nat.zero_le _) hdoc
    rw [List.nil_append] at j1
    subst j1
    simp only [Bool.false_and, costH, Bool.false_eq_true, if_false] at j6
    refine ⟨trivial, ?_⟩
    rcases j6 with h | ⟨_, h⟩
    · omega
    · have h2 : (xU s a q).nod = 65536 := rfl
      omega
  have hmem : ∀ r ∈ rs.take k, r ∈ rs := fun r hr => List.mem_of_mem_take hr
  have hdoc2 := docE_of (x := xU (s.take (klen (rs.take k))) a q) (show (3 : Int) ≤ 48 by decide) (W := W) hrt ((s.take (klen (rs.take k))).length + 1) (acc := []) (v := 1) (ns := []) (wid := 0) (Nat.zero_le _) (by show (s.take (klen (rs.take k))).length < _; omega)
    (fun r hr => hsz r (hmem r hr)) (fun h => absurd rfl h) (fun r hr => hW r (hmem r hr)) (by have := costL_take rs k; show _ ≤ (65536 : Int); omega)
  show parseV (xU (s.take (klen (rs.take k))) a q) false 1048576 1024 65536 = _
  unfold parseV
  have hd' : dOk a q = true := hd
  rw [if_neg (show ¬ dOk a q = false by rw [hd']; decide), if_neg (show ¬ lOk 48 65536 1048576 1024 65536 = false by decide), if_neg (show ¬ (1048576 : Int) < ((s.take (klen (rs.take k))).length : Int) by omega), if_neg (show ¬ vlen (s.take (klen (rs.take k))) ≠ (s.take (klen (rs.take k))).length by rw [hvt, hl1]; simp)]
  rw [show docE (xU (s.take (klen (rs.take k))) a q) false ((xU (s.take (klen (rs.take k))) a q).s.length + 1) [] 0 1 [] 0 = .ok ([] ++ rs.take k) from hdoc2]
  rfl
/-- What is read with other limits. -/
theorem relimit {s : List UInt8} {a q : Int} {hd : Bool} {rs : List Nd} (h : parseU s a q hd = .ok (.mk 1 [] [] rs [])) (d n b : Int) (hl : lOk d n b 0 0 = true) (hb : (s.length : Int) ≤ b) :
    ((costH hd rs = 0 ∨ 3 ≤ d) → 1 + costH hd rs ≤ n → parseV ⟨s, a, q, d, n⟩ hd b 0 0 = .ok (.mk 1 [] [] rs [])) ∧ (0 < costH hd rs → 3 ≤ d → n < 1 + costH hd rs → pE (parseV ⟨s, a, q, d, n⟩ hd b 0 0) = 10) ∧ (0 < costH hd rs → d = 2 → 1 + costH hd rs ≤ n → pE (parseV ⟨s, a, q, d, n⟩ hd b 0 0) = 9) := by
  obtain ⟨rs', hn, hdo, hlo, hlen, hv, hdoc, hrec, hsz, W, hW⟩ := parseV_inv h
  cases hn
  obtain ⟨rs2, j1, j2, j3, j4⟩ := docE_lim (d' := d) (n' := n) _ hdoc
  rw [List.nil_append] at j1
  subst j1
  rw [show (hd && ([] : List Nd).isEmpty) = hd by simp] at j2 j3 j4
  have he : parseV ⟨s, a, q, d, n⟩ hd b 0 0 = match docE ⟨s, a, q, d, n⟩ hd (s.length + 1) [] 0 1 [] 0 with
      | .error e => .error e
      | .ok rs => .ok (.mk 1 [] [] rs []) := by
    have hdo' : dOk a q = true := hdo
    have hv' : vlen s = s.length := hv
    conv => lhs; unfold parseV
    rw [if_neg (show ¬ dOk a q = false by rw [hdo']; decide), if_neg (show ¬ lOk d n b 0 0 = false by rw [hl]; decide), if_neg (show ¬ b < (s.length : Int) by omega), if_neg (show ¬ vlen s ≠ s.length by rw [hv']; simp)] <;> rfl
  refine ⟨fun g1 g2 => ?_, fun g0 g1 g2 => ?_, fun g0 g1 g2 => ?_⟩
  · have := j2 g1 g2
    rw [he, show docE ⟨s, a, q, d, n⟩ hd (s.length + 1) [] 0 1 [] 0 = .ok rs from this]
  · obtain ⟨o, ho⟩ := j3 g0 g1 g2
    rw [he, show docE ⟨s, a, q, d, n⟩ hd (s.length + 1) [] 0 1 [] 0 = .error (o, 10) from ho]; rfl
  · obtain ⟨o, ho⟩ := j4 g0 g1 g2
    rw [he, show docE ⟨s, a, q, d, n⟩ hd (s.length + 1) [] 0 1 [] 0 = .error (o, 9) from ho]; rfl
theorem costH_le {s : List UInt8} {a q : Int} {hd : Bool} {rs : List Nd} (h : parseU s a q hd = .ok (.mk 1 [] [] rs [])) : costH hd rs ≤ 65535 := by
  obtain ⟨rs', hn, _, _, _, _, hdoc, _⟩ := parseV_inv h
  cases hn
  obtain ⟨rs2, j1, _, _, _, j6⟩ := docE_inv _ (Nat.zero_le _) hdoc
  rw [List.nil_append] at j1
  subst j1
  rw [show (hd && ([] : List Nd).isEmpty) = hd by simp] at j6
  have h2 : (xU s a q).nod = 65536 := rfl
  rcases j6 with h | ⟨_, h⟩ <;> omega
theorem badLim {s : List UInt8} {a q d n b : Int} {hd : Bool} (hdo : dOk a q = true) (h : lOk d n b 0 0 = false) : pE (parseV ⟨s, a, q, d, n⟩ hd b 0 0) = 1 := by
  unfold parseV
  rw [if_neg (show ¬ dOk a q = false by rw [hdo]; decide), if_pos (show lOk d n b 0 0 = false from h)]; rfl
theorem badLen {s : List UInt8} {a q d n b : Int} {hd : Bool} (hdo : dOk a q = true) (h : lOk d n b 0 0 = true) (hb : b < s.length) : pE (parseV ⟨s, a, q, d, n⟩ hd b 0 0) = 10 := by
  unfold parseV
  rw [if_neg (show ¬ dOk a q = false by rw [hdo]; decide), if_neg (show ¬ lOk d n b 0 0 = false by rw [h]; decide), if_pos (show b < (s.length : Int) from hb)]; rfl
end Go.TVF
end

section
set_option linter.unusedVariables false
set_option linter.unusedSimpArgs false
namespace Go.TVF
open Go Go.Proofs
theorem llimits_ok {s : List UInt8} {a q C : Int} {hd ty : Bool} {st : St} (hC : (Lit.int .u8 C).wf = true) {K : Bool → St → Prop} (hk : ∀ st', StExt st st' → K true st') :
    CallT PR fn_datakitlaw27_DelimLimits [.str s, .agg [.int .u8 a, .int .u8 q, .bool hd, .bool ty], .int .u8 C] [.one .bool] st K := by
  have tn : ∀ k : Nat, Int.toNat (k : Int) = k := fun k => rfl
  have w1 : ∀ k : Nat, k ≤ 100000000 → IntKind.i64.wrap ((k : Int) + 1) = ((k + 1 : Nat) : Int) := fun k hk => by rw [wrap64 _ (by omega) (by omega)]; omega
  obtain ⟨c, hc, hc2⟩ : ∃ c : Nat, C = (c : Int) ∧ c ≤ 255 := by
    have h0 : 0 ≤ C ∧ C ≤ 255 := by
      simp only [Lit.wf, Bool.and_eq_true, decide_eq_true_eq] at hC
      exact hC
    exact ⟨C.toNat, by omega, by omega⟩
  subst hc
  have wc : IntKind.i64.wrap (c : Int) = (c : Int) := wrap64 _ (by omega) (by omega)
  refine vc_datakitlaw27_DelimLimits s a q hd ty c st K (BIf_intro (fun _ => dawake_ok hk) fun g => lUsual_ok ?_)
  refine pparse_ok (x := xU s a q) (by show s.length ≤ _; omega) fun k1 kv1 st1 e1 hn1 => ?_
  rw [show parseV (xU s a q) hd 1048576 1024 65536 = parseU s a q hd from rfl] at hn1 ⊢
  cases hP : parseU s a q hd with
  | error e =>
    rw [hP] at hn1
    obtain ⟨_, _, _, _, _, h5, ho1⟩ := hn1.five
    cases h5
    exact need_intro (one5 ho1) (BIf_intro (fun _ => dawake_ok fun st2 e2 => hk _ (e1.trans e2)) fun h => absurd (parseV_err hP) h)
  | ok n =>
    obtain ⟨hL1, hL2, hL3⟩ := lossless (by omega) hP
    obtain ⟨rs, rfl, hdo, _, _, _, _, hrec, _, W, hW⟩ := parseV_inv hP
    rw [hP] at hn1
    rw [show pN (.ok (.mk 1 [] [] rs [])) = .mk 1 [] [] rs [] from rfl] at hn1
    have hdo : dOk a q = true := hdo
    have hlen : nlen (.mk 1 [] [] rs []) = s.length := by rw [← ntext_len, hL1]
    have hcnt := kcnt_recs hrec (Nat.zero_le _)
    have hs0 : (xU s a q).s.length = s.length := rfl
    rw [hs0] at hcnt
    have hcH := costH_le hP
    have hcH0 := costH_nonneg hd rs
    have hn0 := hn1
    unfold NdC at hn1
    obtain ⟨kv, xs, h5, hr, hx⟩ := hn1
    cases h5
    refine need_intro (one5 hr.one) (BIf_intro (fun h => absurd rfl h) fun _ => ?_)
    -- how many records are cut off
    obtain ⟨k, hkd⟩ : ∃ k : Nat, k = c % (rs.length + 1) := ⟨_, rfl⟩
    have hkl : k ≤ rs.length := by rw [hkd]; have := Nat.mod_lt c (show 0 < rs.length + 1 by omega); omega
    have hmod : Int.tmod (c : Int) ((rs.length + 1 : Nat) : Int) = (k : Int) := by rw [hkd]; exact (Int.ofNat_tmod c (rs.length + 1)).symm
    have hkids : ∀ (j : Nat) (r : Nd), rs[j]? = some r → (kidsOf r).length ≤ 100000 ∧ nlen r ≤ 100000 ∧ ncnt r ≤ 100000 := fun j r hj => by
      have h1 := kcnt_mem rs hj
      have h2 := klen_mem rs j r hj
      simp only [nlen] at hlen
      obtain ⟨a1, b1, c1, d1, f1⟩ := r
      have h3 := kcnt_len d1
      simp only [ncnt, nlen, kidsOf] at h1 h2 ⊢
      omega
    refine ⟨fun at_ i s' c' a' q' b1 b2 k' t1 t2 kv' t3 dp nd by' al ex st' => s = s' ∧ (c : Int) = c' ∧ a = a' ∧ q = q' ∧ hd = b1 ∧ ty = b2 ∧ 1 = k' ∧ [] = t1 ∧ [] = t2 ∧ kv1 = kv' ∧ [] = t3 ∧ max 1 (s.length : Int) = by' ∧ 0 = al ∧ 0 = ex ∧ StExt st st' ∧
        ∃ j : Nat, i = (j : Int) ∧ j ≤ rs.length ∧ at_ = ((klen (rs.take (min j k)) : Nat) : Int) ∧ dp = (if 0 < costH hd (rs.take j) then 3 else 1) ∧ nd = 1 + costH hd (rs.take j),
      fun _ i _ _ _ _ _ _ _ _ _ _ _ _ _ _ _ _ _ => (rs.length - i).toNat, ⟨rfl, rfl, rfl, rfl, rfl, rfl, rfl, rfl, rfl, rfl, rfl, rfl, rfl, rfl, e1, 0, rfl, by omega, by simp [klen], by simp [costH, costL], by simp [costH, costL]⟩, ?_⟩
    rintro _ _ _ _ _ _ _ _ _ _ _ _ _ _ _ _ _ _ st2 ⟨rfl, rfl, rfl, rfl, rfl, rfl, rfl, rfl, rfl, rfl, rfl, rfl, rfl, rfl, e2, j, rfl, hj, rfl, rfl, rfl⟩
    refine need_intro hr.isSl ?_
    rw [hr.lenS, hr.lenZ, tn, wc, w1 rs.length (by omega), hmod]
    refine BIf_intro (fun g1 => ?_) fun g1 => ?_
    · have hlt : j < rs.length := by omega
      have hget := List.getElem?_eq_getElem hlt
      generalize rs[j] = r at hget
      obtain ⟨hp1, rc, u, ys, hrc, hld, hu, hy, _⟩ := kid_fld hr hx hget
      obtain ⟨cs, hcs, hld2⟩ := kid_ldc hr hx st2 hget
      obtain ⟨_, _, _, _, _, h5, ho2⟩ := hcs.five
      subst h5
      have hkr := hkids j r hget
      have hcs1 := costH_step hd hget
      have hcj0 := costH_nonneg hd (rs.take j)
      have hcjl : costH hd (rs.take j) ≤ 65535 := by
        have hT := costL_take rs j
        unfold costH at hcH ⊢
        cases hd with
        | false => simp only [Bool.false_eq_true, if_false] at hcH ⊢; omega
        | true =>
          simp only [if_true] at hcH ⊢
          have : (rs.take j).tail = rs.tail.take (j - 1) := by cases rs with | nil => simp | cons r0 rs0 => cases j with | zero => simp | succ j0 => simp
          rw [this]
          have := costL_take rs.tail (j - 1)
          omega
      have htake : klen (rs.take (j + 1)) = klen (rs.take j) + nlen r := klen_take rs j r hget
      have hnz : ((rs.length + 1 : Nat) : Int) ≠ 0 := by omega
      have hkk : (costR r : Int) = 1 + ((kidsOf r).length : Int) := rfl
      have hkt : klen (rs.take (min j k)) ≤ 100000 := by
        have := klen_split rs (min j k)
        simp only [nlen] at hlen
        omega
      -- the two ways
      have up : (0 < j ∨ hd = false) → (3 : Int) = (if 0 < costH hd (rs.take (j + 1)) then 3 else 1) ∧ IntKind.i64.wrap (1 + costH hd (rs.take j) + IntKind.i64.wrap (1 + ((kidsOf r).length : Int))) = 1 + costH hd (rs.take (j + 1)) := fun h => by
        rw [if_pos h] at hcs1
        rw [if_pos (by omega), wrap64 (1 + ((kidsOf r).length : Int)) (by omega) (by omega), wrap64 _ (by omega) (by omega)]
        exact ⟨rfl, by omega⟩
      have no : ¬ (0 < j ∨ hd = false) → costH hd (rs.take (j + 1)) = costH hd (rs.take j) := fun h => by rw [if_neg h] at hcs1; omega
      have cutA : j < k → IntKind.i64.wrap (((klen (rs.take (min j k)) : Nat) : Int) + ((nlen r : Nat) : Int)) = ((klen (rs.take (min (j + 1) k)) : Nat) : Int) := fun h => by
        rw [Nat.min_eq_left (by omega), Nat.min_eq_left (by omega), wrap64 _ (by rw [Nat.min_eq_left (by omega)] at hkt; omega) (by rw [Nat.min_eq_left (by omega)] at hkt; omega), htake]
        omega
      have cutB : ¬ j < k → klen (rs.take (min j k)) = klen (rs.take (min (j + 1) k)) := fun h => by rw [Nat.min_eq_right (by omega), Nat.min_eq_right (by omega)]
      rw [w1 j (by omega)]
      refine BIf_intro (fun g2 => ⟨⟨by omega, by omega⟩, need_intro hp1 (optK_intro (hld _) (need_intro hu.isSl (need_intro hr.isSl ?_)))⟩) fun g2 => BIf_bool (fun g3 => ⟨⟨by omega, by omega⟩, need_intro hp1 (optK_intro (hld _) (need_intro hu.isSl (need_intro hr.isSl ?_)))⟩) fun g3 => need_intro hr.isSl ?_
      case' refine_1 =>
        obtain ⟨u1, u2⟩ := up (.inl (by omega))
        rw [hu.lenS, u2]
      case' refine_2 =>
        obtain ⟨u1, u2⟩ := up (.inr (by simpa using g3))
        rw [hu.lenS, u2]
      case' refine_3 =>
        have u1 : (if 0 < costH hd (rs.take j) then (3 : Int) else 1) = (if 0 < costH hd (rs.take (j + 1)) then 3 else 1) := by rw [no (by rintro (h | h); omega; rw [h] at g3; simp at g3)]
        have u2 : 1 + costH hd (rs.take j) = 1 + costH hd (rs.take (j + 1)) := by rw [no (by rintro (h | h); omega; rw [h] at g3; simp at g3)]
      all_goals
        refine need_intro (decide_eq_true hnz) (BIf_intro (fun g4 => ⟨⟨by omega, by omega⟩, optK_intro hld2 (decA5 (tlen_ok r hcs (by omega) (by omega) ?_))⟩) fun g4 => ?_)
        · exact ⟨⟨rfl, rfl, rfl, rfl, rfl, rfl, rfl, rfl, rfl, rfl, rfl, rfl, rfl, rfl, e2, j + 1, rfl, by omega, cutA (by omega), by first | exact u1 | rfl, by first | exact u2 | rfl⟩, by dsimp only; omega⟩
        · exact ⟨⟨rfl, rfl, rfl, rfl, rfl, rfl, rfl, rfl, rfl, rfl, rfl, rfl, rfl, rfl, e2, j + 1, rfl, by omega, by rw [cutB (by omega)], by first | exact u1 | rfl, by first | exact u2 | rfl⟩, by dsimp only; omega⟩
    · have hjl : j = rs.length := by omega
      rw [hjl, List.take_length, Nat.min_eq_right hkl]
      generalize hcd : costH hd rs = cc at *
      obtain ⟨D, hD⟩ : ∃ D, D = (if 0 < cc then (3 : Int) else 1) := ⟨_, rfl⟩
      obtain ⟨B, hB⟩ : ∃ B, B = max 1 (s.length : Int) := ⟨_, rfl⟩
      rw [← hD, ← hB]
      have hD1 : 0 < cc → D = 3 := fun h => by rw [hD, if_pos h]
      have hD2 : ¬ 0 < cc → D = 1 := fun h => by rw [hD, if_neg h]
      have lok : ∀ d n b : Int, (1 ≤ d ∧ d ≤ 48 ∧ 1 ≤ n ∧ n ≤ 65536 ∧ 1 ≤ b ∧ b ≤ 1048576) → lOk d n b 0 0 = true := fun d n b h => by unfold lOk; exact decide_eq_true (by omega)
      have lno : ∀ d n b : Int, (d < 1 ∨ n < 1 ∨ b < 1) → lOk d n b 0 0 = false := fun d n b h => by unfold lOk; exact decide_eq_false (by omega)
      have hDr : 1 ≤ D ∧ D ≤ 3 := by by_cases h : 0 < cc; have := hD1 h; omega; have := hD2 h; omega
      have hBr : 1 ≤ B ∧ B ≤ 1500 ∧ (s.length : Int) ≤ B ∧ (1 < s.length → B = s.length) ∧ (¬ 1 < s.length → B = 1) := by omega
      have wD : IntKind.i64.wrap (D - 1) = D - 1 := wrap64 _ (by omega) (by omega)
      have wN : IntKind.i64.wrap (1 + cc - 1) = cc := by rw [wrap64 _ (by omega) (by omega)]; omega
      have wB : IntKind.i64.wrap (B - 1) = B - 1 := wrap64 _ (by omega) (by omega)
      rw [wD, wN, wB]
      have p1 : parseV ⟨s, a, q, D, 1 + cc⟩ hd B 0 0 = .ok (.mk 1 [] [] rs []) := by
        refine (relimit hP D (1 + cc) B (lok _ _ _ (by omega)) (by omega)).1 ?_ ?_
        · rw [hcd]
          by_cases h : 0 < cc
          · right; rw [hD1 h]; decide
          · left; omega
        · rw [hcd]; omega
      have p2 : pE (parseV ⟨s, a, q, D - 1, 1 + cc⟩ hd B 0 0) = if 0 < cc then 9 else 1 := by
        by_cases h : 0 < cc
        · rw [if_pos h]
          have h3 := hD1 h
          exact (relimit hP (D - 1) (1 + cc) B (lok _ _ _ (by omega)) (by omega)).2.2 (by rw [hcd]; exact h) (by omega) (by rw [hcd]; omega)
        · rw [if_neg h]
          have h3 := hD2 h
          exact badLim hdo (lno _ _ _ (by omega))
      have p3 : pE (parseV ⟨s, a, q, D, cc⟩ hd B 0 0) = if 0 < cc then 10 else 1 := by
        by_cases h : 0 < cc
        · rw [if_pos h]
          have h3 := hD1 h
          exact (relimit hP D cc B (lok _ _ _ (by omega)) (by omega)).2.1 (by rw [hcd]; exact h) (by omega) (by rw [hcd]; omega)
        · rw [if_neg h]
          exact badLim hdo (lno _ _ _ (by omega))
      have p4 : pE (parseV ⟨s, a, q, D, 1 + cc⟩ hd (B - 1) 0 0) = if 1 < s.length then 10 else 1 := by
        by_cases h : 1 < s.length
        · rw [if_pos h]
          have h3 := hBr.2.2.2.1 h
          exact badLen hdo (lok _ _ _ (by omega)) (by omega)
        · rw [if_neg h]
          have h3 := hBr.2.2.2.2 h
          exact badLim hdo (lno _ _ _ (by omega))
      have hsl : s.length ≤ 2000000 := by omega
      refine pparse_ok (x := ⟨s, a, q, D, 1 + cc⟩) hsl fun k2 kv2 st3 e3 hn2 => ?_
      rw [p1] at hn2 ⊢
      obtain ⟨_, _, _, _, _, h5, ho2⟩ := hn2.five
      cases h5
      refine need_intro (one5 ho2) (pparse_ok (x := ⟨s, a, q, D - 1, 1 + cc⟩) hsl fun k3 kv3 st4 e4 hn3 => ?_)
      obtain ⟨_, _, _, _, _, h5, ho3⟩ := hn3.five
      cases h5
      rw [p2]
      refine need_intro (one5 ho3) (pparse_ok (x := ⟨s, a, q, D, cc⟩) hsl fun k4 kv4 st5 e5 hn4 => ?_)
      obtain ⟨_, _, _, _, _, h5, ho4⟩ := hn4.five
      cases h5
      rw [p3]
      refine need_intro (one5 ho4) (pparse_ok (x := ⟨s, a, q, D, 1 + cc⟩) hsl fun k5 kv5 st6 e6 hn5 => ?_)
      obtain ⟨_, _, _, _, _, h5, ho5⟩ := hn5.five
      cases h5
      rw [p4]
      have e26 := (((e2.trans e3).trans e4).trans e5).trans e6
      refine need_intro (one5 ho5) (BIf_intro (fun h => absurd rfl h) fun _ => tsame_ok _ _ hn0 hn2 (by simp only [ncnt]; omega) (fun _ => ?_) fun h => absurd rfl h)
      refine BIf_bool (fun h => by cases h) fun _ => ?_
      have d9 : (if 0 < cc then (9 : Int) else 1) ≠ 9 → ¬ 0 < cc := fun h h2 => h (if_pos h2)
      have d1 : ∀ x : Int, (if 0 < cc then x else 1) ≠ 1 → 0 < cc := fun x h => Decidable.byContradiction fun h2 => h (if_neg h2)
      have d10 : (if 0 < cc then (10 : Int) else 1) ≠ 10 → ¬ 0 < cc := fun h h2 => h (if_pos h2)
      have b10 : (if 1 < s.length then (10 : Int) else 1) ≠ 10 → ¬ 1 < s.length := fun h h2 => h (if_pos h2)
      have b1 : (if 1 < s.length then (10 : Int) else 1) ≠ 1 → 1 < s.length := fun h => Decidable.byContradiction fun h2 => h (if_neg h2)
      have tail : ∀ st7, StExt st st7 → True := fun _ _ => trivial
      refine BIf_intro (fun g2 => BIf_intro (fun g3 => absurd g3 (by have := hD2 (d9 g2); omega)) fun g3 => BIf_intro (fun g4 => absurd (d1 9 g4) (d9 g2)) fun g4 => ?_) fun g2 => ?_
      all_goals refine BIf_intro (fun g2 => BIf_intro (fun g3 => absurd g3 (d10 g2)) fun g3 => BIf_intro (fun g4 => absurd (d1 10 g4) (d10 g2)) fun g4 => ?_) fun g2 => ?_
      all_goals refine BIf_intro (fun g2 => BIf_intro (fun g3 => absurd g3 (by have := hBr.2.2.2.2 (b10 g2); omega)) fun g3 => BIf_intro (fun g4 => absurd (b1 g4) (b10 g2)) fun g4 => ?_) fun g2 => ?_
      all_goals
        refine BIf_bool (fun h => BIf_bool (fun _ => dawake_ok fun st8 e8 => hk _ (e26.trans e8)) fun h2 => by rw [h] at h2; cases h2) fun hhd => ?_
        subst hhd
        obtain ⟨q1, q2⟩ := prefixes hP k
        refine BIf_intro (fun h => absurd h (by omega)) fun _ => ⟨⟨by omega, by omega⟩, lUsual_ok ?_⟩
        rw [tn]
        have hsl2 : (s.take (klen (rs.take k))).length ≤ 2000000 := by rw [List.length_take]; omega
        refine pparse_ok (x := xU (s.take (klen (rs.take k))) a q) hsl2 fun k6 kv6 st8 e8 hn6 => ?_
        rw [show parseV (xU (s.take (klen (rs.take k))) a q) false 1048576 1024 65536 = .ok (.mk 1 [] [] (rs.take k) []) from q2] at hn6 ⊢
        have hn7 := hn6
        unfold pN NdC at hn7
        obtain ⟨kv7, xs7, h5, hr7, hx7⟩ := hn7
        cases h5
        have htl : (rs.take k).length = k := by rw [List.length_take]; omega
        refine need_intro (one5 hr7.one) (need_intro hr.isSl (need_intro (decide_eq_true (by omega)) (BIf_intro (fun _ => need_intro hr7.isSl ?_) fun h => absurd rfl h)))
        rw [hr7.lenS, htl, tn]
        have hcut := hr.cut k hkl hx.len
        refine BIf_intro (fun _ => ⟨⟨hr.isLst, by omega, by omega⟩, need_intro (one1 hcut.one) ?_⟩) fun h => absurd rfl h
        have hn8 : NdC (.mk 1 [] [] (rs.take k) []) [.int .i64 1, .str [], .str [], slT 5 .non kv1 0 k, .str []] := by
          unfold NdC; exact ⟨_, _, rfl, by rw [htl]; exact hcut, hx.take k⟩
        refine tsame_ok _ _ hn6 hn8 ?_ (fun _ => ?_) fun h => absurd rfl h
        · have := pN_cnt (x := xU (s.take (klen (rs.take k))) a q) (hd := false) (l2 := 1048576) (l3 := 1024) (l4 := 65536) hsl2
          rw [show parseV (xU (s.take (klen (rs.take k))) a q) false 1048576 1024 65536 = .ok (.mk 1 [] [] (rs.take k) []) from q2] at this
          exact this
        · exact (show BIf true _ _ from dawake_ok fun st9 e9 => hk _ ((e26.trans e8).trans e9))
end Go.TVF
end

section
namespace Go.TVF
open Go Go.Proofs Go.ChangeShapes
set_option linter.unusedVariables false
section
variable {H : Type} {enc : TypeId × Value → H} {P : Program} {w : World} {base : Nat} {held : Bool}
/-- With this fuel, the cells of a value of this type open to cells of this look. -/
def Op (enc : TypeId × Value → H) (P : Program) (w : World) (base : Nat) (held : Bool) (n c : Nat) (S : List TV → Prop) (e : TypeId) : Prop :=
  P.cellsOf e = c ∧ ∀ vs x, DataW.trod enc P w base (fun _ => true) held n e vs = some x → ∃ tv, RelL (Ghost.start w) w tv vs ∧ tv.length = c ∧ S tv
theorem op_cell {n : Nat} {c : CTy} {e : TypeId} (h : CellTy P c e) (hc : P.cellsOf e = 1) : Op enc P w base held n 1 (flatIs [c]) e := ⟨hc, fun vs x hd => by
  obtain ⟨v, u, rfl, hr, hf⟩ := open_cell (Ghost.start w) h hd
  exact ⟨[v], .cons hr (.nil _ _), rfl, hf⟩⟩
/-- A slice that came in: its elements' cells, one after another. -/
def SlS (c : Nat) (S : List TV → Prop) (v : TV) : Prop :=
  v = .nilSlice ∨ ∃ cks : List (List TV), v = .list c .non cks.length cks.flatten ∧ ∀ ck, ck ∈ cks → ck.length = c ∧ S ck
theorem op_slice {n c : Nat} {S : List TV → Prop} {t e : TypeId} (ht : P.underlying t = some (.slice e)) (ht1 : P.cellsOf t = 1) (hc1 : 1 ≤ c) (hE : ∀ m, m < n → Op enc P w base held m c S e) :
    Op enc P w base held n 1 (fun tv => ∃ v, tv = [v] ∧ SlS c S v) t := by
  refine ⟨ht1, fun vs x h => ?_⟩
  rcases DataW.trod_slice ht h with ⟨rfl, _⟩ | ⟨a, len, cap, elems, rest, m, rfl, rfl, rfl, hb, hl, hm, hel, hi, hsp, _⟩
  · exact ⟨[.nilSlice], .cons .nilSlice (.nil _ _), rfl, _, rfl, .inl rfl⟩
  · obtain ⟨hcE, hE⟩ := hE m (by omega)
    rw [hcE] at hi hsp
    by_cases hcap : cap = 0
    · subst hcap
      obtain rfl : len = 0 := by omega
      exact ⟨[.list c .non 0 []], .cons (.listE _ _ _ (fun id h => by cases h)) (.nil _ _), rfl, _, rfl, .inr ⟨[], rfl, fun ck h => by cases h⟩⟩
    · obtain ⟨b, o, spot⟩ := a
      have hspot : spot = none := by
        have key : ∀ (i : Nat) (l : List (DataW H × List MemPlace)) (k : Nat), k < l.length → i = 0 → (w.cells? base ((⟨b, o, spot⟩ : Addr).add (i * c)) c).bind (DataW.trod enc P w base (fun _ => true) held m e) = l[k]? → spot = none := by
          intro i l k hk hi0 h
          subst hi0
          rw [List.getElem?_eq_getElem hk] at h
          obtain ⟨vs, h1, _⟩ := Option.bind_eq_some_iff.1 h
          obtain ⟨_, hvl, hvc⟩ := World.cells?_some h1
          have := World.cell?_spot ((hvc 0 (by omega)).trans (List.getElem?_eq_getElem (show 0 < vs.length by omega)))
          rw [Nat.zero_mul] at this
          exact this
        by_cases h0 : 0 < len
        · exact key 0 elems 0 (by omega) rfl (hi 0 h0)
        · obtain ⟨hr, hs⟩ := hsp rfl
          exact key _ rest 0 (by omega) (by omega) (hs 0 (by omega))
      subst hspot
      have each : ∀ i, i < len → ∃ tv vs, RelL (Ghost.start w) w tv vs ∧ tv.length = c ∧ S tv ∧ vs.length = c ∧ ∀ j, j < c → w.cell? ⟨b, o + (i * c + j), none⟩ = some (vs.getD j Go.undef) := by
        intro i hil
        have h := hi i hil
        rw [List.getElem?_eq_getElem (by omega)] at h
        obtain ⟨vs, h1, h2⟩ := Option.bind_eq_some_iff.1 h
        obtain ⟨tv, hr, htl, hf⟩ := hE vs _ h2
        obtain ⟨_, hvl, hvc⟩ := World.cells?_some h1
        refine ⟨tv, vs, hr, htl, hf, hvl, fun j hj => ?_⟩
        have := hvc j (by omega)
        rw [Deep.add_add, add_plain0] at this
        rw [this]
        simp [List.getD, show j < vs.length by omega]
      have build : ∀ k, k ≤ len → ∃ cks : List (List TV), cks.length = k ∧ (∀ ck, ck ∈ cks → ck.length = c ∧ S ck) ∧ cks.flatten.length = k * c ∧ ∀ i (h : i < cks.flatten.length), ∃ u, w.cell? ⟨b, o + i, none⟩ = some u ∧ Rel (Ghost.start w) w cks.flatten[i] u := by
        intro k
        induction k with
        | zero => intro _; exact ⟨[], rfl, (fun ck h => by cases h), by simp, fun i h => absurd h (Nat.not_lt_zero _)⟩
        | succ k ih =>
          intro hk
          obtain ⟨cks, h0, h1, h2, h3⟩ := ih (by omega)
          obtain ⟨tv, vs, hr, htl, hf, hvl, hvc⟩ := each k (by omega)
          have hfl : (cks ++ [tv]).flatten = cks.flatten ++ tv := by simp
          refine ⟨cks ++ [tv], by simp [h0], fun ck h => ?_, by rw [hfl, List.length_append, h2, htl, Nat.succ_mul], fun i h => ?_⟩
          · rcases List.mem_append.1 h with h | h
            · exact h1 ck h
            · rw [List.mem_singleton.1 h]; exact ⟨htl, hf⟩
          · simp only [hfl] at h ⊢
            by_cases hix : i < cks.flatten.length
            · rw [List.getElem_append_left hix]; exact h3 i hix
            · rw [List.getElem_append_right (by omega)]
              rw [List.length_append] at h
              have hj : i - cks.flatten.length < tv.length := by omega
              refine ⟨vs.getD (i - cks.flatten.length) Go.undef, ?_, hr.2 _ hj⟩
              have := hvc (i - cks.flatten.length) (by omega)
              rw [show o + i = o + (k * c + (i - cks.flatten.length)) by rw [← h2]; omega]
              exact this
      obtain ⟨cks, h0, h1, h2, h3⟩ := build len (Nat.le_refl _)
      refine ⟨[.list c .non cks.length cks.flatten], .cons ?_ (.nil _ _), rfl, _, rfl, .inr ⟨cks, rfl, h1⟩⟩
      have hu : ∀ i, ∃ u, (h : i < cks.flatten.length) → w.cell? ⟨b, o + i, none⟩ = some u ∧ Rel (Ghost.start w) w cks.flatten[i] u := fun i => by
        by_cases h : i < cks.flatten.length
        · obtain ⟨u, hu⟩ := h3 i h
          exact ⟨u, fun _ => hu⟩
        · exact ⟨Go.undef, fun h' => absurd h' h⟩
      rw [h0]
      refine .list _ _ _ _ b o cap (fun i => Classical.choose (hu i)) h2 hl (fun i hi => ?_) (fun i hi => (Classical.choose_spec (hu i) hi).2) trivial
      have := (Classical.choose_spec (hu i) hi).1
      exact ⟨⟨rfl, _, this⟩, this⟩
/-- The fields of a struct, each of one cell. -/
def FieldsOp (enc : TypeId × Value → H) (P : Program) (w : World) (base : Nat) (held : Bool) (n : Nat) : List (List TV → Prop) → List Field → Nat → Prop
  | [], [], _ => True
  | S :: Ss, f :: fs, o => f.offset = o ∧ Op enc P w base held n 1 S f.type ∧ FieldsOp enc P w base held n Ss fs (o + 1)
  | _, _, _ => False
def EachS : List (List TV → Prop) → List TV → Prop
  | [], xs => xs = []
  | S :: Ss, xs => ∃ x ys, xs = x :: ys ∧ S [x] ∧ EachS Ss ys
theorem op_fields {n : Nat} {vs : List Value} : ∀ (Ss : List (List TV → Prop)) (fs : List Field) (o : Nat) (xs : List (DataW H × List MemPlace)), FieldsOp enc P w base held n Ss fs o → xs.length = fs.length → vs.length = o + Ss.length →
    (∀ (i : Nat) (f : Field), fs[i]? = some f → DataW.trod enc P w base (fun _ => true) held n f.type ((vs.drop f.offset).take (P.cellsOf f.type)) = xs[i]?) → ∃ tv, RelL (Ghost.start w) w tv (vs.drop o) ∧ tv.length = Ss.length ∧ EachS Ss tv
  | [], [], o, xs, _, _, hl, _ => ⟨[], by rw [List.drop_of_length_le (by simp at hl; omega)]; exact .nil _ _, rfl, rfl⟩
  | S :: Ss, f :: fs, o, [], _, hx, _, _ => by simp at hx
  | S :: Ss, f :: fs, o, x :: xs, ht, hx, hl, hd => by
    obtain ⟨h1, ⟨h2, h3⟩, h4⟩ := ht
    have hd0 := hd 0 f rfl
    rw [h1, h2] at hd0
    obtain ⟨tv0, hr, htl, hf⟩ := h3 _ _ hd0
    obtain ⟨v, rfl⟩ := List.length_eq_one_iff.1 htl
    obtain ⟨tv, hr', hl', hf'⟩ := op_fields (n := n) (vs := vs) Ss fs (o + 1) xs h4 (by simpa using hx) (by simp at hl; omega) (fun i f' hi => by simpa using hd (i + 1) f' (by simpa using hi))
    refine ⟨v :: tv, ?_, by simp [hl'], v, tv, rfl, hf, hf'⟩
    have hlt : o < vs.length := by simp at hl; omega
    rw [List.drop_eq_getElem_cons hlt]
    rw [List.drop_eq_getElem_cons hlt] at hr
    simp only [List.take_succ_cons, List.take_zero] at hr
    exact .cons (hr.2 0 (by simp)) hr'
  | [], f :: fs, o, xs, ht, _, _, _ => ht.elim
  | S :: Ss, [], o, xs, ht, _, _, _ => ht.elim
theorem op_struct {n c : Nat} {Ss : List (List TV → Prop)} {e : TypeId} {fs : Array Field} (ht : P.underlying e = some (.struct fs)) (hc : P.cellsOf e = c) (hl : Ss.length = c) (hf : ∀ m, m < n → FieldsOp enc P w base held m Ss fs.toList 0) :
    Op enc P w base held n c (EachS Ss) e := ⟨hc, fun vs x hd => by
  obtain ⟨xs, m, rfl, _, hvl, hx, hi⟩ := DataW.trod_struct ht hd
  obtain ⟨tv, h1, h2, h3⟩ := op_fields (enc := enc) (P := P) (w := w) (base := base) (held := held) (n := m) (vs := vs) Ss fs.toList 0 xs (hf m (by omega)) (by simpa using hx) (by omega) (fun i f h => hi i f (by simpa using h))
  exact ⟨tv, by simpa using h1, by omega, h3⟩⟩
end
end Go.TVF
end
