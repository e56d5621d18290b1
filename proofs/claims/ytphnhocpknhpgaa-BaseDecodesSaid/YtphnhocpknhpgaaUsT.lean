/- Base: the law on decoding. -/
import Derived.Test.YtphnhocpknhpgaaUsS
set_option linter.unusedVariables false
set_option linter.unusedSimpArgs false
namespace Go.TVF
open Go Go.Proofs

theorem sameX_ok {a b : TV} {l r : List UInt8} {st : St} {K : Bool → St → Prop} (ha : RdX st a l) (hb : RdX st b r) (hk : K (decide (l = r)) st) : CallT Try.prog 35 [a, b] [.one (.bool)] st K := by
  refine vc35 a b st K (optK_intro (x := .str l) (by rw [ha.tb st (StExt.refl _)]; rfl) ?_)
  refine optK_intro (x := .str r) (by rw [hb.tb st (StExt.refl _)]; rfl) ?_
  exact hk

theorem decodes_ok (s : List UInt8) : CallT Try.prog 6 [.str s] [.one (.bool)] St.zero (fun r _ => r = true) := by
  refine vc6 s St.zero _ (BIf_intro (fun _ => awakeB_ok fun _ => rfl) fun h1 => ?_)
  refine dec_ok (by omega) fun v1 st1 e1 hv1 => rdec_ok (by omega) fun v2 st2 e2 hv2 => dec_ok (by omega) fun v3 st3 e3 hv3 => rdec_ok (by omega) fun v4 st4 e4 hv4 => ?_
  rw [ref_eq] at hv2 hv4
  rw [ref_eq, ref_eq]
  refine sameX_ok (hv1.x _) (hv2.ext (e3.trans e4)) (BIf_iff.2 ⟨fun _ => BIf_intro (fun _ => ?_) fun hh => absurd rfl hh, fun hh => absurd hh (by simp)⟩)
  refine sameX_ok (hv3.x _) hv4 (BIf_iff.2 ⟨fun _ => BIf_intro (fun _ => ?_) fun hh => absurd rfl hh, fun hh => absurd hh (by simp)⟩)
  exact awakeB_ok fun _ => rfl
end Go.TVF
