/- A law's call: its arguments, and its answer. -/
import Derived.Test.YtphnhocpknhpgaaTvS
set_option linter.unusedVariables false
set_option linter.unusedSimpArgs false
namespace Go.TVF
open Go.RowKit (Below)

theorem bool_ret {r : TV} {st' : St} (h : decRet [.one .bool] r (fun (b : Bool) (_ : St) => b = true) (fun p => p st')) : r = .bool true := by
  cases r <;> simp only [decRet, decRs, decT] at h <;> first | exact h.elim | skip
  subst h; rfl

theorem calls_law {P : Program} {f : FuncId} {args : List TV} (h : CallT P f args [.one .bool] St.zero (fun r _ => r = true)) (w : World) (vargs : List Value) (hr : RelL (Ghost.start w) w args vargs) :
    Calls P f vargs.toArray w fun e w' => e = .returned (.bool true) ∧ Below w.heap.size w w' :=
  calls_true (TCalls.mono h fun r st' hd => bool_ret hd) w vargs hr

theorem rel_string (g : Ghost) (w : World) (s : ByteArray) : Rel g w (.str s.data.toList) (.string s) := by
  have := Rel.str (g := g) (w := w) s.data.toList
  simpa using this
end Go.TVF
