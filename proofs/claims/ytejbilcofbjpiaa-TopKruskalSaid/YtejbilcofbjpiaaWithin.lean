/- What core.Within computes. Conditions: none. -/
import Derived.Test.YtejbilcofbjpiaaCore
namespace Go.Proofs.Ytejbilcofbjpiaa
open Go.RowKit
theorem within (n lo hi : Int) (w : World) :
    Calls Try.prog 21 #[.int .i64 n, .int .i64 lo, .int .i64 hi] w fun e w' => e = .returned (.bool (inB n lo hi)) ∧ w = w' := by
  by_cases h1 : lo ≤ n
  · by_cases h2 : n ≤ hi
    · have H := Lib.hid (inB_true ⟨h1, h2⟩)
      go_enter Try.func21, Try.ntmps21
      go_wp2
      go_ret
      exact ⟨ret_bool H.out.symm, rfl⟩
    · have H := Lib.hid (inB_false (fun h : lo ≤ n ∧ n ≤ hi => h2 h.2))
      go_enter Try.func21, Try.ntmps21
      go_wp2
      go_ret
      exact ⟨ret_bool H.out.symm, rfl⟩
  · have H := Lib.hid (inB_false (fun h : lo ≤ n ∧ n ≤ hi => h1 h.1))
    go_enter Try.func21, Try.ntmps21
    go_wp2
    go_ret
    exact ⟨ret_bool H.out.symm, rfl⟩
end Go.Proofs.Ytejbilcofbjpiaa
