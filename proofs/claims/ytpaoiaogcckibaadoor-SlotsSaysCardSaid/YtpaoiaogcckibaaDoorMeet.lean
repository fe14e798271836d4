/- What the document's own Meet answers. Conditions: none. -/
import Derived.Test.YtpaoiaogcckibaaDoorSlotsCheck
import Derived.Deep.RegionHeld3
import Derived.Sort.LotA
import Derived.Sort.WalkA
import Derived.Shelf.SlSortCmp.Insertion
namespace Go.Proofs.YtpaoiaogcckibaaDoor
open Go.RowKit
def meetB (a b : Sp) : Bool := decide (a.1 < b.2 ∧ b.1 < a.2)
theorem meetB_true {a b : Sp} (h : meetP a b) : meetB a b = true := decide_eq_true h
theorem meetB_false {a b : Sp} (h : ¬ meetP a b) : meetB a b = false := decide_eq_false h
set_option maxHeartbeats 1000000 in
/-- ricksteadref4.Meet -/
theorem meet_ (a b c d : Int) (w : World) : Calls Tryd.prog 88 #[.agg #[.int .i64 a, .int .i64 b], .agg #[.int .i64 c, .int .i64 d]] w fun e w' => e = .returned (.bool (meetB (a, b) (c, d))) ∧ ∃ q os, w' = Go.Sort.grow (w.drewN q) os := by
  by_cases h1 : a < d
  · by_cases h2 : c < b
    · have HD : Hid (meetB (a, b) (c, d) = true) := decide_eq_true ⟨h1, h2⟩
      go_enter Tryd.func88, Tryd.ntmps88
      go_wp2
      go_ret
      exact ⟨ret_bool HD.out.symm, 0, #[.cells #[.int .i64 a, .int .i64 b] 127, .cells #[.int .i64 c, .int .i64 d] 127], rfl⟩
    · have HD : Hid (meetB (a, b) (c, d) = false) := decide_eq_false (fun h => h2 h.2)
      have d2 : decide (c < b) = false := decide_eq_false h2
      go_enter Tryd.func88, Tryd.ntmps88
      go_wp2
      go_ret
      exact ⟨ret_bool HD.out.symm, 0, #[.cells #[.int .i64 a, .int .i64 b] 127, .cells #[.int .i64 c, .int .i64 d] 127], rfl⟩
  · have HD : Hid (meetB (a, b) (c, d) = false) := decide_eq_false (fun h => h1 h.1)
    have d1 : decide (a < d) = false := decide_eq_false h1
    go_enter Tryd.func88, Tryd.ntmps88
    go_wp2
    go_ret
    exact ⟨ret_bool HD.out.symm, 0, #[.cells #[.int .i64 a, .int .i64 b] 127, .cells #[.int .i64 c, .int .i64 d] 127], rfl⟩
end Go.Proofs.YtpaoiaogcckibaaDoor
