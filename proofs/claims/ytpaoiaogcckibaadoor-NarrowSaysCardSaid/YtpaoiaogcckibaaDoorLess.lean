/- The comparison of narrow.Least's heap, walked: it boxes what it is given. Conditions: none. -/
import Derived.Test.YtpaoiaogcckibaaDoorCore
import Derived.Test.YtpaoiaogcckibaaDoorNarrowP
namespace Go.Proofs.YtpaoiaogcckibaaDoor
open Go.RowKit
/-- a thing of the heap, as a value -/
def Nr.val (x : Nr) : Value := .agg #[.int .i64 x.most, .int .i64 x.node]
set_option maxHeartbeats 1000000 in
theorem less_ (x y : Nr) (w : World) : Calls Tryd.prog 75 #[x.val, y.val] w fun e w' => e = .returned (.bool (lessB x y)) ∧ Below w.heap.size w w' := by
  obtain ⟨a1, b1⟩ := x
  obtain ⟨a2, b2⟩ := y
  have HB : Hid (Below w.heap.size w ((w.alloc (.cells #[.int .i64 a1, .int .i64 b1] 107)).alloc (.cells #[.int .i64 a2, .int .i64 b2] 107))) :=
    ((Below.refl _ _).alloc (Nat.le_refl _) _).alloc (by simp) _
  unfold Nr.val
  have HD : Hid (lessB ⟨a1, b1⟩ ⟨a2, b2⟩ = decide (a1 < a2)) := rfl
  go_enter Tryd.func75, Tryd.ntmps75
  go_wp2
  go_ret
  exact ⟨ret_bool HD.out.symm, HB.out⟩
end Go.Proofs.YtpaoiaogcckibaaDoor
