/- What cmp.Compare answers. Conditions: none. -/
import Derived.Test.YtejbilcofbjpiaaCore
import Derived.Test.YtejbilcofbjpiaaSortPlain
namespace Go.Proofs.Ytejbilcofbjpiaa
open Go.RowKit
def cmpI (a b : Int) : Int := if a < b then -1 else if b < a then 1 else 0

theorem compare_ (a b : Int) (w : World) : Calls Try.prog 13 #[.int .i64 a, .int .i64 b] w fun e w' => e = .returned (.int .i64 (cmpI a b)) ∧ w = w' := by
  rcases Int.lt_trichotomy a b with h | h | h
  · have hd : Hid (cmpI a b = -1) := if_pos h
    go_enter Try.func13, Try.ntmps13
    go_wp2
    go_ret
    exact ⟨ret_int hd.out.symm, rfl⟩
  · subst h
    have hd : Hid (cmpI a a = 0) := by show _ = _; simp [cmpI]
    go_enter Try.func13, Try.ntmps13
    go_wp2
    go_ret
    exact ⟨ret_int hd.out.symm, rfl⟩
  · have hd : Hid (cmpI a b = 1) := by show _ = _; unfold cmpI; rw [if_neg (by omega), if_pos h]
    have h2 : ¬ a < b := by omega
    go_enter Try.func13, Try.ntmps13
    go_wp2
    go_ret
    exact ⟨ret_int hd.out.symm, rfl⟩
theorem weak_key {α : Type} (k : α → Int) : Weak fun x y => cmpI (k x) (k y) := by
  constructor
  · intro x y; unfold cmpI; split <;> split <;> (try split) <;> omega
  · intro x y z; unfold cmpI; repeat' split
    all_goals omega

end Go.Proofs.Ytejbilcofbjpiaa
