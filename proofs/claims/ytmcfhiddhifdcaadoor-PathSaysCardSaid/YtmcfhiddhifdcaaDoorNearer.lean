/- path.nearer, walked: it boxes what it is given. Conditions: none. -/
import Derived.Test.YtmcfhiddhifdcaaDoorCore
import Derived.Test.YtmcfhiddhifdcaaDoorPathPlain
namespace Go.Proofs.YtmcfhiddhifdcaaDoor
open Go.RowKit
/-- a thing of the heap, as a value -/
def Fr.val (x : Fr) : Value := .agg #[.int .i64 x.weight, .int .i64 x.edges, .int .i64 x.node]
set_option maxHeartbeats 1000000 in
theorem nearer_ (x y : Fr) (w : World) : Calls Tryd.prog 23 #[x.val, y.val] w fun e w' => e = .returned (.bool (nearerB x y)) ∧ Below w.heap.size w w' := by
  obtain ⟨a1, b1, c1⟩ := x
  obtain ⟨a2, b2, c2⟩ := y
  have r1 := Row.new w 52 #[.int .i64 a1, .int .i64 b1, .int .i64 c1]
  have r2 := Row.new (w.alloc (.cells #[.int .i64 a1, .int .i64 b1, .int .i64 c1] 52)) 52 #[.int .i64 a2, .int .i64 b2, .int .i64 c2]
  have HB : Hid (Below w.heap.size w ((w.alloc (.cells #[.int .i64 a1, .int .i64 b1, .int .i64 c1] 52)).alloc (.cells #[.int .i64 a2, .int .i64 b2, .int .i64 c2] 52))) :=
    ((Below.refl _ _).alloc (Nat.le_refl _) _).alloc (by simp) _
  clear r1 r2
  unfold Fr.val
  have hd : ∀ b : Bool, ((a1 < a2 ∨ a1 = a2 ∧ (b1 < b2 ∨ b1 = b2 ∧ c1 < c2)) ↔ b = true) → nearerB ⟨a1, b1, c1⟩ ⟨a2, b2, c2⟩ = b := fun b hb => by
    unfold nearerB
    cases b with
    | true => exact decide_eq_true (hb.2 rfl)
    | false => exact decide_eq_false (fun h => by have := hb.1 h; cases this)
  have HD := Lib.hid hd
  clear hd
  by_cases h1 : a1 < a2
  · rw [HD.out true (by simp [h1])]
    go_enter Tryd.func23, Tryd.ntmps23
    go_wp2
    go_ret
    exact ⟨rfl, HB.out⟩
  · by_cases h2 : a1 = a2
    · subst h2
      by_cases h3 : b1 < b2
      · rw [HD.out true (by simp [h3])]
        go_enter Tryd.func23, Tryd.ntmps23
        go_wp2
        go_ret
        exact ⟨rfl, HB.out⟩
      · by_cases h4 : b1 = b2
        · subst h4
          by_cases h5 : c1 < c2
          · rw [HD.out true (by simp [h5])]
            go_enter Tryd.func23, Tryd.ntmps23
            go_wp2
            go_ret
            exact ⟨rfl, HB.out⟩
          · rw [HD.out false (by simp [h5])]
            go_enter Tryd.func23, Tryd.ntmps23
            go_wp2
            go_ret
            exact ⟨rfl, HB.out⟩
        · rw [HD.out false (by simp [h3, h4])]
          have h4' : (b1 == b2) = false := by simpa using h4
          go_enter Tryd.func23, Tryd.ntmps23
          go_wp2
          go_ret
          exact ⟨rfl, HB.out⟩
    · rw [HD.out false (by simp [h1, h2])]
      have h2' : (a1 == a2) = false := by simpa using h2
      go_enter Tryd.func23, Tryd.ntmps23
      go_wp2
      go_ret
      exact ⟨rfl, HB.out⟩
end Go.Proofs.YtmcfhiddhifdcaaDoor
