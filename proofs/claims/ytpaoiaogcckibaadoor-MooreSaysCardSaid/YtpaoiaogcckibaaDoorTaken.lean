/- The comparison of moore.Pick's heap, walked: it boxes what it is given. Conditions: none. -/
import Derived.Test.YtpaoiaogcckibaaDoorCore
import Derived.Test.YtpaoiaogcckibaaDoorHeapPlain
namespace Go.Proofs.YtpaoiaogcckibaaDoor
open Go.RowKit
structure Tk where
  time : Int
  place : Int
deriving Inhabited, DecidableEq
/-- the longer one comes first; of two as long the later one -/
def laterB (a b : Tk) : Bool := decide (b.time < a.time ∨ a.time = b.time ∧ b.place < a.place)
theorem laterB_first : Firsts laterB := by
  constructor
  · intro a b; simp only [laterB, decide_eq_true_eq, decide_eq_false_iff_not]; omega
  · intro a b c; simp only [laterB, decide_eq_false_iff_not]; omega
theorem not_later {a b : Tk} (h : laterB a b = false) : a.time ≤ b.time := by
  simp only [laterB, decide_eq_false_iff_not] at h; omega
/-- a thing of the heap, as a value -/
def Tk.val (x : Tk) : Value := .agg #[.int .i64 x.time, .int .i64 x.place]
set_option maxHeartbeats 1000000 in
theorem later_ (x y : Tk) (w : World) : Calls Tryd.prog 93 #[x.val, y.val] w fun e w' => e = .returned (.bool (laterB x y)) ∧ Below w.heap.size w w' := by
  obtain ⟨a1, b1⟩ := x
  obtain ⟨a2, b2⟩ := y
  have HB : Hid (Below w.heap.size w ((w.alloc (.cells #[.int .i64 a1, .int .i64 b1] 135)).alloc (.cells #[.int .i64 a2, .int .i64 b2] 135))) :=
    ((Below.refl _ _).alloc (Nat.le_refl _) _).alloc (by simp) _
  unfold Tk.val
  have hd : ∀ b : Bool, ((a2 < a1 ∨ a1 = a2 ∧ b2 < b1) ↔ b = true) → laterB ⟨a1, b1⟩ ⟨a2, b2⟩ = b := fun b hb => by
    unfold laterB
    cases b with
    | true => exact decide_eq_true (hb.2 rfl)
    | false => exact decide_eq_false (fun h => by have := hb.1 h; cases this)
  have HD := Lib.hid hd
  clear hd
  by_cases h1 : a2 < a1
  · rw [HD.out true (by simp [h1])]
    go_enter Tryd.func93, Tryd.ntmps93
    go_wp2
    go_ret
    exact ⟨rfl, HB.out⟩
  · by_cases h2 : a1 = a2
    · subst h2
      by_cases h3 : b2 < b1
      · rw [HD.out true (by simp [h3])]
        go_enter Tryd.func93, Tryd.ntmps93
        go_wp2
        go_ret
        exact ⟨rfl, HB.out⟩
      · rw [HD.out false (by simp [h3])]
        go_enter Tryd.func93, Tryd.ntmps93
        go_wp2
        go_ret
        exact ⟨rfl, HB.out⟩
    · rw [HD.out false (by simp [h1, h2])]
      have h2' : (a1 == a2) = false := by simpa using h2
      go_enter Tryd.func93, Tryd.ntmps93
      go_wp2
      go_ret
      exact ⟨rfl, HB.out⟩
end Go.Proofs.YtpaoiaogcckibaaDoor
