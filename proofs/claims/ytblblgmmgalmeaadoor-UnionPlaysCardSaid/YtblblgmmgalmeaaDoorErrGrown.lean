/- ricksteadsame.Error lays blocks and turns none: what a region that draws its order asks. Conditions: errors.errorType holds the handle of the type error. -/
import Derived.Test.YtblblgmmgalmeaaDoorTold
import Derived.Shelf.SlSortCmp.QuietGrown
namespace Go.Proofs.YtblblgmmgalmeaaDoor
open Go.RowKit Go.Lib Go.Sort
theorem below_grow {w w' : World} (h : Below w.heap.size w w') (hd : w'.drawn = w.drawn) : ∃ os, w' = grow w os := by
  refine ⟨w'.heap.extract w.heap.size w'.heap.size, ?_⟩
  have hh : w'.heap = w.heap ++ w'.heap.extract w.heap.size w'.heap.size := by
    apply Array.ext_getElem?
    intro i
    rcases Nat.lt_or_ge i w.heap.size with h1 | h1
    · rw [Array.getElem?_append_left h1]; exact h.block i h1
    · rw [Array.getElem?_append_right h1, Array.getElem?_extract]
      have := h.size
      split
      · congr 1; omega
      · rw [Array.getElem?_eq_none (by omega)]
  have h1 := h.os
  have h2 := h.tape
  have h3 := h.output
  cases w; cases w'
  simp only [grow] at *
  subst h1 h2 h3 hd
  rw [← hh]
theorem grown_below (w : World) (n : Nat) (os : Array Obj) : Below w.heap.size w (grow (w.drewN n) os) := ⟨rfl, rfl, rfl, by rw [size_grow]; exact Nat.le_add_right _ _, fun _ hk => heap_grow_old (w.drewN n) os hk⟩
theorem errT_grow {w : World} (h : ErrT w) (os : Array Obj) : ErrT (grow w os) := (cell?_grow w os ⟨0, 0, none⟩ h.pos).trans h
set_option maxHeartbeats 1000000 in
theorem told_oneG (E : Int) (w : World) (hg : ErrT w) : Calls Tryd.prog 13 #[.iface 38 (.int .i64 E)] w fun e w' => e = .returned (.int .i64 E) ∧ ∃ os, w' = grow w os := by
  have hg1 : ErrT (w.alloc (.cells #[.int .i64 0] 38)) := hg.step ((Below.refl _ _).alloc (Nat.le_refl _) _)
  have c1 := as_hit E ⟨w.heap.size, 0, none⟩ (.int .i64 0) _ hg1 (by simp) (by simp)
  have C1 := Lib.hid c1
  clear c1
  go_enter Tryd.func13, Tryd.ntmps13
  go_wp2_with fail
  refine C1.out.mono ?_
  rintro e w1 ⟨rfl, hw1⟩
  have hb1 : Hid (∃ os, w1 = grow w os) := by
    refine below_grow ?_ ?_
    · rw [hw1]
      exact (((((Below.refl w.heap.size w).alloc (Nat.le_refl _) _).alloc (by simp) _).alloc (by simp; omega) _ |>.alloc (by simp; omega) _).alloc (by simp; omega) _).setCell (Nat.le_refl _) _
    · rw [hw1]; rfl
  have hc1 : w1.cell? ⟨w.heap.size, 0, none⟩ = some (.int .i64 E) := by
    rw [hw1]
    exact World.cell?_setCell_same _ _ _ (u := .int .i64 0) (by rw [World.cell?_alloc_lt _ _ ⟨w.heap.size, 0, none⟩ (by simp; omega), World.cell?_alloc_lt _ _ ⟨w.heap.size, 0, none⟩ (by simp; omega), World.cell?_alloc_lt _ _ ⟨w.heap.size, 0, none⟩ (by simp; omega), World.cell?_alloc_lt _ _ ⟨w.heap.size, 0, none⟩ (by simp)]; simp)
  clear hw1 C1
  go_wp2
  go_ret
  exact ⟨rfl, hb1.out⟩
theorem told_nilG (w : World) : Calls Tryd.prog 13 #[.nilIface] w fun e w' => e = .returned (.int .i64 0) ∧ ∃ os, w' = grow w os := by
  go_enter Tryd.func13, Tryd.ntmps13
  go_wp2
  go_ret
  exact ⟨rfl, #[], (grow_empty w).symm⟩
theorem toldG (E : Int) (w : World) (hg : ErrT w) : Calls Tryd.prog 13 #[errV E] w fun e w' => e = .returned (.int .i64 E) ∧ ∃ os, w' = grow w os := by
  by_cases h : E = 0
  · subst h; exact told_nilG w
  · rw [errV_bad h]; exact told_oneG E w hg
/-- ricksteadsame.Error lays blocks, and turns none -/
theorem error_sameG (E : Int) (w : World) (hg : ErrT w) : Calls Tryd.prog 5 #[errV E, .int .i64 E] w fun r w' => r = .returned (.bool true) ∧ ∃ q os, w' = grow (w.drewN q) os := by
  have c1 := Lib.hid (toldG E w hg)
  clear hg
  generalize errV E = ev at c1 ⊢
  go_enter Tryd.func5, Tryd.ntmps5
  go_wp2_with fail
  refine c1.out.mono ?_
  rintro e w1 ⟨rfl, os, rfl⟩
  clear c1
  go_wp2
  go_ret
  exact ⟨rfl, 0, os, rfl⟩
end Go.Proofs.YtblblgmmgalmeaaDoor
