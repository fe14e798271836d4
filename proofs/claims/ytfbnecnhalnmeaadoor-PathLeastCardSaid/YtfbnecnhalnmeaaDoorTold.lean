/- What plain.Told and ricksteadsame.Error answer of an error of the program's. Conditions: errors.errorType holds the handle of the type error. -/
import Derived.Test.YtfbnecnhalnmeaaDoorAs
namespace Go.Proofs.YtfbnecnhalnmeaaDoor
open Go.RowKit
theorem ErrT.below {w w' : World} {B : Nat} (h : ErrT w) (hb : Below B w w') (hB : 0 < B) : ErrT w' := (hb.cell (p := ⟨0, 0, none⟩) hB).trans h
theorem ErrT.pos {w : World} (h : ErrT w) : 0 < w.heap.size := by
  unfold ErrT at h
  rcases Nat.eq_zero_or_pos w.heap.size with h0 | h1
  · simp [World.cell?, h0] at h
  · exact h1
theorem ErrT.step {w w' : World} (h : ErrT w) (hb : Below w.heap.size w w') : ErrT w' := h.below hb h.pos

theorem told_nil (w : World) : Calls Tryd.prog 13 #[.nilIface] w fun e w' => e = .returned (.int .i64 0) ∧ Below w.heap.size w w' := by
  go_enter Tryd.func13, Tryd.ntmps13
  go_wp2
  go_ret
  exact ⟨rfl, Below.refl _ _⟩
set_option maxHeartbeats 1000000 in
theorem told_one (E : Int) (w : World) (hg : ErrT w) : Calls Tryd.prog 13 #[.iface 43 (.int .i64 E)] w fun e w' => e = .returned (.int .i64 E) ∧ Below w.heap.size w w' := by
  have hg1 : ErrT (w.alloc (.cells #[.int .i64 0] 43)) := hg.step ((Below.refl _ _).alloc (Nat.le_refl _) _)
  have c1 := as_hit E ⟨w.heap.size, 0, none⟩ (.int .i64 0) _ hg1 (by simp) (by simp)
  have C1 := Lib.hid c1
  clear c1
  go_enter Tryd.func13, Tryd.ntmps13
  go_wp2_with fail
  refine C1.out.mono ?_
  rintro e w1 ⟨rfl, hw1⟩
  have hb1 : Hid (Below w.heap.size w w1) := by
    rw [hw1]
    exact (((((Below.refl w.heap.size w).alloc (Nat.le_refl _) _).alloc (by simp) _).alloc (by simp; omega) _ |>.alloc (by simp; omega) _).alloc (by simp; omega) _).setCell (Nat.le_refl _) _
  have hc1 : w1.cell? ⟨w.heap.size, 0, none⟩ = some (.int .i64 E) := by
    rw [hw1]
    exact World.cell?_setCell_same _ _ _ (u := .int .i64 0) (by rw [World.cell?_alloc_lt _ _ ⟨w.heap.size, 0, none⟩ (by simp; omega), World.cell?_alloc_lt _ _ ⟨w.heap.size, 0, none⟩ (by simp; omega), World.cell?_alloc_lt _ _ ⟨w.heap.size, 0, none⟩ (by simp; omega), World.cell?_alloc_lt _ _ ⟨w.heap.size, 0, none⟩ (by simp)]; simp)
  clear hw1 C1
  go_wp2
  go_ret
  exact ⟨rfl, hb1.out⟩
theorem told_ (E : Int) (w : World) (hg : ErrT w) : Calls Tryd.prog 13 #[errV E] w fun e w' => e = .returned (.int .i64 E) ∧ Below w.heap.size w w' := by
  by_cases h : E = 0
  · subst h; exact told_nil w
  · rw [errV_bad h]; exact told_one E w hg
/-- ricksteadsame.Error -/
theorem error_ (E e : Int) (w : World) (hg : ErrT w) : Calls Tryd.prog 8 #[errV E, .int .i64 e] w fun r w' => r = .returned (.bool (decide (E = e))) ∧ Below w.heap.size w w' := by
  have c1 := Lib.hid (told_ E w hg)
  clear hg
  generalize errV E = ev at c1 ⊢
  by_cases h : E = e
  · subst h
    go_enter Tryd.func8, Tryd.ntmps8
    go_wp2_with fail
    refine c1.out.mono ?_
    rintro e w1 ⟨rfl, hb1⟩
    have HB1 := Lib.hid hb1
    clear hb1 c1
    go_wp2
    go_ret
    exact ⟨by simp, HB1.out⟩
  · have hd : (E == e) = false := by simpa using h
    have HD : Hid (decide (E = e) = false) := decide_eq_false h
    clear h
    go_enter Tryd.func8, Tryd.ntmps8
    go_wp2_with fail
    refine c1.out.mono ?_
    rintro e w1 ⟨rfl, hb1⟩
    have HB1 := Lib.hid hb1
    clear hb1 c1
    go_wp2
    go_ret
    exact ⟨ret_bool HD.out.symm, HB1.out⟩
/-- an error is the one told: none -/
theorem error_nil (w : World) (hg : ErrT w) : Calls Tryd.prog 8 #[.nilIface, .int .i64 0] w fun r w' => r = .returned (.bool true) ∧ Below w.heap.size w w' := by
  have h := error_ 0 0 w hg
  rw [errV_zero] at h
  exact h
/-- an error is the one told, of whatever number -/
theorem error_same (E : Int) (w : World) (hg : ErrT w) : Calls Tryd.prog 8 #[errV E, .int .i64 E] w fun r w' => r = .returned (.bool true) ∧ Below w.heap.size w w' :=
  (error_ E E w hg).mono fun _ _ ⟨h, k⟩ => ⟨by rw [h]; simp, k⟩
theorem error_bad (E : Int) (h0 : E ≠ 0) (w : World) (hg : ErrT w) : Calls Tryd.prog 8 #[.iface 43 (.int .i64 E), .int .i64 E] w fun r w' => r = .returned (.bool true) ∧ Below w.heap.size w w' := by
  have h := error_same E w hg
  rw [errV_bad h0] at h
  exact h
/-- what only draws leaves all as it was -/
theorem drawn_below {P : Program} {f : FuncId} {args : Array Value} {w : World} {v : Value} (h : Calls P f args w fun e w' => e = .returned v ∧ ∃ q, w' = w.drewN q) : Calls P f args w fun e w' => e = .returned v ∧ Below w.heap.size w w' :=
  h.mono fun _ _ ⟨he, q, hq⟩ => ⟨he, by rw [hq]; exact ⟨rfl, rfl, rfl, Nat.le_refl _, fun _ _ => rfl⟩⟩
theorem still_below {P : Program} {f : FuncId} {args : Array Value} {w : World} {v : Value} (h : Calls P f args w fun e w' => e = .returned v ∧ w' = w) : Calls P f args w fun e w' => e = .returned v ∧ Below w.heap.size w w' :=
  h.mono fun _ _ ⟨he, hq⟩ => ⟨he, by rw [hq]; exact Below.refl _ _⟩
end Go.Proofs.YtfbnecnhalnmeaaDoor
