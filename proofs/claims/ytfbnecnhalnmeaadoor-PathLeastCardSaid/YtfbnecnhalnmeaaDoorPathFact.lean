/- The closed fact of the laws on ways. Conditions: none. -/
import Derived.Test.YtfbnecnhalnmeaaDoorFar
import Derived.Test.YtfbnecnhalnmeaaDoorTriangle
import Derived.Test.YtfbnecnhalnmeaaDoorInts
namespace Go.Proofs.YtfbnecnhalnmeaaDoor
open Go.RowKit
theorem outF_some {outs : List Fr} {v : Nat} {w e : Int} (h : outF outs v = some (w, e)) : outs[v]!.weight = w ∧ v < outs.length := by
  unfold outF at h
  split at h
  · next hc => injection h with h; injection h with h1 h2; exact ⟨by rw [Int.toNat_natCast] at h1; exact h1, by have := hc.2.1; omega⟩
  · cases h
theorem tri_low {v w e : Int} (h : Reach (arcs false triE) 0 v w e) : (v = 0 ∧ 0 ≤ w) ∨ (v = 1 ∧ 3 ≤ w) ∨ (v = 2 ∧ 4 ≤ w) := by
  induction h with
  | start => omega
  | step _ hg ih =>
    simp [arcs, triE] at hg
    omega
theorem tri_far {outs : List Fr} (hl : outs.length = 3) (h : Short (arcs false triE) (0 : Nat) 3 (outF outs)) : outs.map (·.weight) = [0, 3, 4] := by
  obtain ⟨a, b, c, rfl⟩ : ∃ a b c, outs = [a, b, c] := by
    rcases outs with _ | ⟨a, _ | ⟨b, _ | ⟨c, _ | ⟨d, t⟩⟩⟩⟩ <;> simp at hl
    exact ⟨a, b, c, rfl⟩
  have h0 := outF_some (v := 0) h.first
  have r1 : Reach (arcs false triE) (0 : Nat) ((1 : Nat) : Int) (0 + 3) (0 + 1) := Reach.step Reach.start (by simp [arcs, triE])
  have r2 : Reach (arcs false triE) (0 : Nat) ((2 : Nat) : Int) (0 + 3 + 1) (0 + 1 + 1) := Reach.step r1 (by simp [arcs, triE])
  obtain ⟨w1, e1, h1, l1⟩ := h.least r1
  obtain ⟨w2, e2, h2, l2⟩ := h.least r2
  have s1 := tri_low (h.sound _ _ _ h1).1
  have s2 := tri_low (h.sound _ _ _ h2).1
  have k1 := (outF_some h1).1
  have k2 := (outF_some h2).1
  have k0 := h0.1
  simp at k0 k1 k2
  unfold le2 at l1 l2
  simp only [List.map_cons, List.map_nil, List.cons.injEq, and_true]
  omega
set_option maxHeartbeats 1000000 in
theorem pathFact (w : World) : Calls Tryd.prog 4 #[] w fun e w' => e = .returned (.bool true) ∧ Below w.heap.size w w' := by
  go_enter Tryd.func4, Tryd.ntmps4
  go_wp2_with fail
  refine (triangle_ w).mono ?_
  rintro e w1 ⟨rfl, hc1, hb1⟩
  have c2 := Lib.hid (far_ok 3 (some ⟨w.heap.size + 1, 0, none⟩) 3 3 triE 0 w1 hc1 rfl (by omega) tri_ok (by omega))
  clear hc1
  go_wp2_with fail
  refine c2.out.mono ?_
  rintro e w2 ⟨g, c, outs, rfl, hol, hown, hsh, _, hb2⟩
  have hx := tri_far hol hsh
  rw [hx] at hown
  have hcx := hown.own (by omega)
  have hn3 := (Row.new w2 3 #[.int .i64 0, .int .i64 3, .int .i64 4]).cells
  have hb3 : Below w2.heap.size w2 (w2.alloc (.cells #[.int .i64 0, .int .i64 3, .int .i64 4] 3)) := (Below.refl _ _).alloc (Nat.le_refl _) _
  have c6 := Lib.hid (ints_same (some ⟨g, 0, none⟩) (some ⟨w2.heap.size, 0, none⟩) 3 c 3 3 [0, 3, 4] [0, 3, 4] _ (hcx.step hb3) rfl (by omega) hn3 rfl)
  have hE : Hid (eqB [0, 3, 4] [0, 3, 4] = true) := eqB_true rfl
  have HB : Hid (Below w.heap.size w (w2.alloc (.cells #[.int .i64 0, .int .i64 3, .int .i64 4] 3))) := hb1.trans ((hb2.mono hb1.size).trans (hb3.mono (by have := hb1.size; have := hb2.size; omega)))
  clear hx hown hcx hn3 hb3 hsh hol c2 hb1 hb2
  go_wp2_with fail
  refine c6.out.mono ?_
  rintro e w7 ⟨rfl, q, rfl⟩
  rw [hE.out]
  go_wp2
  go_ret
  exact ⟨rfl, below_drewN HB.out q⟩
end Go.Proofs.YtfbnecnhalnmeaaDoor
