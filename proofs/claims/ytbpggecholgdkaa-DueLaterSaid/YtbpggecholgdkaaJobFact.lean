/- The closed facts of the laws on jobs. Conditions: none. -/
import Derived.Test.YtbpggecholgdkaaInts
import Derived.Test.YtbpggecholgdkaaDueB
import Derived.Test.YtbpggecholgdkaaSmithB
import Derived.Test.YtbpggecholgdkaaDueC
import Derived.Test.YtbpggecholgdkaaSmithC
namespace Go.Proofs.Ytbpggecholgdkaa
open Go.RowKit

theorem order_unique {c : Int → Int → Int} (anti : ∀ x y, c x y < 0 ↔ 0 < c y x) {ys zs : List Int} (hp : ys.Perm zs) (h1 : ys.Pairwise (Ahead c id)) (h2 : zs.Pairwise (Ahead c id)) : ys = zs :=
  List.Perm.eq_of_pairwise (fun a b _ _ ha hb => by
    have e1 := anti a b
    have e2 := anti b a
    unfold Ahead at ha hb
    simp only [id] at ha hb
    omega) h1 h2 hp
theorem IsOrd.perm_of {n : Nat} {a b : List Int} (ha : IsOrd n a) (hb : IsOrd n b) : a.Perm b := ha.perm.trans hb.perm.symm

def twoJobs : List Job := [⟨5, 9, 1⟩, ⟨2, 3, 4⟩]
theorem two_ (w : World) : Calls Try.prog 24 #[] w fun e w' => e = .returned (.slice (some ⟨w.heap.size, 0, none⟩) 2 2) ∧ Cells w' w'.heap.size (some ⟨w.heap.size, 0, none⟩) (jobs twoJobs) ∧ Below w.heap.size w w' := by
  have hc := (Row.new w 39 #[.int .i64 5, .int .i64 9, .int .i64 1, .int .i64 2, .int .i64 3, .int .i64 4]).cells
  have HC := Lib.hid hc
  clear hc
  go_enter Try.func24, Try.ntmps24
  go_wp2
  go_ret
  exact ⟨rfl, HC.out, (Below.refl _ _).alloc (Nat.le_refl _) _⟩
theorem cells_new (w : World) (t : TypeId) (cs : Array Value) : Cells (w.alloc (.cells cs t)) (w.alloc (.cells cs t)).heap.size (some ⟨w.heap.size, 0, none⟩) cs.toList := (Row.new w t cs).cells

set_option maxHeartbeats 1000000 in
theorem dueFact (w : World) : Calls Try.prog 18 #[] w fun e w' => e = .returned (.bool true) ∧ Below w.heap.size w w' := by
  go_enter Try.func18, Try.ntmps18
  go_wp2_with fail
  refine (two_ w).mono ?_
  rintro e w1 ⟨rfl, hc1, hb1⟩
  have c2 := Lib.hid (dueOrder_ok (some ⟨w.heap.size, 0, none⟩) 2 2 twoJobs w1 hc1 rfl (by omega) (by decide))
  clear hc1
  go_wp2_with fail
  refine c2.out.mono ?_
  rintro e w2 ⟨g, ys, rfl, hio, hpw, hown, hb2⟩
  have hys : ys = [1, 0] := order_unique (fun x y => (weak_key (fun i => (jobAt twoJobs i).due)).anti x y) (hio.perm_of ((whole_iff 2 [1, 0]).1 (by decide))) hpw (by simp [Ahead, dueC, jobAt, twoJobs, cmpI])
  subst hys
  have hcx := Lib.hid (hown.own (by omega))
  clear hown hio hpw c2
  go_wp2_with fail
  refine (two_ w2).mono ?_
  rintro e w3 ⟨rfl, hc3, hb3⟩
  have hn4 := cells_new w3 3 #[.int .i64 0, .int .i64 1]
  have hb4 : Below w3.heap.size w3 (w3.alloc (.cells #[.int .i64 0, .int .i64 1] 3)) := (Below.refl _ _).alloc (Nat.le_refl _) _
  have c4 := Lib.hid (dueLate_ok (some ⟨w2.heap.size, 0, none⟩) 2 2 (some ⟨w3.heap.size, 0, none⟩) 2 2 twoJobs [0, 1] _ (hc3.step hb4) rfl (by omega) hn4 rfl (by omega) (by decide))
  have hL : Hid (lateVal twoJobs [0, 1] = 4) := by show _ = _; decide
  have HB4 := Lib.hid hb4
  clear hc3 hn4 hb4
  go_wp2_with fail
  refine c4.out.mono ?_
  rintro e w5 ⟨rfl, hb5⟩
  rw [hL.out]
  have hb25 : Below w2.heap.size w2 w5 := hb3.trans ((HB4.out.mono hb3.size).trans (hb5.mono (by have := hb3.size; simp; omega)))
  have hn6 := cells_new w5 3 #[.int .i64 1, .int .i64 0]
  have hb6 : Below w5.heap.size w5 (w5.alloc (.cells #[.int .i64 1, .int .i64 0] 3)) := (Below.refl _ _).alloc (Nat.le_refl _) _
  have c6 := Lib.hid (ints_same (some ⟨g, 0, none⟩) (some ⟨w5.heap.size, 0, none⟩) 2 2 2 2 [1, 0] [1, 0] _ ((hcx.out.step hb25).step hb6) rfl (by omega) hn6 rfl)
  have hE : Hid (eqB [1, 0] [1, 0] = true) := eqB_true rfl
  have HB6 := Lib.hid hb6
  clear hn6 hb6 hcx
  go_wp2_with fail
  refine c6.out.mono ?_
  rintro e w7 ⟨rfl, q, rfl⟩
  rw [hE.out]
  go_wp2
  go_ret
  exact ⟨rfl, hb1.trans ((hb2.mono hb1.size).trans ((hb25.mono (by have := hb1.size; have := hb2.size; omega)).trans (below_drewN (HB6.out.mono (by have := hb1.size; have := hb2.size; have := hb25.size; omega)) q)))⟩

set_option maxHeartbeats 1000000 in
theorem smithFact (w : World) : Calls Try.prog 14 #[] w fun e w' => e = .returned (.bool true) ∧ Below w.heap.size w w' := by
  go_enter Try.func14, Try.ntmps14
  go_wp2_with fail
  refine (two_ w).mono ?_
  rintro e w1 ⟨rfl, hc1, hb1⟩
  have c2 := Lib.hid (smithOrder_ok (some ⟨w.heap.size, 0, none⟩) 2 2 twoJobs w1 hc1 rfl (by omega) (by decide))
  clear hc1
  go_wp2_with fail
  refine c2.out.mono ?_
  rintro e w2 ⟨g, ys, rfl, hio, hpw, hown, hb2⟩
  have hys : ys = [1, 0] := order_unique (fun x y => cmpI_anti _ _) (hio.perm_of ((whole_iff 2 [1, 0]).1 (by decide))) hpw (by simp [Ahead, smithC, jobAt, twoJobs, cmpI])
  subst hys
  have hcx := Lib.hid (hown.own (by omega))
  clear hown hio hpw c2
  go_wp2_with fail
  refine (two_ w2).mono ?_
  rintro e w3 ⟨rfl, hc3, hb3⟩
  have hn4 := cells_new w3 3 #[.int .i64 1, .int .i64 0]
  have hb4 : Below w3.heap.size w3 (w3.alloc (.cells #[.int .i64 1, .int .i64 0] 3)) := (Below.refl _ _).alloc (Nat.le_refl _) _
  have c4 := Lib.hid (smithCost_ok (some ⟨w2.heap.size, 0, none⟩) 2 2 (some ⟨w3.heap.size, 0, none⟩) 2 2 twoJobs [1, 0] _ (hc3.step hb4) rfl (by omega) hn4 rfl (by omega) (by decide))
  have hL : Hid (costFrom 0 (jat twoJobs [1, 0]) = 15) := by show _ = _; decide
  have HB4 := Lib.hid hb4
  clear hc3 hn4 hb4
  go_wp2_with fail
  refine c4.out.mono ?_
  rintro e w5 ⟨rfl, hb5⟩
  rw [hL.out]
  have hb25 : Below w2.heap.size w2 w5 := hb3.trans ((HB4.out.mono hb3.size).trans (hb5.mono (by have := hb3.size; simp; omega)))
  have hn6 := cells_new w5 3 #[.int .i64 1, .int .i64 0]
  have hb6 : Below w5.heap.size w5 (w5.alloc (.cells #[.int .i64 1, .int .i64 0] 3)) := (Below.refl _ _).alloc (Nat.le_refl _) _
  have c6 := Lib.hid (ints_same (some ⟨g, 0, none⟩) (some ⟨w5.heap.size, 0, none⟩) 2 2 2 2 [1, 0] [1, 0] _ ((hcx.out.step hb25).step hb6) rfl (by omega) hn6 rfl)
  have hE : Hid (eqB [1, 0] [1, 0] = true) := eqB_true rfl
  have HB6 := Lib.hid hb6
  clear hn6 hb6 hcx
  go_wp2_with fail
  refine c6.out.mono ?_
  rintro e w7 ⟨rfl, q, rfl⟩
  rw [hE.out]
  go_wp2
  go_ret
  exact ⟨rfl, hb1.trans ((hb2.mono hb1.size).trans ((hb25.mono (by have := hb1.size; have := hb2.size; omega)).trans (below_drewN (HB6.out.mono (by have := hb1.size; have := hb2.size; have := hb25.size; omega)) q)))⟩

/-! plain: sorted is best -/
theorem cmpI_le' {a b : Int} : cmpI a b ≤ 0 ↔ a ≤ b := cmpI_le
theorem ahead_le {c : Int → Int → Int} {x y : Int} (h : Ahead c id x y) : c x y ≤ 0 := by unfold Ahead at h; omega
theorem due_sorted {l : List Job} {ys : List Int} (h : ys.Pairwise (Ahead (dueC l) id)) : (jat l ys).Pairwise fun a b => a.due ≤ b.due := by
  unfold jat
  rw [List.pairwise_map]
  exact h.imp fun {a b} hab => cmpI_le.1 (show dueC l a b ≤ 0 from ahead_le hab)
theorem smith_sorted {l : List Job} {ys : List Int} (h : ys.Pairwise (Ahead (smithC l) id)) : (jat l ys).Pairwise fun a b => a.time * b.weight ≤ b.time * a.weight := by
  unfold jat
  rw [List.pairwise_map]
  exact h.imp fun {a b} hab => cmpI_le.1 (show smithC l a b ≤ 0 from ahead_le hab)
theorem jat_pos {l : List Job} (h : jobErr l = 0) {o : List Int} (ho : IsOrd l.length o) : ∀ y ∈ jat l o, 0 ≤ y.time := fun y hy => by
  have := (jobErr_ok h).2 y ((jat_perm ho).mem_iff.1 hy); omega
theorem due_best {l : List Job} {ys zs : List Int} (hl : jobErr l = 0) (h : ys.Pairwise (Ahead (dueC l) id)) (hy : IsOrd l.length ys) (hz : IsOrd l.length zs) : lateVal l ys ≤ lateVal l zs := by
  unfold lateVal
  split
  · omega
  · exact late_best _ (due_sorted h) _ _ _ (jat_pos hl hz) ((jat_perm hy).trans (jat_perm hz).symm)
theorem smith_best {l : List Job} {ys zs : List Int} (h : ys.Pairwise (Ahead (smithC l) id)) (hy : IsOrd l.length ys) (hz : IsOrd l.length zs) : costFrom 0 (jat l ys) ≤ costFrom 0 (jat l zs) :=
  cost_best _ (smith_sorted h) _ _ ((jat_perm hy).trans (jat_perm hz).symm)
end Go.Proofs.Ytbpggecholgdkaa
