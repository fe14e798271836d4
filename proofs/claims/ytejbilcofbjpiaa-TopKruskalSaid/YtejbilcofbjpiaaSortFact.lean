/- The closed fact of the top laws: two items, sorted. Conditions: none. -/
import Derived.Test.YtejbilcofbjpiaaSortTwo
import Derived.Deep.Onto
namespace Go.Proofs.Ytejbilcofbjpiaa
open Go.RowKit
set_option maxHeartbeats 4000000 in
set_option maxRecDepth 100000 in
theorem stable2 (base D c m : Nat) (hm : m = 2) (a b d e : Int) (w : World) (hlt : d < a) (ho : w.ownsRow base 35 2 (.slice (some ⟨D, 0, none⟩) m c) m (pairs [(a, b), (d, e)])) :
    Calls Try.prog 26 #[.slice (some ⟨D, 0, none⟩) m c, .int .i64 (m : Int), .func (.func 18) #[] #[]] w fun ev w' => ev = .returned (.tuple #[]) ∧ w'.ownsRow base 35 2 (.slice (some ⟨D, 0, none⟩) m c) m (pairs [(d, e), (a, b)]) ∧ Keeps [D] w w' := by
  have HI := Lib.hid (ins2 base D c m hm a b d e w hlt ho)
  have h1 : ¬ (20 : Int) ≤ m := by omega
  have h2 : ¬ (20 : Int) < m := by omega
  clear ho hm hlt
  go_enter Try.func26, Try.ntmps26
  go_wp2
  refine wp_loop_rounds 1 ?_
  rw [rounds_succ]
  go_wp2_with (go_at_call 40; refine HI.out.mono ?_; rintro ev w5 ⟨rfl, ho5, hk5⟩)
  refine wp_loop_rounds 1 ?_
  rw [rounds_succ]
  go_wp2
  go_end0
  exact ⟨rfl, ho5, hk5⟩
set_option maxHeartbeats 4000000 in
set_option maxRecDepth 100000 in
theorem sortStable2 (base D c m : Nat) (hm : m = 2) (a b d e : Int) (w : World) (hlt : d < a) (ho : w.ownsRow base 35 2 (.slice (some ⟨D, 0, none⟩) m c) m (pairs [(a, b), (d, e)])) :
    Calls Try.prog 17 #[.slice (some ⟨D, 0, none⟩) m c, .func (.func 18) #[] #[]] w fun ev w' => ev = .returned (.tuple #[]) ∧ w'.ownsRow base 35 2 (.slice (some ⟨D, 0, none⟩) m c) m (pairs [(d, e), (a, b)]) ∧ Keeps [D] w w' := by
  have HI := Lib.hid (stable2 base D c m hm a b d e w hlt ho)
  clear ho hm hlt
  go_enter Try.func17, Try.ntmps17
  go_wp2_with (go_at_call 26; refine HI.out.mono ?_; rintro ev w5 ⟨rfl, ho5, hk5⟩)
  go_end0
  exact ⟨rfl, ho5, hk5⟩
set_option maxHeartbeats 4000000 in
set_option maxRecDepth 100000 in
theorem sort2 (X : Addr) (c : Nat) (a b d e : Int) (w : World) (hA : Cells w w.heap.size (some X) (pairs [(a, b), (d, e)])) (ha : -1000000 ≤ a ∧ a ≤ 1000000) (hb : 0 ≤ b ∧ b ≤ 1000000) (hd : -1000000 ≤ d ∧ d ≤ 1000000) (he : 0 ≤ e ∧ e ≤ 1000000) (hlt : d < a) :
    Calls Try.prog 6 #[.slice (some X) 2 c] w fun ev w' => ∃ g c', ev = .returned (.tuple #[.slice (some ⟨g, 0, none⟩) 2 c', .nilIface]) ∧ w'.ownsRow w.heap.size 35 2 (.slice (some ⟨g, 0, none⟩) 2 c') 2 (pairs [(d, e), (a, b)]) ∧ Below w.heap.size w w' := by
  have HA := Lib.hid hA
  have HLT := Lib.hid hlt
  have c0 := Lib.hid (itemCheck2 (some X) c a b d e w hA ha hb hd he)
  clear hA ha hb hd he hlt
  go_enter Try.func6, Try.ntmps6
  go_wp2_with fail
  refine c0.out.mono ?_
  rintro ev w1 ⟨rfl, hb1⟩
  have HB1 := Lib.hid hb1
  have c1 := Lib.hid (clone2 X c a b d e w1 (HA.out.step hb1))
  clear hb1 c0
  go_wp2_with fail
  refine c1.out.mono ?_
  rintro ev w2 ⟨g, c2, rfl, ho2, hb2⟩
  have HB2 : Hid (Below w.heap.size w w2) := HB1.out.trans (hb2.mono HB1.out.size)
  have HG : Hid (w1.heap.size ≤ g) := by
    obtain ⟨g', cap', hv, hg, _⟩ := ho2.form (by omega)
    simp only [Value.slice.injEq, Option.some.injEq, Addr.mk.injEq] at hv
    show _ ≤ _
    omega
  have c3 := Lib.hid (sortStable2 w1.heap.size g c2 2 rfl a b d e w2 HLT.out ho2)
  clear ho2 hb2 c1
  go_wp2_with fail
  refine c3.out.mono ?_
  rintro ev w3 ⟨rfl, ho3, hk3⟩
  have HO3 : Hid (w3.ownsRow w.heap.size 35 2 (.slice (some ⟨g, 0, none⟩) 2 c2) 2 (pairs [(d, e), (a, b)])) := World.ownsRow.mono (show w3.ownsRow w1.heap.size 35 2 (.slice (some ⟨g, 0, none⟩) 2 c2) 2 (pairs [(d, e), (a, b)]) from ho3) HB1.out.size
  have HB3 : Hid (Below w.heap.size w w3) := HB2.out.trans (hk3.below (fun x hx => by simp at hx; subst hx; exact Nat.le_trans HB1.out.size HG.out) HB2.out.size)
  clear ho3 hk3 c3
  go_wp2
  go_ret2
  exact ⟨g, c2, rfl, HO3.out, HB3.out⟩
set_option maxHeartbeats 1000000 in
set_option maxRecDepth 100000 in
theorem sortFact (w : World) : Calls Try.prog 4 #[] w fun e w' => e = .returned (.bool true) ∧ Below w.heap.size w w' := by
  have hn1 := (Row.new w 35 #[.int .i64 5, .int .i64 1, .int .i64 3, .int .i64 2]).cells
  have hb1 : Below w.heap.size w (w.alloc (.cells #[.int .i64 5, .int .i64 1, .int .i64 3, .int .i64 2] 35)) := (Below.refl _ _).alloc (Nat.le_refl _) _
  have HB1 := Lib.hid hb1
  have c2 := Lib.hid (sort2 ⟨w.heap.size, 0, none⟩ 2 5 1 3 2 _ hn1 (by decide) (by decide) (by decide) (by decide) (by decide))
  clear hn1 hb1
  go_enter Try.func4, Try.ntmps4
  go_wp2_with fail
  refine c2.out.mono ?_
  rintro e w2 ⟨g, c, rfl, ho, hb2⟩
  have h0 := ho.cellAt 0 (by omega)
  simp [pairs] at h0
  have HB : Hid (Below w.heap.size w w2) := HB1.out.trans (hb2.mono HB1.out.size)
  clear ho hb2 c2
  go_wp2
  go_ret
  exact ⟨rfl, HB.out⟩
end Go.Proofs.Ytejbilcofbjpiaa
