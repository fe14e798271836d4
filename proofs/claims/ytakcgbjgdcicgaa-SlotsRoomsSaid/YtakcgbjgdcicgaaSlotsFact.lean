/- The closed fact of the laws on spans; whether spans are apart. Conditions: lengths are such that slices can have. -/
import Derived.Test.YtakcgbjgdcicgaaSlotsPick
import Derived.Test.YtakcgbjgdcicgaaInts
import Derived.Deep.RegionHeld3
namespace Go.Proofs.Ytakcgbjgdcicgaa
open Go.RowKit
def threeS : List Sp := [(0, 5), (1, 3), (3, 4)]
theorem three_picked {xs : List Int} (h : Picked threeS xs) (hx : xs.Pairwise (fun a b => (spAt threeS a).2 ≤ (spAt threeS b).1)) : xs = [1, 2] := by
  have e0 : spAt threeS 0 = (0, 5) := rfl
  have e1 : spAt threeS 1 = (1, 3) := rfl
  have e2 : spAt threeS 2 = (3, 4) := rfl
  have hr : ∀ p ∈ xs, p = 0 ∨ p = 1 ∨ p = 2 := fun p hp => by
    have := h.apart.1 p hp
    simp [threeS] at this; omega
  have m1 : (1 : Int) ∈ xs := by
    obtain ⟨p, hp, a, b⟩ := h.stab 1 (by omega) (by simp [threeS])
    rcases hr p hp with rfl | rfl | rfl
    · rw [e0, e1] at b; simp at b
    · exact hp
    · rw [e2, e1] at b; simp at b
  have m2 : (2 : Int) ∈ xs := by
    obtain ⟨p, hp, a, b⟩ := h.stab 2 (by omega) (by simp [threeS])
    rcases hr p hp with rfl | rfl | rfl
    · rw [e0, e2] at b; simp at b
    · rw [e1, e2] at a; simp at a
    · exact hp
  have hn : xs.Nodup := List.nodup_iff_pairwise_ne.2 (h.apart.2.imp fun h => h.1)
  have l1 := len_le_of_sub [1, 2] xs (by decide) (by simp [m1, m2])
  have key : ∀ a b : Int, a ∈ xs → b ∈ xs → a ≠ b → (meetP (spAt threeS a) (spAt threeS b) → False) := fun a b ha hb hne hm => by
    have hp := h.apart.2
    rw [List.pairwise_iff_getElem] at hp
    obtain ⟨i, hi, rfl⟩ := List.getElem_of_mem ha
    obtain ⟨j, hj, rfl⟩ := List.getElem_of_mem hb
    rcases Nat.lt_trichotomy i j with hlt | rfl | hlt
    · exact (hp i j hi hj hlt).2 hm
    · exact hne rfl
    · exact (hp j i hj hi hlt).2 ⟨hm.2, hm.1⟩
  have h0 : (0 : Int) ∉ xs := fun h0 => key 0 1 h0 m1 (by decide) (by rw [e0, e1]; unfold meetP; decide)
  have hr2 : ∀ p ∈ xs, p = 1 ∨ p = 2 := fun p hp => by
    rcases hr p hp with rfl | h | h
    · exact absurd hp h0
    · exact Or.inl h
    · exact Or.inr h
  have l2 := len_le_of_sub xs [1, 2] hn (fun x hx => by rcases hr2 x hx with rfl | rfl <;> simp)
  obtain ⟨a, b, rfl⟩ : ∃ a b, xs = [a, b] := by
    rcases xs with _ | ⟨a, _ | ⟨b, _ | ⟨c, t⟩⟩⟩ <;> simp at l1 l2
    exact ⟨a, b, rfl⟩
  rw [List.pairwise_cons] at hx
  have hab := hx.1 b (by simp)
  rcases hr2 a (by simp) with rfl | rfl <;> rcases hr2 b (by simp) with rfl | rfl
  · simp at hn
  · rfl
  · rw [e1, e2] at hab; simp at hab
  · simp at hn
/-- have two spans a time in common? -/
def meetB (a b : Sp) : Bool := decide (a.1 < b.2 ∧ b.1 < a.2)
theorem meetB_true {a b : Sp} (h : meetP a b) : meetB a b = true := decide_eq_true h
theorem meetB_false {a b : Sp} (h : ¬ meetP a b) : meetB a b = false := decide_eq_false h
set_option maxHeartbeats 1000000 in
/-- ricksteadref4.Meet -/
theorem meet_ (a b c d : Int) (w : World) : Calls Try.prog 15 #[.agg #[.int .i64 a, .int .i64 b], .agg #[.int .i64 c, .int .i64 d]] w fun e w' => e = .returned (.bool (meetB (a, b) (c, d))) ∧ ∃ q os, w' = Go.Sort.grow (w.drewN q) os := by
  by_cases h1 : a < d
  · by_cases h2 : c < b
    · have HD : Hid (meetB (a, b) (c, d) = true) := decide_eq_true ⟨h1, h2⟩
      go_enter Try.func15, Try.ntmps15
      go_wp2
      go_ret
      exact ⟨ret_bool HD.out.symm, 0, #[.cells #[.int .i64 a, .int .i64 b] 31, .cells #[.int .i64 c, .int .i64 d] 31], rfl⟩
    · have HD : Hid (meetB (a, b) (c, d) = false) := decide_eq_false (fun h => h2 h.2)
      have d2 : decide (c < b) = false := decide_eq_false h2
      go_enter Try.func15, Try.ntmps15
      go_wp2
      go_ret
      exact ⟨ret_bool HD.out.symm, 0, #[.cells #[.int .i64 a, .int .i64 b] 31, .cells #[.int .i64 c, .int .i64 d] 31], rfl⟩
  · have HD : Hid (meetB (a, b) (c, d) = false) := decide_eq_false (fun h => h1 h.1)
    have d1 : decide (a < d) = false := decide_eq_false h1
    go_enter Try.func15, Try.ntmps15
    go_wp2
    go_ret
    exact ⟨ret_bool HD.out.symm, 0, #[.cells #[.int .i64 a, .int .i64 b] 31, .cells #[.int .i64 c, .int .i64 d] 31], rfl⟩
set_option maxHeartbeats 1000000 in
theorem slotsFact (w : World) : Calls Try.prog 11 #[] w fun e w' => e = .returned (.bool true) ∧ Below w.heap.size w w' := by
  have hn1 := (Row.new w 31 #[.int .i64 0, .int .i64 5, .int .i64 1, .int .i64 3, .int .i64 3, .int .i64 4]).cells
  have hb1 : Below w.heap.size w (w.alloc (.cells #[.int .i64 0, .int .i64 5, .int .i64 1, .int .i64 3, .int .i64 3, .int .i64 4] 31)) := (Below.refl _ _).alloc (Nat.le_refl _) _
  have HB1 := Lib.hid hb1
  have c2 := Lib.hid (slotsPick_ok (some ⟨w.heap.size, 0, none⟩) 3 3 threeS _ hn1 rfl (by decide))
  clear hn1 hb1
  go_enter Try.func11, Try.ntmps11
  go_wp2_with fail
  refine c2.out.mono ?_
  rintro e w2 ⟨V, cv, xs, rfl, hp, hpw, hown, hb2⟩
  have hx := three_picked hp hpw
  subst hx
  have hcx := hown.own (by omega)
  have hn3 := (Row.new w2 3 #[.int .i64 1, .int .i64 2]).cells
  have hb3 : Below w2.heap.size w2 (w2.alloc (.cells #[.int .i64 1, .int .i64 2] 3)) := (Below.refl _ _).alloc (Nat.le_refl _) _
  have c6 := Lib.hid (ints_same V (some ⟨w2.heap.size, 0, none⟩) 2 cv 2 2 [1, 2] [1, 2] _ (hcx.step hb3) rfl (by omega) hn3 rfl)
  have hE : Hid (eqB [1, 2] [1, 2] = true) := eqB_true rfl
  have HB : Hid (Below w.heap.size w (w2.alloc (.cells #[.int .i64 1, .int .i64 2] 3))) := HB1.out.trans ((hb2.mono HB1.out.size).trans (hb3.mono (by have := HB1.out.size; have := hb2.size; omega)))
  clear hown hcx hn3 hb3 hp hpw c2 hb2
  simp only [List.length_cons, List.length_nil, Nat.zero_add, Nat.reduceAdd]
  go_wp2_with fail
  refine c6.out.mono ?_
  rintro e w7 ⟨rfl, q, rfl⟩
  rw [hE.out]
  go_wp2
  go_ret
  exact ⟨rfl, below_drewN HB.out q⟩
end Go.Proofs.Ytakcgbjgdcicgaa
