/- slices.Sort over a row of numbers of the call's own: the same numbers, rising. Conditions: at most 1000 numbers. -/
import Derived.Test.YtdiinphojjpadaaShelf
import Derived.Test.YtdiinphojjpadaaCore
import Derived.Shelf.Slices.In.SortNone
import Derived.Sort.OwnSortedInts
namespace Go.Proofs.Ytdiinphojjpadaa
open Go.RowKit Go.Sort
/-- sorted -/
def risen (xs : List Int) : List Int := xs.mergeSort fun x y => decide (x ≤ y)
theorem risen_perm (xs : List Int) : (risen xs).Perm xs := List.mergeSort_perm _ _
theorem risen_len (xs : List Int) : (risen xs).length = xs.length := (risen_perm xs).length_eq
theorem risen_sorted (xs : List Int) : (risen xs).Pairwise (· ≤ ·) := by
  have := List.pairwise_mergeSort (le := fun x y : Int => decide (x ≤ y)) (fun a b c h1 h2 => by simp only [decide_eq_true_eq] at *; omega) (fun a b => by simp only [Bool.or_eq_true, decide_eq_true_eq]; omega) xs
  exact this.imp fun h => by simpa using h
theorem sortInts {w : World} {base n c : Nat} {V : Option Addr} {xs : List Int} (hown : w.ownsRow base 3 1 (.slice V n c) n (ints xs)) (hm : n ≤ 1000) :
    Calls Try.prog 49 #[.slice V n c] w fun e w' => e = .returned (.tuple #[]) ∧ w'.ownsRow base 3 1 (.slice V n c) n (ints (risen xs)) ∧ w.grownBy w' (Value.slice V n c).ownBlock := by
  have hl : xs.length = n := by have := hown.1; simpa [ints] using this
  rcases hown.2 with ⟨h0, h1⟩ | ⟨g, cap, cur, hv, hb, hg, hnc, hcm, hcs, htk⟩
  · simp only [Value.slice.injEq] at h0
    obtain ⟨rfl, rfl, rfl⟩ := h0
    have hx : xs = [] := List.eq_nil_of_length_eq_zero hl
    subst hx
    refine (Any.slices_Sort_int_none Try.lays189 none 0 w).mono ?_
    rintro e w' ⟨rfl, rfl⟩
    exact ⟨rfl, by simpa [risen] using hown, World.grownBy.refl _ _⟩
  · simp only [Value.slice.injEq, true_and] at hv
    obtain ⟨rfl, rfl⟩ := hv
    subst hl
    have htk' : cur.toList.take xs.length = xs.map (Value.int .i64) := by
      have := htk
      rw [Nat.mul_one] at this
      exact this
    have hH := holds_of_blockI hg htk'
    have hlt : g < w.heap.size := (Array.getElem?_eq_some_iff.1 hg).1
    refine (Any.slices_Sort_int Try.lays189 g 0 c xs w hH hlt (by omega)).mono ?_
    rintro e w' ⟨rfl, m, os, rfl⟩
    have h := ownsRow_sortedI (w := w) (n := m) (os := os) (ss := xs) (ts := risen xs) (risen_len xs) hb hg hnc hcm hcs
    exact ⟨rfl, h, grownBy_sortedI _⟩
end Go.Proofs.Ytdiinphojjpadaa
