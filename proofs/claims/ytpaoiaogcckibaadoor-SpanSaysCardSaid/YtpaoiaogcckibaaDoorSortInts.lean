/- slices.Sort over a row of numbers of the call's own: the same numbers, rising. Conditions: at most 1000 numbers. -/
import Derived.Shelf.Sort.Plain
import Derived.Test.YtpaoiaogcckibaaDoorProg
import Derived.Test.YtpaoiaogcckibaaDoorCore
import Derived.Shelf.Slices.In.SortNone
import Derived.Sort.OwnSortedInts
namespace Go.Proofs
open Go.Shelf
def Tryd.lays189_ren : Go.Shelf.Ren := ⟨fun | 189 => 97 | 125 => 120 | 257 => 119 | 128 => 139 | 129 => 140 | 294 => 130 | 295 => 131 | 296 => 132 | 297 => 133 | 298 => 134 | 299 => 135 | 216 => 136 | 300 => 137 | 301 => 138 | 328 => 145 | 329 => 146 | 330 => 147 | 331 => 148 | 332 => 149 | 215 => 116 | 343 => 151 | n => n, fun | 28 => 29 | 3 => 3 | 46 => 169 | 0 => 0 | 51 => 198 | 53 => 200 | 4 => 4 | 183 => 192 | 182 => 191 | 131 => 98 | 5 => 5 | 9 => 9 | 218 => 215 | 222 => 219 | 228 => 221 | 229 => 88 | n => n, fun | n => n⟩
theorem Tryd.lays189 : Go.Proofs.Lays.n189 Tryd.prog Tryd.lays189_ren := {
  mixed := by kernel_rfl
  f125 := Tryd.func120.trans (congrArg some (by kernel_rfl))
  f128 := Tryd.func139.trans (congrArg some (by kernel_rfl))
  f129 := Tryd.func140.trans (congrArg some (by kernel_rfl))
  f189 := Tryd.func97.trans (congrArg some (by kernel_rfl))
  f215 := Tryd.func116.trans (congrArg some (by kernel_rfl))
  f216 := Tryd.func136.trans (congrArg some (by kernel_rfl))
  f257 := Tryd.func119.trans (congrArg some (by kernel_rfl))
  f294 := Tryd.func130.trans (congrArg some (by kernel_rfl))
  f295 := Tryd.func131.trans (congrArg some (by kernel_rfl))
  f296 := Tryd.func132.trans (congrArg some (by kernel_rfl))
  f297 := Tryd.func133.trans (congrArg some (by kernel_rfl))
  f298 := Tryd.func134.trans (congrArg some (by kernel_rfl))
  f299 := Tryd.func135.trans (congrArg some (by kernel_rfl))
  f300 := Tryd.func137.trans (congrArg some (by kernel_rfl))
  f301 := Tryd.func138.trans (congrArg some (by kernel_rfl))
  f328 := Tryd.func145.trans (congrArg some (by kernel_rfl))
  f329 := Tryd.func146.trans (congrArg some (by kernel_rfl))
  f330 := Tryd.func147.trans (congrArg some (by kernel_rfl))
  f331 := Tryd.func148.trans (congrArg some (by kernel_rfl))
  f332 := Tryd.func149.trans (congrArg some (by kernel_rfl))
  f343 := Tryd.func151.trans (congrArg some (by kernel_rfl))
  t0 := Tryd.underlying0
  a0 := Tryd.isAgg0
  z0 := Tryd.sizeOf0
  v0 := Tryd.zeroValue0
  t3 := Tryd.underlying3
  a3 := Tryd.isAgg3
  z3 := Tryd.sizeOf3
  v3 := Tryd.zeroValue3
  t4 := Tryd.underlying4
  a4 := Tryd.isAgg4
  z4 := Tryd.sizeOf4
  v4 := Tryd.zeroValue4
  t5 := Tryd.underlying5
  a5 := Tryd.isAgg5
  z5 := Tryd.sizeOf5
  v5 := Tryd.zeroValue5
  t9 := Tryd.underlying9
  a9 := Tryd.isAgg9
  z9 := Tryd.sizeOf9
  v9 := Tryd.zeroValue9
  t28 := Tryd.underlying29
  a28 := Tryd.isAgg29
  z28 := Tryd.sizeOf29
  v28 := Tryd.zeroValue29
  t46 := Tryd.underlying169
  a46 := Tryd.isAgg169
  z46 := Tryd.sizeOf169
  v46 := Tryd.zeroValue169
  t51 := Tryd.underlying198
  a51 := Tryd.isAgg198
  z51 := Tryd.sizeOf198
  v51 := Tryd.zeroValue198
  t53 := Tryd.underlying200
  a53 := Tryd.isAgg200
  z53 := Tryd.sizeOf200
  v53 := Tryd.zeroValue200
  t131 := Tryd.underlying98
  a131 := Tryd.isAgg98
  z131 := Tryd.sizeOf98
  v131 := Tryd.zeroValue98
  t182 := Tryd.underlying191
  a182 := Tryd.isAgg191
  z182 := Tryd.sizeOf191
  v182 := Tryd.zeroValue191
  t183 := Tryd.underlying192
  a183 := Tryd.isAgg192
  z183 := Tryd.sizeOf192
  v183 := Tryd.zeroValue192
  t218 := Tryd.underlying215
  a218 := Tryd.isAgg215
  z218 := Tryd.sizeOf215
  v218 := Tryd.zeroValue215
  t222 := Tryd.underlying219
  a222 := Tryd.isAgg219
  z222 := Tryd.sizeOf219
  v222 := Tryd.zeroValue219
  t228 := Tryd.underlying221
  a228 := Tryd.isAgg221
  z228 := Tryd.sizeOf221
  v228 := Tryd.zeroValue221
  t229 := Tryd.underlying88
  a229 := Tryd.isAgg88
  z229 := Tryd.sizeOf88
  v229 := Tryd.zeroValue88 }
end Go.Proofs
namespace Go.Proofs.YtpaoiaogcckibaaDoor
open Go.RowKit Go.Sort
/-- sorted -/
def risen (xs : List Int) : List Int := xs.mergeSort fun x y => decide (x ≤ y)
theorem risen_perm (xs : List Int) : (risen xs).Perm xs := List.mergeSort_perm _ _
theorem risen_len (xs : List Int) : (risen xs).length = xs.length := (risen_perm xs).length_eq
theorem risen_sorted (xs : List Int) : (risen xs).Pairwise (· ≤ ·) := by
  have := List.pairwise_mergeSort (le := fun x y : Int => decide (x ≤ y)) (fun a b c h1 h2 => by simp only [decide_eq_true_eq] at *; omega) (fun a b => by simp only [Bool.or_eq_true, decide_eq_true_eq]; omega) xs
  exact this.imp fun h => by simpa using h
theorem sortInts {w : World} {base n c : Nat} {V : Option Addr} {xs : List Int} (hown : w.ownsRow base 3 1 (.slice V n c) n (ints xs)) (hm : n ≤ 1000) :
    Calls Tryd.prog 97 #[.slice V n c] w fun e w' => e = .returned (.tuple #[]) ∧ w'.ownsRow base 3 1 (.slice V n c) n (ints (risen xs)) ∧ w.grownBy w' (Value.slice V n c).ownBlock := by
  have hl : xs.length = n := by have := hown.1; simpa [ints] using this
  rcases hown.2 with ⟨h0, h1⟩ | ⟨g, cap, cur, hv, hb, hg, hnc, hcm, hcs, htk⟩
  · simp only [Value.slice.injEq] at h0
    obtain ⟨rfl, rfl, rfl⟩ := h0
    have hx : xs = [] := List.eq_nil_of_length_eq_zero hl
    subst hx
    refine (Any.slices_Sort_int_none Tryd.lays189 none 0 w).mono ?_
    rintro e w' ⟨rfl, rfl⟩
    exact ⟨rfl, by simpa [risen] using hown, World.grownBy.refl _ _⟩
  · simp only [Value.slice.injEq, true_and] at hv
    obtain ⟨rfl, rfl⟩ := hv
    subst hl
    have htk' : cur.toList.take xs.length = xs.map (Value.int .i64) := by
      have := htk
      rw [Nat.mul_one] at this
      exact this
    have hH := holds_of_blockI hg htk'
    have hlt : g < w.heap.size := (Array.getElem?_eq_some_iff.1 hg).1
    refine (Any.slices_Sort_int Tryd.lays189 g 0 c xs w hH hlt (by omega)).mono ?_
    rintro e w' ⟨rfl, m, os, rfl⟩
    have h := ownsRow_sortedI (w := w) (n := m) (os := os) (ss := xs) (ts := risen xs) (risen_len xs) hb hg hnc hcm hcs
    exact ⟨rfl, h, grownBy_sortedI _⟩
end Go.Proofs.YtpaoiaogcckibaaDoor
