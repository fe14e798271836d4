/- Plain: groups that are told alike join alike. Conditions: none. -/
import Derived.Test.YtfbnecnhalnmeaaSpanFact
import Derived.Test.YtfbnecnhalnmeaaRowsEq
namespace Go.Proofs.Ytfbnecnhalnmeaa
open Go.RowKit
theorem mem_members {R : Nat → Nat} {n r x : Nat} : (x : Int) ∈ members R n r ↔ x < n ∧ R x = r := by
  unfold members
  rw [List.mem_map]
  constructor
  · rintro ⟨y, hy, e⟩
    rw [List.mem_filter, List.mem_range] at hy
    have : y = x := by omega
    subst this
    exact ⟨hy.1, by simpa using hy.2⟩
  · rintro ⟨h1, h2⟩
    exact ⟨x, List.mem_filter.2 ⟨List.mem_range.2 h1, by simpa using h2⟩, rfl⟩
theorem groups_with {R : Nat → Nat} {n x y : Nat} (hx : x < n) (hy : y < n) : R x = R y ↔ ∃ g ∈ groupsOf R n, (x : Int) ∈ g ∧ (y : Int) ∈ g := by
  unfold groupsOf
  constructor
  · intro e
    exact ⟨members R n (R x), List.mem_map.2 ⟨R x, (mem_firsts R n (R x)).2 ⟨x, hx, rfl⟩, rfl⟩, mem_members.2 ⟨hx, rfl⟩, mem_members.2 ⟨hy, e.symm⟩⟩
  · rintro ⟨g, hg, h1, h2⟩
    obtain ⟨r, _, rfl⟩ := List.mem_map.1 hg
    rw [(mem_members.1 h1).2, (mem_members.1 h2).2]
theorem groups_kernel {R R' : Nat → Nat} {n : Nat} (h : groupsOf R n = groupsOf R' n) {x y : Nat} (hx : x < n) (hy : y < n) : R x = R y ↔ R' x = R' y := by
  rw [groups_with hx hy, groups_with hx hy, h]
theorem groups_rows {R : Nat → Nat} {n : Nat} {rs : List RV} (h : rs.map RV.xs = groupsOf R n) (hn : n ≤ 60) : rs.length ≤ 60 ∧ ∀ r ∈ rs, r.xs.length ≤ 9223372036854775807 := by
  constructor
  · have := congrArg List.length h
    simp only [List.length_map, groupsOf] at this
    have := firsts_len R n; omega
  · intro r hr
    have hm : r.xs ∈ rs.map RV.xs := List.mem_map_of_mem hr
    rw [h] at hm
    unfold groupsOf at hm
    obtain ⟨q, _, hq⟩ := List.mem_map.1 hm
    rw [← hq]
    unfold members
    rw [List.length_map]
    have := List.length_filter_le (fun x => R x == q) (List.range n)
    rw [List.length_range] at this
    omega
theorem forest_len {N : Nat} {l : List Edge} : (forest N l).length ≤ l.length := by
  have := len_le_of_sub (forest N l) (upto l.length) (forest_nodup N l) (fun i hi => (mem_upto _ _).2 (mem_forest.1 hi).1)
  rwa [upto_len] at this
end Go.Proofs.Ytfbnecnhalnmeaa
