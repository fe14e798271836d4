/- Plain: groups that are told alike join alike; no edges that join all weigh less than the forest. Conditions: none. -/
import Derived.Test.YtjelckekmilhkaaSpanFact
import Derived.Test.YtjelckekmilhkaaWeight
import Derived.Test.YtjelckekmilhkaaRowsEq
namespace Go.Proofs.Ytjelckekmilhkaa
open Go.RowKit
theorem mem_members {R : Nat → Nat} {n r x : Nat} : (x : Int) ∈ members R n r ↔ x < n ∧ R x = r := by
  unfold members
  rw [List.mem_map]
  constructor
  · rintro ⟨y, hy, e⟩
    rw [List.mem_filter, List.mem_range] at hy
    have : y = x := by omega
    subst this
    exact ⟨hy.1, by simpa using hy.2⟩
  · rintro ⟨h1, h2⟩
    exact ⟨x, List.mem_filter.2 ⟨List.mem_range.2 h1, by simpa using h2⟩, rfl⟩
theorem groups_with {R : Nat → Nat} {n x y : Nat} (hx : x < n) (hy : y < n) : R x = R y ↔ ∃ g ∈ groupsOf R n, (x : Int) ∈ g ∧ (y : Int) ∈ g := by
  unfold groupsOf
  constructor
  · intro e
    exact ⟨members R n (R x), List.mem_map.2 ⟨R x, (mem_firsts R n (R x)).2 ⟨x, hx, rfl⟩, rfl⟩, mem_members.2 ⟨hx, rfl⟩, mem_members.2 ⟨hy, e.symm⟩⟩
  · rintro ⟨g, hg, h1, h2⟩
    obtain ⟨r, _, rfl⟩ := List.mem_map.1 hg
    rw [(mem_members.1 h1).2, (mem_members.1 h2).2]
theorem groups_kernel {R R' : Nat → Nat} {n : Nat} (h : groupsOf R n = groupsOf R' n) {x y : Nat} (hx : x < n) (hy : y < n) : R x = R y ↔ R' x = R' y := by
  rw [groups_with hx hy, groups_with hx hy, h]
theorem groups_rows {R : Nat → Nat} {n : Nat} {rs : List RV} (h : rs.map RV.xs = groupsOf R n) (hn : n ≤ 60) : rs.length ≤ 60 ∧ ∀ r ∈ rs, r.xs.length ≤ 9223372036854775807 := by
  constructor
  · have := congrArg List.length h
    simp only [List.length_map, groupsOf] at this
    have := firsts_len R n; omega
  · intro r hr
    have hm : r.xs ∈ rs.map RV.xs := List.mem_map_of_mem hr
    rw [h] at hm
    unfold groupsOf at hm
    obtain ⟨q, _, hq⟩ := List.mem_map.1 hm
    rw [← hq]
    unfold members
    rw [List.length_map]
    have := List.length_filter_le (fun x => R x == q) (List.range n)
    rw [List.length_range] at this
    omega
theorem span_least {N : Nat} {l : List Edge} {L : List Int} {R1 R2 : Nat → Nat} (hg : graphErr N l = 0) (hL : ∀ i ∈ L, 0 ≤ i ∧ i < l.length) (h1 : Gen N (L.map (eOf l)) R1) (h2 : Gen N ((upto l.length).map (eOf l)) R2) (he : groupsOf R1 N = groupsOf R2 N) :
    sumB (wOf l) (forest N l) ≤ sumB (wOf l) L := by
  have hE := kord_ends hg
  have h3 := (inF_forest N l).least hE (kord_weights l) 1000 (fun i hi => by
    have h4 := (kord_ord l).2.1 i hi
    have h5 := (graphErr_ok hg).2.2 _ (eAt_mem h4.1 h4.2)
    unfold wOf; omega) (H := L) (fun i hi => (kord_ord l).full i (hL i hi).1 (hL i hi).2) (fun i hi => by
    obtain ⟨_, e2, e3⟩ := ends_cast hE hi
    have h4 : Conn N ((upto l.length).map (eOf l)) (eOf l i).1.toNat (eOf l i).2.toNat := Tied.self (l := upto l.length) (fun j hj => hE j ((kord_ord l).perm.mem_iff.2 hj)) ((kord_ord l).perm.mem_iff.1 hi)
    exact (h1.conn e2 e3).1 ((groups_kernel he e2 e3).2 ((h2.conn e2 e3).2 h4)))
  have h4 : sumB (wOf l) (forest N l) = sumB (wOf l) ((kord l).filter (inF N l)) := by
    unfold sumB forest
    exact sum_perm _ (risen_perm _)
  rw [h4]; exact h3
theorem forest_weight {N : Nat} {l : List Edge} (hg : graphErr N l = 0) : weightErr N l (forest N l) = 0 := by
  unfold weightErr
  rw [if_pos hg]
  exact riseErr_of _ _ _ (fun i hi => by have := (mem_forest.1 hi).1; omega) (forest_rising N l)
theorem forest_len {N : Nat} {l : List Edge} : (forest N l).length ≤ l.length := by
  have := len_le_of_sub (forest N l) (upto l.length) (forest_nodup N l) (fun i hi => (mem_upto _ _).2 (mem_forest.1 hi).1)
  rwa [upto_len] at this
end Go.Proofs.Ytjelckekmilhkaa
