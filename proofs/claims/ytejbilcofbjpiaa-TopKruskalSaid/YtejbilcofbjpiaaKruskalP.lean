/- Plain: the forest of the lightest edges of a graph: the order of its edges, and which of them are in it. Conditions: none. -/
import Derived.Test.YtejbilcofbjpiaaForest
import Derived.Test.YtejbilcofbjpiaaCompare
import Derived.Test.YtejbilcofbjpiaaSpanCheck
import Derived.Test.YtejbilcofbjpiaaSortInts
namespace Go.Proofs.Ytejbilcofbjpiaa
open Go.RowKit
def eAt (l : List Edge) (i : Int) : Edge := l.getD i.toNat ⟨0, 0, 0⟩
def eOf (l : List Edge) (i : Int) : Int × Int := ((eAt l i).a, (eAt l i).b)
def wOf (l : List Edge) (i : Int) : Int := (eAt l i).weight
def kC (l : List Edge) (i j : Int) : Int := cmpI (wOf l i) (wOf l j)
theorem eAt_of {l : List Edge} {i : Nat} {e : Edge} (h : l[i]? = some e) : eAt l (i : Int) = e := by simp [eAt, h]
theorem eAt_mem {l : List Edge} {i : Int} (h0 : 0 ≤ i) (h1 : i < l.length) : eAt l i ∈ l := by
  unfold eAt List.getD
  rw [List.getElem?_eq_getElem (by omega)]
  exact List.getElem_mem _
/-- ahead of one another: the lighter one; of two that weigh the same the first -/
def Lt2 (l : List Edge) (i j : Int) : Prop := wOf l i < wOf l j ∨ (wOf l i = wOf l j ∧ i < j)
theorem ahead_lt2 {l : List Edge} {i j : Int} : Ahead (kC l) id i j ↔ Lt2 l i j := by
  unfold Ahead kC cmpI Lt2
  simp only [id]
  split
  · constructor
    · intro _; left; omega
    · intro _; left; omega
  · split
    · constructor
      · rintro (h | h)
        · omega
        · omega
      · rintro (h | h) <;> omega
    · constructor
      · rintro (h | h)
        · omega
        · exact Or.inr ⟨by omega, h.2⟩
      · rintro (h | h)
        · omega
        · exact Or.inr ⟨rfl, h.2⟩
def le2B (l : List Edge) (i j : Int) : Bool := decide (wOf l i < wOf l j ∨ (wOf l i = wOf l j ∧ i ≤ j))
/-- the order of the edges of a graph -/
def kord (l : List Edge) : List Int := (upto l.length).mergeSort (le2B l)
theorem kord_ord (l : List Edge) : IsOrd l.length (kord l) := isOrd_of_perm (List.mergeSort_perm _ _)
theorem kord_sorted (l : List Edge) : (kord l).Pairwise (Lt2 l) := by
  have h1 : (kord l).Pairwise fun a b => le2B l a b = true := List.pairwise_mergeSort (fun a b c h1 h2 => by simp only [le2B, decide_eq_true_eq] at *; omega) (fun a b => by simp only [le2B, Bool.or_eq_true, decide_eq_true_eq]; omega) _
  have h2 := (kord_ord l).2.2
  rw [List.nodup_iff_pairwise_ne] at h2
  exact (h1.and h2).imp fun ⟨h3, h4⟩ => by
    simp only [le2B, decide_eq_true_eq] at h3
    unfold Lt2; omega
theorem order_is {l : List Edge} {ys : List Int} (ho : IsOrd l.length ys) (hs : ys.Pairwise (Ahead (kC l) id)) : ys = kord l := by
  refine List.Perm.eq_of_pairwise (le := fun i j => Lt2 l i j) (fun a b _ _ h1 h2 => by unfold Lt2 at h1 h2; omega) (hs.imp fun h => ahead_lt2.1 h) (kord_sorted l) (ho.perm.trans (kord_ord l).perm.symm)
theorem kord_weights (l : List Edge) : (kord l).Pairwise fun i j => wOf l i ≤ wOf l j := (kord_sorted l).imp fun h => by unfold Lt2 at h; omega
/-- is the edge in the forest? -/
noncomputable def inF (N : Nat) (l : List Edge) (i : Int) : Bool := @decide (¬ Tied N (eOf l) ((kord l).take ((kord l).idxOf i)) i) (Classical.propDecidable _)
theorem inF_iff {N : Nat} {l : List Edge} {i : Int} : inF N l i = true ↔ ¬ Tied N (eOf l) ((kord l).take ((kord l).idxOf i)) i := by
  unfold inF; exact @decide_eq_true_iff _ (Classical.propDecidable _)
theorem idx_of {ys : List Int} (hn : ys.Nodup) {k : Nat} {i : Int} (h : ys[k]? = some i) : ys.idxOf i = k := by
  have hk : k < ys.length := (List.getElem?_eq_some_iff.1 h).1
  have hi : i ∈ ys := List.mem_of_getElem? h
  have h1 := List.idxOf_lt_length_of_mem hi
  have h2 : ys[ys.idxOf i] = i := List.getElem_idxOf h1
  exact (List.getElem_inj (xs := ys) (h₀ := h1) (h₁ := hk) hn).1 (by rw [h2, (List.getElem?_eq_some_iff.1 h).2])
theorem inF_forest (N : Nat) (l : List Edge) : IsForest N (eOf l) (kord l) (inF N l) := fun k i h => by
  rw [inF_iff, idx_of (kord_ord l).2.2 h]
theorem kord_ends {N : Nat} {l : List Edge} (h : graphErr N l = 0) : Ends N (eOf l) (kord l) := fun i hi => by
  have h1 := (kord_ord l).2.1 i hi
  have h2 := (graphErr_ok h).2.2 _ (eAt_mem h1.1 h1.2)
  unfold eOf
  exact ⟨⟨h2.1.1, by simp only; omega⟩, ⟨h2.2.1.1, by simp only; omega⟩⟩
/-- those of the first k that are in the forest -/
noncomputable def keptK (N : Nat) (l : List Edge) (k : Nat) : List Int := ((kord l).take k).filter (inF N l)
/-- the forest: the edges, rising -/
noncomputable def forest (N : Nat) (l : List Edge) : List Int := risen ((kord l).filter (inF N l))
theorem keptK_all (N : Nat) (l : List Edge) : keptK N l l.length = (kord l).filter (inF N l) := by
  unfold keptK; rw [List.take_of_length_le (by have := (kord_ord l).1; omega)]
theorem mem_forest {N : Nat} {l : List Edge} {i : Int} : i ∈ forest N l ↔ (0 ≤ i ∧ i < l.length) ∧ inF N l i = true := by
  unfold forest
  rw [(risen_perm _).mem_iff, List.mem_filter]
  constructor
  · rintro ⟨h1, h2⟩
    exact ⟨(kord_ord l).2.1 i h1, h2⟩
  · rintro ⟨h1, h2⟩
    exact ⟨(kord_ord l).full i h1.1 h1.2, h2⟩
theorem forest_nodup (N : Nat) (l : List Edge) : (forest N l).Nodup := (risen_perm _).symm.nodup ((kord_ord l).2.2.filter _)
theorem forest_rising (N : Nat) (l : List Edge) : (forest N l).Pairwise (· < ·) := by
  have h1 := risen_sorted ((kord l).filter (inF N l))
  have h2 := forest_nodup N l
  rw [List.nodup_iff_pairwise_ne] at h2
  exact (h1.and h2).imp fun h => by omega
theorem keptK_step {N : Nat} {l : List Edge} {k : Nat} {i : Int} (h : (kord l)[k]? = some i) : keptK N l (k + 1) = keptK N l k ++ (if inF N l i = true then [i] else []) := by
  unfold keptK
  rw [List.take_add_one, h, List.filter_append]
  congr 1
  by_cases hc : inF N l i = true
  · rw [if_pos hc]; simp [hc]
  · rw [if_neg hc]; simp [hc]
/-- Join answers as the forest says -/
theorem join_is {N : Nat} {l : List Edge} {k : Nat} {i : Int} {R : Nat → Nat} (hg : graphErr N l = 0) (h : (kord l)[k]? = some i) (hR : Gen N (((kord l).take k).map (eOf l)) R) : inF N l i = true ↔ R (eOf l i).1.toNat ≠ R (eOf l i).2.toNat := by
  have hi : i ∈ kord l := List.mem_of_getElem? h
  obtain ⟨_, h1, h2⟩ := ends_cast (kord_ends hg) hi
  rw [(inF_forest N l) k i h, ne_eq, hR.conn h1 h2]
  rfl
end Go.Proofs.Ytejbilcofbjpiaa
