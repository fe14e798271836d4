/- Plain: edges as items, sorted by weight: the order of the edges; which of them are taken. Conditions: none. -/
import Derived.Test.YtejbilcofbjpiaaOrdSort
import Derived.Test.YtejbilcofbjpiaaKruskal
import Derived.Test.YtejbilcofbjpiaaBRow
namespace Go.Proofs.Ytejbilcofbjpiaa
open Go.RowKit
/-- the first k edges as items -/
def itemsK (l : List Edge) (k : Nat) : List It := (List.range k).map fun (i : Nat) => (wOf l (i : Int), (i : Int))
theorem itemsK_len (l : List Edge) (k : Nat) : (itemsK l k).length = k := by simp [itemsK]
theorem itemsK_succ (l : List Edge) (k : Nat) : itemsK l (k + 1) = itemsK l k ++ [(wOf l (k : Int), (k : Int))] := by simp [itemsK, List.range_succ]
theorem itemsK_rise (l : List Edge) (k : Nat) : (itemsK l k).Pairwise (fun x y => x.2 < y.2) := by
  unfold itemsK
  rw [List.pairwise_map]
  exact List.pairwise_lt_range.imp fun h => by simp only; omega
theorem itemsK_in {l : List Edge} {k : Nat} (hk : k ≤ l.length) (hk40 : k ≤ 40) (hw : ∀ e ∈ l, 0 ≤ e.weight ∧ e.weight ≤ 1000) : ∀ p ∈ itemsK l k, (-1000000 ≤ p.1 ∧ p.1 ≤ 1000000) ∧ (0 ≤ p.2 ∧ p.2 ≤ 1000000) := fun p hp => by
  obtain ⟨i, h1, rfl⟩ := List.mem_map.1 hp
  have h2 := List.mem_range.1 h1
  have h3 := hw _ (eAt_mem (l := l) (i := (i : Int)) (by omega) (by omega))
  unfold wOf
  simp only
  omega
/-- the sorted items are the edges in their order -/
theorem items_order {l : List Edge} {n : Nat} {ys : List It} (hn : l.length = n) (hp : ys.Perm (itemsK l n)) (hs : ys.Pairwise (Ahead cK Prod.snd)) : ys = (kord l).map fun i => (wOf l i, i) := by
  have hform : ∀ p ∈ ys, p = (wOf l p.2, p.2) := fun p h => by
    obtain ⟨i, _, rfl⟩ := List.mem_map.1 (hp.mem_iff.1 h)
    rfl
  have h1 : (ys.map Prod.snd).Perm (upto l.length) := by
    have h2 := hp.map Prod.snd
    have h3 : (itemsK l n).map Prod.snd = upto l.length := by
      unfold itemsK upto
      rw [List.map_map, hn]
      rfl
    rw [h3] at h2; exact h2
  have h4 : ys.map Prod.snd = kord l := by
    refine order_is (isOrd_of_perm h1) ?_
    rw [List.pairwise_map]
    refine List.Pairwise.imp_of_mem ?_ hs
    intro a b ha hb h
    have e1 := hform a ha
    have e2 := hform b hb
    unfold Ahead at h ⊢
    unfold cK at h
    rw [e1, e2] at h
    exact h
  rw [← h4, List.map_map]
  conv => lhs; rw [← List.map_id ys]
  exact List.map_congr_left fun p hp => hform p hp
theorem items_at {l : List Edge} {j : Nat} {q : Int} (h : (kord l)[j]? = some q) : ((kord l).map fun i => (wOf l i, i))[j]? = some (wOf l q, q) := by rw [List.getElem?_map, h]; rfl
/-- which edges are taken, of the first j of the order -/
noncomputable def inK (N : Nat) (l : List Edge) (j i : Nat) : Bool := decide ((i : Int) ∈ keptK N l j)
theorem inK_zero (N : Nat) (l : List Edge) : inK N l 0 = fun _ => false := by funext i; simp [inK, keptK]
theorem inK_put {N : Nat} {l : List Edge} {j q : Nat} (h : keptK N l (j + 1) = keptK N l j ++ [(q : Int)]) : (fun i => if i = q then true else inK N l j i) = inK N l (j + 1) := by
  funext i
  unfold inK
  rw [h]
  by_cases e : i = q
  · rw [if_pos e, e]; simp
  · rw [if_neg e]
    have : (i : Int) ≠ (q : Int) := by omega
    simp [this]
theorem inK_keep {N : Nat} {l : List Edge} {j : Nat} (h : keptK N l (j + 1) = keptK N l j) : inK N l j = inK N l (j + 1) := by
  funext i; unfold inK; rw [h]
theorem inK_all {N : Nat} {l : List Edge} {q : Nat} (h : (q : Int) ∈ forest N l) : inK N l l.length q = true := by
  unfold inK
  rw [keptK_all]
  unfold forest at h
  exact decide_eq_true ((risen_perm _).mem_iff.1 h)
theorem forest_len (N : Nat) (l : List Edge) : (forest N l).length = (keptK N l l.length).length := by
  unfold forest
  rw [keptK_all, risen_len]
theorem keptK_le (N : Nat) (l : List Edge) (j : Nat) : (keptK N l j).length ≤ j := by
  unfold keptK
  exact Nat.le_trans (List.length_filter_le _ _) (List.length_take_le _ _)
end Go.Proofs.Ytejbilcofbjpiaa
