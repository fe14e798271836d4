/- Plain lemmas on orders of things: what is a permutation of 0 to n-1. Conditions: none. -/
namespace Go.Proofs.Ytejbilcofbjpiaa
theorem len_le_of_sub : ∀ (l m : List Int), l.Nodup → (∀ x ∈ l, x ∈ m) → l.length ≤ m.length := by
  intro l
  induction l with
  | nil => intro m _ _; simp
  | cons x l ih =>
    intro m hn hs
    have hx : x ∈ m := hs x (by simp)
    have hn' := List.nodup_cons.1 hn
    have h := ih (m.erase x) hn'.2 (fun y hy => by
      have hne : y ≠ x := fun e => hn'.1 (e ▸ hy)
      exact (List.mem_erase_of_ne hne).2 (hs y (by simp [hy])))
    rw [List.length_erase_of_mem hx] at h
    have : 0 < m.length := List.length_pos_of_mem hx
    simp; omega
/-- all numbers from 0 on, below n -/
def upto (n : Nat) : List Int := (List.range n).map fun (k : Nat) => (k : Int)
theorem upto_len (n : Nat) : (upto n).length = n := by simp [upto]
theorem mem_upto (n : Nat) (i : Int) : i ∈ upto n ↔ 0 ≤ i ∧ i < n := by
  simp only [upto, List.mem_map, List.mem_range]
  constructor
  · rintro ⟨a, h, rfl⟩; omega
  · intro h; exact ⟨i.toNat, by omega, by omega⟩
theorem upto_nodup (n : Nat) : (upto n).Nodup := by
  unfold upto
  rw [List.nodup_iff_pairwise_ne, List.pairwise_map]
  exact List.nodup_range.imp fun h => by omega
/-- an order of n things -/
def IsOrd (n : Nat) (o : List Int) : Prop := o.length = n ∧ (∀ i ∈ o, 0 ≤ i ∧ i < n) ∧ o.Nodup
theorem IsOrd.full {n : Nat} {o : List Int} (h : IsOrd n o) : ∀ i : Int, 0 ≤ i → i < n → i ∈ o := by
  intro i h0 h1
  rcases Classical.em (i ∈ o) with hm | hm
  · exact hm
  · have := len_le_of_sub (i :: o) (upto n) (List.nodup_cons.2 ⟨hm, h.2.2⟩) (fun x hx => by
      rw [mem_upto]
      rcases List.mem_cons.1 hx with rfl | hx
      · exact ⟨h0, h1⟩
      · exact h.2.1 x hx)
    rw [upto_len] at this; simp at this; have := h.1; omega
theorem IsOrd.perm {n : Nat} {o : List Int} (h : IsOrd n o) : o.Perm (upto n) := by
  rw [List.perm_iff_count]
  intro a
  rw [h.2.2.count, (upto_nodup n).count]
  by_cases ha : a ∈ o
  · rw [if_pos ha, if_pos ((mem_upto n a).2 (h.2.1 a ha))]
  · rw [if_neg ha, if_neg fun hm => ha (h.full a ((mem_upto n a).1 hm).1 ((mem_upto n a).1 hm).2)]
theorem isOrd_of_perm {n : Nat} {o : List Int} (h : o.Perm (upto n)) : IsOrd n o :=
  ⟨by rw [h.length_eq, upto_len], fun i hi => (mem_upto n i).1 (h.mem_iff.1 hi), h.symm.nodup (upto_nodup n)⟩
theorem IsOrd.reverse {n : Nat} {o : List Int} (h : IsOrd n o) : IsOrd n o.reverse :=
  isOrd_of_perm ((List.reverse_perm o).trans h.perm)
/-- of a list and places the things -/
def at_ {α : Type} [Inhabited α] (l : List α) (o : List Int) : List α := o.map fun i => l[i.toNat]!
theorem at_upto {α : Type} [Inhabited α] (l : List α) : at_ l (upto l.length) = l := by
  apply List.ext_getElem
  · simp [at_, upto]
  · intro i h1 h2; simp [at_, upto, h2]
theorem at_perm {α : Type} [Inhabited α] (l : List α) {o : List Int} (h : IsOrd l.length o) : (at_ l o).Perm l := by
  have := h.perm.map fun i => l[i.toNat]!
  have e := at_upto l
  unfold at_ at e
  rw [e] at this; exact this
theorem sum_perm {α : Type} (f : α → Int) {l m : List α} (h : l.Perm m) : (l.map f).sum = (m.map f).sum := by
  induction h with
  | nil => rfl
  | cons x _ ih => simp [ih]
  | swap x y l => simp; omega
  | trans _ _ ih1 ih2 => exact ih1.trans ih2
end Go.Proofs.Ytejbilcofbjpiaa
