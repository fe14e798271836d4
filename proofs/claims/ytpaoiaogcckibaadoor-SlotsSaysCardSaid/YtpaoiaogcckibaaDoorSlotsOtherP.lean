/- Plain: no other rooms are fewer. Conditions: none. -/
import Derived.Test.YtpaoiaogcckibaaDoorSlotsDeep
namespace Go.Proofs.YtpaoiaogcckibaaDoor
open Go.RowKit
theorem oget (o : List Int) {k : Nat} (h : k < o.length) : o[k]? = some o[k]! := by
  rw [List.getElem!_eq_getElem?_getD, List.getElem?_eq_getElem h]; simp
theorem oget' (o : List Int) {k : Nat} (h : k < o.length) : o[k]! = o[k] := by
  rw [List.getElem!_eq_getElem?_getD, List.getElem?_eq_getElem h]; rfl
/-- how many of the first are the first with their number -/
def isNew (o : List Int) (k : Nat) : Bool := !((o.take k).contains o[k]!)
def news (o : List Int) : Nat → Int
  | 0 => 0
  | k + 1 => news o k + if isNew o k then 1 else 0
theorem news_le (o : List Int) : ∀ k, 0 ≤ news o k ∧ news o k ≤ k := by
  intro k
  induction k with
  | zero => simp [news]
  | succ k ih => simp only [news]; split <;> omega
/-- no two of the first in one room meet -/
def NoMeet (l : List Sp) (o : List Int) (k : Nat) : Prop := ∀ i j : Nat, j < i → i < k → o[i]! = o[j]! → ¬ meetP (spAt l i) (spAt l j)
theorem eraseDups_len (o : List Int) : ∀ k, k ≤ o.length → ∀ s : List Int, s.Nodup → (∀ x ∈ s, x ∈ o.take k) → (s.length : Int) ≤ news o k := by
  intro k
  induction k with
  | zero =>
    intro _ s hs hm
    cases s with
    | nil => simp [news]
    | cons x s => have := hm x (by simp); simp at this
  | succ k ih =>
    intro hk s hs hm
    have hk' : k < o.length := by omega
    have hg : o[k]? = some o[k]! := oget o hk'
    have ht : o.take (k + 1) = o.take k ++ [o[k]!] := take_at hg
    rw [ht] at hm
    generalize hy : o[k]! = y at hm
    have hmem : ∀ x, x ∈ o.take k ++ [y] → x ∈ o.take k ∨ x = y := fun x h => by
      rcases List.mem_append.1 h with h | h
      · exact Or.inl h
      · exact Or.inr (List.mem_singleton.1 h)
    simp only [news]
    cases hN : isNew o k with
    | false =>
      have hc : y ∈ o.take k := by
        unfold isNew at hN; rw [hy] at hN; simpa using hN
      have h1 := ih (by omega) s hs (fun x hx => by
        rcases hmem x (hm x hx) with h | h
        · exact h
        · rw [h]; exact hc)
      simpa using h1
    | true =>
      have h1 := ih (by omega) (s.erase y) (hs.erase _) (fun x hx => by
        have hx' := (List.Nodup.mem_erase_iff hs).1 hx
        rcases hmem x (hm x hx'.2) with h | h
        · exact h
        · exact absurd h hx'.1)
      have h2 : (s.erase y).length + 1 ≥ s.length := by rw [List.length_erase]; split <;> omega
      rw [if_pos rfl]
      omega
theorem other_le {l : List Sp} {o : List Int} (hl : o.length = l.length) (hm : NoMeet l o l.length) : deepV l ≤ news o l.length := by
  rcases deepUp_at l 1001 with h | ⟨t, ht, h⟩
  · have := (news_le o l.length).1; show deepUp l 1001 ≤ _; omega
  · show deepUp l 1001 ≤ _
    rw [h]
    have key : ∀ k, k ≤ l.length → ∃ s : List Int, s.Nodup ∧ (∀ x ∈ s, ∃ i : Nat, i < k ∧ o[i]! = x ∧ (spAt l i).1 ≤ t ∧ (t : Int) < (spAt l i).2) ∧ (s.length : Int) = cnt (l.take k) t := by
      intro k
      induction k with
      | zero => intro _; exact ⟨[], List.nodup_nil, by simp, by simp [cnt]⟩
      | succ k ih =>
        intro hk
        obtain ⟨s, h1, h2, h3⟩ := ih (by omega)
        have hx : l[k]? = some l[k] := List.getElem?_eq_getElem (by omega)
        have hsp : spAt l (k : Int) = l[k] := spAt_nat (x := l[k].1) (y := l[k].2) hx
        rw [take_at hx, cnt_snoc]
        by_cases hc : l[k].1 ≤ (t : Int) ∧ (t : Int) < l[k].2
        · refine ⟨o[k]! :: s, List.nodup_cons.2 ⟨fun hmem => ?_, h1⟩, fun x hx => ?_, by rw [if_pos hc, List.length_cons, ← h3]; omega⟩
          · obtain ⟨i, hi, he, ha, hb⟩ := h2 _ hmem
            refine hm k i hi (by omega) he.symm ?_
            unfold meetP; rw [hsp]; omega
          · rcases List.mem_cons.1 hx with rfl | hx
            · exact ⟨k, by omega, rfl, by rw [hsp]; exact hc.1, by rw [hsp]; exact hc.2⟩
            · obtain ⟨i, hi, he⟩ := h2 x hx
              exact ⟨i, by omega, he⟩
        · exact ⟨s, h1, fun x hx => by obtain ⟨i, hi, he⟩ := h2 x hx; exact ⟨i, by omega, he⟩, by rw [if_neg hc]; omega⟩
    obtain ⟨s, h1, h2, h3⟩ := key l.length (Nat.le_refl _)
    rw [List.take_length] at h3
    rw [← h3]
    refine eraseDups_len o _ (by omega) s h1 fun x hx => ?_
    obtain ⟨i, hi, rfl, _⟩ := h2 x hx
    rw [oget' o (by omega), List.mem_take_iff_getElem]
    exact ⟨i, by omega, rfl⟩
end Go.Proofs.YtpaoiaogcckibaaDoor
