/- Plain: the insertion sort keeps equals in their order. Conditions: the comparison is one by a weak order. -/
import Derived.Sort.LotA
import Derived.Sort.WalkA
import Derived.Shelf.SlSortCmp.Insertion
namespace Go.Proofs.Ytejbilcofbjpiaa
open Go.Sort Go.Proofs

/-- a comparison by a weak order -/
structure Weak {α : Type} (c : α → α → Int) : Prop where
  anti : ∀ x y, c x y < 0 ↔ 0 < c y x
  trans : ∀ x y z, c x y ≤ 0 → c y z ≤ 0 → c x z ≤ 0

/-- ahead of: less, or equal and of the lower number -/
def Ahead {α : Type} (c : α → α → Int) (v : α → Int) (x y : α) : Prop := c x y < 0 ∨ (c x y = 0 ∧ v x < v y)

section
variable {α : Type} {c : α → α → Int} {v : α → Int}
theorem Weak.zero (h : Weak c) {x y : α} (e : c x y = 0) : c y x = 0 := by
  have h1 := h.anti x y
  have h2 := h.anti y x
  omega
theorem Weak.lt_le (h : Weak c) {x y z : α} (h1 : c x y < 0) (h2 : c y z ≤ 0) : c x z < 0 := by
  rcases Int.lt_or_le (c x z) 0 with h3 | h3
  · exact h3
  · have a1 := h.anti x z
    have a2 := h.trans y z x h2 (by omega)
    have a3 := h.anti x y
    omega
theorem Weak.le_lt (h : Weak c) {x y z : α} (h1 : c x y ≤ 0) (h2 : c y z < 0) : c x z < 0 := by
  rcases Int.lt_or_le (c x z) 0 with h3 | h3
  · exact h3
  · have a1 := h.anti x z
    have a2 := h.trans z x y (by omega) h1
    have a3 := h.anti y z
    omega
theorem Ahead.trans (h : Weak c) {x y z : α} (h1 : Ahead c v x y) (h2 : Ahead c v y z) : Ahead c v x z := by
  rcases h1 with h1 | ⟨e1, l1⟩
  · left
    exact h.lt_le h1 (by rcases h2 with h2 | ⟨e2, _⟩ <;> omega)
  · rcases h2 with h2 | ⟨e2, l2⟩
    · exact Or.inl (h.le_lt (by omega) h2)
    · have a1 := h.trans x y z (by omega) (by omega)
      have a2 := h.trans z y x (by have := h.zero e2; omega) (by have := h.zero e1; omega)
      have a3 := h.anti x z
      have a4 := h.anti z x
      exact Or.inr ⟨by omega, by omega⟩
theorem Ahead.of_not (h : Weak c) {x y : α} (h1 : ¬ c y x < 0) (h2 : v x < v y) : Ahead c v x y := by
  have a1 := h.anti y x
  have a2 := h.anti x y
  rcases Int.lt_or_le (c x y) 0 with h3 | h3
  · exact Or.inl h3
  · exact Or.inr ⟨by omega, h2⟩
theorem Ahead.asymm (h : Weak c) {x y : α} (h1 : Ahead c v x y) (h2 : Ahead c v y x) : False := by
  have a1 := h.anti y x
  have a2 := h.anti x y
  unfold Ahead at h1 h2
  omega

variable [Inhabited α]
theorem swp_get (d : Array α) (i j k : Nat) (hi : i < d.size) (hj : j < d.size) : (swp d i j)[k]! = if k = j then d[i]! else if k = i then d[j]! else d[k]! := by
  unfold swp
  split
  · next e => subst e; exact getElem!_set_same _ _ _ (by simpa using hj)
  · next e =>
    rw [getElem!_set_other _ _ _ _ e]
    split
    · next e2 => subst e2; exact getElem!_set_same _ _ _ hi
    · next e2 => exact getElem!_set_other _ _ _ _ e2

/-- the places from a on, below b, in order -/
def Sorted (c : α → α → Int) (v : α → Int) (d : Array α) (a b : Nat) : Prop := ∀ p q, a ≤ p → p < q → q < b → Ahead c v d[p]! d[q]!

theorem insInner_sorted (h : Weak c) (a i : Nat) : ∀ (j : Nat) (d : Array α), a ≤ j → j ≤ i → i < d.size →
    (∀ p q, a ≤ p → p < q → q ≤ i → p ≠ j → q ≠ j → Ahead c v d[p]! d[q]!) → (∀ q, j < q → q ≤ i → Ahead c v d[j]! d[q]!) → (∀ p, a ≤ p → p < j → v d[p]! < v d[j]!) →
    Sorted c v (insInner (ltOf c) a j d) a (i + 1) := by
  intro j
  induction j with
  | zero =>
    intro d ha hji hi h1 h2 h3
    rw [insInner_stop _ _ _ _ (Or.inl (by omega))]
    intro p q hp hpq hq
    by_cases e : p = 0
    · subst e; exact h2 q hpq (by omega)
    · exact h1 p q hp hpq (by omega) e (by omega)
  | succ j ih =>
    intro d ha hji hi h1 h2 h3
    by_cases haj : a < j + 1
    · cases hl : (ltOf c) d[j + 1]! d[j + 1 - 1]! with
      | true =>
        rw [insInner_go _ _ _ _ haj hl]
        have hl' : c d[j + 1]! d[j]! < 0 := of_decide_eq_true hl
        have g : ∀ k, (swp d (j + 1) j)[k]! = if k = j then d[j + 1]! else if k = j + 1 then d[j]! else d[k]! := fun k => swp_get d (j + 1) j k (by omega) (by omega)
        refine ih _ (by omega) (by omega) (by simpa [swp] using hi) (fun p q hp hpq hq hpj hqj => ?_) (fun q hq hqi => ?_) (fun p hp hpj => ?_)
        · simp only [Nat.add_sub_cancel, g]
          rw [if_neg hpj, if_neg hqj]
          by_cases e1 : p = j + 1
          · subst e1
            rw [if_pos rfl, if_neg (by omega)]
            exact h1 j q (by omega) (by omega) hq (by omega) (by omega)
          · rw [if_neg e1]
            by_cases e2 : q = j + 1
            · subst e2
              rw [if_pos rfl]
              exact h1 p j hp (by omega) (by omega) (by omega) (by omega)
            · rw [if_neg e2]
              exact h1 p q hp hpq hq e1 e2
        · simp only [Nat.add_sub_cancel, g]
          rw [if_pos trivial, if_neg (by omega)]
          by_cases e2 : q = j + 1
          · rw [if_pos e2]; exact Or.inl hl'
          · rw [if_neg e2]; exact h2 q (by omega) hqi
        · simp only [Nat.add_sub_cancel, g]
          rw [if_neg (by omega), if_neg (by omega), if_pos trivial]
          exact h3 p hp (by omega)
      | false =>
        rw [insInner_stop _ _ _ _ (Or.inr hl)]
        have hl' : ¬ c d[j + 1]! d[j]! < 0 := of_decide_eq_false hl
        have hA : Ahead c v d[j]! d[j + 1]! := Ahead.of_not h hl' (h3 j (by omega) (by omega))
        intro p q hp hpq hq
        by_cases e1 : p = j + 1
        · subst e1; exact h2 q hpq (by omega)
        · by_cases e2 : q = j + 1
          · subst e2
            by_cases e3 : p = j
            · subst e3; exact hA
            · exact (h1 p j hp (by omega) (by omega) e1 (by omega)).trans h hA
          · exact h1 p q hp hpq (by omega) e1 e2
    · rw [insInner_stop _ _ _ _ (Or.inl (by omega))]
      intro p q hp hpq hq
      by_cases e : p = j + 1
      · subst e; exact h2 q hpq (by omega)
      · exact h1 p q hp hpq (by omega) e (by omega)

theorem insInner_perm (a i : Nat) : ∀ (j : Nat) (d : Array α), a ≤ j → j ≤ i → i < d.size → PermIn a (i + 1) d (insInner (ltOf c) a j d) := by
  intro j
  induction j with
  | zero => intro d ha hji hi; rw [insInner_stop _ _ _ _ (Or.inl (by omega))]; exact permIn_refl d a (i + 1)
  | succ j ih =>
    intro d ha hji hi
    by_cases hg : a < j + 1 ∧ (ltOf c) d[j + 1]! d[j + 1 - 1]! = true
    · rw [insInner_go _ _ _ _ hg.1 hg.2]
      exact permIn_trans _ _ _ a (i + 1) (swp_permIn d a (i + 1) (j + 1) j (by omega) (by omega) (by omega) (by omega) (by omega)) (ih _ (by omega) (by omega) (by simpa [swp] using hi))
    · rw [insInner_stop _ _ _ _ (by
        rcases Nat.lt_or_ge a (j + 1) with h | h
        · right; simpa [h] using hg
        · left; omega)]
      exact permIn_refl d a (i + 1)

theorem insOuter_ok (h : Weak c) (a b : Nat) (d : Array α) (hb : b ≤ d.size) (hv : ∀ p q, a ≤ p → p < q → q < b → v d[p]! < v d[q]!) :
    ∀ (m i : Nat) (dk : Array α), b - i = m → a < i → PermIn a i d dk → (i ≤ b → Sorted c v dk a i) → (b < i → dk = d ∧ b ≤ a + 1) → PermIn a b d (insOuter (ltOf c) a b i dk) ∧ Sorted c v (insOuter (ltOf c) a b i dk) a b := by
  intro m
  induction m with
  | zero =>
    intro i dk hm hai hp hs he
    rw [insOuter_stop _ _ _ _ _ (by omega)]
    rcases Nat.lt_or_ge b i with hbi | hbi
    · obtain ⟨rfl, hb1⟩ := he hbi
      exact ⟨permIn_refl dk a b, fun p q hp hpq hq => by omega⟩
    · have : i = b := by omega
      subst this
      exact ⟨hp, hs hbi⟩
  | succ m ih =>
    intro i dk hm hai hp hs he
    rw [insOuter_go _ _ _ _ _ (by omega)]
    have hsz := hp.1
    have hkeep : ∀ k, i ≤ k → dk[k]! = d[k]! := fun k hk => hp.2.1 k (Or.inr hk)
    have hlow : ∀ p, a ≤ p → p < i → v dk[p]! < v dk[i]! := fun p h1 h2 => by
      have := permIn_all d dk a i (fun x => v x < v d[i]!) (by omega) hp (fun k hk1 hk2 => hv k i hk1 hk2 (by omega)) p h1 h2
      rw [hkeep i (Nat.le_refl _)]; exact this
    have h1 := insInner_sorted (c := c) (v := v) h a i i dk (by omega) (Nat.le_refl _) (by omega) (fun p q hp' hpq hq hpi hqi => hs (by omega) p q hp' hpq (by omega)) (fun q hq hqi => by omega) hlow
    have h2 := insInner_perm (c := c) a i i dk (by omega) (Nat.le_refl _) (by omega)
    exact ih (i + 1) _ (by omega) (by omega) (permIn_trans _ _ _ a (i + 1) (permIn_mono d dk a i a (i + 1) (Nat.le_refl _) (by omega) (by omega) hp) h2) (fun _ => h1) (fun hlt => by omega)
theorem insertionSort_ok (h : Weak c) (a b : Nat) (d : Array α) (hab : a ≤ b) (hb : b ≤ d.size) (hv : ∀ p q, a ≤ p → p < q → q < b → v d[p]! < v d[q]!) :
    PermIn a b d (Sort.insertionSort (ltOf c) d a b) ∧ Sorted c v (Sort.insertionSort (ltOf c) d a b) a b := by
  unfold Sort.insertionSort
  exact insOuter_ok h a b d hb hv _ (a + 1) d rfl (by omega) (permIn_refl d a (a + 1)) (fun _ p q hp hpq hq => by omega) (fun hlt => ⟨rfl, by omega⟩)
end
end Go.Proofs.Ytejbilcofbjpiaa
