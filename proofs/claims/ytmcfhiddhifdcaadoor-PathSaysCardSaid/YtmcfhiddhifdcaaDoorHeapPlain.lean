/- Plain: heaps, as lists: one in, and up; the first out, and down. Conditions: none. -/
import Derived.Test.YtmcfhiddhifdcaaDoorPerm
namespace Go.Proofs.YtmcfhiddhifdcaaDoor
/-- what comes first: a weak order -/
structure Firsts {α : Type} (lt : α → α → Bool) : Prop where
  asym : ∀ a b, lt a b = true → lt b a = false
  trans : ∀ a b c, lt b a = false → lt c b = false → lt c a = false
section
variable {α : Type} [Inhabited α] {lt : α → α → Bool}
theorem gset (ys : List α) (i k : Nat) (v : α) (hi : i < ys.length) : (ys.set i v)[k]! = if k = i then v else ys[k]! := by
  rw [List.getElem!_eq_getElem?_getD, List.getElem!_eq_getElem?_getD, List.getElem?_set]
  by_cases h : i = k
  · subst h; simp [hi]
  · rw [if_neg h, if_neg (fun e => h e.symm)]
theorem gget (ys : List α) {k : Nat} (h : k < ys.length) : ys[k]? = some ys[k]! := by
  rw [List.getElem!_eq_getElem?_getD, List.getElem?_eq_getElem h]; simp
/-- i and p change places -/
def swapped (ys : List α) (i p : Nat) : List α := (ys.set i ys[p]!).set p ys[i]!
theorem swapped_len (ys : List α) (i p : Nat) : (swapped ys i p).length = ys.length := by simp [swapped]
theorem swapped_at (ys : List α) {i p : Nat} (k : Nat) (hi : i < ys.length) (hp : p < ys.length) : (swapped ys i p)[k]! = if k = p then ys[i]! else if k = i then ys[p]! else ys[k]! := by
  unfold swapped
  rw [gset _ _ _ _ (by simpa using hp), gset _ _ _ _ hi]
theorem swapped_perm (ys : List α) {i p : Nat} (hi : i < ys.length) (hp : p < ys.length) : (swapped ys i p).Perm ys := by
  have := List.set_set_perm (as := ys) (i := i) (j := p) hi hp
  have e1 : ys[p]! = ys[p] := by rw [List.getElem!_eq_getElem?_getD, List.getElem?_eq_getElem hp]; rfl
  have e2 : ys[i]! = ys[i] := by rw [List.getElem!_eq_getElem?_getD, List.getElem?_eq_getElem hi]; rfl
  unfold swapped
  rw [e1, e2]; exact this
/-- each is no sooner than the one above it -/
def HeapOrd (lt : α → α → Bool) (ys : List α) : Prop := ∀ j, 0 < j → j < ys.length → lt ys[j]! ys[(j - 1) / 2]! = false
def UpAt (lt : α → α → Bool) (ys : List α) (i : Nat) : Prop :=
  (∀ j, 0 < j → j < ys.length → j ≠ i → lt ys[j]! ys[(j - 1) / 2]! = false) ∧ ∀ j, 0 < j → j < ys.length → (j - 1) / 2 = i → 0 < i → lt ys[j]! ys[(i - 1) / 2]! = false
def DownAt (lt : α → α → Bool) (ys : List α) (i : Nat) : Prop :=
  (∀ j, 0 < j → j < ys.length → (j - 1) / 2 ≠ i → lt ys[j]! ys[(j - 1) / 2]! = false) ∧ ∀ j, 0 < j → j < ys.length → (j - 1) / 2 = i → 0 < i → lt ys[j]! ys[(i - 1) / 2]! = false
theorem HeapOrd.nil : HeapOrd lt ([] : List α) := fun j _ h => by simp at h
theorem UpAt.start {ys : List α} (h : HeapOrd lt ys) (x : α) : UpAt lt (ys ++ [x]) ys.length := by
  have e : ∀ j, j < ys.length → (ys ++ [x])[j]! = ys[j]! := fun j hj => by
    rw [List.getElem!_eq_getElem?_getD, List.getElem!_eq_getElem?_getD, List.getElem?_append_left hj]
  refine ⟨fun j h0 h1 h2 => ?_, fun j h0 h1 h2 h3 => ?_⟩
  · rw [List.length_append] at h1; simp only [List.length_cons, List.length_nil] at h1
    rw [e j (by omega), e _ (by omega)]; exact h j h0 (by omega)
  · rw [List.length_append] at h1; simp only [List.length_cons, List.length_nil] at h1; omega
theorem UpAt.done {ys : List α} {i : Nat} (h : UpAt lt ys i) (he : i = 0 ∨ lt ys[i]! ys[(i - 1) / 2]! = false) : HeapOrd lt ys := fun j h0 h1 => by
  by_cases hj : j = i
  · subst hj
    rcases he with he | he
    · omega
    · exact he
  · exact h.1 j h0 h1 hj
theorem UpAt.step (hl : Firsts lt) {ys : List α} {i : Nat} (h : UpAt lt ys i) (h0 : 0 < i) (hi : i < ys.length) (ht : lt ys[i]! ys[(i - 1) / 2]! = true) : UpAt lt (swapped ys i ((i - 1) / 2)) ((i - 1) / 2) := by
  obtain ⟨p, hp⟩ : ∃ p, p = (i - 1) / 2 := ⟨_, rfl⟩
  rw [← hp] at ht ⊢
  have hpi : p < i := by omega
  have hle : lt ys[p]! ys[i]! = false := hl.asym _ _ ht
  have hA := fun k => swapped_at ys (i := i) (p := p) k hi (by omega)
  refine ⟨fun j j0 j1 j2 => ?_, fun j j0 j1 j2 j3 => ?_⟩
  · rw [swapped_len] at j1
    rw [hA, hA, if_neg j2]
    by_cases e1 : j = i
    · subst e1
      rw [if_pos rfl, if_pos hp.symm]; exact hle
    · rw [if_neg e1]
      by_cases e2 : (j - 1) / 2 = p
      · rw [if_pos e2]
        have := h.1 j j0 j1 e1
        rw [e2] at this
        exact hl.trans _ _ _ hle this
      · rw [if_neg e2]
        by_cases e3 : (j - 1) / 2 = i
        · rw [if_pos e3]
          have := h.2 j j0 j1 e3 h0
          rw [← hp] at this; exact this
        · rw [if_neg e3]; exact h.1 j j0 j1 e1
  · rw [swapped_len] at j1
    have hq := h.1 p j3 (by omega) (by omega)
    rw [hA, hA, if_neg (show j ≠ p by omega), if_neg (show (p - 1) / 2 ≠ p by omega), if_neg (show (p - 1) / 2 ≠ i by omega)]
    by_cases e1 : j = i
    · rw [if_pos e1]; exact hq
    · rw [if_neg e1]
      have := h.1 j j0 j1 e1
      rw [j2] at this
      exact hl.trans _ _ _ hq this
theorem HeapOrd.least (hl : Firsts lt) {ys : List α} (h : HeapOrd lt ys) : ∀ j, j < ys.length → lt ys[j]! ys[0]! = false := by
  intro j
  induction j using Nat.strongRecOn with
  | ind j ih =>
    intro hj
    by_cases h0 : j = 0
    · subst h0
      cases hx : lt ys[0]! ys[0]! with
      | false => rfl
      | true => have := hl.asym _ _ hx; rw [hx] at this; exact this
    · exact hl.trans _ _ _ (ih ((j - 1) / 2) (by omega) (by omega)) (h j (by omega) hj)
/-- which of the two below it is the first -/
def lower (lt : α → α → Bool) (ys : List α) (i : Nat) : Nat := if 2 * i + 1 + 1 < ys.length ∧ lt ys[2 * i + 1 + 1]! ys[2 * i + 1]! = true then 2 * i + 1 + 1 else 2 * i + 1
theorem lower_ok (hl : Firsts lt) {ys : List α} {i : Nat} (hi : 2 * i + 1 < ys.length) : lower lt ys i < ys.length ∧ (lower lt ys i - 1) / 2 = i ∧ i < lower lt ys i ∧ ∀ j, 0 < j → j < ys.length → (j - 1) / 2 = i → lt ys[j]! ys[lower lt ys i]! = false := by
  have hr : ∀ a : α, lt a a = false := fun a => by
    cases hx : lt a a with
    | false => rfl
    | true => have := hl.asym _ _ hx; rw [hx] at this; exact this
  unfold lower
  split
  · next h =>
    refine ⟨h.1, by omega, by omega, fun j j0 j1 j2 => ?_⟩
    rcases (show j = 2 * i + 1 ∨ j = 2 * i + 1 + 1 by omega) with e | e
    · rw [e]; exact hl.asym _ _ h.2
    · rw [e]; exact hr _
  · next h =>
    refine ⟨hi, by omega, by omega, fun j j0 j1 j2 => ?_⟩
    rcases (show j = 2 * i + 1 ∨ j = 2 * i + 1 + 1 by omega) with e | e
    · rw [e]; exact hr _
    · rw [e]
      cases hx : lt ys[2 * i + 1 + 1]! ys[2 * i + 1]! with
      | false => rfl
      | true => exact absurd ⟨by omega, hx⟩ h
theorem DownAt.done {ys : List α} {i : Nat} (h : DownAt lt ys i) (he : ∀ j, 0 < j → j < ys.length → (j - 1) / 2 = i → lt ys[j]! ys[i]! = false) : HeapOrd lt ys := fun j h0 h1 => by
  by_cases hj : (j - 1) / 2 = i
  · rw [hj]; exact he j h0 h1 hj
  · exact h.1 j h0 h1 hj
theorem DownAt.none {ys : List α} {i : Nat} (h : DownAt lt ys i) (he : ys.length ≤ 2 * i + 1) : HeapOrd lt ys := h.done fun j h0 h1 h2 => by omega
theorem DownAt.stay (hl : Firsts lt) {ys : List α} {i : Nat} (h : DownAt lt ys i) (hi : 2 * i + 1 < ys.length) (ht : lt ys[lower lt ys i]! ys[i]! = false) : HeapOrd lt ys :=
  h.done fun j h0 h1 h2 => hl.trans _ _ _ ht ((lower_ok hl hi).2.2.2 j h0 h1 h2)
theorem DownAt.step (hl : Firsts lt) {ys : List α} {i : Nat} (h : DownAt lt ys i) (hi : 2 * i + 1 < ys.length) (ht : lt ys[lower lt ys i]! ys[i]! = true) : DownAt lt (swapped ys i (lower lt ys i)) (lower lt ys i) := by
  obtain ⟨c1, c2, c3, c4⟩ := lower_ok hl hi
  generalize lower lt ys i = c at *
  have hle : lt ys[i]! ys[c]! = false := hl.asym _ _ ht
  have hA := fun k => swapped_at ys (i := i) (p := c) k (by omega) c1
  refine ⟨fun j j0 j1 j2 => ?_, fun j j0 j1 j2 j3 => ?_⟩
  · rw [swapped_len] at j1
    rw [hA, hA, if_neg j2]
    by_cases e1 : j = c
    · subst e1
      rw [if_pos rfl, if_pos c2]; exact hle
    · rw [if_neg e1]
      by_cases e2 : (j - 1) / 2 = i
      · rw [if_pos e2, if_neg (show j ≠ i by omega)]; exact c4 j j0 j1 e2
      · rw [if_neg e2]
        by_cases e3 : j = i
        · subst e3
          rw [if_pos rfl]; exact h.2 c (by omega) c1 c2 j0
        · rw [if_neg e3]; exact h.1 j j0 j1 e2
  · rw [swapped_len] at j1
    rw [hA, hA, c2, if_neg (show j ≠ c by omega), if_neg (show j ≠ i by omega), if_neg (show i ≠ c by omega), if_pos rfl]
    have := h.1 j j0 j1 (by omega)
    rw [j2] at this; exact this
/-- the first is taken, and the last one stands in its place -/
def popped (ys : List α) : List α := (ys.set 0 ys[ys.length - 1]!).take (ys.length - 1)
theorem popped_len (ys : List α) : (popped ys).length = ys.length - 1 := by simp [popped]
theorem popped_at (ys : List α) {k : Nat} (hk : k < ys.length - 1) : (popped ys)[k]! = if k = 0 then ys[ys.length - 1]! else ys[k]! := by
  unfold popped
  rw [List.getElem!_eq_getElem?_getD, List.getElem?_take_of_lt hk, ← List.getElem!_eq_getElem?_getD, gset _ _ _ _ (by omega)]
theorem DownAt.start {ys : List α} (h : HeapOrd lt ys) : DownAt lt (popped ys) 0 := by
  refine ⟨fun j j0 j1 j2 => ?_, fun j _ _ _ h0 => by omega⟩
  rw [popped_len] at j1
  rw [popped_at ys j1, popped_at ys (by omega), if_neg (by omega), if_neg j2]
  exact h j j0 (by omega)
theorem popped_perm (ys : List α) (h : 0 < ys.length) : (ys[0]! :: popped ys).Perm ys := by
  obtain ⟨x, l, rfl⟩ : ∃ x l, ys = x :: l := by cases ys with | nil => simp at h | cons x l => exact ⟨x, l, rfl⟩
  rcases List.eq_nil_or_concat l with rfl | ⟨m, y, rfl⟩
  · simp [popped]
  · have e : (x :: (m ++ [y]))[(x :: (m ++ [y])).length - 1]! = y := by
      rw [List.getElem!_eq_getElem?_getD]; simp
    have e2 : popped (x :: (m ++ [y])) = y :: m := by
      unfold popped
      rw [e]; simp
    rw [List.concat_eq_append, e2]
    show (x :: y :: m).Perm _
    exact List.Perm.cons _ (List.perm_append_singleton y m).symm
end
end Go.Proofs.YtmcfhiddhifdcaaDoor
