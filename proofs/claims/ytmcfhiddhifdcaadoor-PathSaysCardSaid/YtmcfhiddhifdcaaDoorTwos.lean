/- Rows of twos and threes: how one of them is put anew. Conditions: none. -/
import Derived.Test.YtmcfhiddhifdcaaDoorCore
import Derived.Test.YtmcfhiddhifdcaaDoorHeapPlain
namespace Go.Proofs.YtmcfhiddhifdcaaDoor
open Go.RowKit
theorem threes_set {α : Type} (f : α → Int × Int × Int) : ∀ (l : List α) (k : Nat) (x : α), (((threes f l).set (k * 3) (.int .i64 (f x).1)).set (k * 3 + 1) (.int .i64 (f x).2.1)).set (k * 3 + 2) (.int .i64 (f x).2.2) = threes f (l.set k x) := by
  intro l
  induction l with
  | nil => intro k x; simp [threes]
  | cons q l ih =>
    intro k x
    cases k with
    | zero => simp [threes]
    | succ k =>
      have := ih k x
      rw [show (k + 1) * 3 = k * 3 + 1 + 1 + 1 by omega]
      simpa [threes] using this
/-- rows of twos -/
def twos {α : Type} (f : α → Int × Int) (l : List α) : List Value := l.flatMap fun j => [.int .i64 (f j).1, .int .i64 (f j).2]
theorem twos_len {α : Type} (f : α → Int × Int) (l : List α) : (twos f l).length = l.length * 2 := by
  induction l with
  | nil => rfl
  | cons p l ih => simp only [twos, List.flatMap_cons, List.length_append, List.length_cons, List.length_nil] at ih ⊢; omega
theorem twos_get {α : Type} (f : α → Int × Int) : ∀ (l : List α) (k : Nat) (p : α), l[k]? = some p → (twos f l)[k * 2]? = some (.int .i64 (f p).1) ∧ (twos f l)[k * 2 + 1]? = some (.int .i64 (f p).2) := by
  intro l
  induction l with
  | nil => intro k p h; simp at h
  | cons q l ih =>
    intro k p h
    cases k with
    | zero => simp at h; subst h; simp [twos]
    | succ k =>
      have := ih k p (by simpa using h)
      rw [show (k + 1) * 2 = k * 2 + 1 + 1 by omega]
      simpa [twos] using this
theorem twos_append {α : Type} (f : α → Int × Int) (a b : List α) : twos f (a ++ b) = twos f a ++ twos f b := by simp [twos]
theorem twos_set {α : Type} (f : α → Int × Int) : ∀ (l : List α) (k : Nat) (x : α), ((twos f l).set (k * 2) (.int .i64 (f x).1)).set (k * 2 + 1) (.int .i64 (f x).2) = twos f (l.set k x) := by
  intro l
  induction l with
  | nil => intro k x; simp [twos]
  | cons q l ih =>
    intro k x
    cases k with
    | zero => simp [twos]
    | succ k =>
      have := ih k x
      rw [show (k + 1) * 2 = k * 2 + 1 + 1 by omega]
      simpa [twos] using this
theorem one_twos {α : Type} (f : α → Int × Int) (xs : List α) : ∀ u ∈ twos f xs, u.oneCell' = true := fun u hu => by
  obtain ⟨x, _, hx⟩ := List.mem_flatMap.1 hu
  simp at hx
  rcases hx with rfl | rfl <;> rfl
end Go.Proofs.YtmcfhiddhifdcaaDoor
