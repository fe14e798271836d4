/- Plain: whether numbers rise. Conditions: none. -/
import Derived.Test.YtpaoiaogcckibaaDoorCore
namespace Go.Proofs.YtpaoiaogcckibaaDoor
open Go.RowKit
/-- what is wrong with numbers behind p, of n -/
def riseErr (n p : Int) : List Int → Int
  | [] => 0
  | i :: L => if inB i 0 (n - 1) = true then (if i ≤ p then 3 else riseErr n i L) else 1
theorem riseErr_ok (n : Int) : ∀ (L : List Int) (p : Int), riseErr n p L = 0 → (∀ i ∈ L, p < i ∧ 0 ≤ i ∧ i < n) ∧ L.Pairwise (· < ·) := by
  intro L
  induction L with
  | nil => intro p _; exact ⟨fun i hi => by simp at hi, List.Pairwise.nil⟩
  | cons i L ih =>
    intro p h
    simp only [riseErr] at h
    split at h
    · next h0 =>
      have hr := of_inB h0
      split at h
      · cases h
      · next h1 =>
        obtain ⟨h2, h3⟩ := ih i h
        refine ⟨fun j hj => ?_, List.pairwise_cons.2 ⟨fun j hj => (h2 j hj).1, h3⟩⟩
        rcases List.mem_cons.1 hj with rfl | hj
        · omega
        · have := h2 j hj; omega
    · cases h
theorem riseErr_of (n : Int) : ∀ (L : List Int) (p : Int), (∀ i ∈ L, p < i ∧ 0 ≤ i ∧ i < n) → L.Pairwise (· < ·) → riseErr n p L = 0 := by
  intro L
  induction L with
  | nil => intro p _ _; rfl
  | cons i L ih =>
    intro p h hp
    have h0 := h i (by simp)
    have h1 := List.pairwise_cons.1 hp
    simp only [riseErr]
    rw [if_pos (inB_true (by omega)), if_neg (by omega)]
    exact ih i (fun j hj => ⟨h1.1 j hj, (h j (by simp [hj])).2⟩) h1.2
end Go.Proofs.YtpaoiaogcckibaaDoor
