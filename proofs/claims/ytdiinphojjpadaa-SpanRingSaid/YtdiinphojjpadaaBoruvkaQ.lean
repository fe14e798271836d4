/- Plain: the lightest edges out of the groups, half way through an edge. Conditions: none. -/
import Derived.Test.YtdiinphojjpadaaBoruvkaP
namespace Go.Proofs.Ytdiinphojjpadaa
theorem fRow_congr {n : Nat} {f g : Nat → Int} (h : ∀ x, x < n → f x = g x) : fRow n f = fRow n g := by
  unfold fRow
  exact List.map_congr_left fun x hx => by rw [h x (List.mem_range.1 hx)]
section
variable {N : Nat} {l : List Edge} {R : Nat → Nat} {i : Nat}
/-- behind q of the two groups of edge i -/
def lo2 (R : Nat → Nat) (N : Nat) (l : List Edge) (i q k : Nat) : Int :=
  if (0 < q ∧ k = gi R N (eAt l i).a.toNat) ∨ (1 < q ∧ k = gi R N (eAt l i).b.toNat) then lo R N l k (i + 1) else lo R N l k i
def endQ (R : Nat → Nat) (N : Nat) (l : List Edge) (i q : Nat) : Nat := if q = 0 then gi R N (eAt l i).a.toNat else gi R N (eAt l i).b.toNat
theorem lo2_zero (k : Nat) : lo2 R N l i 0 k = lo R N l k i := by
  unfold lo2
  rw [if_neg (by omega)]
theorem lo_far {k : Nat} (h : ¬ outG R N k (eAt l i)) : lo R N l k (i + 1) = lo R N l k i := by
  rw [lo, if_neg (fun h2 => h h2.1)]
theorem lo2_two (k : Nat) : lo2 R N l i 2 k = lo R N l k (i + 1) := by
  unfold lo2
  split
  · rfl
  · next h =>
    refine (lo_far fun ho => h ?_).symm
    rcases ho.2 with e | e
    · exact Or.inl ⟨by omega, e.symm⟩
    · exact Or.inr ⟨by omega, e.symm⟩
theorem lo2_same (h : gi R N (eAt l i).a.toNat = gi R N (eAt l i).b.toNat) (q k : Nat) : lo2 R N l i q k = lo R N l k i := by
  unfold lo2
  split
  · exact lo_far fun ho => ho.1 h
  · rfl
variable (hne : gi R N (eAt l i).a.toNat ≠ gi R N (eAt l i).b.toNat) {q : Nat} (hq : q < 2)
include hne hq
theorem lo2_at : lo2 R N l i q (endQ R N l i q) = lo R N l (endQ R N l i q) i := by
  unfold lo2 endQ
  rw [if_neg]
  split <;> omega
omit hq in
theorem endQ_out : outG R N (endQ R N l i q) (eAt l i) := by
  refine ⟨hne, ?_⟩
  unfold endQ
  split
  · exact Or.inl rfl
  · exact Or.inr rfl
theorem lo2_put (hc : lo R N l (endQ R N l i q) i = 0 ∨ wOf l i < wOf l (lo R N l (endQ R N l i q) i - 1)) : (fun k => if k = endQ R N l i q then ((i : Int) + 1) else lo2 R N l i q k) = lo2 R N l i (q + 1) := by
  have hl : lo R N l (endQ R N l i q) (i + 1) = (i : Int) + 1 := by rw [lo, if_pos ⟨endQ_out hne, hc⟩]
  funext k
  by_cases e : k = endQ R N l i q
  · rw [if_pos e, e]
    unfold lo2
    rw [if_pos]
    · exact hl.symm
    · unfold endQ
      split
      · exact Or.inl ⟨by omega, rfl⟩
      · exact Or.inr ⟨by omega, rfl⟩
  · rw [if_neg e]
    unfold lo2
    unfold endQ at e
    have h2 : ((0 < q + 1 ∧ k = gi R N (eAt l i).a.toNat) ∨ (1 < q + 1 ∧ k = gi R N (eAt l i).b.toNat)) ↔ ((0 < q ∧ k = gi R N (eAt l i).a.toNat) ∨ (1 < q ∧ k = gi R N (eAt l i).b.toNat)) := by
      split at e <;> omega
    simp only [h2]
theorem lo2_skip (hc : ¬ (lo R N l (endQ R N l i q) i = 0 ∨ wOf l i < wOf l (lo R N l (endQ R N l i q) i - 1))) : lo2 R N l i (q + 1) = lo2 R N l i q := by
  have hl : lo R N l (endQ R N l i q) (i + 1) = lo R N l (endQ R N l i q) i := by rw [lo, if_neg (fun h => hc h.2)]
  funext k
  by_cases e : k = endQ R N l i q
  · rw [e, lo2_at hne hq]
    unfold lo2
    rw [if_pos, hl]
    unfold endQ
    split
    · exact Or.inl ⟨by omega, rfl⟩
    · exact Or.inr ⟨by omega, rfl⟩
  · unfold lo2
    unfold endQ at e
    have h2 : ((0 < q + 1 ∧ k = gi R N (eAt l i).a.toNat) ∨ (1 < q + 1 ∧ k = gi R N (eAt l i).b.toNat)) ↔ ((0 < q ∧ k = gi R N (eAt l i).a.toNat) ∨ (1 < q ∧ k = gi R N (eAt l i).b.toNat)) := by
      split at e <;> omega
    simp only [h2]
end
end Go.Proofs.Ytdiinphojjpadaa
