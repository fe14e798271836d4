/- Plain: of each thing the least one that pairs join it to. Conditions: none. -/
import Derived.Test.YtblblgmmgalmeaaDoorUnionGen
namespace Go.Proofs.YtblblgmmgalmeaaDoor
def joinL (L : Nat → Nat) (a b : Nat) : Nat → Nat := if L b < L a then link L (L b) (L a) else if L a < L b then link L (L a) (L b) else L
def labels (E : List (Nat × Nat)) : Nat → Nat := E.foldl (fun L p => joinL L p.1 p.2) id
def castE (E : List (Nat × Nat)) : List (Int × Int) := E.map fun p => ((p.1 : Int), (p.2 : Int))
/-- least in its group -/
structure Canon (n : Nat) (E : List (Int × Int)) (L : Nat → Nat) : Prop where
  gen : Gen n E L
  le : ∀ x, L x ≤ x
  idem : ∀ x, L (L x) = L x
theorem Canon.start (n : Nat) : Canon n [] id := ⟨Gen.start n, fun _ => Nat.le_refl _, fun _ => rfl⟩
theorem Canon.join {n : Nat} {E : List (Int × Int)} {L : Nat → Nat} (h : Canon n E L) {a b : Nat} (ha : a < n) (hb : b < n) : Canon n (E ++ [((a : Int), (b : Int))]) (joinL L a b) := by
  have hl : ∀ x, x < n → L x < n := fun x hx => Nat.lt_of_le_of_lt (h.le x) hx
  unfold joinL
  by_cases h1 : L b < L a
  · rw [if_pos h1]
    refine ⟨h.gen.link ha hb hl (L b) (L a) (Or.inr ⟨rfl, rfl⟩), fun x => ?_, fun x => ?_⟩
    · unfold link
      split
      · next e => have := h.le x; omega
      · exact h.le x
    · unfold link
      by_cases e : L x = L a
      · rw [if_pos e, h.idem b, if_neg (by omega)]
      · rw [if_neg e, h.idem x, if_neg e]
  · rw [if_neg h1]
    by_cases h2 : L a < L b
    · rw [if_pos h2]
      refine ⟨h.gen.link ha hb hl (L a) (L b) (Or.inl ⟨rfl, rfl⟩), fun x => ?_, fun x => ?_⟩
      · unfold link
        split
        · next e => have := h.le x; omega
        · exact h.le x
      · unfold link
        by_cases e : L x = L b
        · rw [if_pos e, h.idem a, if_neg (by omega)]
        · rw [if_neg e, h.idem x, if_neg e]
    · rw [if_neg h2]
      exact ⟨h.gen.same (by omega), h.le, h.idem⟩
theorem labels_snoc (E : List (Nat × Nat)) (p : Nat × Nat) : labels (E ++ [p]) = joinL (labels E) p.1 p.2 := by unfold labels; rw [List.foldl_append]; rfl
theorem castE_snoc (E : List (Nat × Nat)) (p : Nat × Nat) : castE (E ++ [p]) = castE E ++ [((p.1 : Int), (p.2 : Int))] := by unfold castE; rw [List.map_append]; rfl
theorem canon_from {n : Nat} : ∀ (E : List (Nat × Nat)) (E0 : List (Int × Int)) (L : Nat → Nat), Canon n E0 L → (∀ p ∈ E, p.1 < n ∧ p.2 < n) → Canon n (E0 ++ castE E) (E.foldl (fun L p => joinL L p.1 p.2) L) := by
  intro E
  induction E with
  | nil => intro E0 L h _; simpa [castE] using h
  | cons p E ih =>
    intro E0 L h hE
    have hp := hE p (by simp)
    have := ih _ _ (h.join hp.1 hp.2) fun q hq => hE q (by simp [hq])
    rw [List.foldl_cons]
    simpa [castE] using this
theorem canon_labels {n : Nat} {E : List (Nat × Nat)} (hE : ∀ p ∈ E, p.1 < n ∧ p.2 < n) : Canon n (castE E) (labels E) := by
  have := canon_from (n := n) E [] id (Canon.start n) hE
  rw [List.nil_append] at this
  exact this
end Go.Proofs.YtblblgmmgalmeaaDoor
