/- Plain: the groups of the program and those of the document are the same. Conditions: none. -/
import Derived.Test.YtblblgmmgalmeaaDoorRefAll
import Derived.Test.YtblblgmmgalmeaaDoorUnionAre
namespace Go.Proofs.YtblblgmmgalmeaaDoor
open Go.RowKit
theorem Gen.drop {n : Nat} {E : List (Int × Int)} {R : Nat → Nat} {a b : Int} (h : Gen n (E ++ [(a, b)]) R) (hn : ¬ (0 ≤ a ∧ a < n ∧ 0 ≤ b ∧ b < n)) : Gen n E R := by
  refine ⟨fun x y hx hy hm => h.resp x y hx hy (by simp [hm]), fun f hf => h.least f fun x y hx hy hm => ?_⟩
  rcases List.mem_append.1 hm with hm | hm
  · exact hf x y hx hy hm
  · simp at hm; exfalso; apply hn; omega
/-- the same together -/
theorem same_kernel {n : Nat} {E : List (Int × Int)} {R L : Nat → Nat} (h : Gen n E R) (h' : Gen n E L) : ∀ x y, x < n → y < n → (R x = R y ↔ L x = L y) := h.kernel h' h'.resp h.resp
theorem same_groups {n : Nat} {E : List (Int × Int)} {R L : Nat → Nat} (h : Gen n E R) (h' : Gen n E L) : groupsOf R n = groupsOf L n := (groups_same (same_kernel h h') n (Nat.le_refl _)).1
theorem groups_len (R : Nat → Nat) (n : Nat) : (groupsOf R n).length = (firsts R n).length := by unfold groupsOf; rw [List.length_map]
theorem groups_roots {n : Nat} {R : Nat → Nat} (hl : ∀ x, x < n → R x < n) (hi : ∀ x, x < n → R (R x) = R x) : (groupsOf R n).length = roots n R := by
  rw [groups_len, firsts_roots hl hi]; rfl
theorem row2_own {w : World} {g base : Nat} {t : TypeId} {u v : Value} (h : Row w g t [u, v]) (hb : base ≤ g) : w.ownsRow base t 1 (.slice (some ⟨g, 0, none⟩) 2 2) 2 [u, v] :=
  ⟨rfl, Or.inr ⟨g, 2, #[u, v], rfl, hb, h, Nat.le_refl _, by unfold maxLen; omega, rfl, rfl⟩⟩
end Go.Proofs.YtblblgmmgalmeaaDoor
