/- Words for the document's own By. Conditions: none. -/
import Derived.Test.YtpaoiaogcckibaaDoorSelP
import Derived.Test.YtpaoiaogcckibaaDoorDueA
import Derived.Test.YtpaoiaogcckibaaDoorSmithA
import Derived.Test.YtpaoiaogcckibaaDoorWhole
import Derived.Test.YtpaoiaogcckibaaDoorKeeps
import Derived.Deep.RegionHeld3
import Derived.Deep.DeepCutAuto
namespace Go.Proofs.YtpaoiaogcckibaaDoor
open Go.RowKit
/-- what By leaves: just this order -/
def ByOK (w : World) (n : Nat) (zs : List Int) (e : Ending) (w' : World) : Prop :=
  ∃ V cv, e = .returned (.slice V n cv) ∧ w'.ownsRow w.heap.size 3 1 (.slice V n cv) n (ints zs) ∧ Below w.heap.size w w'
theorem own_baseB {w : World} {b b' e size n : Nat} {v : Value} {xs : List Value} (h : w.ownsRow b e size v n xs) (hb : b' ≤ b) : w.ownsRow b' e size v n xs := by
  obtain ⟨h1, h2⟩ := h
  refine ⟨h1, ?_⟩
  rcases h2 with h2 | ⟨g, cap, cur, rfl, hg, hh, r⟩
  · exact Or.inl h2
  · exact Or.inr ⟨g, cap, cur, rfl, by omega, hh, r⟩
theorem hadRow_add {n : Nat} {ys : List Int} {q : Nat} : hadRow n (ys ++ [(q : Int)]) = hadRow n ((q : Int) :: ys) := by
  unfold hadRow
  apply List.map_congr_left
  intro i _
  congr 1
  rw [decide_eq_decide]; simp [or_comm]
theorem weak_due (l : List Job) : Weak (dueC l) := weak_key fun i => (jobAt l i).due
theorem weak_smithI {l : List Job} (h : ∀ p ∈ l, (1 ≤ p.time ∧ p.time ≤ 1000) ∧ (0 ≤ p.due ∧ p.due ≤ 1000) ∧ (0 ≤ p.weight ∧ p.weight ≤ 1000)) : Weak (smithC l) := by
  constructor
  · intro x y; exact cmpI_anti _ _
  · intro x y z
    unfold smithC
    rw [cmpI_le, cmpI_le, cmpI_le]
    intro a b
    exact ratio_trans (jobAt_pos h _).1 (jobAt_pos h _).1 (jobAt_pos h _).1 a b
theorem cmpI_lt {a b : Int} : cmpI a b < 0 ↔ a < b := by unfold cmpI; split <;> (try split) <;> omega
end Go.Proofs.YtpaoiaogcckibaaDoor
