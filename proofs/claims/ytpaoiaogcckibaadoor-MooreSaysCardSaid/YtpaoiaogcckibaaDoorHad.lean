/- A row of bools: which places have been. Conditions: none. -/
import Derived.Test.YtpaoiaogcckibaaDoorCore
namespace Go.Proofs.YtpaoiaogcckibaaDoor
open Go.RowKit
/-- which places have been: a row of bools -/
def hadRow (n : Nat) (had : List Int) : List Value := (List.range n).map fun (i : Nat) => .bool (decide ((i : Int) ∈ had))
theorem hadRow_at {n : Nat} {had : List Int} {x : Nat} (hx : x < n) : (hadRow n had)[x]? = some (.bool (decide ((x : Int) ∈ had))) := by simp [hadRow, hx]
theorem hadRow_set {n : Nat} {had : List Int} {x : Nat} : (hadRow n had).set x (.bool true) = hadRow n ((x : Int) :: had) := by
  apply List.ext_getElem
  · simp [hadRow]
  · intro i h1 h2
    simp only [hadRow, List.getElem_set, List.getElem_map, List.getElem_range, List.mem_cons]
    split
    · next e => subst e; simp
    · next e =>
      congr 1
      rw [decide_eq_decide]
      constructor
      · exact Or.inr
      · rintro (h | h)
        · omega
        · exact h
theorem hadRow_nil (n : Nat) : List.replicate n (Value.bool false) = hadRow n [] := by
  apply List.ext_getElem
  · simp [hadRow]
  · intro i h1 h2; simp [hadRow]

end Go.Proofs.YtpaoiaogcckibaaDoor
