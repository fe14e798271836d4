/- A row of bools by place. Conditions: none. -/
import Derived.Test.YtejbilcofbjpiaaCore
namespace Go.Proofs.Ytejbilcofbjpiaa
open Go.RowKit
def bRow (n : Nat) (f : Nat → Bool) : List Value := (List.range n).map fun i => .bool (f i)
theorem bRow_at {n : Nat} {f : Nat → Bool} {x : Nat} (hx : x < n) : (bRow n f)[x]? = some (.bool (f x)) := by simp [bRow, hx]
theorem bRow_set {n : Nat} {f : Nat → Bool} {x : Nat} : (bRow n f).set x (.bool true) = bRow n fun i => if i = x then true else f i := by
  apply List.ext_getElem
  · simp [bRow]
  · intro i h1 h2
    simp only [bRow, List.getElem_set, List.getElem_map, List.getElem_range]
    by_cases e : x = i
    · subst e; simp
    · rw [if_neg e, if_neg (fun h => e h.symm)]
theorem bRow_none (n : Nat) : List.replicate n (Value.bool false) = bRow n fun _ => false := by
  apply List.ext_getElem
  · simp [bRow]
  · intro i h1 h2; simp [bRow]
end Go.Proofs.Ytejbilcofbjpiaa
