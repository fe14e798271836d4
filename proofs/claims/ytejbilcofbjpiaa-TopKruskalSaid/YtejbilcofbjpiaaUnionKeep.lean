/- The groups in memory stay as they are where others write. Conditions: none. -/
import Derived.Test.YtejbilcofbjpiaaUnionNew
import Derived.Test.YtejbilcofbjpiaaUnionRows
import Derived.Test.YtejbilcofbjpiaaRowsMem
namespace Go.Proofs.Ytejbilcofbjpiaa
open Go.RowKit
theorem UG.below {w w' : World} {base p n cu cs B : Nat} {U S : Option Addr} {R : Nat → Nat} (h : UG w base p n U cu S cs R) (hb : Below B w w') (hd : ∀ x ∈ ugs p U S, x < B) (_hB : B ≤ w.heap.size) : UG w' base p n U cu S cs R := by
  have hk : Keeps ((List.range w.heap.size).filter fun x => decide (B ≤ x)) w w' := ⟨hb.os, hb.tape, hb.output, hb.size, fun k hk hn => hb.block k (by
    rcases Nat.lt_or_ge k B with h1 | h1
    · exact h1
    · exact absurd (List.mem_filter.2 ⟨List.mem_range.2 hk, by simpa using h1⟩) hn)⟩
  exact h.keeps hk fun x hx hm => by
    have h1 := hd x hx
    have h2 := (List.mem_filter.1 hm).2
    simp at h2; omega
theorem Keeps.thenBelow {w w1 w' : World} {bs : List Nat} {B : Nat} (h : Keeps bs w w1) (hb : Below B w1 w') (hB : w.heap.size ≤ B) : Keeps bs w w' :=
  ⟨hb.os.trans h.os, hb.tape.trans h.tape, hb.output.trans h.output, Nat.le_trans h.size hb.size, fun k hk hn => (hb.block k (by omega)).trans (h.block k hk hn)⟩
end Go.Proofs.Ytejbilcofbjpiaa
