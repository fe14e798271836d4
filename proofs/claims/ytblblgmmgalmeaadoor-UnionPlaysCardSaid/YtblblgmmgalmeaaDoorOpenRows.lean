/- An argument that is a list of lists of numbers, opened. Conditions: none. -/
import Derived.Test.YtblblgmmgalmeaaDoorOpen
import Derived.Test.YtblblgmmgalmeaaDoorRowsEq
namespace Go.Proofs.YtblblgmmgalmeaaDoor
open Go.ChangeShapes Go.WideShapes Go.ChangeAt Go.RowKit Go.Deep
section
variable {H : Type} {enc : TypeId × Value → H} {W : World}
theorem flat_one {α : Type} (f : α → Value) (l : List α) : l.flatMap (fun x => [f x]) = l.map f := by
  induction l with
  | nil => rfl
  | cons x l ih => simp only [List.flatMap_cons, ih, List.map_cons]; rfl
theorem open_rowsA {t : TypeId} {fuel : Nat} {a : Option Addr} {len cap : Nat} {d : DataW H} {p : List MemPlace} (ht : Tryd.prog.underlying t = some (.slice 29))
    (h : DataW.trod enc Tryd.prog W 0 (fun _ => true) true fuel t [.slice a len cap] = some (d, p)) :
    ∃ rs : List RV, rs.length = len ∧ RowsAt W W.heap.size a rs ∧ (∀ r ∈ rs, r.xs.length ≤ 9223372036854775807) ∧ (len = 0 ∨ ∃ el sp, d = .slice el sp ∧ len ≤ el.length + sp.length) := by
  obtain ⟨rows, h1, h2, h3, h4⟩ := open_rows (k := 1) ht (by kernel_rfl) h
  obtain ⟨l, e1, e2, e3⟩ := rows_of (fun r : RV => [r.val]) (fun r => Cells W W.heap.size r.at_ (ints r.xs) ∧ r.xs.length ≤ 9223372036854775807) rows (fun r hr => by
    obtain ⟨hl, n, x, hx⟩ := h3 r hr
    rcases open_slice Tryd.underlying29 hx with ⟨hcs, _⟩ | ⟨a', len', cap', m, n', D, Pl, hcs, hb, hle, hm, _⟩
    · exact ⟨⟨none, 0, []⟩, hcs, Cells.nil, by simp⟩
    · subst hcs
      obtain ⟨xs, g1, g2, _, _⟩ := open_intsA (enc := enc) Tryd.underlying29 (d := x.1) (p := x.2) hx
      subst g1
      exact ⟨⟨some a', cap', xs⟩, rfl, g2, by simp only [maxLen] at hm; show xs.length ≤ _; omega⟩)
  refine ⟨l, by omega, ⟨?_, fun r hr => (e3 r hr).1⟩, fun r hr => (e3 r hr).2, h4⟩
  rw [← flat_one, ← e2]; exact h2
end
end Go.Proofs.YtblblgmmgalmeaaDoor
