/- Arguments opened: a slice of bools. Conditions: none. -/
import Derived.Test.YtfbnecnhalnmeaaOpen
namespace Go.Proofs.Ytfbnecnhalnmeaa
open Go.ChangeShapes Go.WideShapes Go.ChangeAt Go.RowKit Go.Deep
/-- a row of bools -/
def bools (l : List Bool) : List Value := l.map Value.bool
theorem bools_len (l : List Bool) : (bools l).length = l.length := by simp [bools]
theorem bools_at {w : World} {B k : Nat} {A : Option Addr} {xs : List Bool} (h : Cells w B A (bools xs)) (hk : k < xs.length) :
    ∃ b off, A = some ⟨b, off, none⟩ ∧ b < B ∧ w.cell? ⟨b, off + k, none⟩ = some (.bool (xs.getD k false)) := by
  obtain ⟨b, off, e, hb, hc⟩ := h (by rw [bools_len]; omega)
  exact ⟨b, off, e, hb, hc k _ (by simp [bools, hk])⟩
section
variable {H : Type} {enc : TypeId × Value → H} {W : World}
theorem bools_flat (l : List Bool) : l.flatMap (fun x => [Value.bool x]) = bools l := by
  induction l with
  | nil => rfl
  | cons x l ih => simp only [List.flatMap_cons, ih]; rfl
theorem open_boolsA {t : TypeId} {fuel : Nat} {a : Option Addr} {len cap : Nat} {d : DataW H} {p : List MemPlace} (ht : Try.prog.underlying t = some (.slice 4))
    (h : DataW.trod enc Try.prog W 0 (fun _ => true) true fuel t [.slice a len cap] = some (d, p)) :
    ∃ l : List Bool, l.length = len ∧ Cells W W.heap.size a (bools l) ∧ (∀ x ∈ l, x = x) ∧ (len = 0 ∨ ∃ el sp, d = .slice el sp ∧ len ≤ el.length + sp.length) := by
  obtain ⟨rows, h1, h2, h3, h4⟩ := open_rows (k := 1) ht (by kernel_rfl) h
  obtain ⟨l, e1, e2, e3⟩ := rows_of (fun x : Bool => [Value.bool x]) (fun _ => True) rows (fun r hr => by
    obtain ⟨hl, n, x, hx⟩ := h3 r hr
    obtain ⟨y, rfl, _⟩ := DataW.trod_bool Try.underlying4 hx
    exact ⟨y, rfl, trivial⟩)
  refine ⟨l, by omega, ?_, fun _ _ => rfl, h4⟩
  rw [← bools_flat, ← e2]; exact h2
end
end Go.Proofs.Ytfbnecnhalnmeaa
