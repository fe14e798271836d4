/- Arguments opened: a span. Conditions: none. -/
import Derived.Test.YtakcgbjgdcicgaaOpen
import Derived.Lib.SmallJoins
namespace Go.Proofs.Ytakcgbjgdcicgaa
open Go.ChangeShapes Go.WideShapes Go.ChangeAt Go.RowKit Go.Deep Go.Joins
section
variable {H : Type} {enc : TypeId × Value → H} {W : World}
set_option maxRecDepth 100000 in
theorem open_spanV {base : Nat} {v : Value} {d : DataW H} {p : List MemPlace} (hv : Value.okWide Try.prog W .any base 31 v) (h : DataW.Trod enc Try.prog W 0 (fun _ => true) true 31 v d p) :
    ∃ (x y : Int), v = .agg #[.int .i64 x, .int .i64 y] ∧ (-9223372036854775808 ≤ x ∧ x ≤ 9223372036854775807) ∧ (-9223372036854775808 ≤ y ∧ y ≤ 9223372036854775807) := by
  obtain ⟨v0, v1, y0, y1, n, rfl, rfl, rfl, g0, g1⟩ := open_agg2 Try.underlying31 (by kernel_rfl) (by kernel_rfl) hv h
  obtain ⟨x, q0, _, w0⟩ := DataW.trod_int Try.underlying3 g0
  obtain ⟨y, q1, _, w1⟩ := DataW.trod_int Try.underlying3 g1
  simp only [List.cons.injEq, and_true] at q0 q1
  subst q0 q1
  exact ⟨x, y, rfl, wf_int w0, wf_int w1⟩
end
end Go.Proofs.Ytakcgbjgdcicgaa
