/- Arguments opened: a graph, an edge. Conditions: none. -/
import Derived.Test.YtejbilcofbjpiaaOpen
import Derived.Test.YtejbilcofbjpiaaSpanCheck
import Derived.Lib.SmallJoins
namespace Go.Proofs.Ytejbilcofbjpiaa
open Go.ChangeShapes Go.WideShapes Go.ChangeAt Go.RowKit Go.Deep Go.Joins
section
variable {H : Type} {enc : TypeId × Value → H} {W : World}
set_option maxRecDepth 100000 in
theorem open_graphV {base : Nat} {v : Value} {d : DataW H} {p : List MemPlace} (hv : Value.okWide Try.prog W .any base 24 v) (h : DataW.Trod enc Try.prog W 0 (fun _ => true) true 24 v d p) :
    ∃ (x : Int) (a : Option Addr) (len cap : Nat) (l : List Edge), v = graphV x a len cap ∧ l.length = len ∧ Cells W W.heap.size a (edges l) ∧ (-9223372036854775808 ≤ x ∧ x ≤ 9223372036854775807) ∧ (∀ e ∈ l, InEdge e) ∧
      (len = 0 ∨ ∃ d0 el sp, d = .agg [d0, .slice el sp] ∧ len ≤ el.length + sp.length) := by
  obtain ⟨v0, v1, y0, y1, n, rfl, rfl, rfl, g0, g1⟩ := open_agg2 Try.underlying24 (by kernel_rfl) (by kernel_rfl) hv h
  obtain ⟨x, q0, _, w0⟩ := DataW.trod_int Try.underlying3 g0
  simp only [List.cons.injEq, and_true] at q0
  subst q0
  obtain ⟨a, len, cap, rfl⟩ : ∃ a len cap, v1 = .slice a len cap := by
    rcases open_slice Try.underlying22 g1 with ⟨hcs, _⟩ | ⟨a', len', cap', _, _, _, _, hcs, _⟩
    · simp only [List.cons.injEq, and_true] at hcs; exact ⟨_, _, _, hcs⟩
    · simp only [List.cons.injEq, and_true] at hcs; exact ⟨_, _, _, hcs⟩
  obtain ⟨l, e1, e2, e3, e4⟩ := open_threes Edge.mk (fun x => (x.a, x.b, x.weight)) (fun _ _ _ => rfl) InEdge (fun _ _ _ h1 h2 h3 => ⟨h1, h2, h3⟩) Try.underlying22 Try.underlying33 ⟨rfl, rfl, rfl, rfl, rfl, rfl⟩ (by kernel_rfl) (by kernel_rfl) (show DataW.trod enc Try.prog W 0 (fun _ => true) true n 22 [.slice a len cap] = some (y1.1, y1.2) from g1)
  refine ⟨x, a, len, cap, l, rfl, e1, e2, wf_int w0, e3, ?_⟩
  rcases e4 with h0 | ⟨el, sp, h0, h1⟩
  · exact Or.inl h0
  · exact Or.inr ⟨y0.1, el, sp, by rw [h0], h1⟩
theorem sized_graph {ts : List TypeId} {ds : List (DataW H)} (h : (DataW.weightsEach Try.prog ts ds).all (· ≤ reachBytes) = true) {j : Nat} {d0 : DataW H} {el sp : List (DataW H)} (ht : ts[j]? = some 24) (hd : ds[j]? = some (.agg [d0, .slice el sp])) :
    (el.length + sp.length) * 24 ≤ reachBytes := by
  have e : Try.prog.bytesOf 33 = 24 := by kernel_rfl
  have hm := DataW.weights_mem_each (P := Try.prog) ht hd ((el.length + sp.length) * 24) (by
    have h1 : (DataW.agg [d0, .slice el sp] : DataW H).weights Try.prog 24 = DataW.weightsEach Try.prog [3, 22] [d0, .slice el sp] := by
      simp only [DataW.weights, Try.underlying24]
      rfl
    rw [h1]
    refine DataW.weights_mem_each (P := Try.prog) (j := 1) (t := 22) rfl rfl _ ?_
    simp [DataW.weights, Try.underlying22, e])
  have := List.all_eq_true.1 h _ hm
  simpa using this
set_option maxRecDepth 100000 in
theorem open_edgeV {base : Nat} {v : Value} {d : DataW H} {p : List MemPlace} (hv : Value.okWide Try.prog W .any base 33 v) (h : DataW.Trod enc Try.prog W 0 (fun _ => true) true 33 v d p) :
    ∃ (x y z : Int), v = .agg #[.int .i64 x, .int .i64 y, .int .i64 z] ∧ InEdge ⟨x, y, z⟩ := by
  obtain ⟨v0, v1, v2, y0, y1, y2, n, rfl, rfl, rfl, g0, g1, g2⟩ := open_agg3 Try.underlying33 (by kernel_rfl) (by kernel_rfl) hv h
  obtain ⟨x, q0, _, w0⟩ := DataW.trod_int Try.underlying3 g0
  obtain ⟨y, q1, _, w1⟩ := DataW.trod_int Try.underlying3 g1
  obtain ⟨z, q2, _, w2⟩ := DataW.trod_int Try.underlying3 g2
  simp only [List.cons.injEq, and_true] at q0 q1 q2
  subst q0 q1 q2
  exact ⟨x, y, z, rfl, wf_int w0, wf_int w1, wf_int w2⟩
end
end Go.Proofs.Ytejbilcofbjpiaa
