/- Words for rows of edges that grow. Conditions: none. -/
import Derived.Test.YtdiinphojjpadaaCore
namespace Go.Proofs.Ytdiinphojjpadaa
open Go.RowKit
theorem info_edgeT : (Try.prog.info? 38).map (fun i => (i.zero, i.size, i.bytes)) = some (some (.agg #[.int .i64 0, .int .i64 0, .int .i64 0]), 3, 24) := by kernel_rfl
theorem edges_lenT (l : List Edge) : (edges l).length = l.length * 3 := threes_len _ _
theorem edges_snocT (l : List Edge) (e : Edge) : edges (l ++ [e]) = edges l ++ [.int .i64 e.a, .int .i64 e.b, .int .i64 e.weight] := by unfold edges; rw [threes_append]; rfl
theorem one_edgesT (l : List Edge) : ∀ u ∈ edges l, u.oneCell' = true := one_threes _ _
theorem own_drewN {w : World} {b e size n : Nat} {v : Value} {xs : List Value} (h : w.ownsRow b e size v n xs) (q : Nat) : (w.drewN q).ownsRow b e size v n xs := h
end Go.Proofs.Ytdiinphojjpadaa
