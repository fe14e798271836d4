/- The graph of the closed facts. Conditions: none. -/
import Derived.Test.YtfbnecnhalnmeaaDoorSpanCheck
namespace Go.Proofs.YtfbnecnhalnmeaaDoor
open Go.RowKit
def triE : List Edge := [⟨0, 1, 3⟩, ⟨1, 2, 1⟩, ⟨2, 0, 2⟩]
theorem tri_ok : graphErr 3 triE = 0 := by decide
set_option maxHeartbeats 1000000 in
theorem triangle_ (w : World) : Calls Tryd.prog 9 #[] w fun e w' => e = .returned (graphV 3 (some ⟨w.heap.size + 1, 0, none⟩) 3 3) ∧ Cells w' w'.heap.size (some ⟨w.heap.size + 1, 0, none⟩) (edges triE) ∧ Below w.heap.size w w' := by
  have hc := (Row.new (w.alloc (.cells #[.int .i64 3, .slice (some ⟨w.heap.size + 1, 0, none⟩) 3 3] 24)) 45 #[.int .i64 0, .int .i64 1, .int .i64 3, .int .i64 1, .int .i64 2, .int .i64 1, .int .i64 2, .int .i64 0, .int .i64 2])
  rw [World.size_alloc] at hc
  have HC := Lib.hid hc
  have hb : Below w.heap.size w ((w.alloc (.cells #[.int .i64 3, .slice (some ⟨w.heap.size + 1, 0, none⟩) 3 3] 24)).alloc (.cells #[.int .i64 0, .int .i64 1, .int .i64 3, .int .i64 1, .int .i64 2, .int .i64 1, .int .i64 2, .int .i64 0, .int .i64 2] 45)) := ((Below.refl _ _).alloc (Nat.le_refl _) _).alloc (by simp) _
  have HB := Lib.hid hb
  have hr0 : Row ((w.alloc (.cells #[.int .i64 3, .slice (some ⟨w.heap.size + 1, 0, none⟩) 3 3] 24)).alloc (.cells #[.int .i64 0, .int .i64 1, .int .i64 3, .int .i64 1, .int .i64 2, .int .i64 1, .int .i64 2, .int .i64 0, .int .i64 2] 45)) w.heap.size 24 [.int .i64 3, .slice (some ⟨w.heap.size + 1, 0, none⟩) 3 3] := (Row.new w _ #[.int .i64 3, .slice (some ⟨w.heap.size + 1, 0, none⟩) 3 3]).alloc _
  have g0 := hr0.cell 0
  have g1 := hr0.cell 1
  simp only [List.getElem?_cons_zero, List.getElem?_cons_succ] at g0 g1
  clear hc hb hr0
  go_enter Tryd.func9, Tryd.ntmps9
  go_wp2
  exact bodyPost_ret (v := graphV 3 (some ⟨w.heap.size + 1, 0, none⟩) 3 3) (by simp [results, Tryd.results9, go_sem, g0, g1, graphV]) rfl ⟨rfl, HC.out.cells, HB.out⟩
end Go.Proofs.YtfbnecnhalnmeaaDoor
