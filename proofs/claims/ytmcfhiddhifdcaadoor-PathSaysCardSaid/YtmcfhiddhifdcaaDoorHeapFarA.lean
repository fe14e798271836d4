/- core.Heap of path.far in memory. Conditions: none. -/
import Derived.Test.YtmcfhiddhifdcaaDoorNearer
import Derived.Test.YtmcfhiddhifdcaaDoorKeeps
import Derived.Test.YtmcfhiddhifdcaaDoorTwos
namespace Go.Proofs.YtmcfhiddhifdcaaDoor
open Go.RowKit
/-- the row of the things of a heap -/
def frRow (ys : List Fr) : List Value := threes (fun x => (x.weight, x.edges, x.node)) ys
theorem fr_len (ys : List Fr) : (frRow ys).length = ys.length * 3 := threes_len _ _
theorem fr_get {ys : List Fr} {k : Nat} {x : Fr} (h : ys[k]? = some x) : (frRow ys)[k * 3]? = some (.int .i64 x.weight) ∧ (frRow ys)[k * 3 + 1]? = some (.int .i64 x.edges) ∧ (frRow ys)[k * 3 + 2]? = some (.int .i64 x.node) := threes_get _ ys k x h
theorem fr_snoc (ys : List Fr) (x : Fr) : frRow (ys ++ [x]) = frRow ys ++ [.int .i64 x.weight, .int .i64 x.edges, .int .i64 x.node] := by unfold frRow; rw [threes_append]; rfl
theorem fr_set (ys : List Fr) (k : Nat) (x : Fr) : (((frRow ys).set (k * 3) (.int .i64 x.weight)).set (k * 3 + 1) (.int .i64 x.edges)).set (k * 3 + 2) (.int .i64 x.node) = frRow (ys.set k x) := threes_set _ ys k x
theorem info_fr : (Tryd.prog.info? 52).map (fun i => (i.zero, i.size, i.bytes)) = some (some (.agg #[.int .i64 0, .int .i64 0, .int .i64 0]), 3, 24) := by kernel_rfl
/-- a heap behind a pointer: its own cells, and its row of things -/
structure frHeap (w : World) (base p n : Nat) (V : Option Addr) (c : Nat) (ys : List Fr) (FV : Value) : Prop where
  row : Row w p 67 [.slice V n c, FV]
  own : w.ownsRow base 52 3 (.slice V n c) n (frRow ys)
  at_ : base ≤ p
section
variable {w w' : World} {base p n c : Nat} {V : Option Addr} {ys : List Fr} {FV : Value}
theorem frHeap.len (h : frHeap w base p n V c ys FV) : ys.length = n := by
  have := h.own.1
  rw [fr_len] at this; omega
theorem frHeap.c0 (h : frHeap w base p n V c ys FV) : w.cell? ⟨p, 0, none⟩ = some (.slice V n c) := h.row.cell 0
theorem frHeap.c1 (h : frHeap w base p n V c ys FV) : w.cell? ⟨p, 1, none⟩ = some FV := h.row.cell 1
theorem frHeap.get {g k : Nat} (h : frHeap w base p n (some ⟨g, 0, none⟩) c ys FV) (hk : k < n) : w.cell? ⟨g, k * 3, none⟩ = some (.int .i64 ys[k]!.weight) ∧ w.cell? ⟨g, k * 3 + 1, none⟩ = some (.int .i64 ys[k]!.edges) ∧ w.cell? ⟨g, k * 3 + 2, none⟩ = some (.int .i64 ys[k]!.node) := by
  have hl := h.len
  have h3 := fr_get (gget ys (show k < ys.length by omega))
  have hp : 0 < n := by omega
  refine ⟨(h.own.cellAt (k * 3) (by omega)).trans h3.1, (h.own.cellAt (k * 3 + 1) (by omega)).trans h3.2.1, (h.own.cellAt (k * 3 + 2) (by omega)).trans h3.2.2⟩
theorem frHeap.free {g : Nat} (h : frHeap w base p n (some ⟨g, 0, none⟩) c ys FV) (i : Nat) : w.frozen? ⟨g, i, none⟩ = false := h.own.frozenAt i
theorem frHeap.ne {g : Nat} (h : frHeap w base p n (some ⟨g, 0, none⟩) c ys FV) : g ≠ p := by
  have := own_ne_row h.own h.row (by decide)
  simpa [Value.ownBlock] using this
theorem frHeap.gl {g : Nat} (h : frHeap w base p n (some ⟨g, 0, none⟩) c ys FV) : base ≤ g ∧ g < w.heap.size := h.own.lt g rfl
theorem frHeap.keeps {bs : List Nat} (h : frHeap w base p n V c ys FV) (hk : Keeps bs w w') (hp : p ∉ bs) (hu : ∀ g, (Value.slice V n c).ownBlock = some g → g ∉ bs) : frHeap w' base p n V c ys FV :=
  ⟨hk.row h.row hp, hk.own h.own hu, h.at_⟩
theorem frHeap.step (h : frHeap w base p n V c ys FV) (hb : Below w.heap.size w w') : frHeap w' base p n V c ys FV := h.keeps (bs := []) (Keeps.ofBelow hb) (by simp) (fun _ _ => by simp)
theorem frHeap.drew (h : frHeap w base p n V c ys FV) : frHeap w.drew base p n V c ys FV := ⟨h.row, h.own, h.at_⟩
theorem frHeap.drewN (h : frHeap w base p n V c ys FV) (q : Nat) : frHeap (w.drewN q) base p n V c ys FV := ⟨h.row, h.own, h.at_⟩
theorem frHeap.put {g : Nat} (h : frHeap w base p n (some ⟨g, 0, none⟩) c ys FV) (k : Nat) (x : Fr) : frHeap (((w.setCell ⟨g, k * 3, none⟩ (.int .i64 x.weight)).setCell ⟨g, k * 3 + 1, none⟩ (.int .i64 x.edges)).setCell ⟨g, k * 3 + 2, none⟩ (.int .i64 x.node)) base p n (some ⟨g, 0, none⟩) c (ys.set k x) FV := by
  have e := h.ne
  refine ⟨((h.row.far (p := ⟨g, k * 3, none⟩) (fun q => e q.symm) _).far (p := ⟨g, k * 3 + 1, none⟩) (fun q => e q.symm) _).far (p := ⟨g, k * 3 + 2, none⟩) (fun q => e q.symm) _, ?_, h.at_⟩
  rw [← fr_set]
  exact (((h.own.stored (k * 3) (.int .i64 x.weight)).1.stored (k * 3 + 1) (.int .i64 x.edges)).1.stored (k * 3 + 2) (.int .i64 x.node)).1
end
end Go.Proofs.YtmcfhiddhifdcaaDoor
