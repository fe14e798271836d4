/- core.Heap of narrow.at in memory. Conditions: none. -/
import Derived.Test.YtpaoiaogcckibaaDoorLess
import Derived.Test.YtpaoiaogcckibaaDoorKeeps
import Derived.Test.YtpaoiaogcckibaaDoorTwos
namespace Go.Proofs.YtpaoiaogcckibaaDoor
open Go.RowKit
/-- the row of the things of a heap -/
def nrRow (ys : List Nr) : List Value := twos (fun x => (x.most, x.node)) ys
theorem nr_len (ys : List Nr) : (nrRow ys).length = ys.length * 2 := twos_len _ _
theorem nr_get {ys : List Nr} {k : Nat} {x : Nr} (h : ys[k]? = some x) : (nrRow ys)[k * 2]? = some (.int .i64 x.most) ∧ (nrRow ys)[k * 2 + 1]? = some (.int .i64 x.node) := twos_get _ ys k x h
theorem nr_snoc (ys : List Nr) (x : Nr) : nrRow (ys ++ [x]) = nrRow ys ++ [.int .i64 x.most, .int .i64 x.node] := by unfold nrRow; rw [twos_append]; rfl
theorem nr_set (ys : List Nr) (k : Nat) (x : Nr) : ((nrRow ys).set (k * 2) (.int .i64 x.most)).set (k * 2 + 1) (.int .i64 x.node) = nrRow (ys.set k x) := twos_set _ ys k x
theorem info_nr : (Tryd.prog.info? 107).map (fun i => (i.zero, i.size, i.bytes)) = some (some (.agg #[.int .i64 0, .int .i64 0]), 2, 16) := by kernel_rfl
/-- a heap behind a pointer: its own cells, and its row of things -/
structure nrHeap (w : World) (base p n : Nat) (V : Option Addr) (c : Nat) (ys : List Nr) (FV : Value) : Prop where
  row : Row w p 152 [.slice V n c, FV]
  own : w.ownsRow base 107 2 (.slice V n c) n (nrRow ys)
  at_ : base ≤ p
section
variable {w w' : World} {base p n c : Nat} {V : Option Addr} {ys : List Nr} {FV : Value}
theorem nrHeap.len (h : nrHeap w base p n V c ys FV) : ys.length = n := by
  have := h.own.1
  rw [nr_len] at this; omega
theorem nrHeap.c0 (h : nrHeap w base p n V c ys FV) : w.cell? ⟨p, 0, none⟩ = some (.slice V n c) := h.row.cell 0
theorem nrHeap.c1 (h : nrHeap w base p n V c ys FV) : w.cell? ⟨p, 1, none⟩ = some FV := h.row.cell 1
theorem nrHeap.get {g k : Nat} (h : nrHeap w base p n (some ⟨g, 0, none⟩) c ys FV) (hk : k < n) : w.cell? ⟨g, k * 2, none⟩ = some (.int .i64 ys[k]!.most) ∧ w.cell? ⟨g, k * 2 + 1, none⟩ = some (.int .i64 ys[k]!.node) := by
  have hl := h.len
  have h3 := nr_get (gget ys (show k < ys.length by omega))
  have hp : 0 < n := by omega
  refine ⟨(h.own.cellAt (k * 2) (by omega)).trans h3.1, (h.own.cellAt (k * 2 + 1) (by omega)).trans h3.2⟩
theorem nrHeap.free {g : Nat} (h : nrHeap w base p n (some ⟨g, 0, none⟩) c ys FV) (i : Nat) : w.frozen? ⟨g, i, none⟩ = false := h.own.frozenAt i
theorem nrHeap.ne {g : Nat} (h : nrHeap w base p n (some ⟨g, 0, none⟩) c ys FV) : g ≠ p := by
  have := own_ne_row h.own h.row (by decide)
  simpa [Value.ownBlock] using this
theorem nrHeap.gl {g : Nat} (h : nrHeap w base p n (some ⟨g, 0, none⟩) c ys FV) : base ≤ g ∧ g < w.heap.size := h.own.lt g rfl
theorem nrHeap.keeps {bs : List Nat} (h : nrHeap w base p n V c ys FV) (hk : Keeps bs w w') (hp : p ∉ bs) (hu : ∀ g, (Value.slice V n c).ownBlock = some g → g ∉ bs) : nrHeap w' base p n V c ys FV :=
  ⟨hk.row h.row hp, hk.own h.own hu, h.at_⟩
theorem nrHeap.step (h : nrHeap w base p n V c ys FV) (hb : Below w.heap.size w w') : nrHeap w' base p n V c ys FV := h.keeps (bs := []) (Keeps.ofBelow hb) (by simp) (fun _ _ => by simp)
theorem nrHeap.drew (h : nrHeap w base p n V c ys FV) : nrHeap w.drew base p n V c ys FV := ⟨h.row, h.own, h.at_⟩
theorem nrHeap.drewN (h : nrHeap w base p n V c ys FV) (q : Nat) : nrHeap (w.drewN q) base p n V c ys FV := ⟨h.row, h.own, h.at_⟩
theorem nrHeap.put {g : Nat} (h : nrHeap w base p n (some ⟨g, 0, none⟩) c ys FV) (k : Nat) (x : Nr) : nrHeap ((w.setCell ⟨g, k * 2, none⟩ (.int .i64 x.most)).setCell ⟨g, k * 2 + 1, none⟩ (.int .i64 x.node)) base p n (some ⟨g, 0, none⟩) c (ys.set k x) FV := by
  have e := h.ne
  refine ⟨(h.row.far (p := ⟨g, k * 2, none⟩) (fun q => e q.symm) _).far (p := ⟨g, k * 2 + 1, none⟩) (fun q => e q.symm) _, ?_, h.at_⟩
  rw [← nr_set]
  exact ((h.own.stored (k * 2) (.int .i64 x.most)).1.stored (k * 2 + 1) (.int .i64 x.node)).1
end
end Go.Proofs.YtpaoiaogcckibaaDoor
