/- core.Heap of int in memory. Conditions: none. -/
import Derived.Test.YtpaoiaogcckibaaDoorHeapPlain
import Derived.Test.YtpaoiaogcckibaaDoorKeeps
import Derived.Test.YtpaoiaogcckibaaDoorInts
namespace Go.Proofs.YtpaoiaogcckibaaDoor
open Go.RowKit
theorem in_get {ys : List Int} {k : Nat} (h : k < ys.length) : (ints ys)[k]? = some (.int .i64 ys[k]!) := by
  have := gget ys h
  unfold ints
  rw [List.getElem?_map, this]; rfl
theorem in_set (ys : List Int) (k : Nat) (x : Int) : (ints ys).set k (.int .i64 x) = ints (ys.set k x) := by unfold ints; rw [List.map_set]
theorem in_len (ys : List Int) : (ints ys).length = ys.length := by simp [ints]
theorem in_mem {ys : List Int} {k : Nat} (h : k < ys.length) : ys[k]! ∈ ys := List.mem_of_getElem? (gget ys h)
/-- a heap behind a pointer: its own cells, and its row of things -/
structure inHeap (w : World) (base p n : Nat) (V : Option Addr) (c : Nat) (ys : List Int) (FV : Value) : Prop where
  row : Row w p 172 [.slice V n c, FV]
  own : w.ownsRow base 3 1 (.slice V n c) n (ints ys)
  at_ : base ≤ p
section
variable {w w' : World} {base p n c : Nat} {V : Option Addr} {ys : List Int} {FV : Value}
theorem inHeap.len (h : inHeap w base p n V c ys FV) : ys.length = n := by
  have := h.own.1
  rw [in_len] at this; omega
theorem inHeap.c0 (h : inHeap w base p n V c ys FV) : w.cell? ⟨p, 0, none⟩ = some (.slice V n c) := h.row.cell 0
theorem inHeap.c1 (h : inHeap w base p n V c ys FV) : w.cell? ⟨p, 1, none⟩ = some FV := h.row.cell 1
theorem inHeap.get {g k : Nat} (h : inHeap w base p n (some ⟨g, 0, none⟩) c ys FV) (hk : k < n) : w.cell? ⟨g, k, none⟩ = some (.int .i64 ys[k]!) := by
  have hl := h.len
  exact (h.own.cellAt k (by omega)).trans (in_get (by omega))
theorem inHeap.free {g : Nat} (h : inHeap w base p n (some ⟨g, 0, none⟩) c ys FV) (i : Nat) : w.frozen? ⟨g, i, none⟩ = false := h.own.frozenAt i
theorem inHeap.ne {g : Nat} (h : inHeap w base p n (some ⟨g, 0, none⟩) c ys FV) : g ≠ p := by
  have := own_ne_row h.own h.row (by decide)
  simpa [Value.ownBlock] using this
theorem inHeap.gl {g : Nat} (h : inHeap w base p n (some ⟨g, 0, none⟩) c ys FV) : base ≤ g ∧ g < w.heap.size := h.own.lt g rfl
theorem inHeap.keeps {bs : List Nat} (h : inHeap w base p n V c ys FV) (hk : Keeps bs w w') (hp : p ∉ bs) (hu : ∀ g, (Value.slice V n c).ownBlock = some g → g ∉ bs) : inHeap w' base p n V c ys FV :=
  ⟨hk.row h.row hp, hk.own h.own hu, h.at_⟩
theorem inHeap.step (h : inHeap w base p n V c ys FV) (hb : Below w.heap.size w w') : inHeap w' base p n V c ys FV := h.keeps (bs := []) (Keeps.ofBelow hb) (by simp) (fun _ _ => by simp)
theorem inHeap.drew (h : inHeap w base p n V c ys FV) : inHeap w.drew base p n V c ys FV := ⟨h.row, h.own, h.at_⟩
theorem inHeap.drewN (h : inHeap w base p n V c ys FV) (q : Nat) : inHeap (w.drewN q) base p n V c ys FV := ⟨h.row, h.own, h.at_⟩
theorem inHeap.put {g : Nat} (h : inHeap w base p n (some ⟨g, 0, none⟩) c ys FV) (k : Nat) (x : Int) : inHeap (w.setCell ⟨g, k, none⟩ (.int .i64 x)) base p n (some ⟨g, 0, none⟩) c (ys.set k x) FV := by
  have e := h.ne
  refine ⟨h.row.far (p := ⟨g, k, none⟩) (fun q => e q.symm) _, ?_, h.at_⟩
  rw [← in_set]
  exact (h.own.stored k (.int .i64 x)).1
end
/-- the blocks that a heap lies in -/
def inBl (p : Nat) (V : Option Addr) : List Nat := p :: (match V with | some a => [a.block] | none => [])
theorem in_blk {p : Nat} {V : Option Addr} {w : World} {base n c : Nat} {ys : List Int} {FV : Value} (h : inHeap w base p n V c ys FV) : ∀ b ∈ inBl p V, base ≤ b ∧ b < w.heap.size := by
  intro b hb
  rcases List.mem_cons.1 hb with rfl | hb
  · exact ⟨h.at_, h.row.lt⟩
  · cases V with
    | none => simp at hb
    | some a =>
      simp only [List.mem_singleton] at hb
      subst hb
      exact h.own.lt a.block rfl
end Go.Proofs.YtpaoiaogcckibaaDoor
