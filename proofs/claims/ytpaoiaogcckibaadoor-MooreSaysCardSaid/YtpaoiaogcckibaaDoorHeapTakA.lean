/- core.Heap of moore.taken in memory. Conditions: none. -/
import Derived.Test.YtpaoiaogcckibaaDoorTaken
import Derived.Test.YtpaoiaogcckibaaDoorKeeps
import Derived.Test.YtpaoiaogcckibaaDoorTwos
namespace Go.Proofs.YtpaoiaogcckibaaDoor
open Go.RowKit
/-- the row of the things of a heap -/
def tkRow (ys : List Tk) : List Value := twos (fun x => (x.time, x.place)) ys
theorem tk_len (ys : List Tk) : (tkRow ys).length = ys.length * 2 := twos_len _ _
theorem tk_get {ys : List Tk} {k : Nat} {x : Tk} (h : ys[k]? = some x) : (tkRow ys)[k * 2]? = some (.int .i64 x.time) ∧ (tkRow ys)[k * 2 + 1]? = some (.int .i64 x.place) := twos_get _ ys k x h
theorem tk_snoc (ys : List Tk) (x : Tk) : tkRow (ys ++ [x]) = tkRow ys ++ [.int .i64 x.time, .int .i64 x.place] := by unfold tkRow; rw [twos_append]; rfl
theorem tk_set (ys : List Tk) (k : Nat) (x : Tk) : ((tkRow ys).set (k * 2) (.int .i64 x.time)).set (k * 2 + 1) (.int .i64 x.place) = tkRow (ys.set k x) := twos_set _ ys k x
theorem info_tk : (Tryd.prog.info? 135).map (fun i => (i.zero, i.size, i.bytes)) = some (some (.agg #[.int .i64 0, .int .i64 0]), 2, 16) := by kernel_rfl
/-- a heap behind a pointer: its own cells, and its row of things -/
structure tkHeap (w : World) (base p n : Nat) (V : Option Addr) (c : Nat) (ys : List Tk) (FV : Value) : Prop where
  row : Row w p 165 [.slice V n c, FV]
  own : w.ownsRow base 135 2 (.slice V n c) n (tkRow ys)
  at_ : base ≤ p
section
variable {w w' : World} {base p n c : Nat} {V : Option Addr} {ys : List Tk} {FV : Value}
theorem tkHeap.len (h : tkHeap w base p n V c ys FV) : ys.length = n := by
  have := h.own.1
  rw [tk_len] at this; omega
theorem tkHeap.c0 (h : tkHeap w base p n V c ys FV) : w.cell? ⟨p, 0, none⟩ = some (.slice V n c) := h.row.cell 0
theorem tkHeap.c1 (h : tkHeap w base p n V c ys FV) : w.cell? ⟨p, 1, none⟩ = some FV := h.row.cell 1
theorem tkHeap.get {g k : Nat} (h : tkHeap w base p n (some ⟨g, 0, none⟩) c ys FV) (hk : k < n) : w.cell? ⟨g, k * 2, none⟩ = some (.int .i64 ys[k]!.time) ∧ w.cell? ⟨g, k * 2 + 1, none⟩ = some (.int .i64 ys[k]!.place) := by
  have hl := h.len
  have h3 := tk_get (gget ys (show k < ys.length by omega))
  have hp : 0 < n := by omega
  refine ⟨(h.own.cellAt (k * 2) (by omega)).trans h3.1, (h.own.cellAt (k * 2 + 1) (by omega)).trans h3.2⟩
theorem tkHeap.free {g : Nat} (h : tkHeap w base p n (some ⟨g, 0, none⟩) c ys FV) (i : Nat) : w.frozen? ⟨g, i, none⟩ = false := h.own.frozenAt i
theorem tkHeap.ne {g : Nat} (h : tkHeap w base p n (some ⟨g, 0, none⟩) c ys FV) : g ≠ p := by
  have := own_ne_row h.own h.row (by decide)
  simpa [Value.ownBlock] using this
theorem tkHeap.gl {g : Nat} (h : tkHeap w base p n (some ⟨g, 0, none⟩) c ys FV) : base ≤ g ∧ g < w.heap.size := h.own.lt g rfl
theorem tkHeap.keeps {bs : List Nat} (h : tkHeap w base p n V c ys FV) (hk : Keeps bs w w') (hp : p ∉ bs) (hu : ∀ g, (Value.slice V n c).ownBlock = some g → g ∉ bs) : tkHeap w' base p n V c ys FV :=
  ⟨hk.row h.row hp, hk.own h.own hu, h.at_⟩
theorem tkHeap.step (h : tkHeap w base p n V c ys FV) (hb : Below w.heap.size w w') : tkHeap w' base p n V c ys FV := h.keeps (bs := []) (Keeps.ofBelow hb) (by simp) (fun _ _ => by simp)
theorem tkHeap.drew (h : tkHeap w base p n V c ys FV) : tkHeap w.drew base p n V c ys FV := ⟨h.row, h.own, h.at_⟩
theorem tkHeap.drewN (h : tkHeap w base p n V c ys FV) (q : Nat) : tkHeap (w.drewN q) base p n V c ys FV := ⟨h.row, h.own, h.at_⟩
theorem tkHeap.put {g : Nat} (h : tkHeap w base p n (some ⟨g, 0, none⟩) c ys FV) (k : Nat) (x : Tk) : tkHeap ((w.setCell ⟨g, k * 2, none⟩ (.int .i64 x.time)).setCell ⟨g, k * 2 + 1, none⟩ (.int .i64 x.place)) base p n (some ⟨g, 0, none⟩) c (ys.set k x) FV := by
  have e := h.ne
  refine ⟨(h.row.far (p := ⟨g, k * 2, none⟩) (fun q => e q.symm) _).far (p := ⟨g, k * 2 + 1, none⟩) (fun q => e q.symm) _, ?_, h.at_⟩
  rw [← tk_set]
  exact ((h.own.stored (k * 2) (.int .i64 x.time)).1.stored (k * 2 + 1) (.int .i64 x.place)).1
end
end Go.Proofs.YtpaoiaogcckibaaDoor
