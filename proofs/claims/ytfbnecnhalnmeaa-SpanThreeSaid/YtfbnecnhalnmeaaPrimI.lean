/- span.Prim's range over its heap: what holds between two rounds, and when a place is handed over. Conditions: the graph is one that may be. -/
import Derived.Test.YtfbnecnhalnmeaaPrimS
namespace Go.Proofs.Ytfbnecnhalnmeaa
open Go.RowKit
theorem store_func (f : Fn) (caps : Array Value) (W : World) (T : TypeId) :
    (store ⟨W.heap.size, 0, none⟩ (.func f #[] caps)).run Try.prog (W.alloc (.cells #[.nilFunc] T)) = .ok () (W.alloc (.cells #[.func f #[] caps] T)) := by
  rw [run_store Try.prog _ _ _ _ (by rfl)]
  simp
  first
  | (simp [go_sem]; done)
  | (simp [World.setCell, World.alloc, go_sem]; done)
  | (unfold World.setCell World.alloc; simp; show False)
end Go.Proofs.Ytfbnecnhalnmeaa
namespace Go.Proofs.Ytfbnecnhalnmeaa
open Go.RowKit Go.Shelf
def cntH (n : Nat) (V : Nat → Bool) : Nat := ((List.range n).filter V).length
theorem cntH_le (n : Nat) (V : Nat → Bool) : cntH n V ≤ n := by
  unfold cntH
  have := List.length_filter_le V (List.range n)
  simpa using this
theorem cntH_more {n a : Nat} {V : Nat → Bool} (h1 : a < n) (hn : V a = false) : cntH n (had1 V a) = cntH n V + 1 := by
  unfold cntH
  refine (filter_one _ _ a h1 ?_ ?_ fun z hz => ?_).symm
  · unfold had1; rw [if_pos rfl]
  · exact hn
  · unfold had1; rw [if_neg hz]
/-- the marks of the rounds that are done -/
def MarksAt (Ds : List Nat) (W : World) : Prop := ∀ D ∈ Ds, W.heap[D]? = some (.deferred (some []))
theorem MarksAt.abides {Ds : List Nat} {W W' : World} {row : Option Nat} {B : Nat} (h : MarksAt Ds W) (hlt : ∀ D ∈ Ds, D < B) (hg : W.grownBy W' row) (hr : ∀ r, row = some r → B ≤ r) : MarksAt Ds W' := fun D hD => by
  rw [← h D hD]
  refine hg.block D (lt_of_block (h D hD)) fun e => ?_
  have := hr D e.symm
  have := hlt D hD
  omega
theorem MarksAt.others {Ds : List Nat} {W W' : World} (h : MarksAt Ds W) (hk : KeepsOthers W W') : MarksAt Ds W' := fun D hD => hk.same D _ (h D hD) rfl
section
variable (Ds : List Nat) (w : World) (N : Nat) (A : Option Addr) (n c gb H hbx I ibx p pbx gbx : Nat) (l : List Edge) (V : Nat → Bool) (k : Nat)
def PrRI (m : Nat) (W : World) : Prop :=
  ∃ Vc ib nh Vr cr zs, PrH w N A n c gb H hbx I ibx p pbx gbx W Vc ib nh Vr cr zs ∧ HeapOrd (ltB l) zs ∧ PI N l V Vc k ib zs ∧ Vc k = true ∧ MarksAt Ds W ∧ m = 100 * (N - cntH N Vc) + nh
def PrRG (m : Nat) (x : Int) (W : World) : Prop :=
  ∃ Vc ib nh Vr cr zs, PrH w N A n c gb H hbx I ibx p pbx gbx W Vc ib nh Vr cr zs ∧ HeapOrd (ltB l) zs ∧ PI N l V Vc k ib (x :: zs) ∧ (∀ y ∈ zs, ltB l y x = false) ∧ Vc k = true ∧ MarksAt Ds W ∧ m = 100 * (N - cntH N Vc) + (nh + 1)
def PrRF (W : World) : Prop :=
  ∃ Vc ib Vr cr, PrH w N A n c gb H hbx I ibx p pbx gbx W Vc ib 0 Vr cr [] ∧ PI N l V Vc k ib [] ∧ Vc k = true ∧ MarksAt Ds W
end
theorem pr_iter (Ds : List Nat) (w : World) (N : Nat) (A : Option Addr) (n c gb H hbx I ibx p pbx gbx : Nat) (l : List Edge) (V : Nat → Bool) (k : Nat) (hn : l.length = n) (hn40 : n ≤ 40) (hA : Cells w w.heap.size A (edges l)) :
    IterK Try.prog 37 #[.pointer (some ⟨p, 0, none⟩)] (fun x : Int => #[.int .i64 x]) (PrRI Ds w N A n c gb H hbx I ibx p pbx gbx l V k) (PrRG Ds w N A n c gb H hbx I ibx p pbx gbx l V k) (PrRF Ds w N A n c gb H hbx I ibx p pbx gbx l V k) := by
  refine in_iter (base := p) (gb := gb) (P := fun x => 0 ≤ x ∧ x < (n : Int)) (ltB_first l) ?_
  rintro m W ⟨Vc, ib, nh, Vr, cr, zs, hw, ho, hi, hv, hmk, hm⟩
  have hlen := hw.heap.len
  have hle := hi.len
  refine ⟨nh, Vr, cr, zs, hw.heap, ho, by omega, fun y hy => ?_, fun W1 hk x y hx hy => ?_, fun h0 => ?_, fun q g hq hV W1 zs' hh1 ho1 hp1 hle1 hk1 => ?_⟩
  · have := (hi.heap y hy).1
    omega
  · obtain ⟨i, rfl⟩ : ∃ i : Nat, x = i := ⟨x.toNat, by omega⟩
    obtain ⟨j, rfl⟩ : ∃ j : Nat, y = j := ⟨y.toNat, by omega⟩
    have ha := hw.apart
    have hl := hw.lowp
    have h1 := hw.w.kept hk (fun x hx => by have := ha.1 x hx; omega)
    exact primLess A n c gb i j l W1 ((hA.below h1.below (Nat.le_refl _)).more h1.below.size) hn (h1.g.cell 1) (by omega) (by omega) (by omega)
  · subst h0
    have hz : zs = [] := List.eq_nil_of_length_eq_zero hlen
    subst hz
    exact ⟨Vc, ib, Vr, cr, hw, hi, hv, hmk⟩
  · subst hq
    exact ⟨Vc, ib, q, Vr, cr, zs', hw.popped hk1 hh1, ho1, hi.perm hp1.symm, hle1, hv, hmk.others (hk1.others (in_cells hw.heap)), by omega⟩
section
variable {Ds : List Nat} {w : World} {N : Nat} {A : Option Addr} {n c gb H hbx I ibx p pbx gbx : Nat} {l : List Edge} {V : Nat → Bool} {k B : Nat}
theorem prRI_own (hB : w.heap.size ≤ B) (hlt : ∀ D ∈ Ds, D < B) : OwnFrom B (PrRI Ds w N A n c gb H hbx I ibx p pbx gbx l V k) := by
  rintro m W W' row ⟨Vc, ib, nh, Vr, cr, zs, hw, ho, hi, hv, hmk, hm⟩ hg hr
  exact ⟨Vc, ib, nh, Vr, cr, zs, hw.abides hg (fun r e => ⟨Nat.le_trans hB (hr r e).1, (hr r e).2⟩), ho, hi, hv, hmk.abides hlt hg (fun r e => (hr r e).1), hm⟩
theorem prRF_own (hB : w.heap.size ≤ B) (hlt : ∀ D ∈ Ds, D < B) : OwnFrom B fun (_ : Unit) W => PrRF Ds w N A n c gb H hbx I ibx p pbx gbx l V k W := by
  rintro m W W' row ⟨Vc, ib, Vr, cr, hw, hi, hv, hmk⟩ hg hr
  exact ⟨Vc, ib, Vr, cr, hw.abides hg (fun r e => ⟨Nat.le_trans hB (hr r e).1, (hr r e).2⟩), hi, hv, hmk.abides hlt hg (fun r e => (hr r e).1)⟩
theorem prRG_own (hB : w.heap.size ≤ B) (hlt : ∀ D ∈ Ds, D < B) (m : Nat) (x : Int) : OwnFrom B fun (_ : Unit) W => PrRG Ds w N A n c gb H hbx I ibx p pbx gbx l V k m x W := by
  rintro _ W W' row ⟨Vc, ib, nh, Vr, cr, zs, hw, ho, hi, hle, hv, hmk, hm⟩ hg hr
  exact ⟨Vc, ib, nh, Vr, cr, zs, hw.abides hg (fun r e => ⟨Nat.le_trans hB (hr r e).1, (hr r e).2⟩), ho, hi, hle, hv, hmk.abides hlt hg (fun r e => (hr r e).1), hm⟩
end
end Go.Proofs.Ytfbnecnhalnmeaa
