/- What a call leaves as it was: all blocks but a few. Conditions: none. -/
import Derived.Test.YtejbilcofbjpiaaCore
namespace Go.Proofs.Ytejbilcofbjpiaa
open Go.RowKit

/-- only these blocks, and what is new, have turned -/
structure Keeps (bs : List Nat) (w w' : World) : Prop where
  os : w'.os = w.os
  tape : w'.tape = w.tape
  output : w'.output = w.output
  size : w.heap.size ≤ w'.heap.size
  block : ∀ k, k < w.heap.size → k ∉ bs → w'.heap[k]? = w.heap[k]?
section
variable {w w' w'' : World} {bs cs : List Nat}
theorem Keeps.refl (bs : List Nat) (w : World) : Keeps bs w w := ⟨rfl, rfl, rfl, Nat.le_refl _, fun _ _ _ => rfl⟩
theorem Keeps.trans (h : Keeps bs w w') (k : Keeps bs w' w'') : Keeps bs w w'' :=
  ⟨k.os.trans h.os, k.tape.trans h.tape, k.output.trans h.output, Nat.le_trans h.size k.size, fun i hi hn => (k.block i (Nat.lt_of_lt_of_le hi h.size) hn).trans (h.block i hi hn)⟩
theorem Keeps.more (h : Keeps bs w w') (hs : ∀ x ∈ bs, x ∈ cs) : Keeps cs w w' := ⟨h.os, h.tape, h.output, h.size, fun i hi hn => h.block i hi fun hm => hn (hs i hm)⟩
theorem Keeps.drew (h : Keeps bs w w') : Keeps bs w w'.drew := ⟨h.os, h.tape, h.output, h.size, h.block⟩
theorem Keeps.drewN (h : Keeps bs w w') (n : Nat) : Keeps bs w (w'.drewN n) := ⟨h.os, h.tape, h.output, h.size, h.block⟩
theorem Keeps.alloc (h : Keeps bs w w') (o : Obj) : Keeps bs w (w'.alloc o) :=
  ⟨h.os, h.tape, h.output, Nat.le_trans h.size (by simp), fun i hi hn => (Below.heap_alloc w' o i (Nat.lt_of_lt_of_le hi h.size)).trans (h.block i hi hn)⟩
theorem Keeps.setCell (h : Keeps bs w w') {p : Addr} (hp : p.block ∈ bs ∨ w.heap.size ≤ p.block) (u : Value) : Keeps bs w (w'.setCell p u) :=
  ⟨h.os, h.tape, h.output, by simpa [World.setCell] using h.size, fun i hi hn => (Below.heap_setCell w' p u i (by
    rintro rfl
    rcases hp with hp | hp
    · exact hn hp
    · omega)).trans (h.block i hi hn)⟩
theorem Keeps.ofBelow (h : Below w.heap.size w w') : Keeps bs w w' := ⟨h.os, h.tape, h.output, h.size, fun i hi _ => h.block i hi⟩
theorem Keeps.ofGrown {row : Option Nat} (h : w.grownBy w' row) (hr : ∀ k, row = some k → k ∈ bs ∨ w.heap.size ≤ k) : Keeps bs w w' := ⟨h.os, h.tape, h.output, h.size, fun i hi hn => h.block i hi (fun e => by
  rcases hr i e.symm with h' | h'
  · exact hn h'
  · omega)⟩
theorem Keeps.below {B : Nat} (h : Keeps bs w w') (hb : ∀ x ∈ bs, B ≤ x) (hB : B ≤ w.heap.size) : Below B w w' := ⟨h.os, h.tape, h.output, h.size, fun k hk => h.block k (by omega) fun hm => by have := hb k hm; omega⟩
theorem Keeps.cell {p : Addr} (h : Keeps bs w w') (hp : p.block < w.heap.size) (hn : p.block ∉ bs) : w'.cell? p = w.cell? p := World.cell?_of_block (h.block p.block hp hn)
theorem Keeps.row {g : Nat} {t : TypeId} {xs : List Value} (h : Keeps bs w w') (hr : Row w g t xs) (hn : g ∉ bs) : Row w' g t xs := (h.block g hr.lt hn).trans hr
theorem Keeps.own {base e size n : Nat} {v : Value} {xs : List Value} (h : Keeps bs w w') (ho : w.ownsRow base e size v n xs) (hn : ∀ g, v.ownBlock = some g → g ∉ bs) : w'.ownsRow base e size v n xs := by
  obtain ⟨h1, h2⟩ := ho
  refine ⟨h1, ?_⟩
  rcases h2 with h2 | ⟨g, cap, cur, rfl, hg, hh, r⟩
  · exact Or.inl h2
  · exact Or.inr ⟨g, cap, cur, rfl, hg, (h.block g (lt_of_block hh) (hn g rfl)).trans hh, r⟩
theorem Keeps.cells {B : Nat} {A : Option Addr} {xs : List Value} (h : Keeps bs w w') (hc : Cells w B A xs) (hB : B ≤ w.heap.size) (hn : ∀ x ∈ bs, B ≤ x) : Cells w' B A xs :=
  hc.keep fun p hp => h.cell (by omega) fun hm => by have := hn _ hm; omega
end

section
variable {w : World}
theorem own_ne_row {g : Nat} {t e bs sz m : Nat} {v : Value} {xs ys : List Value} (ho : w.ownsRow bs e sz v m xs) (hg : Row w g t ys) (hne : e ≠ t) : v.ownBlock ≠ some g := by
  rcases ho.2 with ⟨rfl, _⟩ | ⟨g', cap, cur, rfl, _, hh, _⟩
  · simp [Value.ownBlock]
  · intro he
    have : g' = g := by simpa [Value.ownBlock] using he
    subst this
    unfold Row at hg
    rw [hh] at hg
    injection hg with hg
    injection hg with _ ht
    exact hne ht
end
end Go.Proofs.Ytejbilcofbjpiaa
