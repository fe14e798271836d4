/- Words for a row of items, two cells each, that a stable sort turns. Conditions: none. -/
import Derived.Test.YtejbilcofbjpiaaSortTwo
import Derived.Test.YtejbilcofbjpiaaSymPlain
import Derived.Shelf.SlSortCmp.KitK
import Derived.Sort.WalkA
import Derived.Sort.WalkB2
import Derived.Sort.WalkB12
import Derived.Deep.LoopGhost
import Derived.BigRegion
namespace Go.Proofs.Ytejbilcofbjpiaa
open Go.Shelf Go.RowKit Go.Lib Go.Sort Go.Proofs
abbrev It := Int × Int
def itV (p : It) : List Value := [.int .i64 p.1, .int .i64 p.2]
def itA (p : It) : Value := .agg #[.int .i64 p.1, .int .i64 p.2]
abbrev SI (w0 : World) (blk off : Nat) (dk : Array It) (W : World) : Prop := SWK itV 2 w0 blk off dk W
abbrev RI (w0 : World) (blk off : Nat) (dk : Array It) : Prop := RowK itV 2 w0 blk off dk
theorem itV_len (x : It) : (itV x).length = 2 := rfl
theorem itV_one (x : It) : ∀ v ∈ itV x, v.oneCell' = true := by intro v hv; simp [itV] at hv; rcases hv with rfl | rfl <;> rfl
section
variable {w0 W : World} {blk off : Nat} {dk d0 : Array It}
theorem si_c (h : SI w0 blk off dk W) (R : RI w0 blk off d0) (hs : dk.size = d0.size) (i : Nat) (hi : i < dk.size) : W.cell? ⟨blk, off + i * 2, none⟩ = some (.int .i64 dk[i]!.1) ∧ W.cell? ⟨blk, off + i * 2 + 1, none⟩ = some (.int .i64 dk[i]!.2) := by
  have h1 := HoldsK.cells (h.holds R.hblk R.hH hs) R.hk hi
  exact ⟨h1 0 _ rfl, h1 1 _ rfl⟩
theorem si_cl (h : SI w0 blk off dk W) (R : RI w0 blk off d0) (hs : dk.size = d0.size) (i : Nat) (hi : i < dk.size) : (∀ n os, (grow (W.drewN n) os).cell? ⟨blk, off + i * 2, none⟩ = some (.int .i64 dk[i]!.1)) ∧ (∀ n os, (grow (W.drewN n) os).cell? ⟨blk, off + i * 2 + 1, none⟩ = some (.int .i64 dk[i]!.2)) :=
  ⟨fun n os => (si_c (h.grown n os) R hs i hi).1, fun n os => (si_c (h.grown n os) R hs i hi).2⟩
theorem si_f (h : SI w0 blk off dk W) (R : RI w0 blk off d0) (hs : dk.size = d0.size) (i : Nat) (hi : i < dk.size) : W.frozen? ⟨blk, off + i * 2, none⟩ = false ∧ W.frozen? ⟨blk, off + i * 2 + 1, none⟩ = false := by
  have h1 := h.holds R.hblk R.hH hs
  have h2 : (flatK itV 2 dk).size = dk.size * 2 := size_flatK _ _ _
  exact ⟨(h1 (i * 2) (by omega)).2, (h1 (i * 2 + 1) (by omega)).2⟩
theorem si_cmp {g : Nat} {cb : Array Value} {cf : It → It → Int} {size : Nat} (h : SI w0 blk off dk W) (hC : CmpLays Try.prog g cb itV 2 cf blk off size w0) (hs : dk.size = size) (x y : It) (n : Nat) (os : Array Obj) :
    Calls Try.prog g (#[.agg #[.int .i64 x.1, .int .i64 x.2], .agg #[.int .i64 y.1, .int .i64 y.2]] ++ cb) (grow (W.drewN n) os) fun e w' => e = .returned (.int .i64 (cf x y)) ∧ ∃ q os', w' = grow ((grow (W.drewN n) os).drewN q) os' := h.cmp hC hs x y n os
theorem cell_of_set {W : World} {p q : Addr} {u : Value} (v : Value) (h : W.cell? q = some u) : ∃ u', (W.setCell p v).cell? q = some u' := by
  by_cases e : p = q
  · subst e; exact ⟨v, World.cell?_setCell_same _ _ _ h⟩
  · exact ⟨u, (World.cell?_setCell_other _ _ _ _ e).trans h⟩
/-- behind each of an exchange's stores the next place still holds something -/
theorem si_c2 (h : SI w0 blk off dk W) (R : RI w0 blk off d0) (hs : dk.size = d0.size) (i j : Nat) (hi : i < dk.size) (hj : j < dk.size) (v1 v2 v3 : Value) :
    (∃ u, (W.setCell ⟨blk, off + i * 2, none⟩ v1).cell? ⟨blk, off + i * 2 + 1, none⟩ = some u) ∧ (∃ u, ((W.setCell ⟨blk, off + i * 2, none⟩ v1).setCell ⟨blk, off + i * 2 + 1, none⟩ v2).cell? ⟨blk, off + j * 2, none⟩ = some u) ∧
      (∃ u, (((W.setCell ⟨blk, off + i * 2, none⟩ v1).setCell ⟨blk, off + i * 2 + 1, none⟩ v2).setCell ⟨blk, off + j * 2, none⟩ v3).cell? ⟨blk, off + j * 2 + 1, none⟩ = some u) := by
  obtain ⟨a1, a2⟩ := si_c h R hs i hi
  obtain ⟨b1, b2⟩ := si_c h R hs j hj
  refine ⟨cell_of_set v1 a2, ?_, ?_⟩
  · obtain ⟨u, hu⟩ := cell_of_set (p := ⟨blk, off + i * 2, none⟩) v1 b1
    exact cell_of_set v2 hu
  · obtain ⟨u, hu⟩ := cell_of_set (p := ⟨blk, off + i * 2, none⟩) v1 b2
    obtain ⟨u2, hu2⟩ := cell_of_set (p := ⟨blk, off + i * 2 + 1, none⟩) v2 hu
    exact cell_of_set v3 hu2
theorem si_swapped (h : SI w0 blk off dk W) (R : RI w0 blk off d0) (i j : Nat) (hi : i < dk.size) (hj : j < dk.size) :
    SI w0 blk off (swp dk i j) (((((W.setCell ⟨blk, off + i * 2, none⟩ (.int .i64 dk[j]!.1)).setCell ⟨blk, off + i * 2 + 1, none⟩ (.int .i64 dk[j]!.2)).setCell ⟨blk, off + j * 2, none⟩ (.int .i64 dk[i]!.1)).setCell ⟨blk, off + j * 2 + 1, none⟩ (.int .i64 dk[i]!.2)).drew) :=
  (SWK.swap h R.hk R.hblk i j hi hj).drew
end
end Go.Proofs.Ytejbilcofbjpiaa
