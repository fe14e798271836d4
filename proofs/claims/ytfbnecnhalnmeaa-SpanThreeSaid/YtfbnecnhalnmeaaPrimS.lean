/- Where span.Prim's things lie, and grow's turn on them. Conditions: lengths are such that slices can have. -/
import Derived.Test.YtfbnecnhalnmeaaRange
import Derived.Test.YtfbnecnhalnmeaaPrimGrow
import Derived.Test.YtfbnecnhalnmeaaRangeA
import Derived.Test.YtfbnecnhalnmeaaThose
import Derived.Deep.LoopGhost
namespace Go.Proofs.Ytfbnecnhalnmeaa
open Go.RowKit
def markOf (D : Nat) : Deferred := { target := .collected D, args := #[] }
/-- the marks are open -/
def MarksOpen (lo : Nat) (Ds : List Nat) (W : World) : Prop := Ds.Nodup ∧ ∀ D ∈ Ds, lo ≤ D ∧ W.heap[D]? = some (.deferred (some []))
theorem MarksOpen.nil (lo : Nat) (W : World) : MarksOpen lo [] W := ⟨List.nodup_nil, fun _ h => by simp at h⟩
theorem MarksOpen.others {lo : Nat} {Ds : List Nat} {W W' : World} (h : MarksOpen lo Ds W) (hk : KeepsOthers W W') : MarksOpen lo Ds W' := ⟨h.1, fun D hD => ⟨(h.2 D hD).1, hk.same D _ (h.2 D hD).2 rfl⟩⟩
theorem MarksOpen.more {lo D : Nat} {Ds : List Nat} {W : World} (h : MarksOpen lo Ds W) (hl : lo ≤ D) (hn : D ∉ Ds) (hd : W.heap[D]? = some (.deferred (some []))) : MarksOpen lo (D :: Ds) W :=
  ⟨List.nodup_cons.2 ⟨hn, h.1⟩, fun E hE => by
    rcases List.mem_cons.1 hE with rfl | hE
    · exact ⟨hl, hd⟩
    · exact h.2 E hE⟩
theorem leaves_marks {F : Fence} {n : Nat} {P : Program} {fn : Func} {tmps : Array Value} {R : Ending → World → Prop} (Inv : World → Prop) (lo : Nat)
    (hput : ∀ D W, Inv W → lo ≤ D → W.heap[D]? = some (.deferred (some [])) → Inv (W.putObj D (.deferred none))) (hend : ∀ W, Inv W → LeavesInM F n P fn tmps R [] .returning W) :
    ∀ (Ds : List Nat) (W : World), MarksOpen lo Ds W → Inv W → LeavesInM F n P fn tmps R (Ds.map markOf) .returning W
  | [], W, _, h => hend W h
  | D :: Ds, W, hm, h => ⟨by simp, .inl ⟨D, _, rfl, run_takeDeferred (hm.2 D (by simp)).2, leaves_marks Inv lo hput hend Ds _ ⟨(List.nodup_cons.1 hm.1).2, fun E hE => ⟨(hm.2 E (by simp [hE])).1, (World.putObj_heap_other (fun e => (List.nodup_cons.1 hm.1).1 (by rw [← e]; exact hE))).trans (hm.2 E (by simp [hE])).2⟩⟩ (hput D W h (hm.2 D (by simp)).1 (hm.2 D (by simp)).2)⟩⟩
end Go.Proofs.Ytfbnecnhalnmeaa
namespace Go.Proofs.Ytfbnecnhalnmeaa
open Go.RowKit Go.Shelf
/-- where things lie -/
structure PrW (w : World) (N : Nat) (A : Option Addr) (n c gb H hbx I ibx : Nat) (W : World) (V ib : Nat → Bool) : Prop where
  g : Row W gb 24 [.int .i64 (N : Int), .slice A n c]
  h : Row W H 4 (bRow N V)
  hx : Row W hbx 41 [.slice (some ⟨H, 0, none⟩) N N]
  i : Row W I 4 (bRow n ib)
  ix : Row W ibx 41 [.slice (some ⟨I, 0, none⟩) n n]
  below : Below w.heap.size w W
  low : w.heap.size ≤ gb ∧ gb < H ∧ H < hbx ∧ hbx < I ∧ I < ibx
section
variable {w W W' : World} {N n c gb H hbx I ibx : Nat} {A : Option Addr} {V V' ib : Nat → Bool}
theorem PrW.kept {bs : List Nat} (h : PrW w N A n c gb H hbx I ibx W V ib) (hk : Keeps bs W W') (hn : ∀ x ∈ bs, ibx < x) : PrW w N A n c gb H hbx I ibx W' V ib := by
  have hl := h.low
  have hb := h.below.size
  exact ⟨hk.row h.g (fun hm => by have := hn _ hm; omega), hk.row h.h (fun hm => by have := hn _ hm; omega), hk.row h.hx (fun hm => by have := hn _ hm; omega), hk.row h.i (fun hm => by have := hn _ hm; omega), hk.row h.ix (fun hm => by have := hn _ hm; omega), h.below.trans (hk.below (fun x hx => by have := hn x hx; omega) hb), hl⟩
theorem PrW.grew {bs : List Nat} (h : PrW w N A n c gb H hbx I ibx W V ib) (hk : Keeps (H :: bs) W W') (hn : ∀ x ∈ bs, ibx < x) (hh : Row W' H 4 (bRow N V')) : PrW w N A n c gb H hbx I ibx W' V' ib := by
  have hl := h.low
  have hb := h.below.size
  have hm : ∀ x ∈ H :: bs, x = H ∨ ibx < x := fun x hx => (List.mem_cons.1 hx).imp id (hn x)
  exact ⟨hk.row h.g (fun q => by have := hm _ q; omega), hh, hk.row h.hx (fun q => by have := hm _ q; omega), hk.row h.i (fun q => by have := hm _ q; omega), hk.row h.ix (fun q => by have := hm _ q; omega), h.below.trans (hk.below (fun x hx => by have := hm x hx; omega) hb), hl⟩
theorem PrW.put (h : PrW w N A n c gb H hbx I ibx W V ib) (q : Nat) : PrW w N A n c gb H hbx I ibx (W.setCell ⟨I, q, none⟩ (.bool true)) V (putB ib q) := by
  have hl := h.low
  refine ⟨h.g.far (by show gb ≠ I; omega) _, h.h.far (by show H ≠ I; omega) _, h.hx.far (by show hbx ≠ I; omega) _, ?_, h.ix.far (by show ibx ≠ I; omega) _, h.below.setCell (by show _ ≤ I; omega) _, hl⟩
  unfold putB
  rw [← bRow_set]
  exact h.i.set_ q _
theorem PrW.abides {row : Option Nat} (h : PrW w N A n c gb H hbx I ibx W V ib) (hg : W.grownBy W' row) (hr : ∀ r, row = some r → w.heap.size ≤ r ∧ ∃ o : Obj, W.heap[r]? = some o ∧ o.isCells = false) : PrW w N A n c gb H hbx I ibx W' V ib :=
  have hr2 : ∀ r, row = some r → ∃ o : Obj, W.heap[r]? = some o ∧ o.isCells = false := fun r e => (hr r e).2
  ⟨row_abides h.g hg hr2, row_abides h.h hg hr2, row_abides h.hx hg hr2, row_abides h.i hg hr2, row_abides h.ix hg hr2, below_abides h.below hg (Nat.le_refl _) (fun r e => (hr r e).1), h.low⟩
end
/-- a round's own things besides -/
structure PrH (w : World) (N : Nat) (A : Option Addr) (n c gb H hbx I ibx p pbx gbx : Nat) (W : World) (V ib : Nat → Bool) (nh : Nat) (Vr : Option Addr) (cr : Nat) (zs : List Int) : Prop where
  w : PrW w N A n c gb H hbx I ibx W V ib
  heap : inHeap W p p nh Vr cr zs (.func (.func 34) #[] #[.pointer (some ⟨gb, 0, none⟩)])
  px : Row W pbx 69 [.pointer (some ⟨p, 0, none⟩)]
  gx : Row W gbx 71 [(.func (.func 35) #[] #[.pointer (some ⟨hbx, 0, none⟩), .pointer (some ⟨gb, 0, none⟩), .pointer (some ⟨pbx, 0, none⟩)])]
  lowp : ibx < p ∧ p < pbx ∧ p < gbx
section
variable {w W W' : World} {N n c gb H hbx I ibx p pbx gbx nh nh' cr cr' : Nat} {A Vr Vr' : Option Addr} {V V' ib : Nat → Bool} {zs zs' : List Int}
theorem PrH.apart (h : PrH w N A n c gb H hbx I ibx p pbx gbx W V ib nh Vr cr zs) : (∀ x ∈ inBl p Vr, p ≤ x) ∧ pbx ∉ H :: inBl p Vr ∧ gbx ∉ H :: inBl p Vr := by
  have hl := h.lowp
  have hl2 := h.w.low
  refine ⟨fun x hx => (in_blk h.heap x hx).1, fun hm => ?_, fun hm => ?_⟩
  · rcases List.mem_cons.1 hm with e | hm
    · omega
    · rcases List.mem_cons.1 hm with e | hm
      · omega
      · cases Vr with
        | none => simp at hm
        | some q =>
          simp only [List.mem_singleton] at hm
          exact own_ne_row h.heap.own h.px (by decide) (by rw [hm]; rfl)
  · rcases List.mem_cons.1 hm with e | hm
    · omega
    · rcases List.mem_cons.1 hm with e | hm
      · omega
      · cases Vr with
        | none => simp at hm
        | some q =>
          simp only [List.mem_singleton] at hm
          exact own_ne_row h.heap.own h.gx (by decide) (by rw [hm]; rfl)
theorem PrH.grown (h : PrH w N A n c gb H hbx I ibx p pbx gbx W V ib nh Vr cr zs) (hk : Keeps (H :: inBl p Vr) W W') (hh : inHeap W' p p nh' Vr' cr' zs' (.func (.func 34) #[] #[.pointer (some ⟨gb, 0, none⟩)])) (hr : Row W' H 4 (bRow N V')) : PrH w N A n c gb H hbx I ibx p pbx gbx W' V' ib nh' Vr' cr' zs' := by
  have ha := h.apart
  have hl := h.lowp
  exact ⟨h.w.grew hk (fun x hx => by have := ha.1 x hx; omega) hr, hh, hk.row h.px ha.2.1, hk.row h.gx ha.2.2, hl⟩
theorem PrH.popped (h : PrH w N A n c gb H hbx I ibx p pbx gbx W V ib nh Vr cr zs) (hk : Keeps (inBl p Vr) W W') (hh : inHeap W' p p nh' Vr' cr' zs' (.func (.func 34) #[] #[.pointer (some ⟨gb, 0, none⟩)])) : PrH w N A n c gb H hbx I ibx p pbx gbx W' V ib nh' Vr' cr' zs' := by
  have ha := h.apart
  have hl := h.lowp
  exact ⟨h.w.kept hk (fun x hx => by have := ha.1 x hx; omega), hh, hk.row h.px (fun hm => ha.2.1 (List.mem_cons_of_mem _ hm)), hk.row h.gx (fun hm => ha.2.2 (List.mem_cons_of_mem _ hm)), hl⟩
theorem PrH.step (h : PrH w N A n c gb H hbx I ibx p pbx gbx W V ib nh Vr cr zs) (hb : Below W.heap.size W W') : PrH w N A n c gb H hbx I ibx p pbx gbx W' V ib nh Vr cr zs :=
  h.popped (Keeps.ofBelow hb) (h.heap.step hb)
theorem PrH.put (h : PrH w N A n c gb H hbx I ibx p pbx gbx W V ib nh Vr cr zs) (q : Nat) : PrH w N A n c gb H hbx I ibx p pbx gbx (W.setCell ⟨I, q, none⟩ (.bool true)) V (putB ib q) nh Vr cr zs := by
  have hl := h.lowp
  have hl2 := h.w.low
  have ha := h.apart
  exact ⟨h.w.put q, h.heap.keeps (bs := [I]) ((Keeps.refl _ _).setCell (Or.inl (by simp)) _) (by simp; omega) (fun g hg hm => by
    have := (h.heap.own.lt g hg).1
    simp at hm; omega), h.px.far (by show pbx ≠ I; omega) _, h.gx.far (by show gbx ≠ I; omega) _, hl⟩
theorem PrH.abides {row : Option Nat} (h : PrH w N A n c gb H hbx I ibx p pbx gbx W V ib nh Vr cr zs) (hg : W.grownBy W' row) (hr : ∀ r, row = some r → w.heap.size ≤ r ∧ ∃ o : Obj, W.heap[r]? = some o ∧ o.isCells = false) : PrH w N A n c gb H hbx I ibx p pbx gbx W' V ib nh Vr cr zs :=
  have hr2 : ∀ r, row = some r → ∃ o : Obj, W.heap[r]? = some o ∧ o.isCells = false := fun r e => (hr r e).2
  ⟨h.w.abides hg hr, in_abides h.heap hg hr2, row_abides h.px hg hr2, row_abides h.gx hg hr2, h.lowp⟩
end
/-- grow, at what stands -/
theorem PrH.grow {w W : World} {N n c gb H hbx I ibx p pbx gbx nh cr a : Nat} {A Vr : Option Addr} {V ib : Nat → Bool} {zs : List Int} {l : List Edge} (h : PrH w N A n c gb H hbx I ibx p pbx gbx W V ib nh Vr cr zs) (hg : graphErr N l = 0) (hn : l.length = n) (hA : Cells w w.heap.size A (edges l))
    (ho : HeapOrd (ltB l) zs) (hzs : ∀ y ∈ zs, 0 ≤ y ∧ y < (n : Int)) (hnh : nh ≤ 1000) (ha : a < N) :
    Calls Try.prog 35 #[.int .i64 (a : Int), .pointer (some ⟨hbx, 0, none⟩), .pointer (some ⟨gb, 0, none⟩), .pointer (some ⟨pbx, 0, none⟩)] W fun e w' => e = .returned (.tuple #[]) ∧ ∃ nh' Vr' cr' zs', PrH w N A n c gb H hbx I ibx p pbx gbx w' (had1 V a) ib nh' Vr' cr' zs' ∧ HeapOrd (ltB l) zs' ∧ zs'.Perm (zs ++ (upto n).filter (Go.Proofs.Ytfbnecnhalnmeaa.grown l (had1 V a) a)) ∧ Keeps (H :: inBl p Vr) W w' := by
  have hl := h.lowp
  have hl2 := h.w.low
  refine (grow_ (B := w.heap.size) hg hn (hA.below h.w.below (Nat.le_refl _)) h.w.g h.w.hx h.w.h h.px h.heap ho hzs hnh (by omega) (by omega) ha).mono ?_
  rintro e w' ⟨rfl, nh', V', c', zs', h1, h2, h3, h4, h5, _⟩
  exact ⟨rfl, nh', V', c', zs', h.grown h5 h1 h4, h2, h3, h5⟩
end Go.Proofs.Ytfbnecnhalnmeaa
