/- What span.Prim tells: what is wrong with a graph, or its forest. Conditions: lengths are such that slices can have. -/
import Derived.Test.YtpaoiaogcckibaaDoorRangeA
import Derived.Test.YtpaoiaogcckibaaDoorPrimGrow
import Derived.Test.YtpaoiaogcckibaaDoorThose
import Derived.Deep.LoopGhost
namespace Go.Proofs.YtpaoiaogcckibaaDoor
open Go.RowKit
def markOf (D : Nat) : Deferred := { target := .collected D, args := #[] }
/-- the marks are open -/
def MarksOpen (lo : Nat) (Ds : List Nat) (W : World) : Prop := Ds.Nodup ∧ ∀ D ∈ Ds, lo ≤ D ∧ W.heap[D]? = some (.deferred (some []))
theorem MarksOpen.nil (lo : Nat) (W : World) : MarksOpen lo [] W := ⟨List.nodup_nil, fun _ h => by simp at h⟩
theorem MarksOpen.others {lo : Nat} {Ds : List Nat} {W W' : World} (h : MarksOpen lo Ds W) (hk : KeepsOthers W W') : MarksOpen lo Ds W' := ⟨h.1, fun D hD => ⟨(h.2 D hD).1, hk.same D _ (h.2 D hD).2 rfl⟩⟩
theorem MarksOpen.more {lo D : Nat} {Ds : List Nat} {W : World} (h : MarksOpen lo Ds W) (hl : lo ≤ D) (hn : D ∉ Ds) (hd : W.heap[D]? = some (.deferred (some []))) : MarksOpen lo (D :: Ds) W :=
  ⟨List.nodup_cons.2 ⟨hn, h.1⟩, fun E hE => by
    rcases List.mem_cons.1 hE with rfl | hE
    · exact ⟨hl, hd⟩
    · exact h.2 E hE⟩
theorem leaves_marks {F : Fence} {n : Nat} {P : Program} {fn : Func} {tmps : Array Value} {R : Ending → World → Prop} (Inv : World → Prop) (lo : Nat)
    (hput : ∀ D W, Inv W → lo ≤ D → W.heap[D]? = some (.deferred (some [])) → Inv (W.putObj D (.deferred none))) (hend : ∀ W, Inv W → LeavesInM F n P fn tmps R [] .returning W) :
    ∀ (Ds : List Nat) (W : World), MarksOpen lo Ds W → Inv W → LeavesInM F n P fn tmps R (Ds.map markOf) .returning W
  | [], W, _, h => hend W h
  | D :: Ds, W, hm, h => ⟨by simp, .inl ⟨D, _, rfl, run_takeDeferred (hm.2 D (by simp)).2, leaves_marks Inv lo hput hend Ds _ ⟨(List.nodup_cons.1 hm.1).2, fun E hE => ⟨(hm.2 E (by simp [hE])).1, (World.putObj_heap_other (fun e => (List.nodup_cons.1 hm.1).1 (by rw [← e]; exact hE))).trans (hm.2 E (by simp [hE])).2⟩⟩ (hput D W h (hm.2 D (by simp)).1 (hm.2 D (by simp)).2)⟩⟩
end Go.Proofs.YtpaoiaogcckibaaDoor
namespace Go.Proofs.YtpaoiaogcckibaaDoor
open Go.RowKit Go.Shelf
/-- where things lie -/
structure PrW (w : World) (N : Nat) (A : Option Addr) (n c gb H hbx I ibx : Nat) (W : World) (V ib : Nat → Bool) : Prop where
  g : Row W gb 40 [.int .i64 (N : Int), .slice A n c]
  h : Row W H 4 (bRow N V)
  hx : Row W hbx 103 [.slice (some ⟨H, 0, none⟩) N N]
  i : Row W I 4 (bRow n ib)
  ix : Row W ibx 103 [.slice (some ⟨I, 0, none⟩) n n]
  below : Below w.heap.size w W
  low : w.heap.size ≤ gb ∧ gb < H ∧ H < hbx ∧ hbx < I ∧ I < ibx
section
variable {w W W' : World} {N n c gb H hbx I ibx : Nat} {A : Option Addr} {V V' ib : Nat → Bool}
theorem PrW.kept {bs : List Nat} (h : PrW w N A n c gb H hbx I ibx W V ib) (hk : Keeps bs W W') (hn : ∀ x ∈ bs, ibx < x) : PrW w N A n c gb H hbx I ibx W' V ib := by
  have hl := h.low
  have hb := h.below.size
  exact ⟨hk.row h.g (fun hm => by have := hn _ hm; omega), hk.row h.h (fun hm => by have := hn _ hm; omega), hk.row h.hx (fun hm => by have := hn _ hm; omega), hk.row h.i (fun hm => by have := hn _ hm; omega), hk.row h.ix (fun hm => by have := hn _ hm; omega), h.below.trans (hk.below (fun x hx => by have := hn x hx; omega) hb), hl⟩
theorem PrW.grew {bs : List Nat} (h : PrW w N A n c gb H hbx I ibx W V ib) (hk : Keeps (H :: bs) W W') (hn : ∀ x ∈ bs, ibx < x) (hh : Row W' H 4 (bRow N V')) : PrW w N A n c gb H hbx I ibx W' V' ib := by
  have hl := h.low
  have hb := h.below.size
  have hm : ∀ x ∈ H :: bs, x = H ∨ ibx < x := fun x hx => (List.mem_cons.1 hx).imp id (hn x)
  exact ⟨hk.row h.g (fun q => by have := hm _ q; omega), hh, hk.row h.hx (fun q => by have := hm _ q; omega), hk.row h.i (fun q => by have := hm _ q; omega), hk.row h.ix (fun q => by have := hm _ q; omega), h.below.trans (hk.below (fun x hx => by have := hm x hx; omega) hb), hl⟩
theorem PrW.put (h : PrW w N A n c gb H hbx I ibx W V ib) (q : Nat) : PrW w N A n c gb H hbx I ibx (W.setCell ⟨I, q, none⟩ (.bool true)) V (putB ib q) := by
  have hl := h.low
  refine ⟨h.g.far (by show gb ≠ I; omega) _, h.h.far (by show H ≠ I; omega) _, h.hx.far (by show hbx ≠ I; omega) _, ?_, h.ix.far (by show ibx ≠ I; omega) _, h.below.setCell (by show _ ≤ I; omega) _, hl⟩
  unfold putB
  rw [← bRow_set]
  exact h.i.set_ q _
theorem PrW.abides {row : Option Nat} (h : PrW w N A n c gb H hbx I ibx W V ib) (hg : W.grownBy W' row) (hr : ∀ r, row = some r → w.heap.size ≤ r ∧ ∃ o : Obj, W.heap[r]? = some o ∧ o.isCells = false) : PrW w N A n c gb H hbx I ibx W' V ib :=
  have hr2 : ∀ r, row = some r → ∃ o : Obj, W.heap[r]? = some o ∧ o.isCells = false := fun r e => (hr r e).2
  ⟨row_abides h.g hg hr2, row_abides h.h hg hr2, row_abides h.hx hg hr2, row_abides h.i hg hr2, row_abides h.ix hg hr2, below_abides h.below hg (Nat.le_refl _) (fun r e => (hr r e).1), h.low⟩
end
/-- a round's own things besides -/
structure PrH (w : World) (N : Nat) (A : Option Addr) (n c gb H hbx I ibx p pbx gbx : Nat) (W : World) (V ib : Nat → Bool) (nh : Nat) (Vr : Option Addr) (cr : Nat) (zs : List Int) : Prop where
  w : PrW w N A n c gb H hbx I ibx W V ib
  heap : inHeap W p p nh Vr cr zs (.func (.func 102) #[] #[.pointer (some ⟨gb, 0, none⟩)])
  px : Row W pbx 144 [.pointer (some ⟨p, 0, none⟩)]
  gx : Row W gbx 146 [(.func (.func 103) #[] #[.pointer (some ⟨hbx, 0, none⟩), .pointer (some ⟨gb, 0, none⟩), .pointer (some ⟨pbx, 0, none⟩)])]
  lowp : ibx < p ∧ p < pbx ∧ p < gbx
section
variable {w W W' : World} {N n c gb H hbx I ibx p pbx gbx nh nh' cr cr' : Nat} {A Vr Vr' : Option Addr} {V V' ib : Nat → Bool} {zs zs' : List Int}
theorem PrH.apart (h : PrH w N A n c gb H hbx I ibx p pbx gbx W V ib nh Vr cr zs) : (∀ x ∈ inBl p Vr, p ≤ x) ∧ pbx ∉ H :: inBl p Vr ∧ gbx ∉ H :: inBl p Vr := by
  have hl := h.lowp
  have hl2 := h.w.low
  refine ⟨fun x hx => (in_blk h.heap x hx).1, fun hm => ?_, fun hm => ?_⟩
  · rcases List.mem_cons.1 hm with e | hm
    · omega
    · rcases List.mem_cons.1 hm with e | hm
      · omega
      · cases Vr with
        | none => simp at hm
        | some q =>
          simp only [List.mem_singleton] at hm
          exact own_ne_row h.heap.own h.px (by decide) (by rw [hm]; rfl)
  · rcases List.mem_cons.1 hm with e | hm
    · omega
    · rcases List.mem_cons.1 hm with e | hm
      · omega
      · cases Vr with
        | none => simp at hm
        | some q =>
          simp only [List.mem_singleton] at hm
          exact own_ne_row h.heap.own h.gx (by decide) (by rw [hm]; rfl)
theorem PrH.grown (h : PrH w N A n c gb H hbx I ibx p pbx gbx W V ib nh Vr cr zs) (hk : Keeps (H :: inBl p Vr) W W') (hh : inHeap W' p p nh' Vr' cr' zs' (.func (.func 102) #[] #[.pointer (some ⟨gb, 0, none⟩)])) (hr : Row W' H 4 (bRow N V')) : PrH w N A n c gb H hbx I ibx p pbx gbx W' V' ib nh' Vr' cr' zs' := by
  have ha := h.apart
  have hl := h.lowp
  exact ⟨h.w.grew hk (fun x hx => by have := ha.1 x hx; omega) hr, hh, hk.row h.px ha.2.1, hk.row h.gx ha.2.2, hl⟩
theorem PrH.popped (h : PrH w N A n c gb H hbx I ibx p pbx gbx W V ib nh Vr cr zs) (hk : Keeps (inBl p Vr) W W') (hh : inHeap W' p p nh' Vr' cr' zs' (.func (.func 102) #[] #[.pointer (some ⟨gb, 0, none⟩)])) : PrH w N A n c gb H hbx I ibx p pbx gbx W' V ib nh' Vr' cr' zs' := by
  have ha := h.apart
  have hl := h.lowp
  exact ⟨h.w.kept hk (fun x hx => by have := ha.1 x hx; omega), hh, hk.row h.px (fun hm => ha.2.1 (List.mem_cons_of_mem _ hm)), hk.row h.gx (fun hm => ha.2.2 (List.mem_cons_of_mem _ hm)), hl⟩
theorem PrH.step (h : PrH w N A n c gb H hbx I ibx p pbx gbx W V ib nh Vr cr zs) (hb : Below W.heap.size W W') : PrH w N A n c gb H hbx I ibx p pbx gbx W' V ib nh Vr cr zs :=
  h.popped (Keeps.ofBelow hb) (h.heap.step hb)
theorem PrH.put (h : PrH w N A n c gb H hbx I ibx p pbx gbx W V ib nh Vr cr zs) (q : Nat) : PrH w N A n c gb H hbx I ibx p pbx gbx (W.setCell ⟨I, q, none⟩ (.bool true)) V (putB ib q) nh Vr cr zs := by
  have hl := h.lowp
  have hl2 := h.w.low
  have ha := h.apart
  exact ⟨h.w.put q, h.heap.keeps (bs := [I]) ((Keeps.refl _ _).setCell (Or.inl (by simp)) _) (by simp; omega) (fun g hg hm => by
    have := (h.heap.own.lt g hg).1
    simp at hm; omega), h.px.far (by show pbx ≠ I; omega) _, h.gx.far (by show gbx ≠ I; omega) _, hl⟩
theorem PrH.abides {row : Option Nat} (h : PrH w N A n c gb H hbx I ibx p pbx gbx W V ib nh Vr cr zs) (hg : W.grownBy W' row) (hr : ∀ r, row = some r → w.heap.size ≤ r ∧ ∃ o : Obj, W.heap[r]? = some o ∧ o.isCells = false) : PrH w N A n c gb H hbx I ibx p pbx gbx W' V ib nh Vr cr zs :=
  have hr2 : ∀ r, row = some r → ∃ o : Obj, W.heap[r]? = some o ∧ o.isCells = false := fun r e => (hr r e).2
  ⟨h.w.abides hg hr, in_abides h.heap hg hr2, row_abides h.px hg hr2, row_abides h.gx hg hr2, h.lowp⟩
end
/-- grow, at what stands -/
theorem PrH.grow {w W : World} {N n c gb H hbx I ibx p pbx gbx nh cr a : Nat} {A Vr : Option Addr} {V ib : Nat → Bool} {zs : List Int} {l : List Edge} (h : PrH w N A n c gb H hbx I ibx p pbx gbx W V ib nh Vr cr zs) (hg : graphErr N l = 0) (hn : l.length = n) (hA : Cells w w.heap.size A (edges l))
    (ho : HeapOrd (ltB l) zs) (hzs : ∀ y ∈ zs, 0 ≤ y ∧ y < (n : Int)) (hnh : nh ≤ 1000) (ha : a < N) :
    Calls Tryd.prog 103 #[.int .i64 (a : Int), .pointer (some ⟨hbx, 0, none⟩), .pointer (some ⟨gb, 0, none⟩), .pointer (some ⟨pbx, 0, none⟩)] W fun e w' => e = .returned (.tuple #[]) ∧ ∃ nh' Vr' cr' zs', PrH w N A n c gb H hbx I ibx p pbx gbx w' (had1 V a) ib nh' Vr' cr' zs' ∧ HeapOrd (ltB l) zs' ∧ zs'.Perm (zs ++ (upto n).filter (Go.Proofs.YtpaoiaogcckibaaDoor.grown l (had1 V a) a)) ∧ Keeps (H :: inBl p Vr) W w' := by
  have hl := h.lowp
  have hl2 := h.w.low
  refine (grow_ (B := w.heap.size) hg hn (hA.below h.w.below (Nat.le_refl _)) h.w.g h.w.hx h.w.h h.px h.heap ho hzs hnh (by omega) (by omega) ha).mono ?_
  rintro e w' ⟨rfl, nh', V', c', zs', h1, h2, h3, h4, h5, _⟩
  exact ⟨rfl, nh', V', c', zs', h.grown h5 h1 h4, h2, h3, h5⟩
end Go.Proofs.YtpaoiaogcckibaaDoor
namespace Go.Proofs.YtpaoiaogcckibaaDoor
open Go.RowKit
theorem store_func (f : Fn) (caps : Array Value) (W : World) (T : TypeId) :
    (store ⟨W.heap.size, 0, none⟩ (.func f #[] caps)).run Tryd.prog (W.alloc (.cells #[.nilFunc] T)) = .ok () (W.alloc (.cells #[.func f #[] caps] T)) := by
  rw [run_store Tryd.prog _ _ _ _ (by rfl)]
  simp
  first
  | (simp [go_sem]; done)
  | (simp [World.setCell, World.alloc, go_sem]; done)
  | (unfold World.setCell World.alloc; simp; show False)
end Go.Proofs.YtpaoiaogcckibaaDoor
namespace Go.Proofs.YtpaoiaogcckibaaDoor
open Go.RowKit Go.Shelf
def cntH (n : Nat) (V : Nat → Bool) : Nat := ((List.range n).filter V).length
theorem cntH_le (n : Nat) (V : Nat → Bool) : cntH n V ≤ n := by
  unfold cntH
  have := List.length_filter_le V (List.range n)
  simpa using this
theorem cntH_more {n a : Nat} {V : Nat → Bool} (h1 : a < n) (hn : V a = false) : cntH n (had1 V a) = cntH n V + 1 := by
  unfold cntH
  refine (filter_one _ _ a h1 ?_ ?_ fun z hz => ?_).symm
  · unfold had1; rw [if_pos rfl]
  · exact hn
  · unfold had1; rw [if_neg hz]
/-- the marks of the rounds that are done -/
def MarksAt (Ds : List Nat) (W : World) : Prop := ∀ D ∈ Ds, W.heap[D]? = some (.deferred (some []))
theorem MarksAt.abides {Ds : List Nat} {W W' : World} {row : Option Nat} {B : Nat} (h : MarksAt Ds W) (hlt : ∀ D ∈ Ds, D < B) (hg : W.grownBy W' row) (hr : ∀ r, row = some r → B ≤ r) : MarksAt Ds W' := fun D hD => by
  rw [← h D hD]
  refine hg.block D (lt_of_block (h D hD)) fun e => ?_
  have := hr D e.symm
  have := hlt D hD
  omega
theorem MarksAt.others {Ds : List Nat} {W W' : World} (h : MarksAt Ds W) (hk : KeepsOthers W W') : MarksAt Ds W' := fun D hD => hk.same D _ (h D hD) rfl
section
variable (Ds : List Nat) (w : World) (N : Nat) (A : Option Addr) (n c gb H hbx I ibx p pbx gbx : Nat) (l : List Edge) (V : Nat → Bool) (k : Nat)
def PrRI (m : Nat) (W : World) : Prop :=
  ∃ Vc ib nh Vr cr zs, PrH w N A n c gb H hbx I ibx p pbx gbx W Vc ib nh Vr cr zs ∧ HeapOrd (ltB l) zs ∧ PI N l V Vc k ib zs ∧ Vc k = true ∧ MarksAt Ds W ∧ m = 100 * (N - cntH N Vc) + nh
def PrRG (m : Nat) (x : Int) (W : World) : Prop :=
  ∃ Vc ib nh Vr cr zs, PrH w N A n c gb H hbx I ibx p pbx gbx W Vc ib nh Vr cr zs ∧ HeapOrd (ltB l) zs ∧ PI N l V Vc k ib (x :: zs) ∧ (∀ y ∈ zs, ltB l y x = false) ∧ Vc k = true ∧ MarksAt Ds W ∧ m = 100 * (N - cntH N Vc) + (nh + 1)
def PrRF (W : World) : Prop :=
  ∃ Vc ib Vr cr, PrH w N A n c gb H hbx I ibx p pbx gbx W Vc ib 0 Vr cr [] ∧ PI N l V Vc k ib [] ∧ Vc k = true ∧ MarksAt Ds W
end
theorem pr_iter (Ds : List Nat) (w : World) (N : Nat) (A : Option Addr) (n c gb H hbx I ibx p pbx gbx : Nat) (l : List Edge) (V : Nat → Bool) (k : Nat) (hn : l.length = n) (hn40 : n ≤ 40) (hA : Cells w w.heap.size A (edges l)) :
    IterK Tryd.prog 105 #[.pointer (some ⟨p, 0, none⟩)] (fun x : Int => #[.int .i64 x]) (PrRI Ds w N A n c gb H hbx I ibx p pbx gbx l V k) (PrRG Ds w N A n c gb H hbx I ibx p pbx gbx l V k) (PrRF Ds w N A n c gb H hbx I ibx p pbx gbx l V k) := by
  refine in_iter (base := p) (gb := gb) (P := fun x => 0 ≤ x ∧ x < (n : Int)) (ltB_first l) ?_
  rintro m W ⟨Vc, ib, nh, Vr, cr, zs, hw, ho, hi, hv, hmk, hm⟩
  have hlen := hw.heap.len
  have hle := hi.len
  refine ⟨nh, Vr, cr, zs, hw.heap, ho, by omega, fun y hy => ?_, fun W1 hk x y hx hy => ?_, fun h0 => ?_, fun q g hq hV W1 zs' hh1 ho1 hp1 hle1 hk1 => ?_⟩
  · have := (hi.heap y hy).1
    omega
  · obtain ⟨i, rfl⟩ : ∃ i : Nat, x = i := ⟨x.toNat, by omega⟩
    obtain ⟨j, rfl⟩ : ∃ j : Nat, y = j := ⟨y.toNat, by omega⟩
    have ha := hw.apart
    have hl := hw.lowp
    have h1 := hw.w.kept hk (fun x hx => by have := ha.1 x hx; omega)
    exact primLess A n c gb i j l W1 ((hA.below h1.below (Nat.le_refl _)).more h1.below.size) hn (h1.g.cell 1) (by omega) (by omega) (by omega)
  · subst h0
    have hz : zs = [] := List.eq_nil_of_length_eq_zero hlen
    subst hz
    exact ⟨Vc, ib, Vr, cr, hw, hi, hv, hmk⟩
  · subst hq
    exact ⟨Vc, ib, q, Vr, cr, zs', hw.popped hk1 hh1, ho1, hi.perm hp1.symm, hle1, hv, hmk.others (hk1.others (in_cells hw.heap)), by omega⟩
section
variable {Ds : List Nat} {w : World} {N : Nat} {A : Option Addr} {n c gb H hbx I ibx p pbx gbx : Nat} {l : List Edge} {V : Nat → Bool} {k B : Nat}
theorem prRI_own (hB : w.heap.size ≤ B) (hlt : ∀ D ∈ Ds, D < B) : OwnFrom B (PrRI Ds w N A n c gb H hbx I ibx p pbx gbx l V k) := by
  rintro m W W' row ⟨Vc, ib, nh, Vr, cr, zs, hw, ho, hi, hv, hmk, hm⟩ hg hr
  exact ⟨Vc, ib, nh, Vr, cr, zs, hw.abides hg (fun r e => ⟨Nat.le_trans hB (hr r e).1, (hr r e).2⟩), ho, hi, hv, hmk.abides hlt hg (fun r e => (hr r e).1), hm⟩
theorem prRF_own (hB : w.heap.size ≤ B) (hlt : ∀ D ∈ Ds, D < B) : OwnFrom B fun (_ : Unit) W => PrRF Ds w N A n c gb H hbx I ibx p pbx gbx l V k W := by
  rintro m W W' row ⟨Vc, ib, Vr, cr, hw, hi, hv, hmk⟩ hg hr
  exact ⟨Vc, ib, Vr, cr, hw.abides hg (fun r e => ⟨Nat.le_trans hB (hr r e).1, (hr r e).2⟩), hi, hv, hmk.abides hlt hg (fun r e => (hr r e).1)⟩
theorem prRG_own (hB : w.heap.size ≤ B) (hlt : ∀ D ∈ Ds, D < B) (m : Nat) (x : Int) : OwnFrom B fun (_ : Unit) W => PrRG Ds w N A n c gb H hbx I ibx p pbx gbx l V k m x W := by
  rintro _ W W' row ⟨Vc, ib, nh, Vr, cr, zs, hw, ho, hi, hle, hv, hmk, hm⟩ hg hr
  exact ⟨Vc, ib, nh, Vr, cr, zs, hw.abides hg (fun r e => ⟨Nat.le_trans hB (hr r e).1, (hr r e).2⟩), ho, hi, hle, hv, hmk.abides hlt hg (fun r e => (hr r e).1), hm⟩
end
end Go.Proofs.YtpaoiaogcckibaaDoor
namespace Go.Proofs.YtpaoiaogcckibaaDoor
open Go.RowKit Go.Shelf
attribute [local go_sem] Oper.semAt_some
set_option maxRecDepth 100000 in
theorem prim_bad (N : Int) (A : Option Addr) (n c : Nat) (l : List Edge) (w : World) (hA : Cells w w.heap.size A (edges l)) (hn : l.length = n) (hm : n ≤ 9223372036854775807) (he : graphErr N l ≠ 0) :
    Calls Tryd.prog 65 #[graphV N A n c] w fun e w' => e = .returned (.tuple #[.slice none 0 0, .iface 91 (.int .i64 (graphErr N l))]) ∧ Below w.heap.size w w' := by
  have hb0 : Below w.heap.size w (w.alloc (.cells #[.int .i64 N, .slice A n c] 40)) := (Below.refl _ _).alloc (Nat.le_refl _) _
  have c1 := spanCheck N A n c l _ (hA.step hb0) hn hm
  rw [errV_bad he] at c1
  unfold graphV at c1 ⊢
  have C1 := Lib.hid c1
  have HB0 := Lib.hid hb0
  clear hn c1 hb0 he hA
  go_enter Tryd.func65, Tryd.ntmps65
  go_wp2_with fail
  refine C1.out.mono ?_
  rintro e w1 ⟨rfl, hb1⟩
  have HB1 : Hid (Below w.heap.size w w1) := HB0.out.trans (hb1.mono (by simp))
  clear hb1 C1 HB0
  go_wp2
  go_ret2
  exact ⟨rfl, HB1.out⟩
/-- between two rounds -/
def PrI (w : World) (N : Nat) (A : Option Addr) (n c gb H hbx I ibx : Nat) (l : List Edge) (m : Nat) (a : Act) (W : World) : Prop :=
  ∃ (k : Nat) (V ib : Nat → Bool) (Ds : List Nat) (u0 u2 u3 u4 u7 u8 u9 u10 u11 u12 u13 u14 u15 u16 u17 u18 u19 u20 u21 u22 u23 u24 u27 u28 u29 u30 u31 u32 u33 u34 u35 u36 u37 u38 u39 u40 u41 u42 u43 u44 u45 u46 u47 u48 u49 u50 u51 u52 u53 u54 u55 u56 u57 u58 u59 u60 u61 u62 u63 u64 u65 u66 u67 u68 u69 u70 u71 u72 u73 u74 u75 u76 : Value), m = N - k ∧ k ≤ N ∧ a = { tmps := #[u0, .pointer (some ⟨gb, 0, none⟩), u2, u3, u4, .pointer (some ⟨hbx, 0, none⟩), .pointer (some ⟨ibx, 0, none⟩), u7, u8, u9, u10, u11, u12, u13, u14, u15, u16, u17, u18, u19, u20, u21, u22, u23, u24, .int .i64 (N : Int), .int .i64 (k : Int), u27, u28, u29, u30, u31, u32, u33, u34, u35, u36, u37, u38, u39, u40, u41, u42, u43, u44, u45, u46, u47, u48, u49, u50, u51, u52, u53, u54, u55, u56, u57, u58, u59, u60, u61, u62, u63, u64, u65, u66, u67, u68, u69, u70, u71, u72, u73, u74, u75, u76], defers := Ds.map markOf } ∧ Hid (PrW w N A n c gb H hbx I ibx W V ib) ∧ Hid (PD N l V k ib) ∧ Hid (MarksOpen w.heap.size Ds W)
set_option maxHeartbeats 16000000 in
set_option maxRecDepth 100000 in
theorem prim_ok (N : Nat) (A : Option Addr) (n c : Nat) (l : List Edge) (w : World) (hA : Cells w w.heap.size A (edges l)) (hn : l.length = n) (hg : graphErr N l = 0) :
    Calls Tryd.prog 65 #[graphV N A n c] w (KruskalOK w N l) := by
  obtain ⟨⟨hN0, hN1⟩, hl40, hed⟩ := graphErr_ok hg
  have hn40 : n ≤ 40 := by omega
  have hN : N ≤ 16 := by omega
  have HGE := Lib.hid hg
  have HN := Lib.hid hn
  have HA := Lib.hid hA
  have hb0 : Below w.heap.size w (w.alloc (.cells #[.int .i64 (N : Int), .slice A n c] 40)) := (Below.refl _ _).alloc (Nat.le_refl _) _
  have c1 := spanCheck N A n c l _ (hA.step hb0) hn (by omega)
  have HR0 : Hid (Row (w.alloc (.cells #[.int .i64 (N : Int), .slice A n c] 40)) w.heap.size 40 [.int .i64 (N : Int), .slice A n c]) := Row.new _ _ _
  rw [hg, errV_zero] at c1
  unfold graphV at c1 ⊢
  have C1 := Lib.hid c1
  have HB0 := Lib.hid hb0
  have hmb := Lib.hid (make_row 103 4 (.bool false) 1 Tryd.underlying103 info_bool rfl N (by omega) (by omega))
  have hmn := Lib.hid (make_row 103 4 (.bool false) 1 Tryd.underlying103 info_bool rfl n (by omega) (by omega))
  clear hn c1 hb0 hg hl40 hed hN0 hN1 hA
  refine calls_of_marks Tryd.func65 rfl ?_
  simp only [Tryd.ntmps65, List.size_toArray, List.length_cons, List.length_nil, Nat.reduceAdd, Nat.reduceSub, Array.replicate_succ, Array.replicate_zero, List.push_toArray, List.append_toArray, List.nil_append, List.cons_append]
  go_wp2_with fail
  refine C1.out.mono ?_
  rintro e w1 ⟨rfl, hb1⟩
  have HB1 : Hid (Below w.heap.size w w1) := HB0.out.trans (hb1.mono (by simp))
  have HR1 := Lib.hid (HR0.out.step hb1)
  have hq0 := HR1.out.cell 0
  have hq1 := HR1.out.cell 1
  have hlt1 := HR1.out.lt
  have hmk := hmb.out
  clear hb1 C1 HB0 HR0
  go_upto_region 5 with fail
  have hmk2 := hmn.out
  obtain ⟨w2, hw2⟩ : ∃ z, z = (w1.alloc (.cells (madeCells #[.bool false] N) 4)).alloc (.cells #[.slice (some ⟨w1.heap.size, 0, none⟩) N N] 103) := ⟨_, rfl⟩
  have hH : Row w2 w1.heap.size 4 (bRow N fun _ => false) := by rw [hw2, ← bRow_none]; exact (Row.made _ _ _ _).alloc _
  have hHX : Row w2 (w1.heap.size + 1) 103 [.slice (some ⟨w1.heap.size, 0, none⟩) N N] := by
    have h := Row.new (w1.alloc (.cells (madeCells #[.bool false] N) 4)) 103 #[.slice (some ⟨w1.heap.size, 0, none⟩) N N]
    rw [World.size_alloc] at h; rw [hw2]; exact h
  have hs2 : w2.heap.size = w1.heap.size + 2 := by rw [hw2]; simp
  have hb12 : Below w1.heap.size w1 w2 := by rw [hw2]; exact ((Below.refl _ _).alloc (Nat.le_refl _) _).alloc (by simp) _
  have HR2 := Lib.hid (HR1.out.step hb12)
  have HB2 : Hid (Below w.heap.size w w2) := HB1.out.trans (hb12.mono HB1.out.size)
  rw [← hw2]
  obtain ⟨H, hHe⟩ : ∃ z, z = w1.heap.size := ⟨_, rfl⟩
  rw [← hHe] at hH hHX hs2 hlt1
  rw [← hHe]
  have HH2 := Lib.hid hH
  have HHX2 := Lib.hid hHX
  have hq2 := HR2.out.cell 0
  have hq3 := HR2.out.cell 1
  have HS2 := Lib.hid hs2
  clear hw2 hb12 hHe hH hHX hq0 hq1 HR1 HB1 hmk hmb hs2
  go_upto_region 6 with fail
  obtain ⟨w3, hw3⟩ : ∃ z, z = (w2.alloc (.cells (madeCells #[.bool false] n) 4)).alloc (.cells #[.slice (some ⟨w2.heap.size, 0, none⟩) n n] 103) := ⟨_, rfl⟩
  have hI : Row w3 w2.heap.size 4 (bRow n fun _ => false) := by rw [hw3, ← bRow_none]; exact (Row.made _ _ _ _).alloc _
  have hIX : Row w3 (w2.heap.size + 1) 103 [.slice (some ⟨w2.heap.size, 0, none⟩) n n] := by
    have h := Row.new (w2.alloc (.cells (madeCells #[.bool false] n) 4)) 103 #[.slice (some ⟨w2.heap.size, 0, none⟩) n n]
    rw [World.size_alloc] at h; rw [hw3]; exact h
  have hs3 : w3.heap.size = w2.heap.size + 2 := by rw [hw3]; simp
  have hb23 : Below w2.heap.size w2 w3 := by rw [hw3]; exact ((Below.refl _ _).alloc (Nat.le_refl _) _).alloc (by simp) _
  have HB3 : Hid (Below w.heap.size w w3) := HB2.out.trans (hb23.mono HB2.out.size)
  have HW : Hid (PrW w N A n c w.heap.size H (H + 1) w2.heap.size (w2.heap.size + 1) w3 (fun _ => false) (fun _ => false)) :=
    ⟨HR2.out.step hb23, HH2.out.step hb23, HHX2.out.step hb23, hI, hIX, HB3.out, by have := HS2.out; omega⟩
  rw [← hw3]
  obtain ⟨I, hIe⟩ : ∃ z, z = w2.heap.size := ⟨_, rfl⟩
  rw [← hIe] at HW hs3
  rw [← hIe]
  have HS3 := Lib.hid hs3
  have hq4 := HW.out.g.cell 0
  clear hw3 hb23 hIe hI hIX hq2 hq3 HR2 HB2 HH2 HHX2 hmk2 hmn HB3 hs3 HS2
  obtain ⟨gb, hgb⟩ : ∃ z, z = w.heap.size := ⟨_, rfl⟩
  obtain ⟨hbx, hhb⟩ : ∃ z, z = H + 1 := ⟨_, rfl⟩
  obtain ⟨ibx, hib⟩ : ∃ z, z = I + 1 := ⟨_, rfl⟩
  have HW' : Hid (PrW w N A n c gb H hbx I ibx w3 (fun _ => false) (fun _ => false)) := by rw [hgb, hhb, hib]; exact HW.out
  rw [← hgb] at hq4
  rw [← hgb, ← hhb, ← hib]
  clear HW hgb hhb hib
  go_wp2
  refine wp_loop_ghost_k (PrI w N A n c gb H hbx I ibx l) N ?_ ?_
  · exact ⟨0, fun _ => false, fun _ => false, [], _, _, _, _, _, _, _, _, _, _, _, _, _, _, _, _, _, _, _, _, _, _, _, _, _, _, _, _, _, _, _, _, _, _, _, _, _, _, _, _, _, _, _, _, _, _, _, _, _, _, _, _, _, _, _, _, _, _, _, _, _, _, _, _, _, _, _, _, _, _, _, _, rfl, by omega, rfl, HW'.out, PD.start, MarksOpen.nil _ _⟩
  · intro nn a W hI J K hJ hK
    clear HW' hq4
    obtain ⟨k, V, ib, Ds, u0, u2, u3, u4, u7, u8, u9, u10, u11, u12, u13, u14, u15, u16, u17, u18, u19, u20, u21, u22, u23, u24, u27, u28, u29, u30, u31, u32, u33, u34, u35, u36, u37, u38, u39, u40, u41, u42, u43, u44, u45, u46, u47, u48, u49, u50, u51, u52, u53, u54, u55, u56, u57, u58, u59, u60, u61, u62, u63, u64, u65, u66, u67, u68, u69, u70, u71, u72, u73, u74, u75, u76, rfl, hk, rfl, HW, HPD, HM⟩ := hI
    have HJ := Lib.hid hJ
    have HK := Lib.hid hK
    clear hJ hK
    by_cases hkN : k < N
    · have hkz : (k : Int) < N := by omega
      have c2 := Lib.hid (in_new gb W)
      go_wp2_with fail
      refine c2.out.mono ?_
      rintro e W1 ⟨rfl, hh, hb1⟩
      obtain ⟨W2, hW2⟩ : ∃ z, z = (W1.alloc (.cells #[.pointer (some ⟨W.heap.size, 0, none⟩)] 144)).alloc (.cells #[.func (.func 103) #[] #[.pointer (some ⟨hbx, 0, none⟩), .pointer (some ⟨gb, 0, none⟩), .pointer (some ⟨W1.heap.size, 0, none⟩)]] 146) := ⟨_, rfl⟩
      have hpx : Row W2 W1.heap.size 144 [.pointer (some ⟨W.heap.size, 0, none⟩)] := by rw [hW2]; exact (Row.new W1 _ #[.pointer (some ⟨W.heap.size, 0, none⟩)]).alloc _
      have hgx : Row W2 (W1.heap.size + 1) 146 [.func (.func 103) #[] #[.pointer (some ⟨hbx, 0, none⟩), .pointer (some ⟨gb, 0, none⟩), .pointer (some ⟨W1.heap.size, 0, none⟩)]] := by
        have h := Row.new (W1.alloc (.cells #[.pointer (some ⟨W.heap.size, 0, none⟩)] 144)) 146 #[.func (.func 103) #[] #[.pointer (some ⟨hbx, 0, none⟩), .pointer (some ⟨gb, 0, none⟩), .pointer (some ⟨W1.heap.size, 0, none⟩)]]
        rw [World.size_alloc] at h; rw [hW2]; exact h
      have hk12 : Keeps [] W1 W2 := by rw [hW2]; exact ((Keeps.refl _ _).alloc _).alloc _
      have hk2 : Keeps [] W W2 := (Keeps.ofBelow hb1).trans hk12
      have hpp : ibx < W.heap.size := HW.out.ix.lt
      have hp1 : W.heap.size < W1.heap.size := hh.row.lt
      have HS : Hid (PrH w N A n c gb H hbx I ibx W.heap.size W1.heap.size (W1.heap.size + 1) W2 V ib 0 none 0 []) :=
        ⟨HW.out.kept hk2 (fun x hx => by simp at hx), hh.keeps hk12 (by simp) (fun _ _ => by simp), hpx, hgx, by omega⟩
      have HM2 : Hid (MarksOpen w.heap.size Ds W2) := HM.out.others (hk2.others (fun b hb => by simp at hb))
      have hst := store_func (.func 103) #[.pointer (some ⟨hbx, 0, none⟩), .pointer (some ⟨gb, 0, none⟩), .pointer (some ⟨W1.heap.size, 0, none⟩)] (W1.alloc (.cells #[.pointer (some ⟨W.heap.size, 0, none⟩)] 144)) 146
      rw [World.size_alloc] at hst
      go_upto_region 11 with fail
      rw [← hW2]
      clear hst hW2 hpx hgx hk12 hk2 hh hb1 c2 HW HM
      obtain ⟨gbx, hgbx⟩ : ∃ z, z = W1.heap.size + 1 := ⟨_, rfl⟩
      rw [← hgbx] at HS ⊢
      obtain ⟨pbx, hpbx⟩ : ∃ z, z = W1.heap.size := ⟨_, rfl⟩
      rw [← hpbx] at HS hp1 ⊢
      obtain ⟨p, hpe⟩ : ∃ z, z = W.heap.size := ⟨_, rfl⟩
      rw [← hpe] at HS hp1 hpp ⊢
      clear hpe hpbx hgbx
      have hcx := HS.out.w.hx.cell 0
      have hck := HS.out.w.h.cell k
      rw [bRow_at hkN] at hck
      obtain ⟨bk, hbk⟩ : ∃ z, z = V k := ⟨_, rfl⟩
      rw [← hbk] at hck
      have HBK := Lib.hid hbk
      clear hbk
      go_upto_if 36 with fail
      clear hcx hck
      go_cut [39] from 37 to 39 (fun v wx => ∃ (Vc : Nat → Bool) (nh : Nat) (Vr : Option Addr) (cr : Nat) (zs : List Int), Hid (PrH w N A n c gb H hbx I ibx p pbx gbx wx Vc ib nh Vr cr zs) ∧ Hid (HeapOrd (ltB l) zs) ∧ Hid (PI N l V Vc k ib zs) ∧ Hid (Vc k = true) ∧ Hid (MarksOpen w.heap.size Ds wx))
      case first =>
        cases bk with
        | true =>
          have HV : Hid (V k = true) := HBK.out.symm
          clear HBK
          go_wp2
          go_meet
          exact ⟨V, 0, none, 0, [], HS.out, HeapOrd.nil, HPD.out.none, HV.out, HM2.out⟩
        | false =>
          have HV : Hid (V k = false) := HBK.out.symm
          clear HBK
          have hgc := HS.out.gx.cell 0
          have c3 := Lib.hid (HS.out.grow (a := k) HGE.out HN.out HA.out HeapOrd.nil (fun y hy => by simp at hy) (by omega) hkN)
          go_wp2_with fail
          refine c3.out.mono ?_
          rintro e W3 ⟨rfl, nh', Vr', cr', zs', h1, h2, h3, h4⟩
          have H1 := Lib.hid h1
          have H2 := Lib.hid h2
          have H3 := Lib.hid h3
          have HM3 : Hid (MarksOpen w.heap.size Ds W3) := HM2.out.others (h4.others (fun b hb => by
            rcases List.mem_cons.1 hb with rfl | hb
            · exact HS.out.w.h.isCells
            · exact in_cells HS.out.heap b hb))
          clear h1 h2 h3 h4 c3 hgc
          go_wp2
          go_meet
          exact ⟨had1 V k, nh', Vr', cr', zs', H1.out, H2.out, (HPD.out.begin HGE.out HV.out).perm (by have := H3.out; rw [← HN.out] at this; simpa using this.symm), by show had1 V k k = true; simp [had1], HM3.out⟩
      case rest =>
      clear HS HM2 HBK
      obtain ⟨Vc, nh, Vr, cr, zs, HS, HO, HPI, HVK, HM⟩ := hcut
      have hpc := HS.out.px.cell 0
      go_wp2_with fail
      have hlt : ∀ D ∈ Ds, D < wc.heap.size := fun D hD => lt_of_block (HM.out.2 D hD).2
      have HLT := Lib.hid hlt
      have hB : w.heap.size ≤ wc.heap.size := HS.out.w.below.size
      have HI0 : Hid (PrRI Ds w N A n c gb H hbx I ibx p pbx gbx l V k (100 * (N - cntH N Vc) + nh) wc) := ⟨Vc, ib, nh, Vr, cr, zs, HS.out, HO.out, HPI.out, HVK.out, fun D hD => (HM.out.2 D hD).2, rfl⟩
      clear hpc HS HO HPI HVK
      refine wp_rangeA (γ := Int) (gf := 105) (la := #[.pointer (some ⟨p, 0, none⟩)]) (encs := fun x => #[.int .i64 x]) rfl (enters_of Tryd.func105 (by kernel_rfl) rfl) (fun _ => rfl)
        (PrRI Ds w N A n c gb H hbx I ibx p pbx gbx l V k) (PrRG Ds w N A n c gb H hbx I ibx p pbx gbx l V k) (PrRF Ds w N A n c gb H hbx I ibx p pbx gbx l V k) (fun _ _ => False) (pr_iter Ds w N A n c gb H hbx I ibx p pbx gbx l V k HN.out hn40 HA.out)
        (prRI_own hB hlt) (prRF_own hB hlt) ?ownX _ HI0.out
        (fun a0 m x a' W => a' = { tmps := (a0.tmps.setIfInBounds 42 (.int .i64 x)).setIfInBounds 10 (.int .i64 x), defers := [] } ∧ PrRG Ds w N A n c gb H hbx I ibx p pbx gbx l V k m x W)
        ?ownA ?assign ?body ?done ?stop
      case ownX =>
        intro cc m W W' row hx _ _
        exact hx.elim
      case ownA =>
        rintro m x a' u W W' row ⟨h1, h2⟩ hg hr
        exact ⟨h1, prRG_own hB hlt m x () W W' row h2 hg hr⟩
      case assign =>
        intro lp m x W K2 hG hK2
        have HK2 := Lib.hid (fun a' h => hK2 a' W (KeepsFrom.refl _ _) ⟨h, hG⟩)
        clear hK2 hG hlt
        gi_wp2
        refine HK2.out _ ?_
        rfl
      case done =>
        rintro D W2 hD ⟨V2, ib2, Vr2, cr2, hw, hi, hv, hmk⟩ hd
        have HPD2 : Hid (PD N l V2 (k + 1) ib2) := (hi.done HGE.out (fun x hx => hi.sub x (HPD.out.low x hx))).more hv
        have HM2 : Hid (MarksOpen w.heap.size (D :: Ds) W2) := MarksOpen.more ⟨HM.out.1, fun E hE => ⟨(HM.out.2 E hE).1, hmk E hE⟩⟩ (Nat.le_trans hB hD) (fun hm => by have := HLT.out D hm; omega) hd
        have HW2 := Lib.hid hw.w
        clear hw hi hv hmk hd hlt HI0 HM HPD
        go_wp2
        exact HK.out _ _ (Handed.intro (N - (k + 1)) (by omega) (HJ.out _ _ _ ⟨k + 1, V2, ib2, D :: Ds, _, _, _, _, _, _, _, _, _, _, _, _, _, _, _, _, _, _, _, _, _, _, _, _, _, _, _, _, _, _, _, _, _, _, _, _, _, _, _, _, _, _, _, _, _, _, _, _, _, _, _, _, _, _, _, _, _, _, _, _, _, _, _, _, _, _, _, _, _, _, _, _, rfl, by omega, rfl, HW2.out, HPD2.out, HM2.out⟩))
      case stop =>
        intro D cc W2 _ hx _
        exact hx.elim
      case body =>
        rintro lp m x a' W ⟨rfl, Vb, ib2, nh2, Vr2, cr2, zs2, hw, ho, hi, hle, hv, hmk, hm⟩
        have HI := Lib.hid hi
        have HO := Lib.hid ho
        have HLE := Lib.hid hle
        have HVB := Lib.hid hv
        have HMK := Lib.hid hmk
        obtain ⟨⟨hx0, hx1⟩, _⟩ := hi.heap x (by simp)
        obtain ⟨q, rfl⟩ : ∃ q : Nat, x = q := ⟨x.toNat, by omega⟩
        have hqn : q < n := by have := HN.out; omega
        have hqz : (q : Int) < n := by omega
        obtain ⟨be, off, ea, eb, et, rfl, hbb, hx, hc0, hc1, hc2⟩ := edges_at HA.out (show q < l.length by rw [HN.out]; exact hqn)
        obtain ⟨⟨xa0, xa1⟩, ⟨xb0, xb1⟩, _⟩ := (graphErr_ok HGE.out).2.2 _ (List.mem_of_getElem? hx)
        simp only at xa0 xa1 xb0 xb1
        obtain ⟨xa, rfl⟩ : ∃ z : Nat, ea = z := ⟨ea.toNat, by omega⟩
        obtain ⟨xb, rfl⟩ : ∃ z : Nat, eb = z := ⟨eb.toNat, by omega⟩
        have hxa : xa < N := by omega
        have hxb : xb < N := by omega
        have HEA : Hid (eAt l q = ⟨xa, xb, et⟩) := eAt_of hx
        rw [← hw.w.below.cell hbb] at hc0 hc1 hc2
        have hg1 := hw.w.g.cell 1
        have hbW : Below W.heap.size W (W.alloc (.cells #[.int .i64 (xa : Int), .int .i64 (xb : Int), .int .i64 et] 101)) := (Below.refl _ _).alloc (Nat.le_refl _) _
        have HS0 := Lib.hid (hw.step hbW)
        have HE0 := Lib.hid (Row.new W 101 #[.int .i64 (xa : Int), .int .i64 (xb : Int), .int .i64 et])
        have HK0 : Hid (KeepsFrom wc.heap.size W (W.alloc (.cells #[.int .i64 (xa : Int), .int .i64 (xb : Int), .int .i64 et] 101))) := (KeepsOthers.alloc _ _).from _
        have HMK0 : Hid (MarksAt Ds (W.alloc (.cells #[.int .i64 (xa : Int), .int .i64 (xb : Int), .int .i64 et] 101))) := hmk.others (KeepsOthers.alloc _ _)
        have hcnt := cntH_le N Vb
        have hIW := hw.w.i.lt
        have hlz2 := hw.heap.len
        have hlp2 := hi.len
        have HZS : Hid (∀ y ∈ zs2, 0 ≤ y ∧ y < (n : Int)) := fun y hy => by
          have := (hi.heap y (by simp [hy])).1
          have := HN.out
          omega
        have hnh2 : nh2 ≤ 40 := by
          simp only [List.length_cons] at hlp2
          have := HN.out
          omega
        clear hw ho hi hle hv hmk hx hbW HI0 HM HPD hlt
        simp only [List.setIfInBounds_toArray, List.set_cons_succ, List.set_cons_zero]
        gi_upto_region 16 with fail
        obtain ⟨E, hEe⟩ : ∃ z, z = W.heap.size := ⟨_, rfl⟩
        have HEI : Hid (E ≠ I) := by show ¬ _; omega
        rw [← hEe] at HE0
        rw [← hEe]
        clear hEe hc0 hc1 hc2 hg1 hIW
        generalize W.alloc (.cells #[.int .i64 (xa : Int), .int .i64 (xb : Int), .int .i64 et] 101) = v0 at HS0 HE0 HK0 HMK0 ⊢
        have e0 := HE0.out.cell 0
        have e1 := HE0.out.cell 1
        have hcx := HS0.out.w.hx.cell 0
        have hva := HS0.out.w.h.cell xa
        rw [bRow_at hxa] at hva
        have hvb := HS0.out.w.h.cell xb
        rw [bRow_at hxb] at hvb
        have hix := HS0.out.w.ix.cell 0
        have hiq := HS0.out.w.i.cell q
        rw [bRow_at hqn] at hiq
        have hif := HS0.out.w.i.frozen q
        cases hqa : Vb xa with
        | false =>
          have HVV : Hid (Vb xa = false) := hqa
          rw [hqa] at hva
          clear hqa
          gi_upto_region 18 with fail
          have HS1 := Lib.hid (HS0.out.put q)
          have HE1 : Hid (Row (v0.setCell ⟨I, q, none⟩ (.bool true)) E 101 [.int .i64 (xa : Int), .int .i64 (xb : Int), .int .i64 et]) := HE0.out.far (by show E ≠ I; exact HEI.out) _
          have HK1 : Hid (KeepsFrom wc.heap.size W (v0.setCell ⟨I, q, none⟩ (.bool true))) := HK0.out.trans ((KeepsOthers.setCell _ _ _).from _)
          have HMK1 : Hid (MarksAt Ds (v0.setCell ⟨I, q, none⟩ (.bool true))) := HMK0.out.others (KeepsOthers.setCell _ _ _)
          clear e0 e1 hcx hva hvb hix hiq hif HS0 HE0 HK0 HMK0
          generalize v0.setCell ⟨I, q, none⟩ (.bool true) = v1 at HS1 HE1 HK1 HMK1 ⊢
          have e0 := HE1.out.cell 0
          have e1 := HE1.out.cell 1
          have hgc := HS1.out.gx.cell 0
          have c4 := Lib.hid (HS1.out.grow (a := xa) HGE.out HN.out HA.out HO.out HZS.out (by omega) hxa)
          gi_wp2_with fail
          refine ⟨trivial, ?_⟩
          refine (CallsIn.inRound lp ((callsIn_wide (n := 0)).2 c4.out)).mono ?_
          rintro e v2 ⟨rfl, nh', Vr', cr', zs', h1, h2, h3, h4⟩
          have hoth := h4.others (fun b hb => by
            rcases List.mem_cons.1 hb with rfl | hb
            · exact HS1.out.w.h.isCells
            · exact in_cells HS1.out.heap b hb)
          have HPT : Hid (PI N l V (had1 Vb xa) k (putB ib2 q) zs') := (PI.take HI.out HGE.out HLE.out (a := xa) (b := xb) (by rw [HEA.out]; exact Or.inl ⟨rfl, rfl⟩) HVV.out).perm (by rw [HN.out]; exact h3.symm)
          have HR1 := Lib.hid h1
          have HR2 := Lib.hid h2
          have HK2 : Hid (KeepsFrom wc.heap.size W v2) := HK1.out.trans (hoth.from _)
          have HMK2 : Hid (MarksAt Ds v2) := HMK1.out.others hoth
          have hlz := h1.heap.len
          have hlp := HPT.out.len
          have hcm := cntH_more (n := N) hxa HVV.out
          have hcl := cntH_le N (had1 Vb xa)
          have HVK2 : Hid (had1 Vb xa k = true) := by show had1 _ _ _ = true; unfold had1; split <;> first | rfl | exact HVB.out
          clear h1 h2 h3 h4 hoth c4 e0 e1 hgc
          gi_wp2
          exact ⟨HK2.out, 100 * (N - cntH N (had1 Vb xa)) + nh', by have := HN.out; omega, had1 Vb xa, putB ib2 q, nh', Vr', cr', zs', HR1.out, HR2.out, HPT.out, HVK2.out, HMK2.out, rfl⟩
        | true =>
          have HVA : Hid (Vb xa = true) := hqa
          rw [hqa] at hva
          clear hqa
          cases hqb : Vb xb with
          | false =>
            have HVV : Hid (Vb xb = false) := hqb
            rw [hqb] at hvb
            clear hqb
            gi_upto_region 21 with fail
            have HS1 := Lib.hid (HS0.out.put q)
            have HE1 : Hid (Row (v0.setCell ⟨I, q, none⟩ (.bool true)) E 101 [.int .i64 (xa : Int), .int .i64 (xb : Int), .int .i64 et]) := HE0.out.far (by show E ≠ I; exact HEI.out) _
            have HK1 : Hid (KeepsFrom wc.heap.size W (v0.setCell ⟨I, q, none⟩ (.bool true))) := HK0.out.trans ((KeepsOthers.setCell _ _ _).from _)
            have HMK1 : Hid (MarksAt Ds (v0.setCell ⟨I, q, none⟩ (.bool true))) := HMK0.out.others (KeepsOthers.setCell _ _ _)
            clear e0 e1 hcx hva hvb hix hiq hif HS0 HE0 HK0 HMK0
            generalize v0.setCell ⟨I, q, none⟩ (.bool true) = v1 at HS1 HE1 HK1 HMK1 ⊢
            have e0 := HE1.out.cell 0
            have e1 := HE1.out.cell 1
            have hgc := HS1.out.gx.cell 0
            have c4 := Lib.hid (HS1.out.grow (a := xb) HGE.out HN.out HA.out HO.out HZS.out (by omega) hxb)
            gi_wp2_with fail
            refine ⟨trivial, ?_⟩
            refine (CallsIn.inRound lp ((callsIn_wide (n := 0)).2 c4.out)).mono ?_
            rintro e v2 ⟨rfl, nh', Vr', cr', zs', h1, h2, h3, h4⟩
            have hoth := h4.others (fun b hb => by
              rcases List.mem_cons.1 hb with rfl | hb
              · exact HS1.out.w.h.isCells
              · exact in_cells HS1.out.heap b hb)
            have HPT : Hid (PI N l V (had1 Vb xb) k (putB ib2 q) zs') := (PI.take HI.out HGE.out HLE.out (a := xb) (b := xa) (by rw [HEA.out]; exact Or.inr ⟨rfl, rfl⟩) HVV.out).perm (by rw [HN.out]; exact h3.symm)
            have HR1 := Lib.hid h1
            have HR2 := Lib.hid h2
            have HK2 : Hid (KeepsFrom wc.heap.size W v2) := HK1.out.trans (hoth.from _)
            have HMK2 : Hid (MarksAt Ds v2) := HMK1.out.others hoth
            have hlz := h1.heap.len
            have hlp := HPT.out.len
            have hcm := cntH_more (n := N) hxb HVV.out
            have hcl := cntH_le N (had1 Vb xb)
            have HVK2 : Hid (had1 Vb xb k = true) := by show had1 _ _ _ = true; unfold had1; split <;> first | rfl | exact HVB.out
            clear h1 h2 h3 h4 hoth c4 e0 e1 hgc
            gi_wp2
            exact ⟨HK2.out, 100 * (N - cntH N (had1 Vb xb)) + nh', by have := HN.out; omega, had1 Vb xb, putB ib2 q, nh', Vr', cr', zs', HR1.out, HR2.out, HPT.out, HVK2.out, HMK2.out, rfl⟩
          | true =>
            have HVV : Hid (Vb xb = true) := hqb
            rw [hqb] at hvb
            clear hqb
            gi_wp2
            exact ⟨HK0.out, 100 * (N - cntH N Vb) + nh2, by omega, Vb, ib2, nh2, Vr2, cr2, zs2, HS0.out, HO.out, PI.fall HI.out (by rw [HEA.out]; exact HVA.out) (by rw [HEA.out]; exact HVV.out), HVB.out, HMK0.out, rfl⟩
    · have hkN2 : k = N := by omega
      subst hkN2
      have hkz : ¬ (k : Int) < k := by omega
      have hxi := HW.out.ix.cell 0
      have c9 := Lib.hid (those_ (some ⟨I, 0, none⟩) n n ib W HW.out.i.cells hn40)
      have HFOR : Hid (insOf n ib = forest k l) := by
        show _ = _
        have h := HPD.out.all HGE.out
        rw [HN.out] at h; exact h
      rw [HFOR.out] at c9
      go_wp2_with fail
      refine c9.out.mono ?_
      rintro e w9 ⟨V9, cv, rfl, hown, hb9⟩
      have HO9 : Hid (w9.ownsRow w.heap.size 3 1 (.slice V9 (forest k l).length cv) (forest k l).length (ints (forest k l))) := own_base hown HW.out.below.size
      have HB9 : Hid (Below w.heap.size w w9) := HW.out.below.trans (hb9.mono HW.out.below.size)
      have HM9 : Hid (MarksOpen w.heap.size Ds w9) := HM.out.others ((Keeps.ofBelow hb9 : Keeps [] W w9).others (fun b hb => by simp at hb))
      clear hown hb9 c9 hxi
      go_wp2
      refine leaves_marks (fun W => W.ownsRow w.heap.size 3 1 (.slice V9 (forest k l).length cv) (forest k l).length (ints (forest k l)) ∧ Below w.heap.size w W) w.heap.size ?_ ?_ Ds w9 HM9.out ⟨HO9.out, HB9.out⟩
      · rintro D W ⟨h1, h2⟩ hD hd
        exact ⟨own_abides h1 (grownBy_putObj' _ D (.deferred none)) (fun r e => by cases e; exact ⟨_, hd, rfl⟩), below_abides h2 (grownBy_putObj' _ D (.deferred none)) (Nat.le_refl _) (fun r e => by cases e; exact hD)⟩
      · rintro W ⟨h1, h2⟩
        exact ⟨.tuple #[.slice V9 (forest k l).length cv, .nilIface], by simp [results, Tryd.f65, go_sem], V9, cv, rfl, h1, h2⟩
end Go.Proofs.YtpaoiaogcckibaaDoor
