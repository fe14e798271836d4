/- slices.SortStableFunc over a row of the call's own that holds rising numbers below a bound: it leaves the same numbers, each ahead of those that come later in the order, equals by number. Conditions: fewer than 20 numbers; the comparison is one by a weak order and only reads. -/
import Derived.Test.YtejbilcofbjpiaaSortIns
import Derived.Test.YtejbilcofbjpiaaSortPlain
namespace Go.Proofs.Ytejbilcofbjpiaa
open Go.Shelf Go.RowKit Go.Lib Go.Sort Go.Proofs
section
variable {α : Type} [Inhabited α]

set_option maxHeartbeats 1000000 in
theorem stable_small (enc : α → Value) (cf : α → α → Int) (g : Nat) (cb : Array Value) (blk off cap : Nat) (d : Array α) (w : World)
    (eg : ∀ args w, (callFunc g args).run Try.prog w = .ok (.enter g args) w) (hcmp : CmpLays1 Try.prog g cb enc cf blk off d.size w) (R : Row1 enc w blk off d) (hsz : d.size < 20) :
    Calls Try.prog 22 #[.slice (some ⟨blk, off, none⟩) d.size cap, .int .i64 d.size, .func (.func g) #[] cb] w fun e w' => e = .returned (.tuple #[]) ∧ SW enc w blk off (Sort.insertionSort (ltOf cf) d 0 d.size) w' := by
  have S0 : SW enc w blk off d w := SW.start R.hH
  have c0 := Lib.hid (insertionSort_s enc cf g cb blk off cap 0 d.size d d w w eg hcmp R rfl S0 (Nat.zero_le _) (Nat.le_refl _) (by omega))
  clear hcmp S0 R eg
  obtain ⟨n, hn⟩ : ∃ n, n = d.size := ⟨_, rfl⟩
  have hz : (n : Int) < 20 := by omega
  rw [← hn] at c0 ⊢
  have HN := Lib.hid hn
  clear hn hsz
  go_enter Try.func22, Try.ntmps22
  go_wp2
  refine wp_loop_rounds 1 ?_
  rw [rounds_succ]
  go_wp2_with fail
  refine c0.out.mono ?_
  rintro e w1 ⟨rfl, hS⟩
  go_wp2
  refine wp_loop_rounds 1 ?_
  rw [rounds_succ]
  go_wp2
  go_end0
  exact ⟨rfl, hS⟩
end

/-! ## In words of the call's own row -/
theorem sortWorld_block {α : Type} [Inhabited α] (enc : α → Value) (w : World) (blk off m : Nat) (dk : Array α) (os : Array Obj) (_hb : blk < w.heap.size) (k : Nat) (hk : k < w.heap.size) :
    (sortWorld enc w blk off m dk os).heap[k]? = if k = blk then (w.heap[k]?).map (onCells (putCells enc off dk)) else w.heap[k]? := by
  unfold sortWorld
  rw [heap_grow_old _ _ (by rw [Go.Proofs.size_putRow]; exact hk)]
  show ((w.heap).modify blk _)[k]? = _
  rw [Array.getElem?_modify]
  split
  · next e => subst e; rw [if_pos rfl]
  · next e => rw [if_neg (fun h => e h.symm)]
theorem sortWorld_grown {α : Type} [Inhabited α] (enc : α → Value) (w : World) (blk off m : Nat) (dk : Array α) (os : Array Obj) (hb : blk < w.heap.size) : w.grownBy (sortWorld enc w blk off m dk os) (some blk) :=
  ⟨rfl, rfl, rfl, by unfold sortWorld; rw [size_grow, Go.Proofs.size_putRow]; exact Nat.le_add_right _ _, fun k hk hne => by
    rw [sortWorld_block enc w blk off m dk os hb k hk, if_neg (fun e => hne (by rw [e]))]⟩

/-- a number below a bound as a value -/
def finV {M : Nat} (i : Fin (M + 1)) : Value := .int .i64 (i.val : Int)
def toFin (M : Nat) (xs : List Int) : Array (Fin (M + 1)) := (xs.map fun x => Fin.ofNat (M + 1) x.toNat).toArray
theorem toFin_size (M : Nat) (xs : List Int) : (toFin M xs).size = xs.length := by simp [toFin]
theorem toFin_get {M : Nat} {xs : List Int} (h : ∀ x ∈ xs, 0 ≤ x ∧ x ≤ M) {j : Nat} {x : Int} (hx : xs[j]? = some x) : (((toFin M xs)[j]!).val : Int) = x := by
  have h1 := h x (List.mem_of_getElem? hx)
  have hj := (List.getElem?_eq_some_iff.1 hx).1
  have e : (toFin M xs)[j]! = Fin.ofNat (M + 1) x.toNat := by
    rw [getElem!_pos _ j (by rw [toFin_size]; exact hj)]
    simp only [toFin, List.getElem_toArray, List.getElem_map]
    rw [(List.getElem?_eq_some_iff.1 hx).2]
  rw [e]
  simp only [Fin.ofNat]
  rw [Nat.mod_eq_of_lt (by omega)]; omega

theorem sw_own {M : Nat} {w W : World} {base g n cap e : Nat} {xs : List Int} {d' : Array (Fin (M + 1))} (hown : w.ownsRow base e 1 (.slice (some ⟨g, 0, none⟩) n cap) n (ints xs)) (hn : 0 < n)
    (hd : d'.size = n) (h : SW finV w g 0 d' W) : W.ownsRow base e 1 (.slice (some ⟨g, 0, none⟩) n cap) n (ints (d'.toList.map fun i => (i.val : Int))) ∧ w.grownBy W (some g) := by
  obtain ⟨m, os, rfl⟩ := h
  obtain ⟨hl, hf⟩ := hown
  rcases hf with ⟨_, h0⟩ | ⟨g', cap', cur, hv, hg, hh, hnc, hcm, hcs, htk⟩
  · omega
  · simp only [Value.slice.injEq, Option.some.injEq, Addr.mk.injEq, true_and, and_true] at hv
    obtain ⟨rfl, rfl⟩ := hv
    have hlt : g < w.heap.size := lt_of_block hh
    refine ⟨⟨by simp [ints, hd], Or.inr ⟨g, cap, putCells finV 0 d' cur, rfl, hg, ?_, hnc, hcm, by simp [putCells, hcs], ?_⟩⟩, sortWorld_grown _ _ _ _ _ _ _ hlt⟩
    · rw [sortWorld_block _ _ _ _ _ _ _ hlt g hlt, if_pos rfl, hh]; rfl
    · apply List.ext_getElem
      · simp [putCells, ints, hcs, hd]; omega
      · intro i h1 h2
        have hi : i < d'.size := by simpa [ints] using h2
        simp only [putCells, List.getElem_take, Array.getElem_toList, Array.getElem_mapIdx, ints, List.getElem_map]
        rw [if_pos ⟨Nat.zero_le _, by omega⟩, Nat.sub_zero, getElem!_pos d' i hi]
        rfl

theorem finV_one {M : Nat} : OneCell (finV (M := M)) := fun _ => rfl
theorem own_row1 {M : Nat} {w : World} {base g n cap e : Nat} {xs : List Int} (hown : w.ownsRow base e 1 (.slice (some ⟨g, 0, none⟩) n cap) n (ints xs)) (_hn : 0 < n) (hx : ∀ x ∈ xs, 0 ≤ x ∧ x ≤ M) : Row1 finV w g 0 (toFin M xs) := by
  have hl : xs.length = n := by have := hown.1; simpa [ints] using this
  refine ⟨finV_one, fun j hj => ?_, ?_⟩
  · rw [toFin_size] at hj
    have hxj : xs[j]? = some xs[j] := List.getElem?_eq_getElem hj
    have hc := hown.cellAt j (by omega)
    have hf := hown.frozenAt j
    refine ⟨?_, by rw [Nat.zero_add]; exact hf⟩
    rw [Nat.zero_add, hc]
    simp only [ints, List.getElem?_map, hxj, Option.map_some]
    unfold finV
    rw [toFin_get hx hxj]
  · have := hown.lt g rfl; exact this.2

set_option maxHeartbeats 1000000 in
/-- slices.SortStableFunc over rising numbers of a row of the call's own -/
theorem sortStable {base g n cap M f : Nat} {cb : Array Value} {xs : List Int} {c : Int → Int → Int} {w : World}
    (hown : w.ownsRow base 3 1 (.slice (some ⟨g, 0, none⟩) n cap) n (ints xs)) (hn : 0 < n) (hn20 : n < 20) (hx : ∀ x ∈ xs, 0 ≤ x ∧ x ≤ M) (hr : xs.Pairwise (· < ·))
    (hc : Weak (fun i j : Fin (M + 1) => c i.val j.val)) (ef : ∀ args w, (callFunc f args).run Try.prog w = .ok (.enter f args) w)
    (hcmp : ∀ W : World, w.grownBy W (some g) → ∀ x y : Int, 0 ≤ x → x ≤ M → 0 ≤ y → y ≤ M → Calls Try.prog f (#[.int .i64 x, .int .i64 y] ++ cb) W fun e W' => e = .returned (.int .i64 (c x y)) ∧ ∃ q, W' = W.drewN q) :
    Calls Try.prog 11 #[.slice (some ⟨g, 0, none⟩) n cap, .func (.func f) #[] cb] w fun e w' => e = .returned (.tuple #[]) ∧
      ∃ ys : List Int, ys.Perm xs ∧ ys.Pairwise (Ahead c id) ∧ w'.ownsRow base 3 1 (.slice (some ⟨g, 0, none⟩) n cap) n (ints ys) ∧ w.grownBy w' (some g) := by
  have hl : xs.length = n := by have := hown.1; simpa [ints] using this
  have R := own_row1 (M := M) hown hn hx
  have hds : (toFin M xs).size = n := by rw [toFin_size, hl]
  have hv : ∀ p q, 0 ≤ p → p < q → q < n → (((toFin M xs)[p]!).val : Int) < ((toFin M xs)[q]!).val := fun p q _ hpq hq => by
    rw [toFin_get hx (List.getElem?_eq_getElem (show p < xs.length by omega)), toFin_get hx (List.getElem?_eq_getElem (show q < xs.length by omega))]
    exact List.pairwise_iff_getElem.1 hr p q _ _ hpq
  have hok := insertionSort_ok (v := fun i : Fin (M + 1) => (i.val : Int)) hc 0 n (toFin M xs) (by omega) (by omega) hv
  have c0 := stable_small finV (fun i j : Fin (M + 1) => c i.val j.val) f cb g 0 cap (toFin M xs) w ef (fun m os dk _ x y => by
    have := hcmp _ (sortWorld_grown finV w g 0 m dk os R.hblk) (x.val : Int) (y.val : Int) (by omega) (by omega) (by omega) (by omega)
    exact this.mono fun e W' ⟨he, q, hq⟩ => ⟨he, q, #[], by rw [hq, grow_empty]⟩) R (by omega)
  rw [hds] at c0
  have C0 := Lib.hid c0
  have HOK := Lib.hid hok
  have HOWN := Lib.hid hown
  have HDS := Lib.hid hds
  have HX := Lib.hid hx
  clear c0 hok hown hds R hv hcmp hc ef hr hx hl
  go_enter Try.func11, Try.ntmps11
  go_wp2_with fail
  refine C0.out.mono ?_
  rintro e w1 ⟨rfl, hS⟩
  go_wp2
  go_end0
  obtain ⟨hp, hs⟩ := HOK.out
  have hsz : (Sort.insertionSort (ltOf fun i j : Fin (M + 1) => c i.val j.val) (toFin M xs) 0 n).size = n := by rw [hp.1, HDS.out]
  obtain ⟨ho, hg⟩ := sw_own HOWN.out hn hsz hS
  refine ⟨rfl, _, ?_, ?_, ho, hg⟩
  · have hpp := hp.2.2
    have e1 : (Sort.insertionSort (ltOf fun i j : Fin (M + 1) => c i.val j.val) (toFin M xs) 0 n).extract 0 n = Sort.insertionSort (ltOf fun i j : Fin (M + 1) => c i.val j.val) (toFin M xs) 0 n := by
      conv => lhs; arg 3; rw [← hsz]
      exact Array.extract_size
    have e2 : (toFin M xs).extract 0 n = toFin M xs := by
      conv => lhs; arg 3; rw [← HDS.out]
      exact Array.extract_size
    rw [e1, e2] at hpp
    have := hpp.map fun i : Fin (M + 1) => (i.val : Int)
    refine this.trans (List.Perm.of_eq ?_)
    apply List.ext_getElem
    · simp [toFin]
    · intro i h1 h2
      have h2' : i < xs.length := h2
      have := toFin_get HX.out (List.getElem?_eq_getElem h2')
      rw [getElem!_pos _ i (by rw [toFin_size]; exact h2')] at this
      simpa using this
  · rw [List.pairwise_map, List.pairwise_iff_getElem]
    intro p q h1 h2 hpq
    have h1' : p < (Sort.insertionSort (ltOf fun i j : Fin (M + 1) => c i.val j.val) (toFin M xs) 0 n).size := by simpa using h1
    have h2' : q < (Sort.insertionSort (ltOf fun i j : Fin (M + 1) => c i.val j.val) (toFin M xs) 0 n).size := by simpa using h2
    have := hs p q (Nat.zero_le _) hpq (by omega)
    rw [getElem!_pos _ p h1', getElem!_pos _ q h2'] at this
    exact this
end Go.Proofs.Ytejbilcofbjpiaa
