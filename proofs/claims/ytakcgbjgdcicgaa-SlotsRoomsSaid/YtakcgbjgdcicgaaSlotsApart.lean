/- Whether some spans are apart. Conditions: lengths are such that slices can have. -/
import Derived.Test.YtakcgbjgdcicgaaSlotsFact
namespace Go.Proofs.Ytakcgbjgdcicgaa
open Go.RowKit Go.Sort
/-- so far as the first k are apart -/
def ApartTo (l : List Sp) (o : List Int) (k : Nat) : Prop := ∀ i j : Nat, j ≤ i → i < k → (0 ≤ o[i]! ∧ o[i]! < l.length) ∧ (j < i → o[j]! ≠ o[i]! ∧ ¬ meetP (spAt l o[i]!) (spAt l o[j]!))
theorem iget (o : List Int) {k : Nat} (h : k < o.length) : o[k]? = some o[k]! := by
  rw [List.getElem!_eq_getElem?_getD, List.getElem?_eq_getElem h]; simp
theorem iget' (o : List Int) {k : Nat} (h : k < o.length) : o[k]! = o[k] := by
  rw [List.getElem!_eq_getElem?_getD, List.getElem?_eq_getElem h]; rfl
theorem apartTo_all {l : List Sp} {o : List Int} (h : ApartTo l o o.length) : Apart l o := by
  refine ⟨fun i hi => ?_, ?_⟩
  · obtain ⟨k, hk, rfl⟩ := List.getElem_of_mem hi
    have := (h k k (Nat.le_refl _) hk).1
    rw [iget' o hk] at this; exact this
  · rw [List.pairwise_iff_getElem]
    intro i j hi hj hij
    have := (h j i (by omega) hj).2 hij
    rw [iget' o hi, iget' o hj] at this
    exact ⟨this.1, fun hm => this.2 ⟨hm.2, hm.1⟩⟩
theorem Apart.to {l : List Sp} {o : List Int} (h : Apart l o) : ApartTo l o o.length := by
  intro i j hji hi
  rw [iget' o hi]
  refine ⟨h.1 _ (List.getElem_mem hi), fun hlt => ?_⟩
  have := (List.pairwise_iff_getElem.1 h.2) j i (by omega) hi hlt
  rw [iget' o (by omega)]
  exact ⟨this.1, fun hm => this.2 ⟨hm.2, hm.1⟩⟩
noncomputable def apartB (l : List Sp) (o : List Int) : Bool := @decide (Apart l o) (Classical.propDecidable _)
theorem apartB_true {l : List Sp} {o : List Int} (h : Apart l o) : apartB l o = true := by unfold apartB; exact @decide_eq_true _ (Classical.propDecidable _) h
theorem apartB_false {l : List Sp} {o : List Int} (h : ¬ Apart l o) : apartB l o = false := by unfold apartB; exact @decide_eq_false _ (Classical.propDecidable _) h
theorem below_grow {w0 w : World} (h : Below w0.heap.size w0 w) (q : Nat) (os : Array Obj) : Below w0.heap.size w0 (grow (w.drewN q) os) :=
  ⟨h.os, h.tape, h.output, by show w0.heap.size ≤ (grow (w.drewN q) os).heap.size; rw [size_grow]; exact Nat.le_trans h.size (Nat.le_add_right _ _), fun k hk => (heap_grow_old (w.drewN q) os (show k < (w.drewN q).heap.size from Nat.lt_of_lt_of_le hk h.size)).trans (h.block k hk)⟩
set_option maxHeartbeats 4000000 in
theorem apart_ (A : Option Addr) (n c : Nat) (B : Option Addr) (m c' : Nat) (l : List Sp) (o : List Int) (w : World) (hA : Cells w w.heap.size A (pairs l)) (hn : l.length = n) (hm : n ≤ 9223372036854775807) (hB : Cells w w.heap.size B (ints o)) (hn' : o.length = m) (hm' : m ≤ 9223372036854775807) :
    Calls Try.prog 13 #[.slice A n c, .slice B m c'] w fun e w' => e = .returned (.bool (apartB l o)) ∧ Below w.heap.size w w' := by
  have mixed : Try.prog.follows .mixedOrders = true := by kernel_rfl
  have HN := Lib.hid hn
  have HM := Lib.hid hn'
  clear hn hn'
  go_enter Try.func13, Try.ntmps13
  go_wp2
  go_loopw [5] (fun i wr => ∃ k : Nat, i = .int .i64 (k : Int) ∧ k ≤ m ∧ Hid (ApartTo l o k) ∧ Below w.heap.size w wr) (fun i _ => m - (intOf i).toNat)
  case atStart => exact ⟨0, rfl, by omega, fun i j _ h => by omega, Below.refl _ _⟩
  case round =>
    obtain ⟨k, rfl, hk, HI, hb⟩ := hrel
    by_cases hlt : k < m
    · have hlz : (k : Int) < m := by omega
      obtain ⟨bb, boff, x, rfl, hbb, hx, hcx⟩ := ints_at hB (show k < o.length by rw [HM.out]; exact hlt)
      have hxe : o[k]! = x := by
        have := iget o (show k < o.length by rw [HM.out]; exact hlt)
        rw [hx] at this; injection this with this; exact this.symm
      have HXE := Lib.hid hxe
      have hcx0 := hcx
      rw [← hb.cell hbb] at hcx
      by_cases h0 : x < 0
      · have HF : Hid (apartB l o = false) := apartB_false (fun h => by
          have := (h.to k k (Nat.le_refl _) (by rw [HM.out]; exact hlt)).1.1
          rw [hxe] at this; omega)
        clear hx hxe hcx0 hA
        go_wp2
        go_ret
        exact ⟨ret_bool HF.out.symm, hb⟩
      by_cases h1 : (n : Int) ≤ x
      · have HF : Hid (apartB l o = false) := apartB_false (fun h => by
          have := (h.to k k (Nat.le_refl _) (by rw [HM.out]; exact hlt)).1.2
          rw [hxe, HN.out] at this; omega)
        clear hx hxe hcx0 hA
        go_wp2
        go_ret
        exact ⟨ret_bool HF.out.symm, hb⟩
      obtain ⟨x, rfl⟩ : ∃ z : Nat, x = z := ⟨x.toNat, by omega⟩
      have hxn : x < n := by omega
      obtain ⟨ab, aoff, f1, t1, hAA, hab, hs1, hc1, hd1⟩ := pairs_at hA (show x < l.length by rw [HN.out]; exact hxn)
      have HS1 := Lib.hid (spAt_nat hs1)
      have HX := Lib.hid hx
      clear hx hxe hs1
      go_wp2
      go_loopw [6] (fun i wr2 => ∃ j : Nat, i = .int .i64 (j : Int) ∧ j ≤ k ∧ Hid (∀ t, t < j → o[t]! ≠ o[k]! ∧ ¬ meetP (spAt l o[k]!) (spAt l o[t]!)) ∧ Below w.heap.size w wr2) (fun i _ => k - (intOf i).toNat)
      case atStart => exact ⟨0, rfl, by omega, fun t h => by omega, hb⟩
      case round =>
        clear hcx hb
        obtain ⟨j, rfl, hj, HJ, hb⟩ := hrel
        by_cases hjk : j < k
        · have hjz : (j : Int) < k := by omega
          have hjm : (j : Int) < m := by omega
          have hkm : (k : Int) < m := by omega
          have hcy0 := hB (by rw [ints_len]; have := HM.out; omega)
          obtain ⟨bb2, boff2, hBB, _, hcy⟩ := hcy0
          simp only [Option.some.injEq, Addr.mk.injEq, and_true] at hBB
          obtain ⟨rfl, rfl⟩ := hBB
          obtain ⟨y, hy⟩ : ∃ y, y = o[j]! := ⟨_, rfl⟩
          have hcy1 := hcy j (.int .i64 y) (by unfold ints; rw [List.getElem?_map, iget o (show j < o.length by have := HM.out; omega), ← hy]; rfl)
          have hcy2 := (hb.cell (p := ⟨bb, boff + j, none⟩) hbb).trans hcy1
          have hcx2 := (hb.cell (p := ⟨bb, boff + k, none⟩) hbb).trans hcx0
          have hbs := hb.size
          have hyr := (HI.out j j (Nat.le_refl _) hjk).1
          rw [← hy] at hyr
          obtain ⟨y, rfl⟩ : ∃ z : Nat, y = z := ⟨y.toNat, by omega⟩
          have hyn : y < n := by have := HN.out; omega
          have HY := Lib.hid hy
          clear hy hcy hcy1 hyr
          by_cases heq : y = x
          · have hd : ((y : Int) == (x : Int)) = true := by rw [beq_iff_eq]; omega
            have HF : Hid (apartB l o = false) := apartB_false (fun h => by
              have := ((h.to k j (by omega) (by rw [HM.out]; exact hlt)).2 hjk).1
              rw [HXE.out, ← HY.out] at this; exact this (by omega))
            clear hA hc1 hd1
            go_wp2
            go_quiet (fail)
            go_wp2
            go_ret
            exact ⟨ret_bool HF.out.symm, below_drewN hb _⟩
          · have hd : ((y : Int) == (x : Int)) = false := beq_eq_false_iff_ne.2 (by omega)
            obtain ⟨ab2, aoff2, f2, t2, hA2, _, hs2, hc2, hd2⟩ := pairs_at hA (show y < l.length by rw [HN.out]; exact hyn)
            rw [hAA] at hA2
            simp only [Option.some.injEq, Addr.mk.injEq, and_true] at hA2
            obtain ⟨rfl, rfl⟩ := hA2
            have HS2 := Lib.hid (spAt_nat hs2)
            have e1 := (hb.cell (p := ⟨ab, aoff + x * 2, none⟩) hab).trans hc1
            have e2 := (hb.cell (p := ⟨ab, aoff + x * 2 + 1, none⟩) hab).trans hd1
            have e3 := (hb.cell (p := ⟨ab, aoff + y * 2, none⟩) hab).trans hc2
            have e4 := (hb.cell (p := ⟨ab, aoff + y * 2 + 1, none⟩) hab).trans hd2
            have g1 := fun q os => cell_grown (w := wr) (a := ⟨ab, aoff + x * 2, none⟩) (by show ab < _; omega) e1 q os
            have g2 := fun q os => cell_grown (w := wr) (a := ⟨ab, aoff + x * 2 + 1, none⟩) (by show ab < _; omega) e2 q os
            have g3 := fun q os => cell_grown (w := wr) (a := ⟨ab, aoff + y * 2, none⟩) (by show ab < _; omega) e3 q os
            have g4 := fun q os => cell_grown (w := wr) (a := ⟨ab, aoff + y * 2 + 1, none⟩) (by show ab < _; omega) e4 q os
            have g5 := fun q os => cell_grown (w := wr) (a := ⟨bb, boff + j, none⟩) (by show bb < _; omega) hcy2 q os
            have g6 := fun q os => cell_grown (w := wr) (a := ⟨bb, boff + k, none⟩) (by show bb < _; omega) hcx2 q os
            have HB := Lib.hid hb
            obtain ⟨M, hM⟩ : ∃ M, M = meetB (f1, t1) (f2, t2) := ⟨_, rfl⟩
            have hmt := fun W => meet_ f1 t1 f2 t2 W
            rw [← hM] at hmt
            have HMT := Lib.hid hmt
            have HMM := Lib.hid hM
            have HNE := Lib.hid heq
            subst hAA
            clear hs2 e1 e2 e3 e4 hc2 hd2 hcy2 hcx2 hmt hM heq hA
            cases M with
            | true =>
              have HF : Hid (apartB l o = false) := apartB_false (fun h => by
                have := ((h.to k j (by omega) (by rw [HM.out]; exact hlt)).2 hjk).2
                rw [HXE.out, ← HY.out, HS1.out, HS2.out] at this
                have h2 := meetB_false this
                rw [← HMM.out] at h2; cases h2)
              go_wp2_with fail
              go_quiet_grown (first | (go_at_call 15; exact Calls.grown_of (HMT.out _)))
              go_wp2
              go_ret
              exact ⟨ret_bool HF.out.symm, below_grow HB.out _ _⟩
            | false =>
              have HJ2 : Hid (∀ t, t < j + 1 → o[t]! ≠ o[k]! ∧ ¬ meetP (spAt l o[k]!) (spAt l o[t]!)) := fun t ht => by
                by_cases e : t = j
                · subst e
                  rw [HXE.out, ← HY.out, HS1.out, HS2.out]
                  refine ⟨fun e => HNE.out (by omega), fun hmm => ?_⟩
                  have := meetB_true hmm
                  rw [← HMM.out] at this; cases this
                · exact HJ.out t (by omega)
              go_wp2_with fail
              go_quiet_grown (first | (go_at_call 15; exact Calls.grown_of (HMT.out _)))
              have HB2 := Lib.hid (below_grow HB.out nq osq)
              clear g1 g2 g3 g4 g5 g6
              generalize grow (wr.drewN nq) osq = w5 at HB2 ⊢
              go_wp2
              go_roundw
              case rel => exact ⟨j + 1, by go_num, by omega, HJ2, HB2.out⟩
              case measure => simp [intOf]; omega
        · have hjz : ¬ (j : Int) < k := by omega
          have hjk2 : j = k := by omega
          subst hjk2
          have HI2 : Hid (ApartTo l o (j + 1)) := fun a b hba ha => by
            by_cases e : a = j
            · subst e
              refine ⟨?_, fun hlt => HJ.out b hlt⟩
              rw [HXE.out, HN.out]; omega
            · exact HI.out a b hba (by omega)
          have HBB := Lib.hid hb
          clear hc1 hd1 hb
          go_wp2
          go_roundw
          case rel => exact ⟨j + 1, by go_num, by omega, HI2, HBB.out⟩
          case measure => simp [intOf]; omega
    · have hlz : ¬ (k : Int) < m := by omega
      have HT : Hid (apartB l o = true) := apartB_true (apartTo_all (by have := HI.out; rwa [show k = o.length by rw [HM.out]; omega] at this))
      go_wp2
      go_ret
      exact ⟨ret_bool HT.out.symm, hb⟩
end Go.Proofs.Ytakcgbjgdcicgaa
