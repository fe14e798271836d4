/- The walk of SlotsOther. Conditions: lengths are such that slices can have. -/
import Derived.Test.YtakcgbjgdcicgaaSlotsApart
import Derived.Test.YtakcgbjgdcicgaaSlotsOtherP
namespace Go.Proofs.Ytakcgbjgdcicgaa
open Go.RowKit Go.Sort
def seenR (o : List Int) (k j : Nat) : Bool := (o.take j).contains o[k]!
theorem seenR_snoc {o : List Int} {k j : Nat} (h : j < o.length) : seenR o k (j + 1) = (seenR o k j || decide (o[k]! = o[j]!)) := by
  unfold seenR
  rw [take_at (oget o h)]
  generalize o[j]! = a
  generalize o[k]! = b
  rw [Bool.eq_iff_iff]; simp
set_option maxHeartbeats 4000000 in
set_option maxRecDepth 100000 in
theorem slotsOtherW (A : Option Addr) (n c : Nat) (B : Option Addr) (m c' : Nat) (l : List Sp) (o : List Int) (w : World) (hA : Cells w w.heap.size A (pairs l)) (hn : l.length = n) (hm : n * 16 ≤ 140737488351232)
    (_ : ∀ x ∈ l, (-9223372036854775808 ≤ x.1 ∧ x.1 ≤ 9223372036854775807) ∧ (-9223372036854775808 ≤ x.2 ∧ x.2 ≤ 9223372036854775807)) (hB : Cells w w.heap.size B (ints o)) (hn' : o.length = m) (hm' : m * 8 ≤ 140737488351232) (_ : ∀ x ∈ o, -9223372036854775808 ≤ x ∧ x ≤ 9223372036854775807) :
    Calls Try.prog 5 #[.slice A n c, .slice B m c'] w fun e w' => e = .returned (.bool true) ∧ Below w.heap.size w w' := by
  have mixed : Try.prog.follows .mixedOrders = true := by kernel_rfl
  have HN := Lib.hid hn
  have HM := Lib.hid hn'
  have c0 := Lib.hid (slotsFact w)
  clear hn hn'
  go_enter Try.func5, Try.ntmps5
  go_wp2_with fail
  refine c0.out.mono ?_
  rintro e w1 ⟨rfl, hb1⟩
  have HB1 := Lib.hid hb1
  have hA1 := hA.step hb1
  clear c0 hb1
  by_cases he : spansErr l = 0
  · have c1 := Lib.hid (slotsDeep_ok A n c l w1 hA1 HN.out he)
    have hn24 : n ≤ 24 := by have := (spansErr_ok he).1; have := HN.out; omega
    have HD : Hid (0 ≤ deepV l ∧ deepV l ≤ 24) := by have := deepUp_le l 1001; have := HN.out; show 0 ≤ deepV l ∧ deepV l ≤ 24; unfold deepV; omega
    clear he hA1
    go_wp2_with fail
    refine c1.out.mono ?_
    rintro e w2 ⟨rfl, hb2⟩
    have HB2 : Hid (Below w.heap.size w w2) := HB1.out.trans (hb2.mono HB1.out.size)
    clear c1 hb2 HB1
    by_cases hmn : m = n
    · subst hmn
      have HO : Hid (NoMeet l o m → deepV l ≤ news o m) := fun h => by
        have := HN.out
        rw [← this] at h ⊢
        exact other_le (by rw [HM.out, HN.out]) h
      go_wp2
      go_loopw [9, 8] (fun i mn wr => ∃ k : Nat, i = .int .i64 (k : Int) ∧ k ≤ m ∧ mn = .int .i64 (news o k) ∧ Hid (NoMeet l o k) ∧ Hid (Below w.heap.size w wr)) (fun i _ _ => m - (intOf i).toNat)
      case atStart => exact ⟨0, rfl, by omega, rfl, fun i j _ h => by omega, HB2.out⟩
      case round =>
        obtain ⟨k, rfl, hk, rfl, HI, HBk⟩ := hrel
        clear HB2
        by_cases hlt : k < m
        · have hlz : (k : Int) < m := by omega
          have hno := news_le o k
          have hr : ∀ z : Int, z = news o k → z + 1 = news o k + 1 := fun z hz => by rw [hz]
          go_wp2
          go_loopw [11, 10] (fun i fs wr2 => ∃ j : Nat, i = .int .i64 (j : Int) ∧ j ≤ k ∧ fs = .bool (!(seenR o k j)) ∧ Hid (∀ t, t < j → o[k]! = o[t]! → ¬ meetP (spAt l k) (spAt l t)) ∧ Hid (Below w.heap.size w wr2)) (fun i _ _ => k - (intOf i).toNat)
          case atStart => exact ⟨0, rfl, by omega, by simp [seenR], fun t h => by omega, HBk.out⟩
          case round =>
            obtain ⟨j, rfl, hj, rfl, HJ, HBj⟩ := hrel
            by_cases hjk : j < k
            · have hjz : (j : Int) < k := by omega
              have hjm : (j : Int) < m := by omega
              have hbs := HBj.out.size
              have hsn := Lib.hid (seenR_snoc (o := o) (k := k) (show j < o.length by rw [HM.out]; omega))
              obtain ⟨bb, boff, hBB, hbb, hcB⟩ := hB (by rw [ints_len]; have := HM.out; omega)
              obtain ⟨y, hy⟩ : ∃ y, y = o[j]! := ⟨_, rfl⟩
              obtain ⟨x, hx⟩ : ∃ x, x = o[k]! := ⟨_, rfl⟩
              have hcy := (HBj.out.cell (p := ⟨bb, boff + j, none⟩) hbb).trans (hcB j (.int .i64 y) (by unfold ints; rw [List.getElem?_map, oget o (show j < o.length by have := HM.out; omega), ← hy]; rfl))
              have hcx := (HBj.out.cell (p := ⟨bb, boff + k, none⟩) hbb).trans (hcB k (.int .i64 x) (by unfold ints; rw [List.getElem?_map, oget o (show k < o.length by have := HM.out; omega), ← hx]; rfl))
              obtain ⟨s, hs⟩ : ∃ s, s = seenR o k j := ⟨_, rfl⟩
              rw [← hs] at hsn ⊢
              have HY := Lib.hid hy
              have HX := Lib.hid hx
              clear hy hx hcB hs
              by_cases heq : x = y
              · have hd : ((x : Int) == (y : Int)) = true := by rw [beq_iff_eq]; omega
                have HS2 : Hid (seenR o k (j + 1) = true) := by
                  show _ = _
                  rw [hsn.out, ← HX.out, ← HY.out, heq]; simp
                obtain ⟨ab, aoff, f1, t1, hAA, hab, hs1, hc1, hd1⟩ := pairs_at hA (show k < l.length by rw [HN.out]; exact hlt)
                obtain ⟨ab2, aoff2, f2, t2, hA2, _, hs2, hc2, hd2⟩ := pairs_at hA (show j < l.length by rw [HN.out]; omega)
                rw [hAA] at hA2
                simp only [Option.some.injEq, Addr.mk.injEq, and_true] at hA2
                obtain ⟨rfl, rfl⟩ := hA2
                have HS1 := Lib.hid (spAt_nat hs1)
                have HSJ := Lib.hid (spAt_nat hs2)
                obtain ⟨M, hM⟩ : ∃ M, M = meetB (f1, t1) (f2, t2) := ⟨_, rfl⟩
                have hmt := fun W => meet_ f1 t1 f2 t2 W
                rw [← hM] at hmt
                have HMT := Lib.hid hmt
                have HMM := Lib.hid hM
                have HEQ := Lib.hid heq
                have E1 := Lib.hid hc1
                have E2 := Lib.hid hd1
                have E3 := Lib.hid hc2
                have E4 := Lib.hid hd2
                subst hAA hBB
                clear hs1 hs2 hc1 hd1 hc2 hd2 hmt hM heq hA hB
                go_wp2_with fail
                go_quiet (fail)
                have HB5 := Lib.hid (below_drewN HBj.out nq)
                have hbs5 := HB5.out.size
                clear hcx hcy hbs
                generalize wr.drewN nq = w5 at HB5 hbs5 ⊢
                have e1 := (HB5.out.cell (p := ⟨ab, aoff + k * 2, none⟩) hab).trans E1.out
                have e2 := (HB5.out.cell (p := ⟨ab, aoff + k * 2 + 1, none⟩) hab).trans E2.out
                have e3 := (HB5.out.cell (p := ⟨ab, aoff + j * 2, none⟩) hab).trans E3.out
                have e4 := (HB5.out.cell (p := ⟨ab, aoff + j * 2 + 1, none⟩) hab).trans E4.out
                have g1 := fun q os => cell_grown (w := w5) (a := ⟨ab, aoff + k * 2, none⟩) (by show ab < _; omega) e1 q os
                have g2 := fun q os => cell_grown (w := w5) (a := ⟨ab, aoff + k * 2 + 1, none⟩) (by show ab < _; omega) e2 q os
                have g3 := fun q os => cell_grown (w := w5) (a := ⟨ab, aoff + j * 2, none⟩) (by show ab < _; omega) e3 q os
                have g4 := fun q os => cell_grown (w := w5) (a := ⟨ab, aoff + j * 2 + 1, none⟩) (by show ab < _; omega) e4 q os
                clear e1 e2 e3 e4
                cases M with
                | true =>
                  go_wp2_with fail
                  go_quiet_grown (first | (go_at_call 15; exact Calls.grown_of (HMT.out _)))
                  go_wp2
                  go_ret
                  exact ⟨rfl, below_grow HB5.out _ _⟩
                | false =>
                  have HJ2 : Hid (∀ t, t < j + 1 → o[k]! = o[t]! → ¬ meetP (spAt l k) (spAt l t)) := fun t ht he => by
                    by_cases e : t = j
                    · subst e
                      rw [HS1.out, HSJ.out]
                      intro hmm
                      have := meetB_true hmm
                      rw [← HMM.out] at this; cases this
                    · exact HJ.out t (by omega) he
                  go_wp2_with fail
                  go_quiet_grown (first | (go_at_call 15; exact Calls.grown_of (HMT.out _)))
                  have HB6 := Lib.hid (below_grow HB5.out nq osq)
                  clear g1 g2 g3 g4
                  generalize grow (w5.drewN nq) osq = w6 at HB6 ⊢
                  go_wp2
                  go_roundw
                  case rel => exact ⟨j + 1, by go_num, by omega, by rw [HS2.out]; rfl, HJ2, HB6.out⟩
                  case measure => simp [intOf]; omega
              · have hd : ((x : Int) == (y : Int)) = false := beq_eq_false_iff_ne.2 heq
                have HS2 : Hid (seenR o k (j + 1) = s) := by
                  show _ = _
                  rw [hsn.out, ← HX.out, ← HY.out, decide_eq_false heq]; simp
                have HJ2 : Hid (∀ t, t < j + 1 → o[k]! = o[t]! → ¬ meetP (spAt l k) (spAt l t)) := fun t ht he => by
                  by_cases e : t = j
                  · subst e
                    rw [← HX.out, ← HY.out] at he
                    exact absurd he heq
                  · exact HJ.out t (by omega) he
                subst hBB
                clear hA hB heq
                go_wp2_with fail
                go_quiet (fail)
                have HB5 := Lib.hid (below_drewN HBj.out nq)
                clear hcx hcy hbs
                generalize wr.drewN nq = w5 at HB5 ⊢
                go_wp2
                go_roundw
                case rel => exact ⟨j + 1, by go_num, by omega, by rw [HS2.out], HJ2, HB5.out⟩
                case measure => simp [intOf]; omega
            · have hjz : ¬ (j : Int) < k := by omega
              have hjk2 : j = k := by omega
              subst hjk2
              have HI2 : Hid (NoMeet l o (j + 1)) := fun a b hba ha he => by
                by_cases e : a = j
                · subst e
                  exact HJ.out b hba he
                · exact HI.out a b hba (by omega) he
              have HNW : Hid (news o (j + 1) = news o j + if (!(seenR o j j)) = true then 1 else 0) := rfl
              obtain ⟨s, hs⟩ : ∃ s, s = seenR o j j := ⟨_, rfl⟩
              rw [← hs] at HNW ⊢
              clear hs hA hB
              cases s with
              | true =>
                have HN2 : Hid (news o (j + 1) = news o j) := by show _ = _; rw [HNW.out]; simp
                go_wp2
                go_roundw
                case rel => exact ⟨j + 1, by go_num, by omega, by rw [HN2.out], HI2, HBj.out⟩
                case measure => simp [intOf]; omega
              | false =>
                have HN2 : Hid (news o (j + 1) = news o j + 1) := by show _ = _; rw [HNW.out]; simp
                go_wp2
                go_roundw
                case rel => exact ⟨j + 1, by go_num, by omega, by rw [HN2.out], HI2, HBj.out⟩
                case measure => simp [intOf]; omega
        · have hlz : ¬ (k : Int) < m := by omega
          have hkm : k = m := by omega
          subst hkm
          have hle := HO.out HI.out
          clear hA hB
          go_wp2
          go_ret
          exact ⟨rfl, HBk.out⟩
    · have hz : ¬ (m : Int) = n := by omega
      have hd : ((m : Int) == (n : Int)) = false := beq_eq_false_iff_ne.2 hz
      clear hA hB
      go_wp2
      go_ret
      exact ⟨rfl, HB2.out⟩
  · have c1 := Lib.hid (slotsDeep_bad A n c l w1 hA1 HN.out (by omega) he)
    clear he hA1 hA hB
    go_wp2_with fail
    refine c1.out.mono ?_
    rintro e w2 ⟨rfl, hb2⟩
    have HB2 : Hid (Below w.heap.size w w2) := HB1.out.trans (hb2.mono HB1.out.size)
    clear c1 hb2
    go_wp2
    go_ret
    exact ⟨rfl, HB2.out⟩
end Go.Proofs.Ytakcgbjgdcicgaa
