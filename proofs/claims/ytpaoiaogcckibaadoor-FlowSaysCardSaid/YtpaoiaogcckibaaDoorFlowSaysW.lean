/- The walk of FlowSays. Conditions: lengths are such that slices can have; errors.errorType holds the handle of the type error. -/
import Derived.Test.YtpaoiaogcckibaaDoorTold
import Derived.Test.YtpaoiaogcckibaaDoorInts
import Derived.Test.YtpaoiaogcckibaaDoorRefJobs
import Derived.Test.YtpaoiaogcckibaaDoorRefJohn
import Derived.Test.YtpaoiaogcckibaaDoorRefDone
import Derived.Test.YtpaoiaogcckibaaDoorFlowP
namespace Go.Proofs.YtpaoiaogcckibaaDoor
open Go.RowKit
set_option maxHeartbeats 4000000 in
set_option maxRecDepth 100000 in
theorem flowSaysW (A : Option Addr) (n c : Nat) (A' : Option Addr) (m c' : Nat) (l : List (Int × Int)) (o : List Int) (w : World) (hA : Cells w w.heap.size A (pairs l)) (hn : l.length = n) (hm : n * 16 ≤ 140737488351232) (_ : ∀ x ∈ l, (-9223372036854775808 ≤ x.1 ∧ x.1 ≤ 9223372036854775807) ∧ (-9223372036854775808 ≤ x.2 ∧ x.2 ≤ 9223372036854775807)) (hA' : Cells w w.heap.size A' (ints o)) (hn' : o.length = m) (hm' : m * 8 ≤ 140737488351232) (_ : ∀ i ∈ o, -9223372036854775808 ≤ i ∧ i ≤ 9223372036854775807) (hg : ErrT w) :
    Calls Tryd.prog 8 #[.slice A n c, .slice A' m c'] w fun e w' => e = .returned (.bool true) ∧ Below w.heap.size w w' := by
  have HA := Lib.hid hA
  have HN := Lib.hid hn
  have hn8 : n ≤ 17592186044416 := by omega
  have HA' := Lib.hid hA'
  have HN' := Lib.hid hn'
  have hm8 : m ≤ 17592186044416 := by omega
  have HGT := Lib.hid hg
  have hpos := hg.pos
  have HB0 : Hid (Below w.heap.size w w) := Below.refl _ _
  clear hA hn hm hg hA' hn' hm'
  go_enter Tryd.func8, Tryd.ntmps8
  go_wp2_with fail
  refine (drawn_below (refPairs A n c l _ ((HA.out.below HB0.out (Nat.le_refl _)).more HB0.out.size) HN.out (by omega))).mono ?_
  rintro e w1 ⟨rfl, hb1⟩
  have HB1 : Hid (Below w.heap.size w w1) := HB0.out.trans (hb1.mono HB0.out.size)
  clear hb1
  go_wp2_with fail
  refine (flowCheck A n c l _ ((HA.out.below HB1.out (Nat.le_refl _)).more HB1.out.size) HN.out (by omega)).mono ?_
  rintro e w2 ⟨rfl, hb2⟩
  have HB2 : Hid (Below w.heap.size w w2) := HB1.out.trans (hb2.mono HB1.out.size)
  clear hb2 HB1
  go_wp2_with fail
  refine (error_same _ _ (HGT.out.below HB2.out hpos)).mono ?_
  rintro e w3 ⟨rfl, hb3⟩
  have HB3 : Hid (Below w.heap.size w w3) := HB2.out.trans (hb3.mono HB2.out.size)
  clear hb3 HB2
  by_cases hj : pairErr l = 0
  · have HJ := Lib.hid hj
    have hn16 : n ≤ 16 := by have := (pairErr_ok hj).1; have := HN.out; omega
    rw [hj]
    clear hj
    go_wp2_with fail
    refine (refJohnson A n c l _ ((HA.out.below HB3.out (Nat.le_refl _)).more HB3.out.size) HN.out HJ.out).mono ?_
    rintro e w4 ⟨V, cv, o1, rfl, hjo1, hown, hb4⟩
    have HB4 : Hid (Below w.heap.size w w4) := HB3.out.trans (hb4.mono HB3.out.size)
    have HJO1 := Lib.hid hjo1
    clear hb4 HB3
    have HX4 := Lib.hid (hown.own (by omega))
    clear hown hjo1
    go_wp2_with fail
    refine (flowOrder_ok A n c l _ ((HA.out.below HB4.out (Nat.le_refl _)).more HB4.out.size) HN.out (by omega) HJ.out).mono ?_
    rintro e w5 ⟨V2, m2, cv2, o2, rfl, rfl, hio2, hpat, hjo, hcells, hb5⟩
    have HB5 : Hid (Below w.heap.size w w5) := HB4.out.trans (hb5.mono HB4.out.size)
    have HX5 := Lib.hid (HX4.out.step hb5)
    clear HX4
    clear hb5 HB4
    clear hpat
    obtain rfl : o1 = o2 := john_same hjo HJO1.out (pairErr_ok HJ.out).2
    have HIO := Lib.hid hio2
    have HZ5 := Lib.hid (hcells)
    clear hcells hio2 hjo
    go_wp2_with fail
    refine (error_nil _ (HGT.out.below HB5.out hpos)).mono ?_
    rintro e w6 ⟨rfl, hb6⟩
    have HB6 : Hid (Below w.heap.size w w6) := HB5.out.trans (hb6.mono HB5.out.size)
    have HX6 := Lib.hid (HX5.out.step hb6)
    clear HX5
    have HZ6 := Lib.hid (HZ5.out.step hb6)
    clear HZ5
    clear hb6 HB5
    go_wp2_with fail
    refine (drawn_below (ints_same _ _ m2 cv2 o1.length cv o1 o1 _ HZ6.out HIO.out.1 (by omega) HX6.out rfl)).mono ?_
    rintro e w7 ⟨rfl, hb7⟩
    have HB7 : Hid (Below w.heap.size w w7) := HB6.out.trans (hb7.mono HB6.out.size)
    have HX7 := Lib.hid (HX6.out.step hb7)
    clear HX6
    have HZ7 := Lib.hid (HZ6.out.step hb7)
    clear HZ6
    clear hb7 HB6
    rw [eqB_true rfl]
    clear HX7
    clear HZ7
    go_wp2_with fail
    refine (drawn_below (refWhole m2 A' m c' o _ ((HA'.out.below HB7.out (Nat.le_refl _)).more HB7.out.size) HN'.out (by omega))).mono ?_
    rintro e w8 ⟨rfl, hb8⟩
    have HB8 : Hid (Below w.heap.size w w8) := HB7.out.trans (hb8.mono HB7.out.size)
    clear hb8 HB7
    by_cases hw : whole m2 o = 0
    · have HO : Hid (IsOrd l.length o) := by show IsOrd _ _; rw [HN.out]; exact (whole_iff m2 o).1 hw
      have HFE : Hid (flowErr l o = 0) := by show _ = _; unfold flowErr; rw [if_pos HJ.out, HN.out]; exact hw
      rw [hw]
      clear hw
      go_wp2_with fail
      refine (still_below (refDone A m2 c A' m c' l o _ ((HA.out.below HB8.out (Nat.le_refl _)).more HB8.out.size) HN.out ((HA'.out.below HB8.out (Nat.le_refl _)).more HB8.out.size) HN'.out HJ.out HO.out)).mono ?_
      rintro e w9 ⟨rfl, hb9⟩
      have HB9 : Hid (Below w.heap.size w w9) := HB8.out.trans (hb9.mono HB8.out.size)
      clear hb9 HB8
      go_wp2_with fail
      refine (flowDone_ok A A' m2 c m c' l o _ ((HA.out.below HB9.out (Nat.le_refl _)).more HB9.out.size) HN.out hn8 ((HA'.out.below HB9.out (Nat.le_refl _)).more HB9.out.size) HN'.out hm8 HFE.out).mono ?_
      rintro e w10 ⟨rfl, hb10⟩
      have HB10 : Hid (Below w.heap.size w w10) := HB9.out.trans (hb10.mono HB9.out.size)
      clear hb10 HB9
      go_wp2_with fail
      refine (error_nil _ (HGT.out.below HB10.out hpos)).mono ?_
      rintro e w11 ⟨rfl, hb11⟩
      have HB11 : Hid (Below w.heap.size w w11) := HB10.out.trans (hb11.mono HB10.out.size)
      clear hb11 HB10
      go_wp2
      go_ret
      exact ⟨rfl, HB11.out⟩
    · have HW : Hid (flowErr l o = whole m2 o) := by show _ = _; unfold flowErr; rw [if_pos HJ.out, HN.out]
      have HWN : Hid (whole m2 o ≠ 0) := hw
      have hwb : ((whole m2 o : Int) == 0) = false := beq_eq_false_iff_ne.2 hw
      obtain ⟨we, hwe⟩ : ∃ z, z = whole m2 o := ⟨_, rfl⟩
      rw [← hwe] at hwb ⊢
      have HWE := Lib.hid hwe
      clear hw hwe
      go_wp2_with fail
      refine (flowDone_bad A A' m2 c m c' l o _ ((HA.out.below HB8.out (Nat.le_refl _)).more HB8.out.size) HN.out hn8 ((HA'.out.below HB8.out (Nat.le_refl _)).more HB8.out.size) HN'.out hm8 (by rw [HW.out]; exact HWN.out)).mono ?_
      rintro e w9 ⟨rfl, hb9⟩
      have HB9 : Hid (Below w.heap.size w w9) := HB8.out.trans (hb9.mono HB8.out.size)
      clear hb9 HB8
      rw [HW.out, ← HWE.out]
      go_wp2_with fail
      refine (error_bad we (by rw [HWE.out]; exact HWN.out) _ (HGT.out.below HB9.out hpos)).mono ?_
      rintro e w10 ⟨rfl, hb10⟩
      have HB10 : Hid (Below w.heap.size w w10) := HB9.out.trans (hb10.mono HB9.out.size)
      clear hb10 HB9
      go_wp2
      go_ret
      exact ⟨rfl, HB10.out⟩
  · have HJN : Hid (pairErr l ≠ 0) := hj
    have HOE : Hid (flowErr l o = pairErr l) := if_neg hj
    have hjb : ((pairErr l : Int) == 0) = false := beq_eq_false_iff_ne.2 hj
    obtain ⟨je, hje⟩ : ∃ z, z = pairErr l := ⟨_, rfl⟩
    rw [← hje] at hjb ⊢
    have HJE := Lib.hid hje
    clear hj hje
    go_wp2_with fail
    refine (flowOrder_bad A n c l _ ((HA.out.below HB3.out (Nat.le_refl _)).more HB3.out.size) HN.out (by omega) HJN.out).mono ?_
    rintro e w4 ⟨rfl, hb4⟩
    have HB4 : Hid (Below w.heap.size w w4) := HB3.out.trans (hb4.mono HB3.out.size)
    clear hb4 HB3
    rw [← HJE.out]
    go_wp2_with fail
    refine (error_bad je (by rw [HJE.out]; exact HJN.out) _ (HGT.out.below HB4.out hpos)).mono ?_
    rintro e w5 ⟨rfl, hb5⟩
    have HB5 : Hid (Below w.heap.size w w5) := HB4.out.trans (hb5.mono HB4.out.size)
    clear hb5 HB4
    go_wp2_with fail
    refine (drawn_below (ints_same none none 0 0 0 0 [] [] _ Cells.nil rfl (by omega) Cells.nil rfl)).mono ?_
    rintro e w6 ⟨rfl, hb6⟩
    have HB6 : Hid (Below w.heap.size w w6) := HB5.out.trans (hb6.mono HB5.out.size)
    clear hb6 HB5
    rw [eqB_true rfl]
    go_wp2_with fail
    refine (flowDone_bad A A' n c m c' l o _ ((HA.out.below HB6.out (Nat.le_refl _)).more HB6.out.size) HN.out hn8 ((HA'.out.below HB6.out (Nat.le_refl _)).more HB6.out.size) HN'.out hm8 (by rw [HOE.out]; exact HJN.out)).mono ?_
    rintro e w7 ⟨rfl, hb7⟩
    have HB7 : Hid (Below w.heap.size w w7) := HB6.out.trans (hb7.mono HB6.out.size)
    clear hb7 HB6
    rw [HOE.out, ← HJE.out]
    go_wp2_with fail
    refine (error_bad je (by rw [HJE.out]; exact HJN.out) _ (HGT.out.below HB7.out hpos)).mono ?_
    rintro e w8 ⟨rfl, hb8⟩
    have HB8 : Hid (Below w.heap.size w w8) := HB7.out.trans (hb8.mono HB7.out.size)
    clear hb8 HB7
    go_wp2
    go_ret
    exact ⟨rfl, HB8.out⟩
end Go.Proofs.YtpaoiaogcckibaaDoor
