/- The walk of SlotsSays. Conditions: lengths are such that slices can have; errors.errorType holds the handle of the type error. -/
import Derived.Test.YtpaoiaogcckibaaDoorTold
import Derived.Test.YtpaoiaogcckibaaDoorInts
import Derived.Test.YtpaoiaogcckibaaDoorRefSpans
import Derived.Test.YtpaoiaogcckibaaDoorRefPick
import Derived.Test.YtpaoiaogcckibaaDoorRefRooms
import Derived.Test.YtpaoiaogcckibaaDoorRefDeep
import Derived.Test.YtpaoiaogcckibaaDoorSlotsPick
import Derived.Test.YtpaoiaogcckibaaDoorSlotsRoomsA
import Derived.Test.YtpaoiaogcckibaaDoorSlotsDeep
import Derived.Test.YtpaoiaogcckibaaDoorOrdEx
namespace Go.Proofs.YtpaoiaogcckibaaDoor
open Go.RowKit
set_option maxHeartbeats 4000000 in
set_option maxRecDepth 100000 in
theorem slotsSaysW (A : Option Addr) (n c : Nat) (l : List Sp) (w : World) (hA : Cells w w.heap.size A (pairs l)) (hn : l.length = n) (hm : n * 16 ≤ 140737488351232) (_ : ∀ x ∈ l, (-9223372036854775808 ≤ x.1 ∧ x.1 ≤ 9223372036854775807) ∧ (-9223372036854775808 ≤ x.2 ∧ x.2 ≤ 9223372036854775807)) (hg : ErrT w) :
    Calls Tryd.prog 9 #[.slice A n c] w fun e w' => e = .returned (.bool true) ∧ Below w.heap.size w w' := by
  have HA := Lib.hid hA
  have HN := Lib.hid hn
  have hn8 : n ≤ 17592186044416 := by omega
  have HGT := Lib.hid hg
  have hpos := hg.pos
  have HB0 : Hid (Below w.heap.size w w) := Below.refl _ _
  clear hA hn hm hg
  go_enter Tryd.func9, Tryd.ntmps9
  go_wp2_with fail
  refine (drawn_below (refSpans A n c l _ ((HA.out.below HB0.out (Nat.le_refl _)).more HB0.out.size) HN.out (by omega))).mono ?_
  rintro e w1 ⟨rfl, hb1⟩
  have HB1 : Hid (Below w.heap.size w w1) := HB0.out.trans (hb1.mono HB0.out.size)
  clear hb1
  go_wp2_with fail
  refine (slotsCheck A n c l _ ((HA.out.below HB1.out (Nat.le_refl _)).more HB1.out.size) HN.out (by omega)).mono ?_
  rintro e w2 ⟨rfl, hb2⟩
  have HB2 : Hid (Below w.heap.size w w2) := HB1.out.trans (hb2.mono HB1.out.size)
  clear hb2 HB1
  go_wp2_with fail
  refine (error_same _ _ (HGT.out.below HB2.out hpos)).mono ?_
  rintro e w3 ⟨rfl, hb3⟩
  have HB3 : Hid (Below w.heap.size w w3) := HB2.out.trans (hb3.mono HB2.out.size)
  clear hb3 HB2
  by_cases hj : spansErr l = 0
  · have HJ := Lib.hid hj
    have hn24 : n ≤ 24 := by have := (spansErr_ok hj).1; have := HN.out; omega
    rw [hj]
    obtain ⟨ys, hio, hpw⟩ := ord_ex (weak_end l) l.length
    obtain ⟨zs, hio2, hpw2⟩ := ord_ex (weak_beg l) l.length
    have HIO := Lib.hid hio
    have HPW := Lib.hid hpw
    have HIO2 := Lib.hid hio2
    have HPW2 := Lib.hid hpw2
    clear hj hio hpw hio2 hpw2
    go_wp2_with fail
    refine (refPick A n c l ys _ ((HA.out.below HB3.out (Nat.le_refl _)).more HB3.out.size) HN.out HJ.out HIO.out HPW.out).mono ?_
    rintro e w4 ⟨V, cv, m, rfl, hlen, hown, hb4⟩
    have HB4 : Hid (Below w.heap.size w w4) := HB3.out.trans (hb4.mono HB3.out.size)
    have HLEN := Lib.hid hlen
    clear hlen
    clear hb4 HB3
    have HX4 := Lib.hid (hown.own (by omega))
    clear hown
    go_wp2_with fail
    refine (refRooms A n c l zs _ ((HA.out.below HB4.out (Nat.le_refl _)).more HB4.out.size) HN.out HJ.out HIO2.out HPW2.out).mono ?_
    rintro e w5 ⟨g, o, fr, rfl, hfn, hol, hrow, _, hb5⟩
    have HB5 : Hid (Below w.heap.size w w5) := HB4.out.trans (hb5.mono HB4.out.size)
    have HX5 := Lib.hid (HX4.out.step hb5)
    clear HX4
    have HFN := Lib.hid hfn
    have HOL := Lib.hid hol
    clear hfn hol
    clear hb5 HB4
    have HY5 := Lib.hid (hrow.cells)
    clear hrow
    go_wp2_with fail
    refine (drawn_below (refDeep A n c l _ ((HA.out.below HB5.out (Nat.le_refl _)).more HB5.out.size) HN.out HJ.out)).mono ?_
    rintro e w6 ⟨rfl, hb6⟩
    have HB6 : Hid (Below w.heap.size w w6) := HB5.out.trans (hb6.mono HB5.out.size)
    have HX6 := Lib.hid (HX5.out.step hb6)
    clear HX5
    have HY6 := Lib.hid (HY5.out.step hb6)
    clear HY5
    clear hb6 HB5
    obtain ⟨dv, hdv⟩ : ∃ z, z = deepV l := ⟨_, rfl⟩
    rw [← hdv]
    have HDV := Lib.hid hdv
    clear hdv
    go_wp2_with fail
    refine (slotsPick_okF A n c l _ ((HA.out.below HB6.out (Nat.le_refl _)).more HB6.out.size) HN.out HJ.out).mono ?_
    rintro e w7 ⟨V2, c2, xs, ys2, rfl, ⟨hio3, hpw3, hxs⟩, hpk, hap, hown2, hb7⟩
    have HB7 : Hid (Below w.heap.size w w7) := HB6.out.trans (hb7.mono HB6.out.size)
    have HX7 := Lib.hid (HX6.out.step hb7)
    clear HX6
    have HY7 := Lib.hid (HY6.out.step hb7)
    clear HY6
    clear hb7 HB6
    obtain rfl : ys2 = ys := sel_unique (weak_end l).anti (IsOrd.perm_of2 hio3 HIO.out) hpw3 HPW.out
    have hxl : xs.length = m := by rw [hxs]; exact HLEN.out
    rw [hxl] at hown2 ⊢
    have HXS := Lib.hid hxs
    have HXL := Lib.hid hxl
    have HZ7 := Lib.hid (hown2.own (by omega))
    clear hown2 hio3 hpw3 hpk hap hxs hxl
    go_wp2_with fail
    refine (error_nil _ (HGT.out.below HB7.out hpos)).mono ?_
    rintro e w8 ⟨rfl, hb8⟩
    have HB8 : Hid (Below w.heap.size w w8) := HB7.out.trans (hb8.mono HB7.out.size)
    have HX8 := Lib.hid (HX7.out.step hb8)
    clear HX7
    have HY8 := Lib.hid (HY7.out.step hb8)
    clear HY7
    have HZ8 := Lib.hid (HZ7.out.step hb8)
    clear HZ7
    clear hb8 HB7
    have hm24 : m ≤ 9223372036854775807 := by have h1 := HLEN.out; have h2 := (pickL_sub l ys2 0).length_le; have h3 := HIO.out.1; have h4 := HN.out; omega
    go_wp2_with fail
    refine (drawn_below (ints_same _ _ m c2 m cv xs xs _ HZ8.out HXL.out hm24 (by rw [HXS.out]; exact HX8.out) HXL.out)).mono ?_
    rintro e w9 ⟨rfl, hb9⟩
    have HB9 : Hid (Below w.heap.size w w9) := HB8.out.trans (hb9.mono HB8.out.size)
    have HX9 := Lib.hid (HX8.out.step hb9)
    clear HX8
    have HY9 := Lib.hid (HY8.out.step hb9)
    clear HY8
    have HZ9 := Lib.hid (HZ8.out.step hb9)
    clear HZ8
    clear hb9 HB8
    rw [eqB_true rfl]
    clear HX9
    clear HZ9
    go_wp2_with fail
    refine (slotsRooms_okF A n c l _ ((HA.out.below HB9.out (Nat.le_refl _)).more HB9.out.size) HN.out HJ.out).mono ?_
    rintro e w10 ⟨g2, zs2, o2, fr2, rfl, ⟨hio4, hpw4⟩, hrt, hrow2, _, hb10⟩
    have HB10 : Hid (Below w.heap.size w w10) := HB9.out.trans (hb10.mono HB9.out.size)
    have HY10 := Lib.hid (HY9.out.step hb10)
    clear HY9
    clear hb10 HB9
    obtain rfl : zs2 = zs := sel_unique (weak_beg l).anti (IsOrd.perm_of2 (by rw [HN.out]; exact hio4) HIO2.out) hpw4 HPW2.out
    obtain rfl : o2 = o := (Prod.mk.inj (hrt.fn.symm.trans HFN.out)).1
    have HZ10 := Lib.hid (hrow2.cells)
    clear hrow2 hio4 hpw4 hrt
    go_wp2_with fail
    refine (error_nil _ (HGT.out.below HB10.out hpos)).mono ?_
    rintro e w11 ⟨rfl, hb11⟩
    have HB11 : Hid (Below w.heap.size w w11) := HB10.out.trans (hb11.mono HB10.out.size)
    have HY11 := Lib.hid (HY10.out.step hb11)
    clear HY10
    have HZ11 := Lib.hid (HZ10.out.step hb11)
    clear HZ10
    clear hb11 HB10
    go_wp2_with fail
    refine (drawn_below (ints_same _ _ n n n n o2 o2 _ HZ11.out HOL.out (by omega) HY11.out HOL.out)).mono ?_
    rintro e w12 ⟨rfl, hb12⟩
    have HB12 : Hid (Below w.heap.size w w12) := HB11.out.trans (hb12.mono HB11.out.size)
    have HY12 := Lib.hid (HY11.out.step hb12)
    clear HY11
    have HZ12 := Lib.hid (HZ11.out.step hb12)
    clear HZ11
    clear hb12 HB11
    rw [eqB_true rfl]
    clear HY12
    clear HZ12
    go_wp2_with fail
    refine (slotsDeep_ok A n c l _ ((HA.out.below HB12.out (Nat.le_refl _)).more HB12.out.size) HN.out HJ.out).mono ?_
    rintro e w13 ⟨rfl, hb13⟩
    have HB13 : Hid (Below w.heap.size w w13) := HB12.out.trans (hb13.mono HB12.out.size)
    clear hb13 HB12
    rw [← HDV.out]
    go_wp2_with fail
    refine (error_nil _ (HGT.out.below HB13.out hpos)).mono ?_
    rintro e w14 ⟨rfl, hb14⟩
    have HB14 : Hid (Below w.heap.size w w14) := HB13.out.trans (hb14.mono HB13.out.size)
    clear hb14 HB13
    go_wp2
    go_ret
    exact ⟨rfl, HB14.out⟩
  · have HJN : Hid (spansErr l ≠ 0) := hj
    have hjb : ((spansErr l : Int) == 0) = false := beq_eq_false_iff_ne.2 hj
    obtain ⟨je, hje⟩ : ∃ z, z = spansErr l := ⟨_, rfl⟩
    rw [← hje] at hjb ⊢
    have HJE := Lib.hid hje
    clear hj hje
    go_wp2_with fail
    refine (slotsPick_bad A n c l _ ((HA.out.below HB3.out (Nat.le_refl _)).more HB3.out.size) HN.out (by omega) HJN.out).mono ?_
    rintro e w4 ⟨rfl, hb4⟩
    have HB4 : Hid (Below w.heap.size w w4) := HB3.out.trans (hb4.mono HB3.out.size)
    clear hb4 HB3
    rw [← HJE.out]
    go_wp2_with fail
    refine (error_bad je (by rw [HJE.out]; exact HJN.out) _ (HGT.out.below HB4.out hpos)).mono ?_
    rintro e w5 ⟨rfl, hb5⟩
    have HB5 : Hid (Below w.heap.size w w5) := HB4.out.trans (hb5.mono HB4.out.size)
    clear hb5 HB4
    go_wp2_with fail
    refine (drawn_below (ints_same none none 0 0 0 0 [] [] _ Cells.nil rfl (by omega) Cells.nil rfl)).mono ?_
    rintro e w6 ⟨rfl, hb6⟩
    have HB6 : Hid (Below w.heap.size w w6) := HB5.out.trans (hb6.mono HB5.out.size)
    clear hb6 HB5
    rw [eqB_true rfl]
    go_wp2_with fail
    refine (slotsRooms_bad A n c l _ ((HA.out.below HB6.out (Nat.le_refl _)).more HB6.out.size) HN.out (by omega) HJN.out).mono ?_
    rintro e w7 ⟨rfl, hb7⟩
    have HB7 : Hid (Below w.heap.size w w7) := HB6.out.trans (hb7.mono HB6.out.size)
    clear hb7 HB6
    rw [← HJE.out]
    go_wp2_with fail
    refine (error_bad je (by rw [HJE.out]; exact HJN.out) _ (HGT.out.below HB7.out hpos)).mono ?_
    rintro e w8 ⟨rfl, hb8⟩
    have HB8 : Hid (Below w.heap.size w w8) := HB7.out.trans (hb8.mono HB7.out.size)
    clear hb8 HB7
    go_wp2_with fail
    refine (drawn_below (ints_same none none 0 0 0 0 [] [] _ Cells.nil rfl (by omega) Cells.nil rfl)).mono ?_
    rintro e w9 ⟨rfl, hb9⟩
    have HB9 : Hid (Below w.heap.size w w9) := HB8.out.trans (hb9.mono HB8.out.size)
    clear hb9 HB8
    rw [eqB_true rfl]
    go_wp2_with fail
    refine (slotsDeep_bad A n c l _ ((HA.out.below HB9.out (Nat.le_refl _)).more HB9.out.size) HN.out (by omega) HJN.out).mono ?_
    rintro e w10 ⟨rfl, hb10⟩
    have HB10 : Hid (Below w.heap.size w w10) := HB9.out.trans (hb10.mono HB9.out.size)
    clear hb10 HB9
    rw [← HJE.out]
    go_wp2_with fail
    refine (error_bad je (by rw [HJE.out]; exact HJN.out) _ (HGT.out.below HB10.out hpos)).mono ?_
    rintro e w11 ⟨rfl, hb11⟩
    have HB11 : Hid (Below w.heap.size w w11) := HB10.out.trans (hb11.mono HB10.out.size)
    clear hb11 HB10
    go_wp2
    go_ret
    exact ⟨rfl, HB11.out⟩
end Go.Proofs.YtpaoiaogcckibaaDoor
