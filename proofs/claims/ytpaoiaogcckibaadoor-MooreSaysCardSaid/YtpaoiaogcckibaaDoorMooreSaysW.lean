/- The walk of MooreSays. Conditions: lengths are such that slices can have; errors.errorType holds the handle of the type error. -/
import Derived.Test.YtpaoiaogcckibaaDoorTold
import Derived.Test.YtpaoiaogcckibaaDoorInts
import Derived.Test.YtpaoiaogcckibaaDoorRefJobs
import Derived.Test.YtpaoiaogcckibaaDoorRefMoore
import Derived.Test.YtpaoiaogcckibaaDoorRefInTime
import Derived.Test.YtpaoiaogcckibaaDoorMoorePick
import Derived.Test.YtpaoiaogcckibaaDoorMooreIn
import Derived.Test.YtpaoiaogcckibaaDoorOrdEx
namespace Go.Proofs.YtpaoiaogcckibaaDoor
open Go.RowKit
set_option maxHeartbeats 4000000 in
set_option maxRecDepth 100000 in
theorem inTimeV (A : Option Addr) (n c : Nat) (A' : Option Addr) (m c' : Nat) (l : List Job) (set : List Int) (w : World) (hA : Cells w w.heap.size A (jobs l)) (hn : l.length = n) (hm : n ≤ 17592186044416)
    (hA' : Cells w w.heap.size A' (ints set)) (hn' : set.length = m) (hm' : m ≤ 17592186044416) :
    Calls Tryd.prog 60 #[.slice A n c, .slice A' m c'] w fun e w' => e = .returned (.tuple #[.bool (inV l set), errV (subErr l set)]) ∧ Below w.heap.size w w' :=
  (inTime_ A n c A' m c' l set w hA hn hm hA' hn' hm').mono fun e w' ⟨h, hb⟩ => by
    refine ⟨?_, hb⟩
    rcases h with ⟨h1, h2⟩ | ⟨h1, b, h2, h3⟩
    · rw [h2, inV_err h1, errV_bad h1]
    · rw [h3, h1, errV_zero]
      have : inV l set = b := by
        cases b with
        | true => exact inV_true h1 (h2.1 rfl)
        | false => exact inV_false fun h => by have := h2.2 h.2; cases this
      rw [this]
set_option maxHeartbeats 4000000 in
set_option maxRecDepth 100000 in
theorem mooreSaysW (A : Option Addr) (n c : Nat) (A' : Option Addr) (m c' : Nat) (l : List Job) (o : List Int) (w : World) (hA : Cells w w.heap.size A (jobs l)) (hn : l.length = n) (hm : n * 24 ≤ 140737488351232) (_ : ∀ j ∈ l, InJob j) (hA' : Cells w w.heap.size A' (ints o)) (hn' : o.length = m) (hm' : m * 8 ≤ 140737488351232) (_ : ∀ i ∈ o, -9223372036854775808 ≤ i ∧ i ≤ 9223372036854775807) (hg : ErrT w) :
    Calls Tryd.prog 10 #[.slice A n c, .slice A' m c'] w fun e w' => e = .returned (.bool true) ∧ Below w.heap.size w w' := by
  have HA := Lib.hid hA
  have HN := Lib.hid hn
  have hn8 : n ≤ 17592186044416 := by omega
  have HA' := Lib.hid hA'
  have HN' := Lib.hid hn'
  have hm8 : m ≤ 17592186044416 := by omega
  have HGT := Lib.hid hg
  have hpos := hg.pos
  have HB0 : Hid (Below w.heap.size w w) := Below.refl _ _
  clear hA hn hm hg hA' hn' hm'
  go_enter Tryd.func10, Tryd.ntmps10
  go_wp2_with fail
  refine (drawn_below (refJobs A n c l _ ((HA.out.below HB0.out (Nat.le_refl _)).more HB0.out.size) HN.out (by omega))).mono ?_
  rintro e w1 ⟨rfl, hb1⟩
  have HB1 : Hid (Below w.heap.size w w1) := HB0.out.trans (hb1.mono HB0.out.size)
  clear hb1
  by_cases hj : jobErr l = 0
  · have HJ := Lib.hid hj
    have hn16 : n ≤ 16 := by have := (jobErr_ok hj).1; have := HN.out; omega
    rw [hj]
    obtain ⟨ys, hio, hpw⟩ := due_ord l
    have HIO := Lib.hid hio
    have HPW := Lib.hid hpw
    have HION : Hid (IsOrd n ys) := by show IsOrd _ _; rw [← HN.out]; exact hio
    clear hj hio hpw
    go_wp2_with fail
    refine (refMoore A n c l ys _ ((HA.out.below HB1.out (Nat.le_refl _)).more HB1.out.size) HN.out HJ.out HION.out HPW.out).mono ?_
    rintro e w2 ⟨V, cv, q, rfl, hlen, hown, hb2⟩
    have HB2 : Hid (Below w.heap.size w w2) := HB1.out.trans (hb2.mono HB1.out.size)
    have HLEN := Lib.hid hlen
    clear hlen
    clear hb2 HB1
    have HX2 := Lib.hid (hown.own (by omega))
    clear hown
    go_wp2_with fail
    refine (pick_okF A n c l _ ((HA.out.below HB2.out (Nat.le_refl _)).more HB2.out.size) HN.out (by omega) HJ.out).mono ?_
    rintro e w3 ⟨zs, S, V2, c2, ⟨hio3, hsm⟩, hpw3, hpk, rfl, hown2, hris, hb3⟩
    have HB3 : Hid (Below w.heap.size w w3) := HB2.out.trans (hb3.mono HB2.out.size)
    have HX3 := Lib.hid (HX2.out.step hb3)
    clear HX2
    clear hb3 HB2
    obtain rfl : zs = ys := sel_unique (weak_due l).anti (IsOrd.perm_of2 hio3 HIO.out) hpw3 HPW.out
    have hS : outM (mooreS l zs) n = S := outM_is hsm hris (fun i hi => HION.out.2.1 i ((mooreS_sub l zs).subset hi))
    have hxl : S.length = q := by rw [← hS]; exact HLEN.out
    rw [hxl] at hown2 ⊢
    have HXS := Lib.hid hS
    have HXL := Lib.hid hxl
    have HZ3 := Lib.hid (hown2.own (by omega))
    clear hown2 hio3 hpw3 hpk hsm hris hS hxl
    go_wp2_with fail
    refine (error_nil _ (HGT.out.below HB3.out hpos)).mono ?_
    rintro e w4 ⟨rfl, hb4⟩
    have HB4 : Hid (Below w.heap.size w w4) := HB3.out.trans (hb4.mono HB3.out.size)
    have HX4 := Lib.hid (HX3.out.step hb4)
    clear HX3
    have HZ4 := Lib.hid (HZ3.out.step hb4)
    clear HZ3
    clear hb4 HB3
    have hq24 : q ≤ 9223372036854775807 := by have h1 := HLEN.out; have h2 := outM_le (mooreS l zs) n; omega
    go_wp2_with fail
    refine (drawn_below (ints_same _ _ q c2 q cv S S _ HZ4.out HXL.out hq24 (by rw [← HXS.out]; exact HX4.out) HXL.out)).mono ?_
    rintro e w5 ⟨rfl, hb5⟩
    have HB5 : Hid (Below w.heap.size w w5) := HB4.out.trans (hb5.mono HB4.out.size)
    have HX5 := Lib.hid (HX4.out.step hb5)
    clear HX4
    have HZ5 := Lib.hid (HZ4.out.step hb5)
    clear HZ4
    clear hb5 HB4
    rw [eqB_true rfl]
    clear HX5
    clear HZ5
    go_wp2_with fail
    refine (refInTime A n c A' m c' l o _ ((HA.out.below HB5.out (Nat.le_refl _)).more HB5.out.size) HN.out hn8 ((HA'.out.below HB5.out (Nat.le_refl _)).more HB5.out.size) HN'.out hm8).mono ?_
    rintro e w6 ⟨rfl, hb6⟩
    have HB6 : Hid (Below w.heap.size w w6) := HB5.out.trans (hb6.mono HB5.out.size)
    clear hb6 HB5
    obtain ⟨se, hse⟩ : ∃ z, z = subErr l o := ⟨_, rfl⟩
    obtain ⟨sv, hsv⟩ : ∃ z, z = inV l o := ⟨_, rfl⟩
    rw [← hse, ← hsv]
    have HSE := Lib.hid hse
    have HSV := Lib.hid hsv
    clear hse hsv
    go_wp2_with fail
    refine (inTimeV A n c A' m c' l o _ ((HA.out.below HB6.out (Nat.le_refl _)).more HB6.out.size) HN.out hn8 ((HA'.out.below HB6.out (Nat.le_refl _)).more HB6.out.size) HN'.out hm8).mono ?_
    rintro e w7 ⟨rfl, hb7⟩
    have HB7 : Hid (Below w.heap.size w w7) := HB6.out.trans (hb7.mono HB6.out.size)
    clear hb7 HB6
    rw [← HSE.out, ← HSV.out]
    go_wp2_with fail
    refine (error_same se _ (HGT.out.below HB7.out hpos)).mono ?_
    rintro e w8 ⟨rfl, hb8⟩
    have HB8 : Hid (Below w.heap.size w w8) := HB7.out.trans (hb8.mono HB7.out.size)
    clear hb8 HB7
    go_wp2
    go_ret
    exact ⟨rfl, HB8.out⟩
  · have HJN : Hid (jobErr l ≠ 0) := hj
    have hjb : ((jobErr l : Int) == 0) = false := beq_eq_false_iff_ne.2 hj
    obtain ⟨je, hje⟩ : ∃ z, z = jobErr l := ⟨_, rfl⟩
    rw [← hje] at hjb ⊢
    have HJE := Lib.hid hje
    clear hj hje
    go_wp2_with fail
    refine (pick_bad A n c l _ ((HA.out.below HB1.out (Nat.le_refl _)).more HB1.out.size) HN.out (by omega) HJN.out).mono ?_
    rintro e w2 ⟨rfl, hb2⟩
    have HB2 : Hid (Below w.heap.size w w2) := HB1.out.trans (hb2.mono HB1.out.size)
    clear hb2 HB1
    rw [← HJE.out]
    go_wp2_with fail
    refine (error_bad je (by rw [HJE.out]; exact HJN.out) _ (HGT.out.below HB2.out hpos)).mono ?_
    rintro e w3 ⟨rfl, hb3⟩
    have HB3 : Hid (Below w.heap.size w w3) := HB2.out.trans (hb3.mono HB2.out.size)
    clear hb3 HB2
    go_wp2_with fail
    refine (drawn_below (ints_same none none 0 0 0 0 [] [] _ Cells.nil rfl (by omega) Cells.nil rfl)).mono ?_
    rintro e w4 ⟨rfl, hb4⟩
    have HB4 : Hid (Below w.heap.size w w4) := HB3.out.trans (hb4.mono HB3.out.size)
    clear hb4 HB3
    rw [eqB_true rfl]
    go_wp2_with fail
    refine (refInTime A n c A' m c' l o _ ((HA.out.below HB4.out (Nat.le_refl _)).more HB4.out.size) HN.out hn8 ((HA'.out.below HB4.out (Nat.le_refl _)).more HB4.out.size) HN'.out hm8).mono ?_
    rintro e w5 ⟨rfl, hb5⟩
    have HB5 : Hid (Below w.heap.size w w5) := HB4.out.trans (hb5.mono HB4.out.size)
    clear hb5 HB4
    obtain ⟨se, hse⟩ : ∃ z, z = subErr l o := ⟨_, rfl⟩
    obtain ⟨sv, hsv⟩ : ∃ z, z = inV l o := ⟨_, rfl⟩
    rw [← hse, ← hsv]
    have HSE := Lib.hid hse
    have HSV := Lib.hid hsv
    clear hse hsv
    go_wp2_with fail
    refine (inTimeV A n c A' m c' l o _ ((HA.out.below HB5.out (Nat.le_refl _)).more HB5.out.size) HN.out hn8 ((HA'.out.below HB5.out (Nat.le_refl _)).more HB5.out.size) HN'.out hm8).mono ?_
    rintro e w6 ⟨rfl, hb6⟩
    have HB6 : Hid (Below w.heap.size w w6) := HB5.out.trans (hb6.mono HB5.out.size)
    clear hb6 HB5
    rw [← HSE.out, ← HSV.out]
    go_wp2_with fail
    refine (error_same se _ (HGT.out.below HB6.out hpos)).mono ?_
    rintro e w7 ⟨rfl, hb7⟩
    have HB7 : Hid (Below w.heap.size w w7) := HB6.out.trans (hb7.mono HB6.out.size)
    clear hb7 HB6
    go_wp2
    go_ret
    exact ⟨rfl, HB7.out⟩
end Go.Proofs.YtpaoiaogcckibaaDoor
