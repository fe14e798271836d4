/- The walk of PathSays. Conditions: lengths are such that slices can have; errors.errorType holds the handle of the type error. -/
import Derived.Test.YtmcfhiddhifdcaaDoorPathSaysP
import Derived.Test.YtmcfhiddhifdcaaDoorTold
import Derived.Test.YtmcfhiddhifdcaaDoorInts
namespace Go.Proofs.YtmcfhiddhifdcaaDoor
open Go.RowKit
set_option maxHeartbeats 8000000 in
set_option maxRecDepth 100000 in
theorem pathSaysW (x : Int) (A : Option Addr) (n c : Nat) (s t : Int) (A' : Option Addr) (m c' : Nat) (l : List Edge) (o : List Int) (w : World) (hxr : -9223372036854775808 ≤ x ∧ x ≤ 9223372036854775807) (hA : Cells w w.heap.size A (edges l)) (hn : l.length = n) (hm : n * 24 ≤ 140737488351232) (_ : ∀ e ∈ l, InEdge e) (_ : -9223372036854775808 ≤ s ∧ s ≤ 9223372036854775807) (_ : -9223372036854775808 ≤ t ∧ t ≤ 9223372036854775807) (hA' : Cells w w.heap.size A' (ints o)) (hn' : o.length = m) (hm' : m * 8 ≤ 140737488351232) (_ : ∀ i ∈ o, -9223372036854775808 ≤ i ∧ i ≤ 9223372036854775807) (hg : ErrT w) :
    Calls Tryd.prog 3 #[graphV x A n c, .int .i64 s, .int .i64 t, .slice A' m c'] w fun e w' => e = .returned (.bool true) ∧ Below w.heap.size w w' := by
  have HA := Lib.hid hA
  have HN := Lib.hid hn
  have hn8 : n ≤ 9223372036854775806 := by omega
  have hn9 : n ≤ 9223372036854775807 := by omega
  have HA' := Lib.hid hA'
  have HN' := Lib.hid hn'
  have hm8 : m ≤ 9223372036854775806 := by omega
  have HGT := Lib.hid hg
  have hpos := hg.pos
  have HB0 : Hid (Below w.heap.size w (w.alloc (.cells #[.int .i64 x, .slice A n c] 24))) := (Below.refl _ _).alloc (Nat.le_refl _) _
  have HR0 : Hid (Row (w.alloc (.cells #[.int .i64 x, .slice A n c] 24)) w.heap.size 24 [.int .i64 x, .slice A n c]) := Row.new _ _ _
  clear hA hn hm hg hA' hn' hm'
  unfold graphV
  go_enter Tryd.func3, Tryd.ntmps3
  go_upto_region 1 with fail
  generalize w.alloc (.cells #[.int .i64 x, .slice A n c] 24) = w0 at HB0 HR0 ⊢
  have hq0 := HR0.out.cell 0
  have hq1 := HR0.out.cell 1
  have c1 := refGraph x A n c l w0 ((HA.out.below HB0.out (Nat.le_refl _)).more HB0.out.size) HN.out hn9
  unfold graphV at c1
  have C1 := Lib.hid c1
  clear c1
  go_wp2_with fail
  refine C1.out.mono ?_
  rintro e w1 ⟨rfl, hb1⟩
  have HB1 : Hid (Below w.heap.size w w1) := HB0.out.trans (hb1.mono HB0.out.size)
  have HR1 := Lib.hid (HR0.out.step hb1)
  clear HR0 hq0 hq1
  have hq0 := HR1.out.cell 0
  have hq1 := HR1.out.cell 1
  clear hb1 HB0 C1
  have HP1 := Lib.hid (path_one x l s)
  by_cases hp : pathErr x l [s] = 0
  · obtain ⟨hg, hsx⟩ := pathErr_ok hp
    have hsb := hsx s (by simp)
    obtain ⟨⟨hx0, hx1⟩, hl40, _⟩ := graphErr_ok hg
    obtain ⟨N, rfl⟩ : ∃ N : Nat, x = N := ⟨x.toNat, by omega⟩
    obtain ⟨s, rfl⟩ : ∃ k : Nat, s = k := ⟨s.toNat, by omega⟩
    have hN : N ≤ 16 := by omega
    have hsN : s < N := by omega
    have HG := Lib.hid hg
    have HP0 := Lib.hid hp
    have hs0 : ¬ (s : Int) < 0 := by omega
    have hs1 : ¬ (N : Int) ≤ s := by omega
    rw [hg]
    clear hg hp hsx hsb hx0 hx1 hl40 HP1
    have c2 := refFar N A n c l s w1 ((HA.out.below HB1.out (Nat.le_refl _)).more HB1.out.size) HN.out HG.out hsN
    unfold graphV at c2
    have C2 := Lib.hid c2
    clear c2
    go_wp2_with fail
    refine C2.out.mono ?_
    rintro e w2 ⟨V, cv, L, rfl, hv, hlb, hcl, hb2⟩
    have HB2 : Hid (Below w.heap.size w w2) := HB1.out.trans (hb2.mono HB1.out.size)
    have HR2 := Lib.hid (HR1.out.step hb2)
    have HV2 := Lib.hid hv
    have HLB := Lib.hid hlb
    have HCL := Lib.hid hcl
    clear hv hlb hcl
    clear HR1 hq0 hq1
    have hq0 := HR2.out.cell 0
    have hq1 := HR2.out.cell 1
    clear hb2 HB1 C2
    have c3 := far_ok N A n c l s w2 ((HA.out.below HB2.out (Nat.le_refl _)).more HB2.out.size) HN.out hn9 HG.out hsN
    unfold graphV at c3
    have C3 := Lib.hid c3
    clear c3
    go_wp2_with fail
    refine C3.out.mono ?_
    rintro e w3 ⟨g3, k3, outs, rfl, hol, hown, hsh, hww, hb3⟩
    have HB3 : Hid (Below w.heap.size w w3) := HB2.out.trans (hb3.mono HB2.out.size)
    have HR3 := Lib.hid (HR2.out.step hb3)
    have hfs := far_same HG.out hsN HLB.out HCL.out hol hsh hww
    rw [hfs] at hown
    have HO3 := Lib.hid (hown.own (by omega))
    have HV3 := Lib.hid (HV2.out.step hb3)
    clear hol hown hsh hww hfs HV2
    clear HR2 hq0 hq1
    have hq0 := HR3.out.cell 0
    have hq1 := HR3.out.cell 1
    clear hb3 HB2 C3
    have c4 := error_nil w3 (HGT.out.below HB3.out hpos)
    have C4 := Lib.hid c4
    clear c4
    go_wp2_with fail
    refine C4.out.mono ?_
    rintro e w4 ⟨rfl, hb4⟩
    have HB4 : Hid (Below w.heap.size w w4) := HB3.out.trans (hb4.mono HB3.out.size)
    have HR4 := Lib.hid (HR3.out.step hb4)
    have HO4 := Lib.hid (HO3.out.step hb4)
    have HV4 := Lib.hid (HV3.out.step hb4)
    clear HO3 HV3
    clear HR3 hq0 hq1
    have hq0 := HR4.out.cell 0
    have hq1 := HR4.out.cell 1
    clear hb4 HB3 C4
    have hle : ((List.range N).map (farV L)).length = N := by simp
    have HLE := Lib.hid hle
    clear hle
    have c5 := drawn_below (ints_same (some ⟨g3, 0, none⟩) V N k3 N cv _ _ w4 HO4.out HLE.out (by omega) HV4.out HLE.out)
    have C5 := Lib.hid c5
    clear c5
    go_wp2_with fail
    refine C5.out.mono ?_
    rintro e w5 ⟨rfl, hb5⟩
    have HB5 : Hid (Below w.heap.size w w5) := HB4.out.trans (hb5.mono HB4.out.size)
    have HR5 := Lib.hid (HR4.out.step hb5)
    have HQ := Lib.hid (eqB_true (rfl : ((List.range N).map (farV L)) = (List.range N).map (farV L)))
    rw [HQ.out]
    clear HR4 hq0 hq1
    have hq0 := HR5.out.cell 0
    have hq1 := HR5.out.cell 1
    clear hb5 HB4 C5
    clear HO4 HV4 HLE HQ HLB HCL
    have HP2 := Lib.hid (path_two (N : Int) l (s : Int) t)
    by_cases ht : 0 ≤ t ∧ t < N
    · obtain ⟨ht0, ht1⟩ := ht
      obtain ⟨t, rfl⟩ : ∃ k : Nat, t = k := ⟨t.toNat, by omega⟩
      have htN : t < N := by omega
      have htn0 : ¬ (t : Int) < 0 := by omega
      have htn1 : ¬ (N : Int) ≤ t := by omega
      clear ht0 ht1 HP2
      have c6 := refWay N A n c l s t w5 ((HA.out.below HB5.out (Nat.le_refl _)).more HB5.out.size) HN.out HG.out hsN htN
      unfold graphV at c6
      have C6 := Lib.hid c6
      clear c6
      go_wp2_with fail
      refine C6.out.mono ?_
      rintro e w6 ⟨V2, cv2, L2, rfl, hv, hlb, hcl, hb6⟩
      have HB6 : Hid (Below w.heap.size w w6) := HB5.out.trans (hb6.mono HB5.out.size)
      have HR6 := Lib.hid (HR5.out.step hb6)
      have HV6 := Lib.hid hv
      have HLB := Lib.hid hlb
      have HCL := Lib.hid hcl
      clear hv hlb hcl
      clear HR5 hq0 hq1
      have hq0 := HR6.out.cell 0
      have hq1 := HR6.out.cell 1
      clear hb6 HB5 C6
      have cw := (way_ok N A n c l s t w6 ((HA.out.below HB6.out (Nat.le_refl _)).more HB6.out.size) HN.out hn9 HG.out hsN htN).mono fun e w' h => way_same HG.out hsN htN HLB.out HCL.out h
      have hL16 : (L2 t).2.length ≤ 16 := Nat.le_trans (HLB.out.len htN) hN
      have HVL := Lib.hid (rfl : (L2 t).2.length = (L2 t).2.length)
      generalize hlt : (L2 t).2.length = lt at cw hL16
      generalize hns : (L2 t).2 = ns at cw HV6 hlt
      have HLT := Lib.hid hlt
      clear hlt hns HVL HLB HCL
      by_cases hz : lt = 0
      · have zz : ((lt : Int) == 0) = true := by rw [hz]; rfl
        have cw2 := cw.mono fun e w' (h : _ ∧ _) => (⟨h.1.elim (fun k => k.2) (fun k => absurd hz k.1), h.2⟩ : e = .returned (.tuple #[.slice none 0 0, .iface 53 (.int .i64 5)]) ∧ Below w6.heap.size w6 w')
        clear cw hz
        have c7 := cw2
        unfold graphV at c7
        have C7 := Lib.hid c7
        clear c7
        go_wp2_with fail
        refine C7.out.mono ?_
        rintro e w7 ⟨rfl, hb7⟩
        have HB7 : Hid (Below w.heap.size w w7) := HB6.out.trans (hb7.mono HB6.out.size)
        have HR7 := Lib.hid (HR6.out.step hb7)
        have HV7 := Lib.hid (HV6.out.step hb7)
        clear cw2 HV6
        clear HR6 hq0 hq1
        have hq0 := HR7.out.cell 0
        have hq1 := HR7.out.cell 1
        clear hb7 HB6 C7
        have c8 := error_bad 5 (by omega) w7 (HGT.out.below HB7.out hpos)
        have C8 := Lib.hid c8
        clear c8
        go_wp2_with fail
        refine C8.out.mono ?_
        rintro e w8 ⟨rfl, hb8⟩
        have HB8 : Hid (Below w.heap.size w w8) := HB7.out.trans (hb8.mono HB7.out.size)
        have HR8 := Lib.hid (HR7.out.step hb8)
        have HV8 := Lib.hid (HV7.out.step hb8)
        clear HV7
        clear HR7 hq0 hq1
        have hq0 := HR8.out.cell 0
        have hq1 := HR8.out.cell 1
        clear hb8 HB7 C8
        have hz0 : lt = 0 := by have := zz; simp at this; omega
        have hns : ns = [] := List.eq_nil_of_length_eq_zero (by rw [HLT.out, hz0])
        have HNS := Lib.hid hns
        clear hns hz0
        have c9 := drawn_below (ints_same none V2 0 0 lt cv2 [] ns w8 Cells.nil rfl (by omega) HV8.out HLT.out)
        have C9 := Lib.hid c9
        clear c9
        go_wp2_with fail
        refine C9.out.mono ?_
        rintro e w9 ⟨rfl, hb9⟩
        have HB9 : Hid (Below w.heap.size w w9) := HB8.out.trans (hb9.mono HB8.out.size)
        have HR9 := Lib.hid (HR8.out.step hb9)
        have HQ := Lib.hid (eqB_true HNS.out.symm)
        rw [HQ.out]
        clear HQ HNS HV8 HLT zz
        clear HR8 hq0 hq1
        have hq0 := HR9.out.cell 0
        have hq1 := HR9.out.cell 1
        clear hb9 HB8 C9
        have c10 := longWalk N A n c l A' m c' o w9 ((HA.out.below HB9.out (Nat.le_refl _)).more HB9.out.size) HN.out hn8 ((HA'.out.below HB9.out (Nat.le_refl _)).more HB9.out.size) HN'.out hm8 hxr
        unfold graphV at c10
        have C10 := Lib.hid c10
        clear c10
        go_wp2_with fail
        refine C10.out.mono ?_
        rintro e w10 ⟨mv, rfl, hb10⟩
        have HB10 : Hid (Below w.heap.size w w10) := HB9.out.trans (hb10.mono HB9.out.size)
        have HR10 := Lib.hid (HR9.out.step hb10)
        clear HR9 hq0 hq1
        have hq0 := HR10.out.cell 0
        have hq1 := HR10.out.cell 1
        clear hb10 HB9 C10
        have c11 := long_ N A n c l A' m c' o w10 ((HA.out.below HB10.out (Nat.le_refl _)).more HB10.out.size) HN.out hn9 ((HA'.out.below HB10.out (Nat.le_refl _)).more HB10.out.size) HN'.out hm8
        unfold graphV at c11
        have C11 := Lib.hid c11
        clear c11
        go_wp2_with fail
        refine C11.out.mono ?_
        rintro e w11 ⟨rfl, hb11⟩
        have HB11 : Hid (Below w.heap.size w w11) := HB10.out.trans (hb11.mono HB10.out.size)
        have HR11 := Lib.hid (HR10.out.step hb11)
        clear HR10 hq0 hq1
        have hq0 := HR11.out.cell 0
        have hq1 := HR11.out.cell 1
        clear hb11 HB10 C11
        have hvv : ((longVal N l o : Int) == longVal N l o) = true := by simp
        have c12 := error_same (longErr N l o) w11 (HGT.out.below HB11.out hpos)
        have C12 := Lib.hid c12
        clear c12
        go_wp2_with fail
        refine C12.out.mono ?_
        rintro e w12 ⟨rfl, hb12⟩
        have HB12 : Hid (Below w.heap.size w w12) := HB11.out.trans (hb12.mono HB11.out.size)
        have HR12 := Lib.hid (HR11.out.step hb12)
        clear HR11 hq0 hq1
        have hq0 := HR12.out.cell 0
        have hq1 := HR12.out.cell 1
        clear hb12 HB11 C12
        go_wp2
        go_ret
        exact ⟨rfl, HB12.out⟩
      · have zz : ((lt : Int) == 0) = false := beq_eq_false_iff_ne.2 (by omega)
        have cw2 := cw.mono fun e w' (h : _ ∧ _) => (⟨h.1.elim (fun k => absurd k.1 hz) (fun k => k.2), h.2⟩ : (∃ V cv, e = .returned (.tuple #[.slice V lt cv, .nilIface]) ∧ Cells w' w'.heap.size V (ints ns)) ∧ Below w6.heap.size w6 w')
        clear cw hz
        have c7 := cw2
        unfold graphV at c7
        have C7 := Lib.hid c7
        clear c7
        go_wp2_with fail
        refine C7.out.mono ?_
        rintro e w7 ⟨⟨V3, cv3, rfl, hc7⟩, hb7⟩
        have HB7 : Hid (Below w.heap.size w w7) := HB6.out.trans (hb7.mono HB6.out.size)
        have HR7 := Lib.hid (HR6.out.step hb7)
        have HV7 := Lib.hid (HV6.out.step hb7)
        have HO7 := Lib.hid hc7
        clear hc7 cw2 HV6
        clear HR6 hq0 hq1
        have hq0 := HR7.out.cell 0
        have hq1 := HR7.out.cell 1
        clear hb7 HB6 C7
        have c8 := error_nil w7 (HGT.out.below HB7.out hpos)
        have C8 := Lib.hid c8
        clear c8
        go_wp2_with fail
        refine C8.out.mono ?_
        rintro e w8 ⟨rfl, hb8⟩
        have HB8 : Hid (Below w.heap.size w w8) := HB7.out.trans (hb8.mono HB7.out.size)
        have HR8 := Lib.hid (HR7.out.step hb8)
        have HV8 := Lib.hid (HV7.out.step hb8)
        have HO8 := Lib.hid (HO7.out.step hb8)
        clear HV7 HO7
        clear HR7 hq0 hq1
        have hq0 := HR8.out.cell 0
        have hq1 := HR8.out.cell 1
        clear hb8 HB7 C8
        have c9 := drawn_below (ints_same V3 V2 lt cv3 lt cv2 ns ns w8 HO8.out HLT.out (by omega) HV8.out HLT.out)
        have C9 := Lib.hid c9
        clear c9
        go_wp2_with fail
        refine C9.out.mono ?_
        rintro e w9 ⟨rfl, hb9⟩
        have HB9 : Hid (Below w.heap.size w w9) := HB8.out.trans (hb9.mono HB8.out.size)
        have HR9 := Lib.hid (HR8.out.step hb9)
        have HQ := Lib.hid (eqB_true (rfl : ns = ns))
        rw [HQ.out]
        clear HQ HV8 HO8 HLT zz
        clear HR8 hq0 hq1
        have hq0 := HR9.out.cell 0
        have hq1 := HR9.out.cell 1
        clear hb9 HB8 C9
        have c10 := longWalk N A n c l A' m c' o w9 ((HA.out.below HB9.out (Nat.le_refl _)).more HB9.out.size) HN.out hn8 ((HA'.out.below HB9.out (Nat.le_refl _)).more HB9.out.size) HN'.out hm8 hxr
        unfold graphV at c10
        have C10 := Lib.hid c10
        clear c10
        go_wp2_with fail
        refine C10.out.mono ?_
        rintro e w10 ⟨mv, rfl, hb10⟩
        have HB10 : Hid (Below w.heap.size w w10) := HB9.out.trans (hb10.mono HB9.out.size)
        have HR10 := Lib.hid (HR9.out.step hb10)
        clear HR9 hq0 hq1
        have hq0 := HR10.out.cell 0
        have hq1 := HR10.out.cell 1
        clear hb10 HB9 C10
        have c11 := long_ N A n c l A' m c' o w10 ((HA.out.below HB10.out (Nat.le_refl _)).more HB10.out.size) HN.out hn9 ((HA'.out.below HB10.out (Nat.le_refl _)).more HB10.out.size) HN'.out hm8
        unfold graphV at c11
        have C11 := Lib.hid c11
        clear c11
        go_wp2_with fail
        refine C11.out.mono ?_
        rintro e w11 ⟨rfl, hb11⟩
        have HB11 : Hid (Below w.heap.size w w11) := HB10.out.trans (hb11.mono HB10.out.size)
        have HR11 := Lib.hid (HR10.out.step hb11)
        clear HR10 hq0 hq1
        have hq0 := HR11.out.cell 0
        have hq1 := HR11.out.cell 1
        clear hb11 HB10 C11
        have hvv : ((longVal N l o : Int) == longVal N l o) = true := by simp
        have c12 := error_same (longErr N l o) w11 (HGT.out.below HB11.out hpos)
        have C12 := Lib.hid c12
        clear c12
        go_wp2_with fail
        refine C12.out.mono ?_
        rintro e w12 ⟨rfl, hb12⟩
        have HB12 : Hid (Below w.heap.size w w12) := HB11.out.trans (hb12.mono HB11.out.size)
        have HR12 := Lib.hid (HR11.out.step hb12)
        clear HR11 hq0 hq1
        have hq0 := HR12.out.cell 0
        have hq1 := HR12.out.cell 1
        clear hb12 HB11 C12
        go_wp2
        go_ret
        exact ⟨rfl, HB12.out⟩
    · have hpe : (1 : Int) ≠ 0 := by omega
      have HPE : Hid (pathErr (N : Int) l [(s : Int), t] = 1) := by show _ = _; rw [HP2.out, if_pos ⟨HP0.out, by omega⟩]
      have HNZ : Hid (pathErr (N : Int) l [(s : Int), t] ≠ 0) := by show _ ≠ _; rw [HPE.out]; omega
      have hor : t < 0 ∨ (¬ t < 0 ∧ (N : Int) ≤ t) := by omega
      clear ht HP2
      rcases hor with ht | ⟨ht, ht2⟩
      · have c6 := way_bad N A n c l _ _ w5 ((HA.out.below HB5.out (Nat.le_refl _)).more HB5.out.size) HN.out hn9 HNZ.out
        unfold graphV at c6
        have C6 := Lib.hid c6
        clear c6
        go_wp2_with fail
        refine C6.out.mono ?_
        rintro e w6 ⟨rfl, hb6⟩
        have HB6 : Hid (Below w.heap.size w w6) := HB5.out.trans (hb6.mono HB5.out.size)
        have HR6 := Lib.hid (HR5.out.step hb6)
        rw [HPE.out]
        clear HR5 hq0 hq1
        have hq0 := HR6.out.cell 0
        have hq1 := HR6.out.cell 1
        clear hb6 HB5 C6
        have c7 := error_bad 1 hpe w6 (HGT.out.below HB6.out hpos)
        have C7 := Lib.hid c7
        clear c7
        go_wp2_with fail
        refine C7.out.mono ?_
        rintro e w7 ⟨rfl, hb7⟩
        have HB7 : Hid (Below w.heap.size w w7) := HB6.out.trans (hb7.mono HB6.out.size)
        have HR7 := Lib.hid (HR6.out.step hb7)
        clear HR6 hq0 hq1
        have hq0 := HR7.out.cell 0
        have hq1 := HR7.out.cell 1
        clear hb7 HB6 C7
        have c8 := drawn_below (ints_same none none 0 0 0 0 [] [] w7 Cells.nil rfl (by omega) Cells.nil rfl)
        have C8 := Lib.hid c8
        clear c8
        go_wp2_with fail
        refine C8.out.mono ?_
        rintro e w8 ⟨rfl, hb8⟩
        have HB8 : Hid (Below w.heap.size w w8) := HB7.out.trans (hb8.mono HB7.out.size)
        have HR8 := Lib.hid (HR7.out.step hb8)
        have HQ := Lib.hid (eqB_true (rfl : ([] : List Int) = []))
        rw [HQ.out]
        clear HQ HPE HNZ hpe
        clear HR7 hq0 hq1
        have hq0 := HR8.out.cell 0
        have hq1 := HR8.out.cell 1
        clear hb8 HB7 C8
        have c9 := longWalk N A n c l A' m c' o w8 ((HA.out.below HB8.out (Nat.le_refl _)).more HB8.out.size) HN.out hn8 ((HA'.out.below HB8.out (Nat.le_refl _)).more HB8.out.size) HN'.out hm8 hxr
        unfold graphV at c9
        have C9 := Lib.hid c9
        clear c9
        go_wp2_with fail
        refine C9.out.mono ?_
        rintro e w9 ⟨mv, rfl, hb9⟩
        have HB9 : Hid (Below w.heap.size w w9) := HB8.out.trans (hb9.mono HB8.out.size)
        have HR9 := Lib.hid (HR8.out.step hb9)
        clear HR8 hq0 hq1
        have hq0 := HR9.out.cell 0
        have hq1 := HR9.out.cell 1
        clear hb9 HB8 C9
        have c10 := long_ N A n c l A' m c' o w9 ((HA.out.below HB9.out (Nat.le_refl _)).more HB9.out.size) HN.out hn9 ((HA'.out.below HB9.out (Nat.le_refl _)).more HB9.out.size) HN'.out hm8
        unfold graphV at c10
        have C10 := Lib.hid c10
        clear c10
        go_wp2_with fail
        refine C10.out.mono ?_
        rintro e w10 ⟨rfl, hb10⟩
        have HB10 : Hid (Below w.heap.size w w10) := HB9.out.trans (hb10.mono HB9.out.size)
        have HR10 := Lib.hid (HR9.out.step hb10)
        clear HR9 hq0 hq1
        have hq0 := HR10.out.cell 0
        have hq1 := HR10.out.cell 1
        clear hb10 HB9 C10
        have hvv : ((longVal N l o : Int) == longVal N l o) = true := by simp
        have c11 := error_same (longErr N l o) w10 (HGT.out.below HB10.out hpos)
        have C11 := Lib.hid c11
        clear c11
        go_wp2_with fail
        refine C11.out.mono ?_
        rintro e w11 ⟨rfl, hb11⟩
        have HB11 : Hid (Below w.heap.size w w11) := HB10.out.trans (hb11.mono HB10.out.size)
        have HR11 := Lib.hid (HR10.out.step hb11)
        clear HR10 hq0 hq1
        have hq0 := HR11.out.cell 0
        have hq1 := HR11.out.cell 1
        clear hb11 HB10 C11
        go_wp2
        go_ret
        exact ⟨rfl, HB11.out⟩
      · have c6 := way_bad N A n c l _ _ w5 ((HA.out.below HB5.out (Nat.le_refl _)).more HB5.out.size) HN.out hn9 HNZ.out
        unfold graphV at c6
        have C6 := Lib.hid c6
        clear c6
        go_wp2_with fail
        refine C6.out.mono ?_
        rintro e w6 ⟨rfl, hb6⟩
        have HB6 : Hid (Below w.heap.size w w6) := HB5.out.trans (hb6.mono HB5.out.size)
        have HR6 := Lib.hid (HR5.out.step hb6)
        rw [HPE.out]
        clear HR5 hq0 hq1
        have hq0 := HR6.out.cell 0
        have hq1 := HR6.out.cell 1
        clear hb6 HB5 C6
        have c7 := error_bad 1 hpe w6 (HGT.out.below HB6.out hpos)
        have C7 := Lib.hid c7
        clear c7
        go_wp2_with fail
        refine C7.out.mono ?_
        rintro e w7 ⟨rfl, hb7⟩
        have HB7 : Hid (Below w.heap.size w w7) := HB6.out.trans (hb7.mono HB6.out.size)
        have HR7 := Lib.hid (HR6.out.step hb7)
        clear HR6 hq0 hq1
        have hq0 := HR7.out.cell 0
        have hq1 := HR7.out.cell 1
        clear hb7 HB6 C7
        have c8 := drawn_below (ints_same none none 0 0 0 0 [] [] w7 Cells.nil rfl (by omega) Cells.nil rfl)
        have C8 := Lib.hid c8
        clear c8
        go_wp2_with fail
        refine C8.out.mono ?_
        rintro e w8 ⟨rfl, hb8⟩
        have HB8 : Hid (Below w.heap.size w w8) := HB7.out.trans (hb8.mono HB7.out.size)
        have HR8 := Lib.hid (HR7.out.step hb8)
        have HQ := Lib.hid (eqB_true (rfl : ([] : List Int) = []))
        rw [HQ.out]
        clear HQ HPE HNZ hpe
        clear HR7 hq0 hq1
        have hq0 := HR8.out.cell 0
        have hq1 := HR8.out.cell 1
        clear hb8 HB7 C8
        have c9 := longWalk N A n c l A' m c' o w8 ((HA.out.below HB8.out (Nat.le_refl _)).more HB8.out.size) HN.out hn8 ((HA'.out.below HB8.out (Nat.le_refl _)).more HB8.out.size) HN'.out hm8 hxr
        unfold graphV at c9
        have C9 := Lib.hid c9
        clear c9
        go_wp2_with fail
        refine C9.out.mono ?_
        rintro e w9 ⟨mv, rfl, hb9⟩
        have HB9 : Hid (Below w.heap.size w w9) := HB8.out.trans (hb9.mono HB8.out.size)
        have HR9 := Lib.hid (HR8.out.step hb9)
        clear HR8 hq0 hq1
        have hq0 := HR9.out.cell 0
        have hq1 := HR9.out.cell 1
        clear hb9 HB8 C9
        have c10 := long_ N A n c l A' m c' o w9 ((HA.out.below HB9.out (Nat.le_refl _)).more HB9.out.size) HN.out hn9 ((HA'.out.below HB9.out (Nat.le_refl _)).more HB9.out.size) HN'.out hm8
        unfold graphV at c10
        have C10 := Lib.hid c10
        clear c10
        go_wp2_with fail
        refine C10.out.mono ?_
        rintro e w10 ⟨rfl, hb10⟩
        have HB10 : Hid (Below w.heap.size w w10) := HB9.out.trans (hb10.mono HB9.out.size)
        have HR10 := Lib.hid (HR9.out.step hb10)
        clear HR9 hq0 hq1
        have hq0 := HR10.out.cell 0
        have hq1 := HR10.out.cell 1
        clear hb10 HB9 C10
        have hvv : ((longVal N l o : Int) == longVal N l o) = true := by simp
        have c11 := error_same (longErr N l o) w10 (HGT.out.below HB10.out hpos)
        have C11 := Lib.hid c11
        clear c11
        go_wp2_with fail
        refine C11.out.mono ?_
        rintro e w11 ⟨rfl, hb11⟩
        have HB11 : Hid (Below w.heap.size w w11) := HB10.out.trans (hb11.mono HB10.out.size)
        have HR11 := Lib.hid (HR10.out.step hb11)
        clear HR10 hq0 hq1
        have hq0 := HR11.out.cell 0
        have hq1 := HR11.out.cell 1
        clear hb11 HB10 C11
        go_wp2
        go_ret
        exact ⟨rfl, HB11.out⟩
  · have HNP := Lib.hid hp
    have HNZ : Hid (pathErr x l [s, t] = pathErr x l [s]) := by show _ = _; rw [path_two, if_neg (fun h => hp h.1)]
    obtain ⟨pe, hpe0⟩ : ∃ z, z = pathErr x l [s] := ⟨_, rfl⟩
    have hpe : pe ≠ 0 := by rw [hpe0]; exact hp
    have HPE0 := Lib.hid hpe0
    have zpe : (pe == 0) = false := beq_eq_false_iff_ne.2 hpe
    clear hpe0 hp
    obtain ⟨ge, hge⟩ : ∃ z, z = graphErr x l := ⟨_, rfl⟩
    rw [← hge]
    have HGE := Lib.hid hge
    clear hge
    have hcase : (ge = 0 ∧ pe = 1 ∧ (s < 0 ∨ (¬ s < 0 ∧ x ≤ s))) ∨ (ge ≠ 0 ∧ pe = ge) := by
      have h1 := HP1.out
      rw [← HPE0.out, ← HGE.out] at h1
      by_cases h2 : ge = 0 ∧ (s < 0 ∨ x ≤ s)
      · rw [if_pos h2] at h1; left; exact ⟨h2.1, h1, by omega⟩
      · rw [if_neg h2] at h1; right; exact ⟨fun h => hpe (by rw [h1, h]), h1⟩
    have HCASE := Lib.hid hcase
    clear hcase HP1 HGE
    go_upto_region 2 with fail
    obtain ⟨tb, htb⟩ : ∃ z : Bool, z = decide (ge = 0) := ⟨_, rfl⟩
    have HTB := Lib.hid htb
    clear htb
    go_cut [31] from 20 to 31 (fun z wx => z = .bool tb ∧ wx = w1)
    case first =>
      rcases HCASE.out with ⟨h1, h2, h3 | ⟨h3, h4⟩⟩ | ⟨h1, h2⟩
      · have HV : Hid (tb = true) := HTB.out.trans (decide_eq_true h1)
        subst h1
        clear h2
        go_wp2
        go_meet
        exact ⟨by rw [HV.out], rfl⟩
      · have HV : Hid (tb = true) := HTB.out.trans (decide_eq_true h1)
        subst h1
        clear h2
        go_wp2
        go_meet
        exact ⟨by rw [HV.out], rfl⟩
      · have HV : Hid (tb = false) := HTB.out.trans (decide_eq_false h1)
        have zg : (ge == 0) = false := beq_eq_false_iff_ne.2 h1
        clear h1 h2
        go_wp2
        go_meet
        exact ⟨by rw [HV.out], rfl⟩
    case rest =>
    obtain ⟨rfl, hwc⟩ := hcut
    replace hwc := hwc.symm
    subst hwc
    go_upto_if 31 with fail
    go_cut [9] (fun v wx => v = .int .i64 pe ∧ wx = w1)
    case first =>
      cases tb with
      | true =>
        have HV : Hid (pe = 1) := by
          rcases HCASE.out with ⟨h1, h2, _⟩ | ⟨h1, _⟩
          · exact h2
          · exact absurd (of_decide_eq_true HTB.out.symm) h1
        go_wp2
        go_meet
        exact ⟨by rw [HV.out], rfl⟩
      | false =>
        have HV : Hid (pe = ge) := by
          rcases HCASE.out with ⟨h1, _⟩ | ⟨_, h2⟩
          · exact absurd h1 (of_decide_eq_false HTB.out.symm)
          · exact h2
        go_wp2
        go_meet
        exact ⟨by rw [HV.out], rfl⟩
    case rest =>
    obtain ⟨rfl, hwc⟩ := hcut
    replace hwc := hwc.symm
    subst hwc
    clear HTB HCASE
    have HPE : Hid (pathErr x l [s, t] = pe) := HNZ.out.trans HPE0.out.symm
    have HPF : Hid (pathErr x l [s] = pe) := HPE0.out.symm
    clear HNZ HPE0
    have HNZ : Hid (pathErr x l [s, t] ≠ 0) := by show _ ≠ _; rw [HPE.out]; exact hpe
    have c2 := far_bad x A n c l s w1 ((HA.out.below HB1.out (Nat.le_refl _)).more HB1.out.size) HN.out hn9 HNP.out
    unfold graphV at c2
    have C2 := Lib.hid c2
    clear c2
    go_wp2_with fail
    refine C2.out.mono ?_
    rintro e w2 ⟨rfl, hb2⟩
    have HB2 : Hid (Below w.heap.size w w2) := HB1.out.trans (hb2.mono HB1.out.size)
    have HR2 := Lib.hid (HR1.out.step hb2)
    rw [HPF.out]
    clear HR1 hq0 hq1
    have hq0 := HR2.out.cell 0
    have hq1 := HR2.out.cell 1
    clear hb2 HB1 C2
    have c3 := error_bad pe hpe w2 (HGT.out.below HB2.out hpos)
    have C3 := Lib.hid c3
    clear c3
    go_wp2_with fail
    refine C3.out.mono ?_
    rintro e w3 ⟨rfl, hb3⟩
    have HB3 : Hid (Below w.heap.size w w3) := HB2.out.trans (hb3.mono HB2.out.size)
    have HR3 := Lib.hid (HR2.out.step hb3)
    clear HR2 hq0 hq1
    have hq0 := HR3.out.cell 0
    have hq1 := HR3.out.cell 1
    clear hb3 HB2 C3
    have c4 := drawn_below (ints_same none none 0 0 0 0 [] [] w3 Cells.nil rfl (by omega) Cells.nil rfl)
    have C4 := Lib.hid c4
    clear c4
    go_wp2_with fail
    refine C4.out.mono ?_
    rintro e w4 ⟨rfl, hb4⟩
    have HB4 : Hid (Below w.heap.size w w4) := HB3.out.trans (hb4.mono HB3.out.size)
    have HR4 := Lib.hid (HR3.out.step hb4)
    have HQ := Lib.hid (eqB_true (rfl : ([] : List Int) = []))
    rw [HQ.out]
    clear HQ HPF HNP
    clear HR3 hq0 hq1
    have hq0 := HR4.out.cell 0
    have hq1 := HR4.out.cell 1
    clear hb4 HB3 C4
    have c5 := way_bad x A n c l _ _ w4 ((HA.out.below HB4.out (Nat.le_refl _)).more HB4.out.size) HN.out hn9 HNZ.out
    unfold graphV at c5
    have C5 := Lib.hid c5
    clear c5
    go_wp2_with fail
    refine C5.out.mono ?_
    rintro e w5 ⟨rfl, hb5⟩
    have HB5 : Hid (Below w.heap.size w w5) := HB4.out.trans (hb5.mono HB4.out.size)
    have HR5 := Lib.hid (HR4.out.step hb5)
    rw [HPE.out]
    clear HR4 hq0 hq1
    have hq0 := HR5.out.cell 0
    have hq1 := HR5.out.cell 1
    clear hb5 HB4 C5
    have c6 := error_bad pe hpe w5 (HGT.out.below HB5.out hpos)
    have C6 := Lib.hid c6
    clear c6
    go_wp2_with fail
    refine C6.out.mono ?_
    rintro e w6 ⟨rfl, hb6⟩
    have HB6 : Hid (Below w.heap.size w w6) := HB5.out.trans (hb6.mono HB5.out.size)
    have HR6 := Lib.hid (HR5.out.step hb6)
    clear HR5 hq0 hq1
    have hq0 := HR6.out.cell 0
    have hq1 := HR6.out.cell 1
    clear hb6 HB5 C6
    have c7 := drawn_below (ints_same none none 0 0 0 0 [] [] w6 Cells.nil rfl (by omega) Cells.nil rfl)
    have C7 := Lib.hid c7
    clear c7
    go_wp2_with fail
    refine C7.out.mono ?_
    rintro e w7 ⟨rfl, hb7⟩
    have HB7 : Hid (Below w.heap.size w w7) := HB6.out.trans (hb7.mono HB6.out.size)
    have HR7 := Lib.hid (HR6.out.step hb7)
    have HQ := Lib.hid (eqB_true (rfl : ([] : List Int) = []))
    rw [HQ.out]
    clear HQ HPE HNZ hpe
    clear HR6 hq0 hq1
    have hq0 := HR7.out.cell 0
    have hq1 := HR7.out.cell 1
    clear hb7 HB6 C7
    have c8 := longWalk x A n c l A' m c' o w7 ((HA.out.below HB7.out (Nat.le_refl _)).more HB7.out.size) HN.out hn8 ((HA'.out.below HB7.out (Nat.le_refl _)).more HB7.out.size) HN'.out hm8 hxr
    unfold graphV at c8
    have C8 := Lib.hid c8
    clear c8
    go_wp2_with fail
    refine C8.out.mono ?_
    rintro e w8 ⟨mv, rfl, hb8⟩
    have HB8 : Hid (Below w.heap.size w w8) := HB7.out.trans (hb8.mono HB7.out.size)
    have HR8 := Lib.hid (HR7.out.step hb8)
    clear HR7 hq0 hq1
    have hq0 := HR8.out.cell 0
    have hq1 := HR8.out.cell 1
    clear hb8 HB7 C8
    have c9 := long_ x A n c l A' m c' o w8 ((HA.out.below HB8.out (Nat.le_refl _)).more HB8.out.size) HN.out hn9 ((HA'.out.below HB8.out (Nat.le_refl _)).more HB8.out.size) HN'.out hm8
    unfold graphV at c9
    have C9 := Lib.hid c9
    clear c9
    go_wp2_with fail
    refine C9.out.mono ?_
    rintro e w9 ⟨rfl, hb9⟩
    have HB9 : Hid (Below w.heap.size w w9) := HB8.out.trans (hb9.mono HB8.out.size)
    have HR9 := Lib.hid (HR8.out.step hb9)
    clear HR8 hq0 hq1
    have hq0 := HR9.out.cell 0
    have hq1 := HR9.out.cell 1
    clear hb9 HB8 C9
    have hvv : ((longVal x l o : Int) == longVal x l o) = true := by simp
    have c10 := error_same (longErr x l o) w9 (HGT.out.below HB9.out hpos)
    have C10 := Lib.hid c10
    clear c10
    go_wp2_with fail
    refine C10.out.mono ?_
    rintro e w10 ⟨rfl, hb10⟩
    have HB10 : Hid (Below w.heap.size w w10) := HB9.out.trans (hb10.mono HB9.out.size)
    have HR10 := Lib.hid (HR9.out.step hb10)
    clear HR9 hq0 hq1
    have hq0 := HR10.out.cell 0
    have hq1 := HR10.out.cell 1
    clear hb10 HB9 C10
    go_wp2
    go_ret
    exact ⟨rfl, HB10.out⟩
end Go.Proofs.YtmcfhiddhifdcaaDoor
