/- The walk of SpanSays. Conditions: lengths are such that slices can have; errors.errorType holds the handle of the type error. -/
import Derived.Test.YtpaoiaogcckibaaDoorTold
import Derived.Test.YtpaoiaogcckibaaDoorInts
import Derived.Test.YtpaoiaogcckibaaDoorRefWeight
import Derived.Test.YtpaoiaogcckibaaDoorRefForest
import Derived.Test.YtpaoiaogcckibaaDoorKruskal
import Derived.Test.YtpaoiaogcckibaaDoorBoruvka
import Derived.Test.YtpaoiaogcckibaaDoorPrim
namespace Go.Proofs.YtpaoiaogcckibaaDoor
open Go.RowKit
set_option maxHeartbeats 4000000 in
set_option maxRecDepth 100000 in
theorem forest_small (N : Nat) (l : List Edge) : (forest N l).length ≤ l.length := by
  rw [← forest_is N l]
  exact Nat.le_trans (List.length_filter_le _ _) (by simp [upto])
set_option maxHeartbeats 4000000 in
set_option maxRecDepth 100000 in
theorem spanSaysW (x : Int) (A : Option Addr) (n c : Nat) (A' : Option Addr) (m c' : Nat) (l : List Edge) (o : List Int) (w : World) (_ : -9223372036854775808 ≤ x ∧ x ≤ 9223372036854775807) (hA : Cells w w.heap.size A (edges l)) (hn : l.length = n) (hm : n * 24 ≤ 140737488351232) (_ : ∀ e ∈ l, InEdge e) (hA' : Cells w w.heap.size A' (ints o)) (hn' : o.length = m) (hm' : m * 8 ≤ 140737488351232) (_ : ∀ i ∈ o, -9223372036854775808 ≤ i ∧ i ≤ 9223372036854775807) (hg : ErrT w) :
    Calls Tryd.prog 11 #[graphV x A n c, .slice A' m c'] w fun e w' => e = .returned (.bool true) ∧ Below w.heap.size w w' := by
  have HA := Lib.hid hA
  have HN := Lib.hid hn
  have hn8 : n ≤ 9223372036854775807 := by omega
  have HA' := Lib.hid hA'
  have HN' := Lib.hid hn'
  have hm8 : m ≤ 9223372036854775806 := by omega
  have HGT := Lib.hid hg
  have hpos := hg.pos
  have HB0 : Hid (Below w.heap.size w (w.alloc (.cells #[.int .i64 x, .slice A n c] 40))) := (Below.refl _ _).alloc (Nat.le_refl _) _
  have HR0 : Hid (Row (w.alloc (.cells #[.int .i64 x, .slice A n c] 40)) w.heap.size 40 [.int .i64 x, .slice A n c]) := Row.new _ _ _
  clear hA hn hm hg hA' hn' hm'
  unfold graphV
  go_enter Tryd.func11, Tryd.ntmps11
  go_upto_region 1 with fail
  generalize w.alloc (.cells #[.int .i64 x, .slice A n c] 40) = w0 at HB0 HR0 ⊢
  have hq0 := HR0.out.cell 0
  have hq1 := HR0.out.cell 1
  have c1 := refGraph x A n c l w0 ((HA.out.below HB0.out (Nat.le_refl _)).more HB0.out.size) HN.out hn8
  unfold graphV at c1
  have C1 := Lib.hid c1
  clear c1
  go_wp2_with fail
  refine C1.out.mono ?_
  rintro e w1 ⟨rfl, hb1⟩
  have HB1 : Hid (Below w.heap.size w w1) := HB0.out.trans (hb1.mono HB0.out.size)
  have HR1 := Lib.hid (HR0.out.step hb1)
  clear HR0
  clear hq0 hq1
  have hq0 := HR1.out.cell 0
  have hq1 := HR1.out.cell 1
  clear hb1 HB0 C1
  have c2 := spanCheck x A n c l w1 ((HA.out.below HB1.out (Nat.le_refl _)).more HB1.out.size) HN.out hn8
  unfold graphV at c2
  have C2 := Lib.hid c2
  clear c2
  go_wp2_with fail
  refine C2.out.mono ?_
  rintro e w2 ⟨rfl, hb2⟩
  have HB2 : Hid (Below w.heap.size w w2) := HB1.out.trans (hb2.mono HB1.out.size)
  have HR2 := Lib.hid (HR1.out.step hb2)
  clear HR1
  clear hq0 hq1
  have hq0 := HR2.out.cell 0
  have hq1 := HR2.out.cell 1
  clear hb2 HB1 C2
  have c3 := error_same (graphErr x l) w2 (HGT.out.below HB2.out hpos)
  have C3 := Lib.hid c3
  clear c3
  go_wp2_with fail
  refine C3.out.mono ?_
  rintro e w3 ⟨rfl, hb3⟩
  have HB3 : Hid (Below w.heap.size w w3) := HB2.out.trans (hb3.mono HB2.out.size)
  have HR3 := Lib.hid (HR2.out.step hb3)
  clear HR2
  clear hq0 hq1
  have hq0 := HR3.out.cell 0
  have hq1 := HR3.out.cell 1
  clear hb3 HB2 C3
  by_cases hgr : graphErr x l = 0
  · obtain ⟨hx0, _⟩ := (graphErr_ok hgr).1
    obtain ⟨N, rfl⟩ : ∃ N : Nat, x = N := ⟨x.toNat, by omega⟩
    have HG := Lib.hid hgr
    rw [hgr]
    clear hgr hx0
    have c4 := refForest N A n c l w3 ((HA.out.below HB3.out (Nat.le_refl _)).more HB3.out.size) HN.out HG.out
    unfold graphV at c4
    have C4 := Lib.hid c4
    clear c4
    go_wp2_with fail
    refine C4.out.mono ?_
    rintro e w4 ⟨V, fm, cv, rfl, hfl, hown, hb4⟩
    have HB4 : Hid (Below w.heap.size w w4) := HB3.out.trans (hb4.mono HB3.out.size)
    have HR4 := Lib.hid (HR3.out.step hb4)
    clear HR3
    clear hq0 hq1
    have hq0 := HR4.out.cell 0
    have hq1 := HR4.out.cell 1
    clear hb4 HB3 C4
    have HFL := Lib.hid hfl
    have HX4 := Lib.hid (hown.own (by omega))
    have HFM : Hid (fm ≤ 9223372036854775807) := by have h1 := forest_small N l; have h2 := (graphErr_ok HG.out).2.1; have h3 := HFL.out; show _ ≤ _; omega
    clear hown hfl
    have c5 := kruskal_ok N A n c l w4 ((HA.out.below HB4.out (Nat.le_refl _)).more HB4.out.size) HN.out HG.out
    unfold graphV at c5
    have C5 := Lib.hid c5
    clear c5
    go_wp2_with fail
    refine C5.out.mono ?_
    rintro e w5 ⟨V0, cv0, rfl, hown, hb5⟩
    have HB5 : Hid (Below w.heap.size w w5) := HB4.out.trans (hb5.mono HB4.out.size)
    have HR5 := Lib.hid (HR4.out.step hb5)
    clear HR4
    have HX5 := Lib.hid (HX4.out.step hb5)
    clear HX4
    clear hq0 hq1
    have hq0 := HR5.out.cell 0
    have hq1 := HR5.out.cell 1
    clear hb5 HB4 C5
    have HY05 := Lib.hid (hown.own (by omega))
    clear hown
    rw [HFL.out]
    have c6 := boruvka_ok N A n c l w5 ((HA.out.below HB5.out (Nat.le_refl _)).more HB5.out.size) HN.out HG.out
    unfold graphV at c6
    have C6 := Lib.hid c6
    clear c6
    go_wp2_with fail
    refine C6.out.mono ?_
    rintro e w6 ⟨V1, cv1, rfl, hown, hb6⟩
    have HB6 : Hid (Below w.heap.size w w6) := HB5.out.trans (hb6.mono HB5.out.size)
    have HR6 := Lib.hid (HR5.out.step hb6)
    clear HR5
    have HX6 := Lib.hid (HX5.out.step hb6)
    clear HX5
    have HY06 := Lib.hid (HY05.out.step hb6)
    clear HY05
    clear hq0 hq1
    have hq0 := HR6.out.cell 0
    have hq1 := HR6.out.cell 1
    clear hb6 HB5 C6
    have HY16 := Lib.hid (hown.own (by omega))
    clear hown
    rw [HFL.out]
    have c7 := prim_ok N A n c l w6 ((HA.out.below HB6.out (Nat.le_refl _)).more HB6.out.size) HN.out HG.out
    unfold graphV at c7
    have C7 := Lib.hid c7
    clear c7
    go_wp2_with fail
    refine C7.out.mono ?_
    rintro e w7 ⟨V2, cv2, rfl, hown, hb7⟩
    have HB7 : Hid (Below w.heap.size w w7) := HB6.out.trans (hb7.mono HB6.out.size)
    have HR7 := Lib.hid (HR6.out.step hb7)
    clear HR6
    have HX7 := Lib.hid (HX6.out.step hb7)
    clear HX6
    have HY07 := Lib.hid (HY06.out.step hb7)
    clear HY06
    have HY17 := Lib.hid (HY16.out.step hb7)
    clear HY16
    clear hq0 hq1
    have hq0 := HR7.out.cell 0
    have hq1 := HR7.out.cell 1
    clear hb7 HB6 C7
    have HY27 := Lib.hid (hown.own (by omega))
    clear hown
    rw [HFL.out]
    have c8 := error_nil w7 (HGT.out.below HB7.out hpos)
    have C8 := Lib.hid c8
    clear c8
    go_wp2_with fail
    refine C8.out.mono ?_
    rintro e w8 ⟨rfl, hb8⟩
    have HB8 : Hid (Below w.heap.size w w8) := HB7.out.trans (hb8.mono HB7.out.size)
    have HR8 := Lib.hid (HR7.out.step hb8)
    clear HR7
    have HX8 := Lib.hid (HX7.out.step hb8)
    clear HX7
    have HY08 := Lib.hid (HY07.out.step hb8)
    clear HY07
    have HY18 := Lib.hid (HY17.out.step hb8)
    clear HY17
    have HY28 := Lib.hid (HY27.out.step hb8)
    clear HY27
    clear hq0 hq1
    have hq0 := HR8.out.cell 0
    have hq1 := HR8.out.cell 1
    clear hb8 HB7 C8
    have c9 := error_nil w8 (HGT.out.below HB8.out hpos)
    have C9 := Lib.hid c9
    clear c9
    go_wp2_with fail
    refine C9.out.mono ?_
    rintro e w9 ⟨rfl, hb9⟩
    have HB9 : Hid (Below w.heap.size w w9) := HB8.out.trans (hb9.mono HB8.out.size)
    have HR9 := Lib.hid (HR8.out.step hb9)
    clear HR8
    have HX9 := Lib.hid (HX8.out.step hb9)
    clear HX8
    have HY09 := Lib.hid (HY08.out.step hb9)
    clear HY08
    have HY19 := Lib.hid (HY18.out.step hb9)
    clear HY18
    have HY29 := Lib.hid (HY28.out.step hb9)
    clear HY28
    clear hq0 hq1
    have hq0 := HR9.out.cell 0
    have hq1 := HR9.out.cell 1
    clear hb9 HB8 C9
    have c10 := error_nil w9 (HGT.out.below HB9.out hpos)
    have C10 := Lib.hid c10
    clear c10
    go_wp2_with fail
    refine C10.out.mono ?_
    rintro e w10 ⟨rfl, hb10⟩
    have HB10 : Hid (Below w.heap.size w w10) := HB9.out.trans (hb10.mono HB9.out.size)
    have HR10 := Lib.hid (HR9.out.step hb10)
    clear HR9
    have HX10 := Lib.hid (HX9.out.step hb10)
    clear HX9
    have HY010 := Lib.hid (HY09.out.step hb10)
    clear HY09
    have HY110 := Lib.hid (HY19.out.step hb10)
    clear HY19
    have HY210 := Lib.hid (HY29.out.step hb10)
    clear HY29
    clear hq0 hq1
    have hq0 := HR10.out.cell 0
    have hq1 := HR10.out.cell 1
    clear hb10 HB9 C10
    have c11 := drawn_below (ints_same V0 V fm cv0 fm cv (forest N l) (forest N l) w10 HY010.out HFL.out (by have := HFM.out; omega) HX10.out HFL.out)
    have C11 := Lib.hid c11
    clear c11
    go_wp2_with fail
    refine C11.out.mono ?_
    rintro e w11 ⟨rfl, hb11⟩
    have HB11 : Hid (Below w.heap.size w w11) := HB10.out.trans (hb11.mono HB10.out.size)
    have HR11 := Lib.hid (HR10.out.step hb11)
    clear HR10
    have HX11 := Lib.hid (HX10.out.step hb11)
    clear HX10
    have HY011 := Lib.hid (HY010.out.step hb11)
    clear HY010
    have HY111 := Lib.hid (HY110.out.step hb11)
    clear HY110
    have HY211 := Lib.hid (HY210.out.step hb11)
    clear HY210
    clear hq0 hq1
    have hq0 := HR11.out.cell 0
    have hq1 := HR11.out.cell 1
    clear hb11 HB10 C11
    rw [eqB_true rfl]
    have c12 := drawn_below (ints_same V1 V fm cv1 fm cv (forest N l) (forest N l) w11 HY111.out HFL.out (by have := HFM.out; omega) HX11.out HFL.out)
    have C12 := Lib.hid c12
    clear c12
    go_wp2_with fail
    refine C12.out.mono ?_
    rintro e w12 ⟨rfl, hb12⟩
    have HB12 : Hid (Below w.heap.size w w12) := HB11.out.trans (hb12.mono HB11.out.size)
    have HR12 := Lib.hid (HR11.out.step hb12)
    clear HR11
    have HX12 := Lib.hid (HX11.out.step hb12)
    clear HX11
    have HY012 := Lib.hid (HY011.out.step hb12)
    clear HY011
    have HY112 := Lib.hid (HY111.out.step hb12)
    clear HY111
    have HY212 := Lib.hid (HY211.out.step hb12)
    clear HY211
    clear hq0 hq1
    have hq0 := HR12.out.cell 0
    have hq1 := HR12.out.cell 1
    clear hb12 HB11 C12
    rw [eqB_true rfl]
    have c13 := drawn_below (ints_same V2 V fm cv2 fm cv (forest N l) (forest N l) w12 HY212.out HFL.out (by have := HFM.out; omega) HX12.out HFL.out)
    have C13 := Lib.hid c13
    clear c13
    go_wp2_with fail
    refine C13.out.mono ?_
    rintro e w13 ⟨rfl, hb13⟩
    have HB13 : Hid (Below w.heap.size w w13) := HB12.out.trans (hb13.mono HB12.out.size)
    have HR13 := Lib.hid (HR12.out.step hb13)
    clear HR12
    have HX13 := Lib.hid (HX12.out.step hb13)
    clear HX12
    have HY013 := Lib.hid (HY012.out.step hb13)
    clear HY012
    have HY113 := Lib.hid (HY112.out.step hb13)
    clear HY112
    have HY213 := Lib.hid (HY212.out.step hb13)
    clear HY212
    clear hq0 hq1
    have hq0 := HR13.out.cell 0
    have hq1 := HR13.out.cell 1
    clear hb13 HB12 C13
    rw [eqB_true rfl]
    have c14 := refWeight N A n c l A' m c' o w13 ((HA.out.below HB13.out (Nat.le_refl _)).more HB13.out.size) HN.out hn8 ((HA'.out.below HB13.out (Nat.le_refl _)).more HB13.out.size) HN'.out hm8
    unfold graphV at c14
    have C14 := Lib.hid c14
    clear c14
    go_wp2_with fail
    refine C14.out.mono ?_
    rintro e w14 ⟨rfl, hb14⟩
    have HB14 : Hid (Below w.heap.size w w14) := HB13.out.trans (hb14.mono HB13.out.size)
    have HR14 := Lib.hid (HR13.out.step hb14)
    clear HR13
    have HX14 := Lib.hid (HX13.out.step hb14)
    clear HX13
    have HY014 := Lib.hid (HY013.out.step hb14)
    clear HY013
    have HY114 := Lib.hid (HY113.out.step hb14)
    clear HY113
    have HY214 := Lib.hid (HY213.out.step hb14)
    clear HY213
    clear hq0 hq1
    have hq0 := HR14.out.cell 0
    have hq1 := HR14.out.cell 1
    clear hb14 HB13 C14
    have c15 := weight_ N A n c l A' m c' o w14 ((HA.out.below HB14.out (Nat.le_refl _)).more HB14.out.size) HN.out hn8 ((HA'.out.below HB14.out (Nat.le_refl _)).more HB14.out.size) HN'.out hm8
    unfold graphV at c15
    have C15 := Lib.hid c15
    clear c15
    go_wp2_with fail
    refine C15.out.mono ?_
    rintro e w15 ⟨rfl, hb15⟩
    have HB15 : Hid (Below w.heap.size w w15) := HB14.out.trans (hb15.mono HB14.out.size)
    have HR15 := Lib.hid (HR14.out.step hb15)
    clear HR14
    have HX15 := Lib.hid (HX14.out.step hb15)
    clear HX14
    have HY015 := Lib.hid (HY014.out.step hb15)
    clear HY014
    have HY115 := Lib.hid (HY114.out.step hb15)
    clear HY114
    have HY215 := Lib.hid (HY214.out.step hb15)
    clear HY214
    clear hq0 hq1
    have hq0 := HR15.out.cell 0
    have hq1 := HR15.out.cell 1
    clear hb15 HB14 C15
    have c16 := error_same (weightErr N l o) w15 (HGT.out.below HB15.out hpos)
    have C16 := Lib.hid c16
    clear c16
    go_wp2_with fail
    refine C16.out.mono ?_
    rintro e w16 ⟨rfl, hb16⟩
    have HB16 : Hid (Below w.heap.size w w16) := HB15.out.trans (hb16.mono HB15.out.size)
    have HR16 := Lib.hid (HR15.out.step hb16)
    clear HR15
    have HX16 := Lib.hid (HX15.out.step hb16)
    clear HX15
    have HY016 := Lib.hid (HY015.out.step hb16)
    clear HY015
    have HY116 := Lib.hid (HY115.out.step hb16)
    clear HY115
    have HY216 := Lib.hid (HY215.out.step hb16)
    clear HY215
    clear hq0 hq1
    have hq0 := HR16.out.cell 0
    have hq1 := HR16.out.cell 1
    clear hb16 HB15 C16
    have hvv : ((weightVal N l o : Int) == weightVal N l o) = true := by simp
    go_wp2
    go_ret
    exact ⟨rfl, HB16.out⟩
  · have HG : Hid (graphErr x l ≠ 0) := hgr
    have hgb : ((graphErr x l : Int) == 0) = false := beq_eq_false_iff_ne.2 hgr
    obtain ⟨ge, hge⟩ : ∃ z, z = graphErr x l := ⟨_, rfl⟩
    rw [← hge] at hgb ⊢
    have HGE := Lib.hid hge
    clear hgr hge
    have c4 := kruskal_bad x A n c l w3 ((HA.out.below HB3.out (Nat.le_refl _)).more HB3.out.size) HN.out hn8 HG.out
    unfold graphV at c4
    have C4 := Lib.hid c4
    clear c4
    go_wp2_with fail
    refine C4.out.mono ?_
    rintro e w4 ⟨rfl, hb4⟩
    have HB4 : Hid (Below w.heap.size w w4) := HB3.out.trans (hb4.mono HB3.out.size)
    have HR4 := Lib.hid (HR3.out.step hb4)
    clear HR3
    clear hq0 hq1
    have hq0 := HR4.out.cell 0
    have hq1 := HR4.out.cell 1
    clear hb4 HB3 C4
    rw [← HGE.out]
    have c5 := boruvka_bad x A n c l w4 ((HA.out.below HB4.out (Nat.le_refl _)).more HB4.out.size) HN.out hn8 HG.out
    unfold graphV at c5
    have C5 := Lib.hid c5
    clear c5
    go_wp2_with fail
    refine C5.out.mono ?_
    rintro e w5 ⟨rfl, hb5⟩
    have HB5 : Hid (Below w.heap.size w w5) := HB4.out.trans (hb5.mono HB4.out.size)
    have HR5 := Lib.hid (HR4.out.step hb5)
    clear HR4
    clear hq0 hq1
    have hq0 := HR5.out.cell 0
    have hq1 := HR5.out.cell 1
    clear hb5 HB4 C5
    rw [← HGE.out]
    have c6 := prim_bad x A n c l w5 ((HA.out.below HB5.out (Nat.le_refl _)).more HB5.out.size) HN.out hn8 HG.out
    unfold graphV at c6
    have C6 := Lib.hid c6
    clear c6
    go_wp2_with fail
    refine C6.out.mono ?_
    rintro e w6 ⟨rfl, hb6⟩
    have HB6 : Hid (Below w.heap.size w w6) := HB5.out.trans (hb6.mono HB5.out.size)
    have HR6 := Lib.hid (HR5.out.step hb6)
    clear HR5
    clear hq0 hq1
    have hq0 := HR6.out.cell 0
    have hq1 := HR6.out.cell 1
    clear hb6 HB5 C6
    rw [← HGE.out]
    have c7 := error_bad ge (by rw [HGE.out]; exact HG.out) w6 (HGT.out.below HB6.out hpos)
    have C7 := Lib.hid c7
    clear c7
    go_wp2_with fail
    refine C7.out.mono ?_
    rintro e w7 ⟨rfl, hb7⟩
    have HB7 : Hid (Below w.heap.size w w7) := HB6.out.trans (hb7.mono HB6.out.size)
    have HR7 := Lib.hid (HR6.out.step hb7)
    clear HR6
    clear hq0 hq1
    have hq0 := HR7.out.cell 0
    have hq1 := HR7.out.cell 1
    clear hb7 HB6 C7
    have c8 := error_bad ge (by rw [HGE.out]; exact HG.out) w7 (HGT.out.below HB7.out hpos)
    have C8 := Lib.hid c8
    clear c8
    go_wp2_with fail
    refine C8.out.mono ?_
    rintro e w8 ⟨rfl, hb8⟩
    have HB8 : Hid (Below w.heap.size w w8) := HB7.out.trans (hb8.mono HB7.out.size)
    have HR8 := Lib.hid (HR7.out.step hb8)
    clear HR7
    clear hq0 hq1
    have hq0 := HR8.out.cell 0
    have hq1 := HR8.out.cell 1
    clear hb8 HB7 C8
    have c9 := error_bad ge (by rw [HGE.out]; exact HG.out) w8 (HGT.out.below HB8.out hpos)
    have C9 := Lib.hid c9
    clear c9
    go_wp2_with fail
    refine C9.out.mono ?_
    rintro e w9 ⟨rfl, hb9⟩
    have HB9 : Hid (Below w.heap.size w w9) := HB8.out.trans (hb9.mono HB8.out.size)
    have HR9 := Lib.hid (HR8.out.step hb9)
    clear HR8
    clear hq0 hq1
    have hq0 := HR9.out.cell 0
    have hq1 := HR9.out.cell 1
    clear hb9 HB8 C9
    have c10 := drawn_below (ints_same none none 0 0 0 0 [] [] w9 Cells.nil rfl (by omega) Cells.nil rfl)
    have C10 := Lib.hid c10
    clear c10
    go_wp2_with fail
    refine C10.out.mono ?_
    rintro e w10 ⟨rfl, hb10⟩
    have HB10 : Hid (Below w.heap.size w w10) := HB9.out.trans (hb10.mono HB9.out.size)
    have HR10 := Lib.hid (HR9.out.step hb10)
    clear HR9
    clear hq0 hq1
    have hq0 := HR10.out.cell 0
    have hq1 := HR10.out.cell 1
    clear hb10 HB9 C10
    rw [eqB_true rfl]
    have c11 := drawn_below (ints_same none none 0 0 0 0 [] [] w10 Cells.nil rfl (by omega) Cells.nil rfl)
    have C11 := Lib.hid c11
    clear c11
    go_wp2_with fail
    refine C11.out.mono ?_
    rintro e w11 ⟨rfl, hb11⟩
    have HB11 : Hid (Below w.heap.size w w11) := HB10.out.trans (hb11.mono HB10.out.size)
    have HR11 := Lib.hid (HR10.out.step hb11)
    clear HR10
    clear hq0 hq1
    have hq0 := HR11.out.cell 0
    have hq1 := HR11.out.cell 1
    clear hb11 HB10 C11
    rw [eqB_true rfl]
    have c12 := drawn_below (ints_same none none 0 0 0 0 [] [] w11 Cells.nil rfl (by omega) Cells.nil rfl)
    have C12 := Lib.hid c12
    clear c12
    go_wp2_with fail
    refine C12.out.mono ?_
    rintro e w12 ⟨rfl, hb12⟩
    have HB12 : Hid (Below w.heap.size w w12) := HB11.out.trans (hb12.mono HB11.out.size)
    have HR12 := Lib.hid (HR11.out.step hb12)
    clear HR11
    clear hq0 hq1
    have hq0 := HR12.out.cell 0
    have hq1 := HR12.out.cell 1
    clear hb12 HB11 C12
    rw [eqB_true rfl]
    have c13 := refWeight x A n c l A' m c' o w12 ((HA.out.below HB12.out (Nat.le_refl _)).more HB12.out.size) HN.out hn8 ((HA'.out.below HB12.out (Nat.le_refl _)).more HB12.out.size) HN'.out hm8
    unfold graphV at c13
    have C13 := Lib.hid c13
    clear c13
    go_wp2_with fail
    refine C13.out.mono ?_
    rintro e w13 ⟨rfl, hb13⟩
    have HB13 : Hid (Below w.heap.size w w13) := HB12.out.trans (hb13.mono HB12.out.size)
    have HR13 := Lib.hid (HR12.out.step hb13)
    clear HR12
    clear hq0 hq1
    have hq0 := HR13.out.cell 0
    have hq1 := HR13.out.cell 1
    clear hb13 HB12 C13
    have c14 := weight_ x A n c l A' m c' o w13 ((HA.out.below HB13.out (Nat.le_refl _)).more HB13.out.size) HN.out hn8 ((HA'.out.below HB13.out (Nat.le_refl _)).more HB13.out.size) HN'.out hm8
    unfold graphV at c14
    have C14 := Lib.hid c14
    clear c14
    go_wp2_with fail
    refine C14.out.mono ?_
    rintro e w14 ⟨rfl, hb14⟩
    have HB14 : Hid (Below w.heap.size w w14) := HB13.out.trans (hb14.mono HB13.out.size)
    have HR14 := Lib.hid (HR13.out.step hb14)
    clear HR13
    clear hq0 hq1
    have hq0 := HR14.out.cell 0
    have hq1 := HR14.out.cell 1
    clear hb14 HB13 C14
    have c15 := error_same (weightErr x l o) w14 (HGT.out.below HB14.out hpos)
    have C15 := Lib.hid c15
    clear c15
    go_wp2_with fail
    refine C15.out.mono ?_
    rintro e w15 ⟨rfl, hb15⟩
    have HB15 : Hid (Below w.heap.size w w15) := HB14.out.trans (hb15.mono HB14.out.size)
    have HR15 := Lib.hid (HR14.out.step hb15)
    clear HR14
    clear hq0 hq1
    have hq0 := HR15.out.cell 0
    have hq1 := HR15.out.cell 1
    clear hb15 HB14 C15
    have hvv : ((weightVal x l o : Int) == weightVal x l o) = true := by simp
    go_wp2
    go_ret
    exact ⟨rfl, HB15.out⟩
end Go.Proofs.YtpaoiaogcckibaaDoor
