/- The walk of SpanThree. Conditions: lengths are such that slices can have. -/
import Derived.Test.YtfbnecnhalnmeaaSpanRowsP
import Derived.Test.YtfbnecnhalnmeaaPrim
import Derived.Test.YtfbnecnhalnmeaaBoruvka
namespace Go.Proofs.Ytfbnecnhalnmeaa
open Go.RowKit
theorem forest_conn {N : Nat} {l : List Edge} (hg : graphErr N l = 0) {x y : Nat} : Conn N ((forest N l).map (eOf l)) x y ↔ Conn N ((upto l.length).map (eOf l)) x y := by
  have hE := kord_ends hg
  constructor
  · intro h
    refine h.mono fun p hp => ?_
    obtain ⟨i, hi, rfl⟩ := List.mem_map.1 hp
    have := (mem_forest.1 hi).1
    exact List.mem_map_of_mem ((mem_upto _ _).2 this)
  · intro h
    refine h.of fun a b ha hb hm => ?_
    obtain ⟨i, hi, he⟩ := List.mem_map.1 hm
    have hik : i ∈ kord l := (kord_ord l).perm.mem_iff.2 hi
    have h1 := (inF_forest N l).whole hE |>.1 i (Tied.self hE hik)
    have h2 : Tied N (eOf l) (forest N l) i := h1.mono fun j hj => by
      have h3 := List.mem_filter.1 hj
      exact mem_forest.2 ⟨(kord_ord l).2.1 j h3.1, h3.2⟩
    unfold Tied at h2
    rw [he] at h2
    simpa using h2
theorem three_groups {N : Nat} {l : List Edge} {R1 R2 : Nat → Nat} (hg : graphErr N l = 0) (h1 : Gen N ((forest N l).map (eOf l)) R1) (h2 : Gen N ((upto l.length).map (eOf l)) R2) : groupsOf R1 N = groupsOf R2 N :=
  (groups_same (n := N) (fun x y hx hy => by rw [h1.conn hx hy, h2.conn hx hy, forest_conn hg]) N (Nat.le_refl _)).1
theorem three_free {N : Nat} {l : List Edge} {R1 : Nat → Nat} (hg : graphErr N l = 0) (h1 : Gen N ((forest N l).map (eOf l)) R1) (hl : ∀ x, x < N → R1 x < N) (hi : ∀ x, x < N → R1 (R1 x) = R1 x) : roots N R1 + (forest N l).length = N := by
  obtain ⟨_, m, hm, hc⟩ := (inF_forest N l).whole (kord_ends hg)
  have p1 : Pcs N ((forest N l).map (eOf l)) (roots N R1) := ⟨R1, h1, hl, hi, rfl⟩
  have p2 : Pcs N ((upto l.length).map (eOf l)) m := hm.perm fun p => by
    simp only [List.mem_map]
    constructor
    · rintro ⟨i, hi, rfl⟩; exact ⟨i, (kord_ord l).perm.mem_iff.1 hi, rfl⟩
    · rintro ⟨i, hi, rfl⟩; exact ⟨i, (kord_ord l).perm.mem_iff.2 hi, rfl⟩
  have p3 := p1.uniq p2 fun _ _ _ _ => forest_conn hg
  unfold forest
  rw [risen_len]; omega
end Go.Proofs.Ytfbnecnhalnmeaa
namespace Go.Proofs.Ytfbnecnhalnmeaa
open Go.RowKit
set_option maxHeartbeats 8000000 in
set_option maxRecDepth 100000 in
theorem spanThreeW (x : Int) (A : Option Addr) (n c : Nat) (l : List Edge) (w : World) (_ : -9223372036854775808 ≤ x ∧ x ≤ 9223372036854775807) (hA : Cells w w.heap.size A (edges l)) (hn : l.length = n) (hm : n * 24 ≤ 140737488351232) (_ : ∀ e ∈ l, InEdge e) :
    Calls Try.prog 5 #[graphV x A n c] w fun e w' => e = .returned (.bool true) ∧ Below w.heap.size w w' := by
  have HN := Lib.hid hn
  have hn8 : n ≤ 9223372036854775807 := by omega
  have HB0 : Hid (Below w.heap.size w (w.alloc (.cells #[.int .i64 x, .slice A n c] 24))) := (Below.refl _ _).alloc (Nat.le_refl _) _
  have HR0 : Hid (Row (w.alloc (.cells #[.int .i64 x, .slice A n c] 24)) w.heap.size 24 [.int .i64 x, .slice A n c]) := Row.new _ _ _
  clear hn hm
  unfold graphV
  go_enter Try.func5, Try.ntmps5
  go_wp2_with fail
  refine (spanFact _).mono ?_
  rintro e w1 ⟨rfl, hb1⟩
  have HB1 : Hid (Below w.heap.size w w1) := HB0.out.trans (hb1.mono (by simp))
  have HR1 := Lib.hid (HR0.out.step hb1)
  have hsz1 := HB1.out.size
  have hA1 := (hA.below HB1.out (Nat.le_refl _)).more hsz1
  have hq0 := HR1.out.cell 0
  have hq1 := HR1.out.cell 1
  clear hb1 HB0 HR0
  by_cases hg : graphErr x l = 0
  · obtain ⟨⟨hx0, hx1⟩, hl40, hed⟩ := graphErr_ok hg
    obtain ⟨N, rfl⟩ : ∃ N : Nat, x = N := ⟨x.toNat, by omega⟩
    have hN : N ≤ 16 := by omega
    have hn40 : n ≤ 40 := by have := HN.out; omega
    have HG := Lib.hid hg
    have c2 := kruskal_ok N A n c l w1 hA1 HN.out hg
    unfold graphV at c2
    have C2 := Lib.hid c2
    clear c2 hg hx0 hx1 hl40 hed hA1
    go_wp2_with fail
    refine C2.out.mono ?_
    rintro e w2 ⟨V2, k2, rfl, hown2, hb2⟩
    have HB2 : Hid (Below w.heap.size w w2) := HB1.out.trans (hb2.mono hsz1)
    have HR2 := Lib.hid (HR1.out.step hb2)
    obtain ⟨fl, hfl⟩ : ∃ z, z = (forest N l).length := ⟨_, rfl⟩
    rw [← hfl] at hown2 ⊢
    have hfl40 : fl ≤ 40 := by rw [hfl]; have := forest_len (N := N) (l := l); have := HN.out; omega
    have HFL := Lib.hid hfl.symm
    have hsz2 := HB2.out.size
    have hq0 := HR2.out.cell 0
    have hq1 := HR2.out.cell 1
    have HX2 := Lib.hid (hown2.own (by omega))
    have hA2 := (hA.below HB2.out (Nat.le_refl _)).more hsz2
    have c3 := boruvka_ok N A n c l w2 hA2 HN.out HG.out
    unfold graphV at c3
    have C3 := Lib.hid c3
    clear hown2 hb2 C2 hsz1 HB1 HR1 hfl c3 hA2
    go_wp2_with fail
    refine C3.out.mono ?_
    rintro e w3 ⟨V3, k3, rfl, hown3, hb3⟩
    rw [HFL.out] at hown3 ⊢
    have HB3 : Hid (Below w.heap.size w w3) := HB2.out.trans (hb3.mono hsz2)
    have HR3 := Lib.hid (HR2.out.step hb3)
    have HX3 := Lib.hid (HX2.out.step hb3)
    have HY3 := Lib.hid (hown3.own (by omega))
    have hsz3 := HB3.out.size
    have hq0 := HR3.out.cell 0
    have hq1 := HR3.out.cell 1
    have hA3 := (hA.below HB3.out (Nat.le_refl _)).more hsz3
    have c4 := prim_ok N A n c l w3 hA3 HN.out HG.out
    unfold graphV at c4
    have C4 := Lib.hid c4
    clear hown3 hb3 C3 hsz2 HB2 HR2 HX2 c4 hA3
    go_wp2_with fail
    refine C4.out.mono ?_
    rintro e w4 ⟨V4, k4, rfl, hown4, hb4⟩
    rw [HFL.out] at hown4 ⊢
    have HB4 : Hid (Below w.heap.size w w4) := HB3.out.trans (hb4.mono hsz3)
    have HR4 := Lib.hid (HR3.out.step hb4)
    have HX4 := Lib.hid (HX3.out.step hb4)
    have HY4 := Lib.hid (HY3.out.step hb4)
    have HZ4 := Lib.hid (hown4.own (by omega))
    have hsz4 := HB4.out.size
    have hE : Hid (eqB (forest N l) (forest N l) = true) := eqB_true rfl
    have c5 := Lib.hid (ints_same V2 V3 fl k2 fl k3 (forest N l) (forest N l) w4 HX4.out HFL.out (by omega) HY4.out HFL.out)
    clear hown4 hb4 C4 hsz3 HB3 HR3 HX3 HY3 hq0 hq1
    go_wp2_with fail
    refine c5.out.mono ?_
    rintro e w5 ⟨rfl, q5, rfl⟩
    rw [hE.out]
    have c6 := Lib.hid (ints_same V3 V4 fl k3 fl k4 (forest N l) (forest N l) (w4.drewN q5) (HY4.out.keep fun _ _ => rfl) HFL.out (by omega) (HZ4.out.keep fun _ _ => rfl) HFL.out)
    clear c5
    go_wp2_with fail
    refine c6.out.mono ?_
    rintro e w6 ⟨rfl, q6, rfl⟩
    rw [hE.out, World.drewN_drewN]
    have HB6 := Lib.hid (below_drewN HB4.out (q5 + q6))
    have HR6 := Lib.hid (HR4.out.drewN (q5 + q6))
    have HX6 : Hid (Cells (w4.drewN (q5 + q6)) (w4.drewN (q5 + q6)).heap.size V2 (ints (forest N l))) := HX4.out.keep fun _ _ => rfl
    clear c6 HB4 HR4 HX4 HY4 HZ4
    generalize w4.drewN (q5 + q6) = w6 at HB6 HR6 HX6 ⊢
    have hsz6 := HB6.out.size
    have hq0 := HR6.out.cell 0
    have hq1 := HR6.out.cell 1
    have hA6 := (hA.below HB6.out (Nat.le_refl _)).more hsz6
    have c5 := tied_ N A n c l V2 fl k2 (forest N l) w6 hA6 HN.out HG.out HX6.out HFL.out (by omega) (by rw [← HN.out]; exact fun i hi => (mem_forest.1 hi).1)
    unfold graphV at c5
    have C5 := Lib.hid c5
    clear c5 hA6 hsz4
    go_wp2_with fail
    refine C5.out.mono ?_
    rintro e w5 ⟨p, U, cu, S, cs, R, fr, rfl, hu5, hgen5, hfr, hb5⟩
    have HB5 : Hid (Below w.heap.size w w5) := HB6.out.trans (hb5.mono hsz6)
    have HR5 := Lib.hid (HR6.out.step hb5)
    have HU5 := Lib.hid hu5
    have HGEN := Lib.hid hgen5
    obtain rfl : fr = true := hfr.2 (three_free HG.out hgen5 (fun x hx => hu5.lt hx) (fun x hx => hu5.idem hx))
    have hsz5 := HB5.out.size
    have hq0 := HR5.out.cell 0
    have hq1 := HR5.out.cell 1
    have hAd : Cells w5.drew w5.drew.heap.size A (edges l) := (hA.below (below_drewN HB5.out 1) (Nat.le_refl _)).more hsz5
    have c6 := every_ N A n c w5.drew hn40
    unfold graphV at c6
    have C6 := Lib.hid c6
    have HAD := Lib.hid hAd
    have HUS : Hid (∀ x ∈ ugs p U S, w.heap.size ≤ x ∧ x < w5.heap.size) := fun x hx => by have := hu5.base_le x hx; omega
    clear hu5 hgen5 hb5 C5 HB6 HR6 hsz6 c6 hAd hfr HX6
    go_upto_region 12 with fail
    go_region_held3 (fun W => W.cell? ⟨w.heap.size, 0, none⟩ = some (.int .i64 (N : Int)) ∧ W.cell? ⟨w.heap.size, 1, none⟩ = some (.slice A n c)) (first | go_keep | (go_split_ands; refine ⟨?_, ?_⟩ <;> assumption))
      (first | (go_at_call 18; refine C6.out.mono ?_; rintro e w6 ⟨V6, k6, rfl, hown6, hb6⟩; have HB6 := Lib.hid ((below_drewN HB5.out 1).trans (hb6.mono hsz5)); have HR6 := Lib.hid ((HR5.out.drewN 1).step hb6); have HU6 := Lib.hid ((HU5.out.keeps (Keeps.drew (Keeps.refl [] _)) (fun _ _ => by simp)).keeps (bs := []) (Keeps.ofBelow hb6) (fun _ _ => by simp)); have HUS6 : Hid (w5.heap.size ≤ w6.heap.size) := hb6.size; have z0 := HR6.out.cell 0; have z1 := HR6.out.cell 1; have c7 := tied_ N A n c l V6 n k6 (upto n) w6 (HAD.out.step hb6) HN.out HG.out (hown6.own (by omega)) (upto_len n) (by omega) (fun i hi => (mem_upto n i).1 hi); unfold graphV at c7; have C7 := Lib.hid c7; clear c7 hown6 hb6) | (go_at_call 17; refine C7.out.mono ?_; rintro e w7 ⟨p', U', cu', S', cs', R', fr', rfl, hu7, hgen7, _, hb7⟩; have HB7 := Lib.hid (HB6.out.trans (hb7.mono HB6.out.size)); have HU7 := Lib.hid (HU6.out.keeps (bs := []) (Keeps.ofBelow hb7) (fun _ _ => by simp)); have HV7 := Lib.hid hu7; have HGEN7 := Lib.hid hgen7; have y0 := (HR6.out.step hb7).cell 0; have y1 := (HR6.out.step hb7).cell 1; have HVB : Hid (∀ x ∈ ugs p' U' S', w5.heap.size ≤ x ∧ x < w7.heap.size) := (fun x hx => by have := hu7.base_le x hx; have := HUS6.out; omega); clear hu7 hgen7 hb7))
    have HDIS : Hid (∀ x ∈ ugs p' U' S', x ∉ ugs p U S) := fun x hx hm => by
      have h1 := (HVB.out x hx).1
      have h2 := (HUS.out x hm).2
      omega
    have HBW : Hid (∀ x ∈ ugs p' U' S', w.heap.size ≤ x) := fun x hx => by have := (HVB.out x hx).1; omega
    have c8 := Lib.hid (all_ HU7.out)
    clear z0 z1 y0 y1 HB5 HR5 HU5 HB6 HR6 HU6 HUS6 C6 HAD C7
    go_wp2_with fail
    refine c8.out.mono ?_
    rintro e w8 ⟨O, co, ss, rfl, hR8, hX8, hU8, hK8⟩
    have HV8 := Lib.hid (HV7.out.keeps hK8 HDIS.out)
    have c9 := Lib.hid (all_ HV8.out)
    have HR8 := Lib.hid hR8
    have HX8 := Lib.hid hX8
    have HB8 := Lib.hid (HB7.out.trans (hK8.below (fun x hx => (HUS.out x hx).1) HB7.out.size))
    have HS8 : Hid (∀ x ∈ ugs p' U' S', x < w7.heap.size) := fun x hx => (HVB.out x hx).2
    clear c8 hR8 hX8 hU8 hK8
    go_wp2_with fail
    refine c9.out.mono ?_
    rintro e w9 ⟨O', co', ss', rfl, hR9, hX9, hU9, hK9⟩
    have hR89 := HR8.out.keeps hK9 (fun x hx => by have := HS8.out x hx; omega)
    have HB9 := Lib.hid (HB8.out.trans (hK9.below HBW.out HB8.out.size))
    obtain ⟨hl1, hl2⟩ := groups_rows HX8.out (by omega)
    have c10 := Lib.hid (rows_same O O' ss.length co ss'.length co' ss ss' w9 hR89.reads rfl (by omega) hR9.reads rfl hl2)
    have HEQ : Hid (eqR (ss.map RV.xs) (ss'.map RV.xs) = true) := eqR_true (by
      rw [HX8.out, hX9]
      exact three_groups HG.out HGEN.out (by rw [HN.out]; exact HGEN7.out))
    clear c9 hR9 hX9 hU9 hK9 hR89 hl1 hl2 HR8 HX8 HV8
    go_wp2_with fail
    refine c10.out.mono ?_
    rintro e w10 ⟨rfl, q, rfl⟩
    rw [HEQ.out]
    go_wp2
    go_ret
    exact ⟨rfl, below_drewN HB9.out q⟩
  · have c2 := kruskal_bad x A n c l w1 hA1 HN.out hn8 hg
    unfold graphV at c2
    have C2 := Lib.hid c2
    have HG := Lib.hid hg
    clear c2 hg
    go_wp2_with fail
    refine C2.out.mono ?_
    rintro e w2 ⟨rfl, hb2⟩
    have HB2 : Hid (Below w.heap.size w w2) := HB1.out.trans (hb2.mono hsz1)
    have HR2 := Lib.hid (HR1.out.step hb2)
    have hsz2 := HB2.out.size
    have hA2 := (hA.below HB2.out (Nat.le_refl _)).more hsz2
    have hq0 := HR2.out.cell 0
    have hq1 := HR2.out.cell 1
    have c3 := boruvka_bad x A n c l w2 hA2 HN.out hn8 HG.out
    unfold graphV at c3
    have C3 := Lib.hid c3
    clear hb2 C2 hsz1 HB1 HR1 c3 hA2 hA1
    go_wp2_with fail
    refine C3.out.mono ?_
    rintro e w3 ⟨rfl, hb3⟩
    have HB3 : Hid (Below w.heap.size w w3) := HB2.out.trans (hb3.mono hsz2)
    have HR3 := Lib.hid (HR2.out.step hb3)
    have hsz3 := HB3.out.size
    have hA3 := (hA.below HB3.out (Nat.le_refl _)).more hsz3
    have hq0 := HR3.out.cell 0
    have hq1 := HR3.out.cell 1
    have c4 := prim_bad x A n c l w3 hA3 HN.out hn8 HG.out
    unfold graphV at c4
    have C4 := Lib.hid c4
    clear hb3 C3 hsz2 HB2 HR2 c4 hA3
    go_wp2_with fail
    refine C4.out.mono ?_
    rintro e w4 ⟨rfl, hb4⟩
    have HB4 : Hid (Below w.heap.size w w4) := HB3.out.trans (hb4.mono hsz3)
    clear hb4 C4 HG
    go_wp2
    go_ret
    exact ⟨rfl, HB4.out⟩
end Go.Proofs.Ytfbnecnhalnmeaa
