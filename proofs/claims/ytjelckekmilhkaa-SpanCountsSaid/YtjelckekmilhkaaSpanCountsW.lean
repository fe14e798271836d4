/- The walk of SpanCounts. Conditions: lengths are such that slices can have. -/
import Derived.Test.YtjelckekmilhkaaSpanFact
namespace Go.Proofs.Ytjelckekmilhkaa
open Go.RowKit
set_option maxHeartbeats 4000000 in
set_option maxRecDepth 100000 in
theorem spanCountsW (x : Int) (A : Option Addr) (n c : Nat) (l : List Edge) (w : World) (_ : -9223372036854775808 ≤ x ∧ x ≤ 9223372036854775807) (hA : Cells w w.heap.size A (edges l)) (hn : l.length = n) (hm : n * 24 ≤ 140737488351232) (_ : ∀ e ∈ l, InEdge e) :
    Calls Try.prog 5 #[graphV x A n c] w fun e w' => e = .returned (.bool true) ∧ Below w.heap.size w w' := by
  have HN := Lib.hid hn
  have hn8 : n ≤ 9223372036854775807 := by omega
  have HB0 : Hid (Below w.heap.size w (w.alloc (.cells #[.int .i64 x, .slice A n c] 24))) := (Below.refl _ _).alloc (Nat.le_refl _) _
  have HR0 : Hid (Row (w.alloc (.cells #[.int .i64 x, .slice A n c] 24)) w.heap.size 24 [.int .i64 x, .slice A n c]) := Row.new _ _ _
  clear hn hm
  unfold graphV
  go_enter Try.func5, Try.ntmps5
  go_wp2_with fail
  refine (spanFact _).mono ?_
  rintro e w1 ⟨rfl, hb1⟩
  have HB1 : Hid (Below w.heap.size w w1) := HB0.out.trans (hb1.mono (by simp))
  have HR1 := Lib.hid (HR0.out.step hb1)
  have hsz1 := HB1.out.size
  have hA1 := (hA.below HB1.out (Nat.le_refl _)).more hsz1
  have hq0 := HR1.out.cell 0
  have hq1 := HR1.out.cell 1
  clear hb1 HB0 HR0
  by_cases hg : graphErr x l = 0
  · obtain ⟨⟨hx0, hx1⟩, hl40, hed⟩ := graphErr_ok hg
    obtain ⟨N, rfl⟩ : ∃ N : Nat, x = N := ⟨x.toNat, by omega⟩
    have hN : N ≤ 16 := by omega
    have hn40 : n ≤ 40 := by have := HN.out; omega
    have HG := Lib.hid hg
    have c2 := kruskal_ok N A n c l w1 hA1 HN.out hg
    unfold graphV at c2
    have C2 := Lib.hid c2
    clear c2 hg hx0 hx1 hl40 hed hA1
    go_wp2_with fail
    refine C2.out.mono ?_
    rintro e w2 ⟨V2, k2, rfl, hown2, hb2⟩
    have HB2 : Hid (Below w.heap.size w w2) := HB1.out.trans (hb2.mono hsz1)
    have HR2 := Lib.hid (HR1.out.step hb2)
    obtain ⟨fl, hfl⟩ : ∃ z, z = (forest N l).length := ⟨_, rfl⟩
    rw [← hfl]
    have HFL := Lib.hid hfl
    have hsz2 := HB2.out.size
    have hq0 := HR2.out.cell 0
    have hq1 := HR2.out.cell 1
    have hAd : Cells w2.drew w2.drew.heap.size A (edges l) := (hA.below (below_drewN HB2.out 1) (Nat.le_refl _)).more hsz2
    have c3 := every_ N A n c w2.drew hn40
    unfold graphV at c3
    have C3 := Lib.hid c3
    have HAD := Lib.hid hAd
    clear hown2 hb2 C2 hsz1 HB1 HR1 hfl c3 hAd
    go_wp2
    go_region_held3 (fun W => W.cell? ⟨w.heap.size, 0, none⟩ = some (.int .i64 (N : Int)) ∧ W.cell? ⟨w.heap.size, 1, none⟩ = some (.slice A n c)) (first | go_keep | (go_split_ands; refine ⟨?_, ?_⟩ <;> assumption))
      (first | (go_at_call 17; refine C3.out.mono ?_; rintro e w3 ⟨V3, k3, rfl, hown3, hb3⟩; have HB3 := Lib.hid ((below_drewN HB2.out 1).trans (hb3.mono hsz2)); have HR3 := Lib.hid ((HR2.out.drewN 1).step hb3); have z0 := HR3.out.cell 0; have z1 := HR3.out.cell 1; have c4 := tied_ N A n c l V3 n k3 (upto n) w3 (HAD.out.step hb3) HN.out HG.out (hown3.own (by omega)) (upto_len n) (by omega) (fun i hi => (mem_upto n i).1 hi); unfold graphV at c4; have C4 := Lib.hid c4; clear c4 hown3 hb3) | (go_at_call 16; refine C4.out.mono ?_; rintro e w4 ⟨p, U, cu, S, cs, R, free, rfl, hu, hgen, _, hb4⟩; have HB4 := Lib.hid (HB3.out.trans (hb4.mono HB3.out.size)); have HR4 := Lib.hid (HR3.out.step hb4); have y0 := HR4.out.cell 0; have y1 := HR4.out.cell 1; have HU := Lib.hid hu; have HGEN := Lib.hid hgen; clear hu hgen hb4))
    have HUD : Hid (∀ q, UG (w4.drewN q) w3.heap.size p N U cu S cs R) := fun q => HU.out.keeps (Keeps.drewN (Keeps.refl [] _) q) (fun _ _ => by simp)
    have hcount := forest_count HG.out (by rw [HN.out]; exact HGEN.out) (fun x hx => HU.out.lt hx) (fun x hx => HU.out.idem hx)
    obtain ⟨rt, hrt⟩ : ∃ z, z = roots N R := ⟨_, rfl⟩
    rw [← HFL.out, ← hrt] at hcount
    have hMany : ∀ q, Calls Try.prog 18 #[.pointer (some ⟨p, 0, none⟩)] (w4.drewN q) fun e w' => e = .returned (.int .i64 (rt : Int)) ∧ w4.drewN q = w' := fun q => by rw [hrt]; exact many_ (HUD.out q)
    have HMANY := Lib.hid hMany
    have hw : IntKind.i64.wrap ((N : Int) - rt) = (N : Int) - rt := by rw [IntKind.wrap_i64]; omega
    have he : ((fl : Int) == (N : Int) - rt) = true := beq_iff_eq.2 (by omega)
    clear z0 z1 hrt hMany HUD hcount HU HGEN HR2 HR3 HB3 C3 HB2
    go_wp2
    go_quiet ((go_at_call 18; exact quiet_l (HMANY.out _)))
    go_wp2
    go_ret
    exact ⟨rfl, below_drewN HB4.out _⟩
  · have c2 := kruskal_bad x A n c l w1 hA1 HN.out hn8 hg
    unfold graphV at c2
    have C2 := Lib.hid c2
    clear c2 hg
    go_wp2_with fail
    refine C2.out.mono ?_
    rintro e w2 ⟨rfl, hb2⟩
    have HB2 : Hid (Below w.heap.size w w2) := HB1.out.trans (hb2.mono hsz1)
    clear hb2 C2
    go_wp2
    go_ret
    exact ⟨rfl, HB2.out⟩
end Go.Proofs.Ytjelckekmilhkaa
