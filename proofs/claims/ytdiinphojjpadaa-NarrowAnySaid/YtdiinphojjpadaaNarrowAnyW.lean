/- The walk of NarrowAny. Conditions: lengths are such that slices can have. -/
import Derived.Test.YtdiinphojjpadaaNarrowFact
import Derived.Test.YtdiinphojjpadaaMost
namespace Go.Proofs.Ytdiinphojjpadaa
open Go.RowKit
set_option maxHeartbeats 8000000 in
set_option maxRecDepth 100000 in
theorem narrowAnyW (x : Int) (A : Option Addr) (n c : Nat) (A' : Option Addr) (m c' : Nat) (l : List Edge) (o : List Int) (w : World) (_ : -9223372036854775808 ≤ x ∧ x ≤ 9223372036854775807) (hA : Cells w w.heap.size A (edges l)) (hn : l.length = n) (hm : n * 24 ≤ 140737488351232) (_ : ∀ e ∈ l, InEdge e)
    (hA' : Cells w w.heap.size A' (ints o)) (hn' : o.length = m) (hm' : m * 8 ≤ 140737488351232) (_ : ∀ x ∈ o, -9223372036854775808 ≤ x ∧ x ≤ 9223372036854775807) :
    Calls Try.prog 4 #[graphV x A n c, .slice A' m c'] w fun e w' => e = .returned (.bool true) ∧ Below w.heap.size w w' := by
  have HN := Lib.hid hn
  have HN' := Lib.hid hn'
  have hn8 : n ≤ 9223372036854775807 := by omega
  have hm8 : m ≤ 9223372036854775806 := by omega
  have HB0 : Hid (Below w.heap.size w (w.alloc (.cells #[.int .i64 x, .slice A n c] 24))) := (Below.refl _ _).alloc (Nat.le_refl _) _
  have HR0 : Hid (Row (w.alloc (.cells #[.int .i64 x, .slice A n c] 24)) w.heap.size 24 [.int .i64 x, .slice A n c]) := Row.new _ _ _
  clear hn hn'
  unfold graphV
  go_enter Try.func4, Try.ntmps4
  go_wp2_with fail
  refine (narrowFact _).mono ?_
  rintro e w1 ⟨rfl, hb1⟩
  have HB1 : Hid (Below w.heap.size w w1) := HB0.out.trans (hb1.mono (by simp))
  have HR1 := Lib.hid (HR0.out.step hb1)
  have hsz1 := HB1.out.size
  clear hb1 HB0 HR0 hm hm'
  have hA1 := (hA.below HB1.out (Nat.le_refl _)).more hsz1
  have hL1 := (hA'.below HB1.out (Nat.le_refl _)).more hsz1
  have hq0 := HR1.out.cell 0
  have hq1 := HR1.out.cell 1
  have c2 := most_ x A n c l A' m c' o w1 hA1 HN.out hn8 hL1 HN'.out hm8
  unfold graphV at c2
  have C2 := Lib.hid c2
  clear c2 hA1 hL1
  go_wp2_with fail
  refine C2.out.mono ?_
  rintro e w2 ⟨rfl, hb2⟩
  have HB2 : Hid (Below w.heap.size w w2) := HB1.out.trans (hb2.mono hsz1)
  have HR2 := Lib.hid (HR1.out.step hb2)
  have hsz2 := HB2.out.size
  clear hb2 C2 hsz1 HB1 HR1 hq0 hq1
  by_cases he : mostErr x l o = 0
  · obtain ⟨_, _, h60, p, xs, _, rfl, _, _⟩ := mostErr_ok he
    have hml : xs.length + 1 = m := by rw [← HN'.out]; rfl
    have hm0 : 0 < m := by omega
    obtain ⟨b', off', y0, rfl, hbb', hy0, hc0⟩ := ints_at hA' (show 0 < (p :: xs).length by simp)
    obtain ⟨b'', off'', y1, hbo, _, hy1, hc1⟩ := ints_at hA' (show xs.length < (p :: xs).length by simp)
    simp only [Option.some.injEq, Addr.mk.injEq, and_true] at hbo
    obtain ⟨rfl, rfl⟩ := hbo
    rw [last_at] at hy1
    simp only [List.getElem?_cons_zero, Option.some.injEq] at hy0 hy1
    subst hy0
    obtain ⟨z, hz⟩ : ∃ z, z = xs.getLastD p := ⟨_, rfl⟩
    rw [← hz] at hy1
    subst hy1
    obtain ⟨mv, hmv⟩ : ∃ z, z = mostVal x l (p :: xs) := ⟨_, rfl⟩
    have HANY : Hid (∀ v1 er1 v2 er2, LeastAns x l p z v1 er1 → LeastAns x l z p v2 er2 → er1 = 0 ∧ er2 = 0 ∧ v1 ≤ mv ∧ v1 = v2) := fun v1 er1 v2 er2 h1 h2 => by
      rw [hmv]; subst hz; exact least_any he h1 h2
    rw [← hmv, he, errV_zero]
    have hc0 : w.cell? ⟨b', off', none⟩ = some (.int .i64 p) := hc0
    have HC0 := Lib.hid hc0
    have HC1 := Lib.hid hc1
    have HBB := Lib.hid hbb'
    rw [← HB2.out.cell hbb'] at hc0
    rw [← HB2.out.cell (p := ⟨b', off' + xs.length, none⟩) hbb'] at hc1
    clear he hmv hz hA' HN'
    have hx1 : IntKind.i64.wrap ((m : Int) - 1) = (xs.length : Int) := by rw [IntKind.wrap_i64]; omega
    have hx3 : (0 : Int) < (m : Int) := by omega
    have hx4 : (xs.length : Int) < (m : Int) := by omega
    have hx5 : xs.length < m := by omega
    have hAd : Cells w2.drew w2.drew.heap.size A (edges l) := (hA.below (below_drewN HB2.out 1) (Nat.le_refl _)).more hsz2
    have hq0 := HR2.out.cell 0
    have hq1 := HR2.out.cell 1
    have c3 := least_ x A n c p z l w2.drew hAd HN.out hn8
    unfold graphV at c3
    have C3 := Lib.hid c3
    clear c3 hAd
    go_wp2
    go_region_held3 (fun W => W.cell? ⟨w.heap.size, 0, none⟩ = some (.int .i64 x) ∧ W.cell? ⟨w.heap.size, 1, none⟩ = some (.slice A n c) ∧ W.cell? ⟨b', off', none⟩ = some (.int .i64 p) ∧ W.cell? ⟨b', off' + xs.length, none⟩ = some (.int .i64 z)) (first | go_keep | (go_split_ands; refine ⟨?_, ?_, ?_, ?_⟩ <;> assumption))
      (first | (go_at_call 15; refine C3.out.mono ?_; rintro e w3 ⟨v3, er3, rfl, hs3, hb3⟩; have HB3 : Hid (Below w.heap.size w w3) := (below_drewN HB2.out 1).trans (hb3.mono hsz2); have HR3 := Lib.hid ((HR2.out.drewN 1).step hb3); have HS3 := Lib.hid hs3; have z0 := HR3.out.cell 0; have z1 := HR3.out.cell 1; have z2 := (HB3.out.cell (p := ⟨b', off', none⟩) HBB.out).trans HC0.out; have z3 := (HB3.out.cell (p := ⟨b', off' + xs.length, none⟩) HBB.out).trans HC1.out; clear hs3 hb3))
    have hsz3 := HB3.out.size
    have hAd : Cells w3.drew w3.drew.heap.size A (edges l) := (hA.below (below_drewN HB3.out 1) (Nat.le_refl _)).more hsz3
    have c4 := least_ x A n c z p l w3.drew hAd HN.out hn8
    unfold graphV at c4
    have C4 := Lib.hid c4
    clear c4 hAd C3 hsz2 HB2 HR2 hq0 hq1 hc0 hc1
    go_wp2
    go_region_held3 (fun W => W.cell? ⟨w.heap.size, 0, none⟩ = some (.int .i64 x) ∧ W.cell? ⟨w.heap.size, 1, none⟩ = some (.slice A n c) ∧ W.cell? ⟨b', off', none⟩ = some (.int .i64 p) ∧ W.cell? ⟨b', off' + xs.length, none⟩ = some (.int .i64 z)) (first | go_keep | (go_split_ands; refine ⟨?_, ?_, ?_, ?_⟩ <;> assumption))
      (first | (go_at_call 15; refine C4.out.mono ?_; rintro e w4 ⟨v4, er4, rfl, hs4, hb4⟩; have HB4 : Hid (Below w.heap.size w w4) := (below_drewN HB3.out 1).trans (hb4.mono hsz3); have HR4 := Lib.hid ((HR3.out.drewN 1).step hb4); have HS4 := Lib.hid hs4; have y0 := HR4.out.cell 0; have y1 := HR4.out.cell 1; have y2 := (HB4.out.cell (p := ⟨b', off', none⟩) HBB.out).trans HC0.out; have y3 := (HB4.out.cell (p := ⟨b', off' + xs.length, none⟩) HBB.out).trans HC1.out; clear hs4 hb4))
    obtain ⟨rfl, rfl, hle, rfl⟩ := HANY.out v3 er3 v4 er4 HS3.out HS4.out
    rw [errV_zero]
    go_wp2
    go_ret
    exact ⟨rfl, HB4.out⟩
  · have hv : mostVal x l o = 0 := if_neg he
    rw [hv, errV_bad he]
    clear he hv
    go_wp2
    go_ret
    exact ⟨rfl, HB2.out⟩
end Go.Proofs.Ytdiinphojjpadaa
