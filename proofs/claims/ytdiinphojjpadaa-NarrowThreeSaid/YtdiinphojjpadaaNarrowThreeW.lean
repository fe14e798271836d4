/- The walk of NarrowThree. Conditions: lengths are such that slices can have. -/
import Derived.Test.YtdiinphojjpadaaNarrowFact
namespace Go.Proofs.Ytdiinphojjpadaa
open Go.RowKit
set_option maxHeartbeats 8000000 in
set_option maxRecDepth 100000 in
theorem narrowThreeW (x : Int) (A : Option Addr) (n c : Nat) (a b q : Int) (l : List Edge) (w : World) (_ : -9223372036854775808 ≤ x ∧ x ≤ 9223372036854775807) (hA : Cells w w.heap.size A (edges l)) (hn : l.length = n) (hm : n * 24 ≤ 140737488351232) (_ : ∀ e ∈ l, InEdge e) (_ : -9223372036854775808 ≤ a ∧ a ≤ 9223372036854775807) (_ : -9223372036854775808 ≤ b ∧ b ≤ 9223372036854775807) (_ : -9223372036854775808 ≤ q ∧ q ≤ 9223372036854775807) :
    Calls Try.prog 3 #[graphV x A n c, .int .i64 a, .int .i64 b, .int .i64 q] w fun e w' => e = .returned (.bool true) ∧ Below w.heap.size w w' := by
  have HN := Lib.hid hn
  have hn8 : n ≤ 9223372036854775807 := by omega
  have HB0 : Hid (Below w.heap.size w (w.alloc (.cells #[.int .i64 x, .slice A n c] 24))) := (Below.refl _ _).alloc (Nat.le_refl _) _
  have HR0 : Hid (Row (w.alloc (.cells #[.int .i64 x, .slice A n c] 24)) w.heap.size 24 [.int .i64 x, .slice A n c]) := Row.new _ _ _
  clear hn
  unfold graphV
  go_enter Try.func3, Try.ntmps3
  go_wp2_with fail
  refine (narrowFact _).mono ?_
  rintro e w1 ⟨rfl, hb1⟩
  have HB1 : Hid (Below w.heap.size w w1) := HB0.out.trans (hb1.mono (by simp))
  have HR1 := Lib.hid (HR0.out.step hb1)
  have hsz1 := HB1.out.size
  clear hb1 HB0 HR0 hm
  have hA1 := (hA.below HB1.out (Nat.le_refl _)).more hsz1
  have hq0 := HR1.out.cell 0
  have hq1 := HR1.out.cell 1
  have c2 := least_ x A n c a b l w1 hA1 HN.out hn8
  unfold graphV at c2
  have C2 := Lib.hid c2
  clear c2 hA1
  go_wp2_with fail
  refine C2.out.mono ?_
  rintro e w2 ⟨v2, er2, rfl, hs2, hb2⟩
  have HB2 : Hid (Below w.heap.size w w2) := HB1.out.trans (hb2.mono hsz1)
  have HR2 := Lib.hid (HR1.out.step hb2)
  have hsz2 := HB2.out.size
  have HS2 := Lib.hid hs2
  clear hb2 C2 hsz1 HB1 HR1 hs2 hq0 hq1
  have hA2 := (hA.below HB2.out (Nat.le_refl _)).more hsz2
  have hq0 := HR2.out.cell 0
  have hq1 := HR2.out.cell 1
  have c3 := least_ x A n c b q l w2 hA2 HN.out hn8
  unfold graphV at c3
  have C3 := Lib.hid c3
  clear c3 hA2
  go_wp2_with fail
  refine C3.out.mono ?_
  rintro e w3 ⟨v3, er3, rfl, hs3, hb3⟩
  have HB3 : Hid (Below w.heap.size w w3) := HB2.out.trans (hb3.mono hsz2)
  have HR3 := Lib.hid (HR2.out.step hb3)
  have hsz3 := HB3.out.size
  have HS3 := Lib.hid hs3
  clear hb3 C3 hsz2 HB2 HR2 hs3 hq0 hq1
  have hA3 := (hA.below HB3.out (Nat.le_refl _)).more hsz3
  have hq0 := HR3.out.cell 0
  have hq1 := HR3.out.cell 1
  have c4 := least_ x A n c a q l w3 hA3 HN.out hn8
  unfold graphV at c4
  have C4 := Lib.hid c4
  clear c4 hA3
  go_wp2_with fail
  refine C4.out.mono ?_
  rintro e w4 ⟨v4, er4, rfl, hs4, hb4⟩
  have HB4 : Hid (Below w.heap.size w w4) := HB3.out.trans (hb4.mono hsz3)
  have HR4 := Lib.hid (HR3.out.step hb4)
  have hsz4 := HB4.out.size
  have HS4 := Lib.hid hs4
  clear hb4 C4 hsz3 HB3 HR3 hs4 hq0 hq1
  by_cases h1 : er2 = 0
  · by_cases h2 : er3 = 0
    · have HT : Hid (∀ v5 er5, LeastAns x l a a v5 er5 → er4 = 0 ∧ (v4 ≤ v2 ∨ v4 ≤ v3) ∧ er5 = 0 ∧ v5 = 0) := fun v5 er5 h5 => least_three HS2.out HS3.out HS4.out h5 h1 h2
      subst h1 h2
      rw [errV_zero]
      have hA4 := (hA.below HB4.out (Nat.le_refl _)).more hsz4
      have hq0 := HR4.out.cell 0
      have hq1 := HR4.out.cell 1
      have c5 := least_ x A n c a a l w4 hA4 HN.out hn8
      unfold graphV at c5
      have C5 := Lib.hid c5
      clear c5 hA4
      go_wp2_with fail
      refine C5.out.mono ?_
      rintro e w5 ⟨v5, er5, rfl, hs5, hb5⟩
      have HB5 : Hid (Below w.heap.size w w5) := HB4.out.trans (hb5.mono hsz4)
      have HR5 := Lib.hid (HR4.out.step hb5)
      have hsz5 := HB5.out.size
      have HS5 := Lib.hid hs5
      clear hb5 C5 hsz4 HB4 HR4 hs5 hq0 hq1
      obtain ⟨t1, t2, t3, t4⟩ := HT.out v5 er5 HS5.out
      subst t1 t3 t4
      rw [errV_zero]
      by_cases hv : v4 ≤ v2
      · go_wp2
        go_ret
        exact ⟨rfl, HB5.out⟩
      · have hv2 : v4 ≤ v3 := by omega
        go_wp2
        go_ret
        exact ⟨rfl, HB5.out⟩
    · subst h1
      rw [errV_zero, errV_bad h2]
      go_wp2
      go_ret
      exact ⟨rfl, HB4.out⟩
  · rw [errV_bad h1]
    go_wp2
    go_ret
    exact ⟨rfl, HB4.out⟩
end Go.Proofs.Ytdiinphojjpadaa
