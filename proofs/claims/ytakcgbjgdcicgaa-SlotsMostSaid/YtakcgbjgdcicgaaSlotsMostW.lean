/- The walk of SlotsMost. Conditions: lengths are such that slices can have. -/
import Derived.Test.YtakcgbjgdcicgaaSlotsApart
namespace Go.Proofs.Ytakcgbjgdcicgaa
open Go.RowKit
set_option maxHeartbeats 2000000 in
theorem slotsMostW (A : Option Addr) (n c : Nat) (B : Option Addr) (m c' : Nat) (l : List Sp) (o : List Int) (w : World) (hA : Cells w w.heap.size A (pairs l)) (hn : l.length = n) (hm : n * 16 ≤ 140737488351232)
    (_ : ∀ x ∈ l, (-9223372036854775808 ≤ x.1 ∧ x.1 ≤ 9223372036854775807) ∧ (-9223372036854775808 ≤ x.2 ∧ x.2 ≤ 9223372036854775807)) (hB : Cells w w.heap.size B (ints o)) (hn' : o.length = m) (hm' : m * 8 ≤ 140737488351232) (_ : ∀ x ∈ o, -9223372036854775808 ≤ x ∧ x ≤ 9223372036854775807) :
    Calls Try.prog 3 #[.slice A n c, .slice B m c'] w fun e w' => e = .returned (.bool true) ∧ Below w.heap.size w w' := by
  have HN := Lib.hid hn
  have HM := Lib.hid hn'
  have c0 := Lib.hid (slotsFact w)
  clear hn hn'
  go_enter Try.func3, Try.ntmps3
  go_wp2_with fail
  refine c0.out.mono ?_
  rintro e w1 ⟨rfl, hb1⟩
  have HB1 := Lib.hid hb1
  have hA1 := hA.step hb1
  have hB1 := hB.step hb1
  clear c0 hb1 hA hB
  by_cases he : spansErr l = 0
  · have c1 := Lib.hid (slotsPick_ok A n c l w1 hA1 HN.out he)
    have HE := Lib.hid he
    clear he
    go_wp2_with fail
    refine c1.out.mono ?_
    rintro e w2 ⟨V, cv, xs, rfl, hp, _, hown, hb2⟩
    have HB2 : Hid (Below w.heap.size w w2) := HB1.out.trans (hb2.mono HB1.out.size)
    have hA2 := hA1.step hb2
    have hB2 := hB1.step hb2
    have hX2 := hown.own (by omega)
    have hxl : xs.length ≤ 24 := by
      have h1 := len_le_of_sub xs (upto l.length) (List.nodup_iff_pairwise_ne.2 (hp.apart.2.imp fun h => h.1)) (fun x hx => (mem_upto _ _).2 (hp.apart.1 x hx))
      rw [upto_len] at h1
      have := (spansErr_ok HE.out).1
      omega
    have c2 := apart_ A n c V xs.length cv l xs w2 hA2 HN.out (by omega) hX2 rfl (by omega)
    rw [apartB_true hp.apart] at c2
    have C2 := Lib.hid c2
    have HP := Lib.hid hp
    clear c1 c2 hb2 hown hX2 hA1 hB1 hp HB1
    go_wp2_with fail
    refine C2.out.mono ?_
    rintro e w3 ⟨rfl, hb3⟩
    have HB3 : Hid (Below w.heap.size w w3) := HB2.out.trans (hb3.mono HB2.out.size)
    have c3 := apart_ A n c B m c' l o w3 (hA2.step hb3) HN.out (by omega) (hB2.step hb3) HM.out (by omega)
    clear hb3 C2 hA2 hB2 HB2
    by_cases ha : Apart l o
    · rw [apartB_true ha] at c3
      have C3 := Lib.hid c3
      have hle : (m : Int) ≤ xs.length := by have := HP.out.most ha; have := HM.out; omega
      have hle2 : m ≤ xs.length := by omega
      clear c3 ha
      go_wp2_with fail
      refine C3.out.mono ?_
      rintro e w4 ⟨rfl, hb4⟩
      have HB4 : Hid (Below w.heap.size w w4) := HB3.out.trans (hb4.mono HB3.out.size)
      clear hb4 C3
      go_wp2
      go_ret
      exact ⟨rfl, HB4.out⟩
    · rw [apartB_false ha] at c3
      have C3 := Lib.hid c3
      clear c3 ha
      go_wp2_with fail
      refine C3.out.mono ?_
      rintro e w4 ⟨rfl, hb4⟩
      have HB4 : Hid (Below w.heap.size w w4) := HB3.out.trans (hb4.mono HB3.out.size)
      clear hb4 C3
      go_wp2
      go_ret
      exact ⟨rfl, HB4.out⟩
  · have c1 := Lib.hid (slotsPick_bad A n c l w1 hA1 HN.out (by omega) he)
    clear he
    go_wp2_with fail
    refine c1.out.mono ?_
    rintro e w2 ⟨rfl, hb2⟩
    have HB2 : Hid (Below w.heap.size w w2) := HB1.out.trans (hb2.mono HB1.out.size)
    clear c1 hb2
    go_wp2
    go_ret
    exact ⟨rfl, HB2.out⟩
end Go.Proofs.Ytakcgbjgdcicgaa
