/- The walk of SmithBest. Conditions: lengths are such that slices can have. -/
import Derived.Test.YtbpggecholgdkaaJobFact
namespace Go.Proofs.Ytbpggecholgdkaa
open Go.RowKit
set_option maxHeartbeats 2000000 in
theorem smithBestW (A : Option Addr) (n c : Nat) (A' : Option Addr) (m c' : Nat) (l : List Job) (o : List Int) (w : World) (hA : Cells w w.heap.size A (jobs l)) (hn : l.length = n) (hm : n * 24 ≤ 140737488351232)
    (_ : ∀ x ∈ l, InJob x) (hA' : Cells w w.heap.size A' (ints o)) (hn' : o.length = m) (hm' : m * 8 ≤ 140737488351232) (_ : ∀ x ∈ o, -9223372036854775808 ≤ x ∧ x ≤ 9223372036854775807) :
    Calls Try.prog 5 #[.slice A n c, .slice A' m c'] w fun e w' => e = .returned (.bool true) ∧ Below w.heap.size w w' := by
  have c0 := Lib.hid (smithFact w)
  by_cases h0 : jobErr l = 0
  · have HL := Lib.hid (jobErr_ok h0)
    have HN := Lib.hid hn
    have H0 := Lib.hid h0
    have hl16 : n ≤ 16 := by have := HL.out.1; omega
    clear h0 hn
    go_enter Try.func5, Try.ntmps5
    go_wp2_with fail
    refine c0.out.mono ?_
    rintro e w1 ⟨rfl, hb1⟩
    have c1 := Lib.hid (smithOrder_ok A n c l w1 (hA.step hb1) HN.out (by omega) H0.out)
    clear c0
    go_wp2_with fail
    refine c1.out.mono ?_
    rintro e w2 ⟨g, ys, rfl, hio, hpw, hown, hb2⟩
    have HIO := Lib.hid hio
    have HPW := Lib.hid hpw
    have hcx := hown.own (by omega)
    have hb12 := hb1.trans (hb2.mono hb1.size)
    have c2 := Lib.hid (smithCost_ok A n c (some ⟨g, 0, none⟩) n n l ys w2 (hA.step hb12) HN.out (by omega) hcx hio.1 (by omega) (ordErr_of H0.out (by rw [HN.out]; exact hio)))
    have HCX := Lib.hid hcx
    clear c1 hio hpw hown hcx
    go_wp2_with fail
    refine c2.out.mono ?_
    rintro e w3 ⟨rfl, hb3⟩
    have hb13 := hb12.trans (hb3.mono hb12.size)
    have HW := Lib.hid ((whole_iff n ys).2 HIO.out)
    obtain ⟨v, HV⟩ : ∃ v, Hid (costFrom 0 (jat l ys) = v) := ⟨_, rfl⟩
    rw [HV.out]
    clear c2
    by_cases he : ordErr l o = 0
    · have c4 := Lib.hid (smithCost_ok A n c A' m c' l o w3 (hA.step hb13) HN.out (by omega) (hA'.step hb13) hn' (by omega) he)
      have hle := smith_best HPW.out (by rw [HN.out]; exact HIO.out) (ordErr_ok he).2
      rw [HV.out] at hle
      clear he hn'
      go_wp2_with fail
      refine c4.out.mono ?_
      rintro e w5 ⟨rfl, hb5⟩
      have c3 := Lib.hid (dueWhole n (some ⟨g, 0, none⟩) n n ys w5 (HCX.out.step (hb3.trans (hb5.mono hb3.size))) HIO.out.1 (by omega))
      have hb14 := hb13.trans (hb5.mono hb13.size)
      clear c4
      go_wp2_with fail
      refine c3.out.mono ?_
      rintro e w6 ⟨rfl, hb6⟩
      rw [HW.out, errV_zero]
      go_wp2
      go_ret
      exact ⟨rfl, hb14.trans (hb6.mono hb14.size)⟩
    · have c4 := Lib.hid (smithCost_bad A n c A' m c' l o w3 (hA.step hb13) HN.out (by omega) (hA'.step hb13) hn' (by omega) he)
      clear he hn'
      go_wp2_with fail
      refine c4.out.mono ?_
      rintro e w5 ⟨rfl, hb5⟩
      have c3 := Lib.hid (dueWhole n (some ⟨g, 0, none⟩) n n ys w5 (HCX.out.step (hb3.trans (hb5.mono hb3.size))) HIO.out.1 (by omega))
      have hb14 := hb13.trans (hb5.mono hb13.size)
      clear c4
      go_wp2_with fail
      refine c3.out.mono ?_
      rintro e w6 ⟨rfl, hb6⟩
      rw [HW.out, errV_zero]
      go_wp2
      go_ret
      exact ⟨rfl, hb14.trans (hb6.mono hb14.size)⟩
  · have H0 := Lib.hid h0
    clear h0
    go_enter Try.func5, Try.ntmps5
    go_wp2_with fail
    refine c0.out.mono ?_
    rintro e w1 ⟨rfl, hb1⟩
    have c1 := Lib.hid (smithOrder_bad A n c l w1 (hA.step hb1) hn (by omega) H0.out)
    clear c0 hn
    go_wp2_with fail
    refine c1.out.mono ?_
    rintro e w2 ⟨rfl, hb2⟩
    go_wp2
    go_ret
    exact ⟨rfl, hb1.trans (hb2.mono hb1.size)⟩
end Go.Proofs.Ytbpggecholgdkaa
