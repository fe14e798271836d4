/- The walk of FlowBest. Conditions: lengths are such that slices can have. -/
import Derived.Test.YtbpggecholgdkaaFlowP
namespace Go.Proofs.Ytbpggecholgdkaa
open Go.RowKit
set_option maxHeartbeats 2000000 in
theorem flowBestW (A : Option Addr) (n c : Nat) (A' : Option Addr) (m c' : Nat) (l : List (Int × Int)) (o : List Int) (w : World) (hA : Cells w w.heap.size A (pairs l)) (hn : l.length = n) (hm : n * 16 ≤ 140737488351232)
    (_ : ∀ x ∈ l, (-9223372036854775808 ≤ x.1 ∧ x.1 ≤ 9223372036854775807) ∧ (-9223372036854775808 ≤ x.2 ∧ x.2 ≤ 9223372036854775807)) (hA' : Cells w w.heap.size A' (ints o)) (hn' : o.length = m) (hm' : m * 8 ≤ 140737488351232) (_ : ∀ x ∈ o, -9223372036854775808 ≤ x ∧ x ≤ 9223372036854775807) :
    Calls Try.prog 11 #[.slice A n c, .slice A' m c'] w fun e w' => e = .returned (.bool true) ∧ Below w.heap.size w w' := by
  have c0 := Lib.hid (flowFact w)
  by_cases h0 : pairErr l = 0
  · have HN := Lib.hid hn
    have H0 := Lib.hid h0
    have hl16 : n ≤ 16 := by have := (pairErr_ok h0).1; omega
    clear h0 hn
    go_enter Try.func11, Try.ntmps11
    go_wp2_with fail
    refine c0.out.mono ?_
    rintro e w1 ⟨rfl, hb1⟩
    have c1 := Lib.hid (flowOrder_ok A n c l w1 (hA.step hb1) HN.out (by omega) H0.out)
    clear c0
    go_wp2_with fail
    refine c1.out.mono ?_
    rintro e w2 ⟨V, mm, cv, ys, rfl, rfl, hio, hpw, hcx, hb2⟩
    have HIO := Lib.hid hio
    have HPW := Lib.hid hpw
    have hb12 := hb1.trans (hb2.mono hb1.size)
    have hy0 : flowErr l ys = 0 := by unfold flowErr; rw [if_pos H0.out, HN.out]; exact (whole_iff mm ys).2 HIO.out
    have HY0 := Lib.hid hy0
    have c2 := Lib.hid (flowDone_ok A V mm c mm cv l ys w2 (hA.step hb12) HN.out (by omega) hcx hio.1 (by omega) hy0)
    have HCX := Lib.hid hcx
    clear c1 hio hpw hcx hy0
    go_wp2_with fail
    refine c2.out.mono ?_
    rintro e w3 ⟨rfl, hb3⟩
    have hb13 := hb12.trans (hb3.mono hb12.size)
    have HW := Lib.hid ((whole_iff mm ys).2 HIO.out)
    obtain ⟨v, HV⟩ : ∃ v, Hid (done (pat l ys) = v) := ⟨_, rfl⟩
    rw [HV.out]
    clear c2
    by_cases he : flowErr l o = 0
    · have c4 := Lib.hid (flowDone_ok A A' mm c m c' l o w3 (hA.step hb13) HN.out (by omega) (hA'.step hb13) hn' (by omega) he)
      have hle := johnson (pat l ys) (pat l o) (pos_pat he) HPW.out ((pat_perm (by rw [HN.out]; exact HIO.out)).trans (pat_perm (flowErr_ok he).2).symm)
      rw [HV.out] at hle
      clear he hn'
      go_wp2_with fail
      refine c4.out.mono ?_
      rintro e w5 ⟨rfl, hb5⟩
      have c3 := Lib.hid (dueWhole mm V mm cv ys w5 (HCX.out.step (hb3.trans (hb5.mono hb3.size))) HIO.out.1 (by omega))
      have hb14 := hb13.trans (hb5.mono hb13.size)
      clear c4
      go_wp2_with fail
      refine c3.out.mono ?_
      rintro e w6 ⟨rfl, hb6⟩
      rw [HW.out, errV_zero]
      go_wp2
      go_ret
      exact ⟨rfl, hb14.trans (hb6.mono hb14.size)⟩
    · have c4 := Lib.hid (flowDone_bad A A' mm c m c' l o w3 (hA.step hb13) HN.out (by omega) (hA'.step hb13) hn' (by omega) he)
      clear he hn'
      go_wp2_with fail
      refine c4.out.mono ?_
      rintro e w5 ⟨rfl, hb5⟩
      have c3 := Lib.hid (dueWhole mm V mm cv ys w5 (HCX.out.step (hb3.trans (hb5.mono hb3.size))) HIO.out.1 (by omega))
      have hb14 := hb13.trans (hb5.mono hb13.size)
      clear c4
      go_wp2_with fail
      refine c3.out.mono ?_
      rintro e w6 ⟨rfl, hb6⟩
      rw [HW.out, errV_zero]
      go_wp2
      go_ret
      exact ⟨rfl, hb14.trans (hb6.mono hb14.size)⟩
  · have H0 := Lib.hid h0
    clear h0
    go_enter Try.func11, Try.ntmps11
    go_wp2_with fail
    refine c0.out.mono ?_
    rintro e w1 ⟨rfl, hb1⟩
    have c1 := Lib.hid (flowOrder_bad A n c l w1 (hA.step hb1) hn (by omega) H0.out)
    clear c0 hn
    go_wp2_with fail
    refine c1.out.mono ?_
    rintro e w2 ⟨rfl, hb2⟩
    go_wp2
    go_ret
    exact ⟨rfl, hb1.trans (hb2.mono hb1.size)⟩
end Go.Proofs.Ytbpggecholgdkaa
