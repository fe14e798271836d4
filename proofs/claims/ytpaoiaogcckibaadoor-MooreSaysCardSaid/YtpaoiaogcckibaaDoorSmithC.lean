/- What smith.Cost answers. Conditions: lengths are such that slices can have. -/
import Derived.Test.YtpaoiaogcckibaaDoorDueA
import Derived.Test.YtpaoiaogcckibaaDoorWhole
import Derived.Test.YtpaoiaogcckibaaDoorJobsPlain
import Derived.Test.YtpaoiaogcckibaaDoorDueC
namespace Go.Proofs.YtpaoiaogcckibaaDoor
open Go.RowKit
set_option maxHeartbeats 1000000 in
theorem smithCost_bad (A : Option Addr) (n c : Nat) (A' : Option Addr) (m c' : Nat) (l : List Job) (o : List Int) (w : World) (hA : Cells w w.heap.size A (jobs l)) (hn : l.length = n) (hm : n ≤ 17592186044416)
    (hA' : Cells w w.heap.size A' (ints o)) (hn' : o.length = m) (hm' : m ≤ 17592186044416) (he : ordErr l o ≠ 0) :
    Calls Tryd.prog 37 #[.slice A n c, .slice A' m c'] w fun e w' => e = .returned (.tuple #[.int .i64 0, .iface 91 (.int .i64 (ordErr l o))]) ∧ Below w.heap.size w w' := by
  by_cases h0 : jobErr l = 0
  · have HE : Hid (ordErr l o = whole n o) := by show _ = _; unfold ordErr; rw [if_pos h0, hn]
    have hw : whole n o ≠ 0 := fun e => he (HE.out.trans e)
    have HF := Lib.hid (errV_bad hw)
    have H0 := Lib.hid h0
    clear h0 hw he
    have c1 := Lib.hid (dueCheck A n c l w hA hn (by omega))
    clear hn
    go_enter Tryd.func37, Tryd.ntmps37
    go_wp2_with fail
    refine (c1.out).mono ?_
    rintro e w1 ⟨rfl, hb1⟩
    rw [H0.out, errV_zero]
    have c2 := Lib.hid (dueWhole n A' m c' o w1 (hA'.step hb1) hn' hm')
    clear hn'
    go_wp2_with fail
    refine (c2.out).mono ?_
    rintro e w2 ⟨rfl, hb2⟩
    rw [HF.out]
    go_wp2
    go_ret2
    exact ⟨ret_two rfl (err_eq HE.out.symm), hb1.trans (hb2.mono hb1.size)⟩
  · have HE : Hid (ordErr l o = jobErr l) := by show _ = _; unfold ordErr; rw [if_neg h0]
    have HF := Lib.hid (errV_bad h0)
    have c1 := Lib.hid (dueCheck A n c l w hA hn (by omega))
    clear h0 he hn hn'
    go_enter Tryd.func37, Tryd.ntmps37
    go_wp2_with fail
    refine (c1.out).mono ?_
    rintro e w1 ⟨rfl, hb1⟩
    rw [HF.out]
    go_wp2
    go_ret2
    exact ⟨ret_two rfl (err_eq HE.out.symm), hb1⟩

set_option maxHeartbeats 1000000 in
theorem smithCost_ok (A : Option Addr) (n c : Nat) (A' : Option Addr) (m c' : Nat) (l : List Job) (o : List Int) (w : World) (hA : Cells w w.heap.size A (jobs l)) (hn : l.length = n) (hm : n ≤ 17592186044416)
    (hA' : Cells w w.heap.size A' (ints o)) (hn' : o.length = m) (hm' : m ≤ 17592186044416) (he : ordErr l o = 0) :
    Calls Tryd.prog 37 #[.slice A n c, .slice A' m c'] w fun e w' => e = .returned (.tuple #[.int .i64 (costFrom 0 (jat l o)), .nilIface]) ∧ Below w.heap.size w w' := by
  obtain ⟨h0, hord⟩ := ordErr_ok he
  rw [hn] at hord
  have HO := Lib.hid hord
  have HL := Lib.hid (jobErr_ok h0)
  have H0 := Lib.hid h0
  have HW := Lib.hid ((whole_iff n o).2 hord)
  have HN := Lib.hid hn
  have HN' := Lib.hid hn'
  have hnm : n = m := by have := HO.out.1; omega
  subst hnm
  have hl16 : n ≤ 16 := by have := HL.out.1; omega
  clear h0 hord he
  have c1 := Lib.hid (dueCheck A n c l w hA hn (by omega))
  clear hn

  go_enter Tryd.func37, Tryd.ntmps37
  go_wp2_with fail
  refine (c1.out).mono ?_
  rintro e w1 ⟨rfl, hb1⟩
  rw [H0.out, errV_zero]
  have c2 := Lib.hid (dueWhole n A' n c' o w1 (hA'.step hb1) hn' hm')
  clear hn'
  go_wp2_with fail
  refine (c2.out).mono ?_
  rintro e w2 ⟨rfl, hb2⟩
  rw [HW.out, errV_zero]
  have hb := hb1.trans (hb2.mono hb1.size)
  have hA1 := hA.below hb (Nat.le_refl _)
  have hA2 := hA'.below hb (Nat.le_refl _)
  clear hA hA' c1 c2 hb1 hb2
  go_wp2
  go_loop [8, 9, 26] (fun a b i => ∃ (k : Nat) (x y : Int), k ≤ n ∧ i = .int .i64 k ∧ a = .int .i64 x ∧ b = .int .i64 y ∧ 0 ≤ x ∧ x ≤ 1000 * k ∧ 0 ≤ y ∧ y ≤ 16000000 * k ∧ Hid (y + costFrom x (jat l (o.drop k)) = costFrom 0 (jat l o))) (fun _ _ i => n - (intOf i).toNat)
  case atStart => exact ⟨0, 0, 0, Nat.zero_le _, rfl, rfl, rfl, by omega, by omega, by omega, by omega, by show _ = _; simp⟩
  case round =>
    obtain ⟨k, x, y, hk, rfl, rfl, rfl, hx0, hx1, hy0, hy1, HI⟩ := hrel
    by_cases hlt : k < n
    · have hlz : (k : Int) < n := by omega
      obtain ⟨b, off, i, rfl, hbb, hx, hc0⟩ := ints_at hA2 (show k < o.length by rw [HN'.out]; exact hlt)
      have hi := HO.out.2.1 i (List.mem_of_getElem? hx)
      obtain ⟨j, rfl⟩ : ∃ j : Nat, i = j := ⟨i.toNat, by omega⟩
      have hj : j < n := by omega
      obtain ⟨b', off', t, d, v, rfl, hbb', hp, hc1, hc2, hc3⟩ := jobs_at hA1 (show j < l.length by rw [HN.out]; exact hj)
      obtain ⟨⟨ht0, ht1⟩, ⟨hd0, hd1⟩, hv0, hv1⟩ := HL.out.2 _ (List.mem_of_getElem? hp)
      simp only at ht0 ht1 hd0 hd1 hv0 hv1
      have e : jobAt l (j : Int) = ⟨t, d, v⟩ := by simp [jobAt, hp]
      have HS : Hid (y + (x + t) * v + costFrom (x + t) (jat l (o.drop (k + 1))) = costFrom 0 (jat l o)) := by
        show _ = _
        skip
        rw [← HI.out, drop_at hx]
        simp only [jat, List.map_cons, e]
        simp only [costFrom]; omega
      clear hx hp HI hA1 hA2 hi e
      have q0 : 0 ≤ (x + t) * v := Int.mul_nonneg (by omega) hv0
      have q1 : (x + t) * v ≤ 16000 * 1000 := Int.mul_le_mul (by omega) hv1 hv0 (by omega)
      go_wp2
      go_round
      case rel => exact ⟨k + 1, x + t, y + (x + t) * v, by omega, by go_num, rfl, rfl, by omega, by omega, by omega, by omega, HS⟩
      case measure => simp [intOf]; omega
    · have hlz : ¬ (k : Int) < n := by omega
      have HE : Hid (y = costFrom 0 (jat l o)) := by
        have h := HI.out
        rw [drop_end (by rw [HN'.out]; omega)] at h
        show _ = _
        rw [← h]; simp [jat, costFrom]
      go_wp2
      go_ret2
      exact ⟨ret_two (int_eq HE.out) rfl, hb⟩
end Go.Proofs.YtpaoiaogcckibaaDoor
