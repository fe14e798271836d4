/- What due.Late answers. Conditions: lengths are such that slices can have. -/
import Derived.Test.YtpaoiaogcckibaaDoorDueA
import Derived.Test.YtpaoiaogcckibaaDoorWhole
import Derived.Test.YtpaoiaogcckibaaDoorJobsPlain
namespace Go.Proofs.YtpaoiaogcckibaaDoor
open Go.RowKit
def jat (l : List Job) (o : List Int) : List Job := o.map (jobAt l)
def ordErr (l : List Job) (o : List Int) : Int := if jobErr l = 0 then whole l.length o else jobErr l
theorem ordErr_ok {l : List Job} {o : List Int} (h : ordErr l o = 0) : jobErr l = 0 ∧ IsOrd l.length o := by
  unfold ordErr at h
  split at h
  · next e => exact ⟨e, (whole_iff _ _).1 h⟩
  · next e => exact absurd h e
theorem ordErr_of {l : List Job} {o : List Int} (h : jobErr l = 0) (ho : IsOrd l.length o) : ordErr l o = 0 := by
  unfold ordErr
  rw [if_pos h]; exact (whole_iff _ _).2 ho
theorem jat_perm {l : List Job} {o : List Int} (h : IsOrd l.length o) : (jat l o).Perm l := by
  have e : jat l o = at_ l o := by
    unfold jat at_
    refine List.map_congr_left fun i hi => ?_
    have := h.2.1 i hi
    have hlt : i.toNat < l.length := by omega
    simp [jobAt, List.getD, hlt]
  rw [e]; exact at_perm l h
theorem if_max' (a b : Int) : (if a < b then b else a) = max a b := by split <;> omega
def lateVal (l : List Job) (o : List Int) : Int := if l.length = 0 then 0 else lateFrom 0 (-1000) (jat l o)
set_option maxHeartbeats 1000000 in
theorem dueLate_bad (A : Option Addr) (n c : Nat) (A' : Option Addr) (m c' : Nat) (l : List Job) (o : List Int) (w : World) (hA : Cells w w.heap.size A (jobs l)) (hn : l.length = n) (hm : n ≤ 17592186044416)
    (hA' : Cells w w.heap.size A' (ints o)) (hn' : o.length = m) (hm' : m ≤ 17592186044416) (he : ordErr l o ≠ 0) :
    Calls Tryd.prog 42 #[.slice A n c, .slice A' m c'] w fun e w' => e = .returned (.tuple #[.int .i64 0, .iface 91 (.int .i64 (ordErr l o))]) ∧ Below w.heap.size w w' := by
  by_cases h0 : jobErr l = 0
  · have HE : Hid (ordErr l o = whole n o) := by show _ = _; unfold ordErr; rw [if_pos h0, hn]
    have hw : whole n o ≠ 0 := fun e => he (HE.out.trans e)
    have HF := Lib.hid (errV_bad hw)
    have H0 := Lib.hid h0
    clear h0 hw he
    have c1 := Lib.hid (dueCheck A n c l w hA hn (by omega))
    clear hn
    go_enter Tryd.func42, Tryd.ntmps42
    go_wp2_with fail
    refine (c1.out).mono ?_
    rintro e w1 ⟨rfl, hb1⟩
    rw [H0.out, errV_zero]
    have c2 := Lib.hid (dueWhole n A' m c' o w1 (hA'.step hb1) hn' hm')
    clear hn'
    go_wp2_with fail
    refine (c2.out).mono ?_
    rintro e w2 ⟨rfl, hb2⟩
    rw [HF.out]
    go_wp2
    go_ret2
    exact ⟨ret_two rfl (err_eq HE.out.symm), hb1.trans (hb2.mono hb1.size)⟩
  · have HE : Hid (ordErr l o = jobErr l) := by show _ = _; unfold ordErr; rw [if_neg h0]
    have HF := Lib.hid (errV_bad h0)
    have c1 := Lib.hid (dueCheck A n c l w hA hn (by omega))
    clear h0 he hn hn'
    go_enter Tryd.func42, Tryd.ntmps42
    go_wp2_with fail
    refine (c1.out).mono ?_
    rintro e w1 ⟨rfl, hb1⟩
    rw [HF.out]
    go_wp2
    go_ret2
    exact ⟨ret_two rfl (err_eq HE.out.symm), hb1⟩

set_option maxHeartbeats 1000000 in
theorem dueLate_ok (A : Option Addr) (n c : Nat) (A' : Option Addr) (m c' : Nat) (l : List Job) (o : List Int) (w : World) (hA : Cells w w.heap.size A (jobs l)) (hn : l.length = n) (hm : n ≤ 17592186044416)
    (hA' : Cells w w.heap.size A' (ints o)) (hn' : o.length = m) (hm' : m ≤ 17592186044416) (he : ordErr l o = 0) :
    Calls Tryd.prog 42 #[.slice A n c, .slice A' m c'] w fun e w' => e = .returned (.tuple #[.int .i64 (lateVal l o), .nilIface]) ∧ Below w.heap.size w w' := by
  obtain ⟨h0, hord⟩ := ordErr_ok he
  rw [hn] at hord
  have HO := Lib.hid hord
  have HL := Lib.hid (jobErr_ok h0)
  have H0 := Lib.hid h0
  have HW := Lib.hid ((whole_iff n o).2 hord)
  have HN := Lib.hid hn
  have HN' := Lib.hid hn'
  have hnm : n = m := by have := HO.out.1; omega
  subst hnm
  have hl16 : n ≤ 16 := by have := HL.out.1; omega
  clear h0 hord he
  have c1 := Lib.hid (dueCheck A n c l w hA hn (by omega))
  clear hn
  by_cases hz : n = 0
  · subst hz
    have hl0 : Hid (lateVal l o = 0) := if_pos HN.out
    go_enter Tryd.func42, Tryd.ntmps42
    go_wp2_with fail
    refine (c1.out).mono ?_
    rintro e w1 ⟨rfl, hb1⟩
    rw [H0.out, errV_zero]
    have c2 := Lib.hid (dueWhole (0 : Nat) A' 0 c' o w1 (hA'.step hb1) hn' hm')
    clear hn'
    go_wp2_with fail
    refine (c2.out).mono ?_
    rintro e w2 ⟨rfl, hb2⟩
    rw [HW.out, errV_zero]
    go_wp2
    go_ret2
    exact ⟨ret_two (int_eq hl0.out.symm) rfl, hb1.trans (hb2.mono hb1.size)⟩
  have hz0 : ((n : Int) == 0) = false := beq_eq_false_iff_ne.2 (by omega)
  have hnp : 0 < n := by omega
  go_enter Tryd.func42, Tryd.ntmps42
  go_wp2_with fail
  refine (c1.out).mono ?_
  rintro e w1 ⟨rfl, hb1⟩
  rw [H0.out, errV_zero]
  have c2 := Lib.hid (dueWhole n A' n c' o w1 (hA'.step hb1) hn' hm')
  clear hn'
  go_wp2_with fail
  refine (c2.out).mono ?_
  rintro e w2 ⟨rfl, hb2⟩
  rw [HW.out, errV_zero]
  have hb := hb1.trans (hb2.mono hb1.size)
  have hA1 := hA.below hb (Nat.le_refl _)
  have hA2 := hA'.below hb (Nat.le_refl _)
  clear hA hA' c1 c2 hb1 hb2
  go_wp2
  go_loop [8, 9, 29] (fun a b i => ∃ (k : Nat) (x y : Int), k ≤ n ∧ i = .int .i64 k ∧ a = .int .i64 x ∧ b = .int .i64 y ∧ 0 ≤ x ∧ x ≤ 1000 * k ∧ -1000 ≤ y ∧ y ≤ 1000 * k ∧ Hid (lateFrom x y (jat l (o.drop k)) = lateFrom 0 (-1000) (jat l o))) (fun _ _ i => n - (intOf i).toNat)
  case atStart => exact ⟨0, 0, -1000, Nat.zero_le _, rfl, rfl, rfl, by omega, by omega, by omega, by omega, rfl⟩
  case round =>
    obtain ⟨k, x, y, hk, rfl, rfl, rfl, hx0, hx1, hy0, hy1, HI⟩ := hrel
    by_cases hlt : k < n
    · have hlz : (k : Int) < n := by omega
      obtain ⟨b, off, i, rfl, hbb, hx, hc0⟩ := ints_at hA2 (show k < o.length by rw [HN'.out]; exact hlt)
      have hi := HO.out.2.1 i (List.mem_of_getElem? hx)
      obtain ⟨j, rfl⟩ : ∃ j : Nat, i = j := ⟨i.toNat, by omega⟩
      have hj : j < n := by omega
      obtain ⟨b', off', t, d, v, rfl, hbb', hp, hc1, hc2, hc3⟩ := jobs_at hA1 (show j < l.length by rw [HN.out]; exact hj)
      obtain ⟨⟨ht0, ht1⟩, ⟨hd0, hd1⟩, hv0, hv1⟩ := HL.out.2 _ (List.mem_of_getElem? hp)
      simp only at ht0 ht1 hd0 hd1 hv0 hv1
      have e : jobAt l (j : Int) = ⟨t, d, v⟩ := by simp [jobAt, hp]
      have HS : Hid (lateFrom (x + t) (max y (x + t - d)) (jat l (o.drop (k + 1))) = lateFrom 0 (-1000) (jat l o)) := by
        show _ = _
        skip
        rw [← HI.out, drop_at hx]
        simp only [jat, List.map_cons, e]
        rfl
      clear hx hp HI hA1 hA2 hi e
      skip
      go_wp2
      go_round
      case rel => exact ⟨k + 1, x + t, max y (x + t - d), by omega, by go_num, rfl, rfl, by omega, by omega, by omega, by omega, HS⟩
      case measure => simp [intOf]; omega
    · have hlz : ¬ (k : Int) < n := by omega
      have HE : Hid (y = lateVal l o) := by
        have h := HI.out
        rw [drop_end (by rw [HN'.out]; omega)] at h
        show _ = _
        unfold lateVal; rw [if_neg (by rw [HN.out]; exact hz), ← h]; rfl
      go_wp2
      go_ret2
      exact ⟨ret_two (int_eq HE.out) rfl, hb⟩
end Go.Proofs.YtpaoiaogcckibaaDoor
