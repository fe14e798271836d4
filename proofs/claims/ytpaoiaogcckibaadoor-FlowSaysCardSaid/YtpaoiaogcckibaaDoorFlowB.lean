/- What flow.Done answers: what is wrong, or when all are done. Conditions: lengths are such that slices can have. -/
import Derived.Test.YtpaoiaogcckibaaDoorFlowA
import Derived.Test.YtpaoiaogcckibaaDoorWhole
import Derived.Test.YtpaoiaogcckibaaDoorFlowPlain
namespace Go.Proofs.YtpaoiaogcckibaaDoor
open Go.RowKit

def pat (l : List (Int × Int)) (o : List Int) : List (Int × Int) := o.map fun i => l.getD i.toNat (0, 0)
def flowErr (l : List (Int × Int)) (o : List Int) : Int := if pairErr l = 0 then whole l.length o else pairErr l
def flowVal (l : List (Int × Int)) (o : List Int) : Int := if flowErr l o = 0 then done (pat l o) else 0

theorem pairErrFrom_ok : ∀ (l : List (Int × Int)), pairErrFrom l = 0 → ∀ p ∈ l, (0 ≤ p.1 ∧ p.1 ≤ 1000) ∧ (0 ≤ p.2 ∧ p.2 ≤ 1000) := by
  intro l
  induction l with
  | nil => intro _ p hp; simp at hp
  | cons q l ih =>
    intro h p hp
    simp only [pairErrFrom] at h
    split at h
    · next e =>
      rcases List.mem_cons.1 hp with rfl | hp
      · exact ⟨of_inB e.1, of_inB e.2⟩
      · exact ih h p hp
    · simp at h
theorem pairErr_ok {l : List (Int × Int)} (h : pairErr l = 0) : l.length ≤ 16 ∧ ∀ p ∈ l, (0 ≤ p.1 ∧ p.1 ≤ 1000) ∧ (0 ≤ p.2 ∧ p.2 ≤ 1000) := by
  unfold pairErr at h
  split at h
  · simp at h
  · exact ⟨by omega, pairErrFrom_ok l h⟩

set_option maxHeartbeats 1000000 in
theorem flowDone_bad (A A' : Option Addr) (n c m c' : Nat) (l : List (Int × Int)) (o : List Int) (w : World) (hA : Cells w w.heap.size A (pairs l)) (hn : l.length = n) (hm : n ≤ 17592186044416)
    (hA' : Cells w w.heap.size A' (ints o)) (hn' : o.length = m) (hm' : m ≤ 17592186044416) (he : flowErr l o ≠ 0) :
    Calls Tryd.prog 48 #[.slice A n c, .slice A' m c'] w fun e w' => e = .returned (.tuple #[.int .i64 0, .iface 91 (.int .i64 (flowErr l o))]) ∧ Below w.heap.size w w' := by
  by_cases h0 : pairErr l = 0
  · have HE : Hid (flowErr l o = whole n o) := by show _ = _; unfold flowErr; rw [if_pos h0, hn]
    have hw : whole n o ≠ 0 := fun e => he (HE.out.trans e)
    have HF := Lib.hid (errV_bad hw)
    have H0 := Lib.hid h0
    clear h0 hw he
    have c1 := Lib.hid (flowCheck A n c l w hA hn (by omega))
    clear hn
    go_enter Tryd.func48, Tryd.ntmps48
    go_wp2_with fail
    refine (c1.out).mono ?_
    rintro e w1 ⟨rfl, hb1⟩
    rw [H0.out, errV_zero]
    have c2 := Lib.hid (dueWhole n A' m c' o w1 (hA'.step hb1 |>.more (Nat.le_refl _)) hn' hm')
    clear hn'
    go_wp2_with fail
    refine (c2.out).mono ?_
    rintro e w2 ⟨rfl, hb2⟩
    rw [HF.out]
    go_wp2
    go_ret2
    exact ⟨ret_two rfl (err_eq HE.out.symm), hb1.trans (hb2.mono hb1.size)⟩
  · have HE : Hid (flowErr l o = pairErr l) := by show _ = _; unfold flowErr; rw [if_neg h0]
    have HF := Lib.hid (errV_bad h0)
    have c1 := Lib.hid (flowCheck A n c l w hA hn (by omega))
    clear h0 he hn hn'
    go_enter Tryd.func48, Tryd.ntmps48
    go_wp2_with fail
    refine (c1.out).mono ?_
    rintro e w1 ⟨rfl, hb1⟩
    rw [HF.out]
    go_wp2
    go_ret2
    exact ⟨ret_two rfl (err_eq HE.out.symm), hb1⟩

set_option maxHeartbeats 1000000 in
theorem flowDone_ok (A A' : Option Addr) (n c m c' : Nat) (l : List (Int × Int)) (o : List Int) (w : World) (hA : Cells w w.heap.size A (pairs l)) (hn : l.length = n) (hm : n ≤ 17592186044416)
    (hA' : Cells w w.heap.size A' (ints o)) (hn' : o.length = m) (hm' : m ≤ 17592186044416) (he : flowErr l o = 0) :
    Calls Tryd.prog 48 #[.slice A n c, .slice A' m c'] w fun e w' => e = .returned (.tuple #[.int .i64 (done (pat l o)), .nilIface]) ∧ Below w.heap.size w w' := by
  have h0 : pairErr l = 0 := Classical.byContradiction fun h => h (by unfold flowErr at he; rwa [if_neg h] at he)
  have hw : whole n o = 0 := by unfold flowErr at he; rwa [if_pos h0, hn] at he
  have HO := Lib.hid ((whole_iff n o).1 hw)
  have HL := Lib.hid (pairErr_ok h0)
  have H0 := Lib.hid h0
  have HW := Lib.hid hw
  have HN := Lib.hid hn
  have HN' := Lib.hid hn'
  have hnm : n = m := by have := HO.out.1; omega
  subst hnm
  have hl16 : n ≤ 16 := by have := HL.out.1; omega
  clear h0 hw he
  have c1 := Lib.hid (flowCheck A n c l w hA hn (by omega))
  clear hn
  go_enter Tryd.func48, Tryd.ntmps48
  go_wp2_with fail
  refine (c1.out).mono ?_
  rintro e w1 ⟨rfl, hb1⟩
  rw [H0.out, errV_zero]
  have c2 := Lib.hid (dueWhole n A' n c' o w1 (hA'.step hb1 |>.more (Nat.le_refl _)) hn' hm')
  clear hn'
  go_wp2_with fail
  refine (c2.out).mono ?_
  rintro e w2 ⟨rfl, hb2⟩
  rw [HW.out, errV_zero]
  have hb := hb1.trans (hb2.mono hb1.size)
  have hA1 := hA.below hb (Nat.le_refl _)
  have hA2 := hA'.below hb (Nat.le_refl _)
  clear hA hA' c1 c2 hb1 hb2
  go_wp2
  go_loop [8, 9, 26] (fun a b i => ∃ (k : Nat) (x y : Int), k ≤ n ∧ i = .int .i64 k ∧ a = .int .i64 x ∧ b = .int .i64 y ∧ 0 ≤ x ∧ x ≤ 1000 * k ∧ 0 ≤ y ∧ y ≤ 2000 * k ∧ Hid (run (pat l (o.drop k)) (x, y) = run (pat l o) (0, 0))) (fun _ _ i => n - (intOf i).toNat)
  case atStart => exact ⟨0, 0, 0, Nat.zero_le _, rfl, rfl, rfl, by omega, by omega, by omega, by omega, rfl⟩
  case round =>
    obtain ⟨k, x, y, hk, rfl, rfl, rfl, hx0, hx1, hy0, hy1, HI⟩ := hrel
    by_cases hlt : k < n
    · have hlz : (k : Int) < n := by omega
      obtain ⟨b, off, i, rfl, hbb, hx, hc0⟩ := ints_at hA2 (show k < o.length by rw [HN'.out]; exact hlt)
      have hi := HO.out.2.1 i (List.mem_of_getElem? hx)
      obtain ⟨j, rfl⟩ : ∃ j : Nat, i = j := ⟨i.toNat, by omega⟩
      have hj : j < n := by omega
      obtain ⟨b', off', p, q, rfl, hbb', hp, hc1, hc2⟩ := pairs_at hA1 (show j < l.length by rw [HN.out]; exact hj)
      have hpq := HL.out.2 _ (List.mem_of_getElem? hp)
      obtain ⟨⟨hp0, hp1⟩, hq0, hq1⟩ := hpq
      simp only at hp0 hp1 hq0 hq1
      have HS : Hid (run (pat l (o.drop (k + 1))) (x + p, (if x + p < y then y else x + p) + q) = run (pat l o) (0, 0)) := by
        show _ = _
        rw [if_max, ← HI.out, drop_at hx]
        have e : l.getD ((j : Int)).toNat (0, 0) = (p, q) := by simp [hp]
        simp only [pat, List.map_cons, e]
        rfl
      clear hx hp HI hA1 hA2 hi
      go_wp2
      go_round
      case rel => exact ⟨k + 1, x + p, (if x + p < y then y else x + p) + q, by omega, by go_num, rfl, rfl, by omega, by omega, by split <;> omega, by split <;> omega, HS⟩
      case measure => simp [intOf]; omega
    · have hlz : ¬ (k : Int) < n := by omega
      have HE : Hid (y = done (pat l o)) := by
        have h := HI.out
        rw [drop_end (by rw [HN'.out]; omega)] at h
        show _ = _
        unfold done; rw [← h]; rfl
      go_wp2
      go_ret2
      exact ⟨ret_two (int_eq HE.out) rfl, hb⟩
end Go.Proofs.YtpaoiaogcckibaaDoor
