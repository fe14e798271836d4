/- What the document's own Spans answers: the number of what is wrong with spans. Conditions: lengths are such that slices can have. -/
import Derived.Test.YtpaoiaogcckibaaDoorSlotsCheck
import Derived.Test.YtpaoiaogcckibaaDoorIn4
namespace Go.Proofs.YtpaoiaogcckibaaDoor
open Go.RowKit
set_option maxHeartbeats 1000000 in
theorem refSpans (A : Option Addr) (n c : Nat) (l : List Sp) (w : World) (hA : Cells w w.heap.size A (pairs l)) (hn : l.length = n) (hm : n ≤ 9223372036854775807) :
    Calls Tryd.prog 49 #[.slice A n c] w fun e w' => e = .returned (.int .i64 (spansErr l)) ∧ ∃ q, w' = w.drewN q := by
  have HN := Lib.hid hn
  by_cases hf : 24 < n
  · have hz : (24 : Int) < n := by omega
    have HE : Hid (spansErr l = 4) := by show _ = _; unfold spansErr; rw [if_pos (by omega)]
    clear hn hA
    go_enter Tryd.func49, Tryd.ntmps49
    go_wp2
    go_ret
    exact ⟨ret_int HE.out.symm, 0, rfl⟩
  · have hz : ¬ (24 : Int) < n := by omega
    have HP : Hid (spansErr l = spansFrom l) := by show _ = _; unfold spansErr; rw [if_neg (by omega)]
    clear hn
    go_enter Tryd.func49, Tryd.ntmps49
    go_wp2
    go_loopw [3] (fun i wr => ∃ k : Nat, k ≤ n ∧ i = .int .i64 k ∧ Hid (∃ q, wr = w.drewN q) ∧ Hid (spansFrom (l.drop k) = spansFrom l)) (fun i _ => n - (intOf i).toNat)
    case atStart => exact ⟨0, Nat.zero_le _, rfl, ⟨0, rfl⟩, rfl⟩
    case round =>
      obtain ⟨k, hk, rfl, HQ, HI⟩ := hrel
      obtain ⟨qd, rfl⟩ := HQ.out
      clear HQ
      by_cases hlt : k < n
      · have hlz : (k : Int) < n := by omega
        obtain ⟨b, off, x, y, rfl, hbb, hx, hc0, hc1⟩ := pairs_at hA (show k < l.length by rw [HN.out]; exact hlt)
        have HX := Lib.hid (drop_at hx)
        clear hx hA
        have HS : Hid (inB x 0 1000 = true → inB y 0 1000 = true → ¬ y ≤ x → spansFrom (l.drop (k + 1)) = spansFrom l) := fun e1 e2 e3 => by
          rw [← HI.out, HX.out]; simp [spansFrom, e1, e2, e3]
        have HT : Hid (¬ (inB x 0 1000 = true ∧ inB y 0 1000 = true) → spansErr l = 1) := fun e1 => by
          rw [HP.out, ← HI.out, HX.out]; simp only [spansFrom]; rw [if_neg e1]
        have HU : Hid (inB x 0 1000 = true → inB y 0 1000 = true → y ≤ x → spansErr l = 3) := fun e1 e2 e3 => by
          rw [HP.out, ← HI.out, HX.out]; simp only [spansFrom]; rw [if_pos ⟨e1, e2⟩, if_pos e3]
        clear HI HX HP
        cases h1 : inB x 0 1000 with
        | false =>
          go_wp2_with (go_at_call 81; refine (in4_ _ _ _ _).mono ?_; rintro e w' ⟨rfl, rfl⟩)
          go_ret
          exact ⟨ret_int (HT.out (by simp [h1])).symm, _, rfl⟩
        | true =>
          cases h2 : inB y 0 1000 with
          | false =>
            go_wp2_with (go_at_call 81; refine (in4_ _ _ _ _).mono ?_; rintro e w' ⟨rfl, rfl⟩)
            go_ret
            exact ⟨ret_int (HT.out (by simp [h2])).symm, _, rfl⟩
          | true =>
            by_cases h3 : y ≤ x
            · have HH := Lib.hid (HU.out h1 h2 h3)
              have hd3 : decide (y ≤ x) = true := decide_eq_true h3
              go_wp2_with (go_at_call 81; refine (in4_ _ _ _ _).mono ?_; rintro e w' ⟨rfl, rfl⟩)
              go_quiet (fail)
              go_wp2
              go_ret
              exact ⟨ret_int HH.out.symm, _, by first | rfl | exact World.drewN_drewN _ _ _⟩
            · have HH := Lib.hid (HS.out h1 h2 h3)
              have hd3 : decide (y ≤ x) = false := decide_eq_false h3
              go_wp2_with (go_at_call 81; refine (in4_ _ _ _ _).mono ?_; rintro e w' ⟨rfl, rfl⟩)
              go_quiet (fail)
              go_wp2
              go_roundw
              case rel => exact ⟨k + 1, by omega, by go_num, ⟨_, by first | rfl | exact World.drewN_drewN _ _ _⟩, HH.out⟩
              case measure => simp [intOf]; omega
      · have hlz : ¬ (k : Int) < n := by omega
        have HE : Hid (spansErr l = 0) := by
          show _ = _
          rw [HP.out, ← HI.out, drop_end (by rw [HN.out]; omega)]; rfl
        go_wp2
        go_ret
        exact ⟨ret_int HE.out.symm, qd, rfl⟩
end Go.Proofs.YtpaoiaogcckibaaDoor
