/- What the document's own answer says is wrong with jobs: Jobs, Whole. Conditions: lengths are such that slices can have. -/
import Derived.Test.YtpaoiaogcckibaaDoorDueA
import Derived.Test.YtpaoiaogcckibaaDoorWhole
import Derived.Test.YtpaoiaogcckibaaDoorIn4
namespace Go.Proofs.YtpaoiaogcckibaaDoor
open Go.RowKit
set_option maxHeartbeats 1000000 in
theorem refJobs (A : Option Addr) (n c : Nat) (l : List Job) (w : World) (hA : Cells w w.heap.size A (jobs l)) (hn : l.length = n) (hm : n ≤ 9223372036854775807) :
    Calls Tryd.prog 32 #[.slice A n c] w fun e w' => e = .returned (.int .i64 (jobErr l)) ∧ ∃ q, w' = w.drewN q := by
  have HN := Lib.hid hn
  by_cases hf : 16 < n
  · have hz : (16 : Int) < n := by omega
    have HE : Hid (jobErr l = 4) := by show _ = _; unfold jobErr; rw [if_pos (by omega)]
    clear hn hA
    go_enter Tryd.func32, Tryd.ntmps32
    go_wp2
    go_ret
    exact ⟨ret_int HE.out.symm, 0, rfl⟩
  · have hz : ¬ (16 : Int) < n := by omega
    have HP : Hid (jobErr l = jobErrFrom l) := by show _ = _; unfold jobErr; rw [if_neg (by omega)]
    clear hn
    go_enter Tryd.func32, Tryd.ntmps32
    go_wp2
    go_loopw [3] (fun i wr => ∃ k : Nat, k ≤ n ∧ i = .int .i64 k ∧ (∃ q, wr = w.drewN q) ∧ Hid (jobErrFrom (l.drop k) = jobErrFrom l)) (fun i _ => n - (intOf i).toNat)
    case atStart => exact ⟨0, Nat.zero_le _, rfl, ⟨0, rfl⟩, rfl⟩
    case round =>
      obtain ⟨k, hk, rfl, ⟨q, rfl⟩, HI⟩ := hrel
      by_cases hlt : k < n
      · have hlz : (k : Int) < n := by omega
        obtain ⟨b, off, x, y, z, rfl, hbb, hx, hc0, hc1, hc2⟩ := jobs_at hA (show k < l.length by rw [HN.out]; exact hlt)
        have HX := Lib.hid (drop_at hx)
        clear hx hA
        have HS : Hid (inB x 1 1000 = true → inB y 0 1000 = true → inB z 0 1000 = true → jobErrFrom (l.drop (k + 1)) = jobErrFrom l) := fun e1 e2 e3 => by
          rw [← HI.out, HX.out]; simp [jobErrFrom, e1, e2, e3]
        have HT : Hid (¬ (inB x 1 1000 = true ∧ inB y 0 1000 = true ∧ inB z 0 1000 = true) → jobErr l = 1) := fun e1 => by
          rw [HP.out, ← HI.out, HX.out]; simp only [jobErrFrom]; rw [if_neg e1]
        clear HI HX HP
        cases h1 : inB x 1 1000 with
        | false =>
          go_wp2_with (go_at_call 81; refine (in4_ _ _ _ _).mono ?_; rintro e w' ⟨rfl, rfl⟩)
          go_ret
          exact ⟨ret_int (HT.out (by simp [h1])).symm, _, rfl⟩
        | true =>
          cases h2 : inB y 0 1000 with
          | false =>
            go_wp2_with (go_at_call 81; refine (in4_ _ _ _ _).mono ?_; rintro e w' ⟨rfl, rfl⟩)
            go_ret
            exact ⟨ret_int (HT.out (by simp [h2])).symm, _, rfl⟩
          | true =>
            cases h3 : inB z 0 1000 with
            | false =>
              go_wp2_with (go_at_call 81; refine (in4_ _ _ _ _).mono ?_; rintro e w' ⟨rfl, rfl⟩)
              go_ret
              exact ⟨ret_int (HT.out (by simp [h3])).symm, _, rfl⟩
            | true =>
              go_wp2_with (go_at_call 81; refine (in4_ _ _ _ _).mono ?_; rintro e w' ⟨rfl, rfl⟩)
              go_roundw
              case rel => exact ⟨k + 1, by omega, by go_num, ⟨_, rfl⟩, HS.out h1 h2 h3⟩
              case measure => simp [intOf]; omega
      · have hlz : ¬ (k : Int) < n := by omega
        have HE : Hid (jobErr l = 0) := by
          show _ = _
          rw [HP.out, ← HI.out, drop_end (by rw [HN.out]; omega)]; rfl
        go_wp2
        go_ret
        exact ⟨ret_int HE.out.symm, q, rfl⟩
set_option maxHeartbeats 1000000 in
theorem refWhole (n : Int) (A : Option Addr) (m c : Nat) (o : List Int) (w : World) (hA : Cells w w.heap.size A (ints o)) (hn : o.length = m) (hm : m ≤ 9223372036854775807) :
    Calls Tryd.prog 35 #[.int .i64 n, .slice A m c] w fun e w' => e = .returned (.int .i64 (whole n o)) ∧ ∃ q, w' = w.drewN q := by
  have HN := Lib.hid hn
  by_cases hne : n = m
  · subst hne
    have HP : Hid (whole m o = wholeFrom m [] o) := by show _ = _; unfold whole; rw [if_pos (by omega)]
    clear hn
    go_enter Tryd.func35, Tryd.ntmps35
    go_wp2
    go_loopw [5] (fun i wr => ∃ (k : Nat), k ≤ m ∧ i = .int .i64 k ∧ (∃ q, wr = w.drewN q) ∧ Hid (wholeFrom m (o.take k).reverse (o.drop k) = wholeFrom m [] o)) (fun i _ => m - (intOf i).toNat)
    case atStart => exact ⟨0, Nat.zero_le _, rfl, ⟨0, rfl⟩, rfl⟩
    case round =>
      obtain ⟨k, hk, rfl, ⟨q, rfl⟩, HI⟩ := hrel
      by_cases hlt : k < m
      · have hlz : (k : Int) < m := by omega
        obtain ⟨b, off, x, rfl, hbb, hx, hc0⟩ := ints_at hA (show k < o.length by rw [HN.out]; exact hlt)
        have HX := Lib.hid (drop_at hx)
        have HX2 := Lib.hid (take_at hx)
        cases h1 : inB x 0 (m - 1) with
        | false =>
          have HT : Hid (whole m o = 1) := by
            show _ = _
            rw [HP.out, ← HI.out, HX.out]; simp only [wholeFrom]; rw [if_neg (by simp [h1])]
          clear HI HX HX2 HP hx hA
          go_wp2_with (go_at_call 81; refine (in4_ _ _ _ _).mono ?_; rintro e w' ⟨rfl, rfl⟩)
          go_ret
          exact ⟨ret_int HT.out.symm, _, rfl⟩
        | true =>
          have HA := Lib.hid hA
          have HT : Hid (x ∈ o.take k → whole m o = 6) := fun hin => by
            rw [HP.out, ← HI.out, HX.out]; simp only [wholeFrom]; rw [if_pos h1, if_pos (by simpa using hin)]
          have HS : Hid (x ∉ o.take k → wholeFrom m (o.take (k + 1)).reverse (o.drop (k + 1)) = wholeFrom m [] o) := fun hin => by
            rw [← HI.out, HX.out, HX2.out]; simp only [wholeFrom]; rw [if_pos h1, if_neg (by simpa using hin)]; simp
          have HXX := Lib.hid hx
          clear HI HX HX2 HP hx hA
          go_wp2_with (go_at_call 81; refine (in4_ _ _ _ _).mono ?_; rintro e w' ⟨rfl, rfl⟩)
          go_loopw [6] (fun i wr => ∃ (j : Nat), j ≤ k ∧ i = .int .i64 j ∧ (∃ q, wr = w.drewN q) ∧ Hid (x ∉ o.take j)) (fun i _ => k - (intOf i).toNat)
          case atStart => exact ⟨0, Nat.zero_le _, rfl, ⟨_, rfl⟩, by show _ ∉ _; simp⟩
          case round =>
            obtain ⟨j, hj, rfl, ⟨q, rfl⟩, HJ⟩ := hrel
            by_cases hjt : j < k
            · have hjz : (j : Int) < k := by omega
              have hjm : (j : Int) < m := by omega
              obtain ⟨b', off', y, hbe, _, hy, hcy⟩ := ints_at HA.out (show j < o.length by rw [HN.out]; omega)
              simp only [Option.some.injEq, Addr.mk.injEq, and_true] at hbe
              obtain ⟨rfl, rfl⟩ := hbe
              have HY := Lib.hid hy
              have HY2 := Lib.hid (take_at hy)
              clear hy
              by_cases hxy : y = x
              · subst hxy
                have HE := Lib.hid (HT.out (List.mem_of_getElem? (show (o.take k)[j]? = some y by rw [List.getElem?_take, if_pos hjt]; exact HY.out)))
                clear HT HS
                go_wp2
                go_quiet (fail)
                go_wp2
                go_ret
                exact ⟨ret_int HE.out.symm, _, World.drewN_drewN _ _ _⟩
              · have hd : (y == x) = false := by simpa using hxy
                have HJ2 : Hid (x ∉ o.take (j + 1)) := by
                  show _ ∉ _
                  rw [HY2.out]; simp [HJ.out, Ne.symm hxy]
                clear hxy
                go_wp2
                go_quiet (fail)
                go_wp2
                go_roundw
                case rel => exact ⟨j + 1, by omega, by go_num, ⟨_, rfl⟩, HJ2⟩
                case measure => simp [intOf]; omega
            · have hjk : j = k := by omega
              subst hjk
              have hjz : ¬ (j : Int) < j := by omega
              have HE := Lib.hid (HS.out HJ.out)
              clear HT HS
              go_wp2
              go_roundw
              case rel => exact ⟨j + 1, by omega, by go_num, ⟨_, rfl⟩, HE⟩
              case measure => simp [intOf]; omega
      · have hlz : ¬ (k : Int) < m := by omega
        have HE : Hid (whole m o = 0) := by
          show _ = _
          rw [HP.out, ← HI.out, drop_end (by rw [HN.out]; omega)]; rfl
        go_wp2
        go_ret
        exact ⟨ret_int HE.out.symm, q, rfl⟩
  · have HE : Hid (whole n o = 3) := by show _ = _; unfold whole; rw [if_neg (by omega)]
    have hz : ((m : Int) != n) = true := by rw [bne_iff_ne]; omega
    clear hn hA
    go_enter Tryd.func35, Tryd.ntmps35
    go_wp2
    go_ret
    exact ⟨ret_int HE.out.symm, 0, rfl⟩
end Go.Proofs.YtpaoiaogcckibaaDoor
