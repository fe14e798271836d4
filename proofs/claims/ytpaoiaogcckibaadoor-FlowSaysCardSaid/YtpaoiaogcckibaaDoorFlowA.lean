/- -/
import Derived.Test.YtpaoiaogcckibaaDoorCore
namespace Go.Proofs.YtpaoiaogcckibaaDoor
open Go.RowKit

/-- what is wrong with jobs for two machines, one behind the other -/
def pairErrFrom : List (Int × Int) → Int
  | [] => 0
  | p :: l => if inB p.1 0 1000 = true ∧ inB p.2 0 1000 = true then pairErrFrom l else 1
def pairErr (l : List (Int × Int)) : Int := if 16 < l.length then 4 else pairErrFrom l

set_option maxHeartbeats 400000 in
theorem flowCheck (A : Option Addr) (n c : Nat) (l : List (Int × Int)) (w : World) (hA : Cells w w.heap.size A (pairs l)) (hn : l.length = n) (hm : n ≤ 9223372036854775807) :
    Calls Tryd.prog 44 #[.slice A n c] w fun e w' => e = .returned (errV (pairErr l)) ∧ Below w.heap.size w w' := by
  have HN := Lib.hid hn
  by_cases hf : 16 < n
  · have hz : (16 : Int) < n := by omega
    have HE : Hid (errV (pairErr l) = .iface 91 (.int .i64 4)) := by show _ = _; unfold pairErr; rw [if_pos (by omega)]; rfl
    clear hn hA
    go_enter Tryd.func44, Tryd.ntmps44
    go_wp2
    go_ret
    exact ⟨by rw [HE.out]; rfl, Below.refl _ _⟩
  · have hz : ¬ (16 : Int) < n := by omega
    have HP : Hid (pairErr l = pairErrFrom l) := by show _ = _; unfold pairErr; rw [if_neg (by omega)]
    clear hn
    go_enter Tryd.func44, Tryd.ntmps44
    go_wp2
    go_loopw [11] (fun i wr => ∃ k : Nat, k ≤ n ∧ i = .int .i64 k ∧ Below w.heap.size w wr ∧ Hid (pairErrFrom (l.drop k) = pairErrFrom l)) (fun i _ => n - (intOf i).toNat)
    case atStart => exact ⟨0, Nat.zero_le _, rfl, Below.refl _ _, rfl⟩
    case round =>
      obtain ⟨k, hk, rfl, hb, HI⟩ := hrel
      by_cases hlt : k < n
      · have hlz : (k : Int) < n := by omega
        obtain ⟨b, off, x, y, rfl, hbb, hx, hc0, hc1⟩ := pairs_at hA (show k < l.length by rw [HN.out]; exact hlt)
        have HX := Lib.hid (drop_at hx)
        rw [← hb.cell hbb] at hc0 hc1
        have hsz := hb.size
        clear hx hA
        have hstep : inB x 0 1000 = true → inB y 0 1000 = true → pairErrFrom (l.drop (k + 1)) = pairErrFrom l := fun e1 e2 => by
          rw [← HI.out, HX.out]; simp [pairErrFrom, e1, e2]
        have hstop : ¬ (inB x 0 1000 = true ∧ inB y 0 1000 = true) → errV (pairErr l) = .iface 91 (.int .i64 1) := fun e1 => by
          rw [HP.out, ← HI.out, HX.out]; simp only [pairErrFrom]; rw [if_neg e1]; rfl
        have HS := Lib.hid hstep
        have HT := Lib.hid hstop
        clear hstep hstop HI HX HP
        cases h1 : inB x 0 1000 with
        | false =>
          go_wp2_with (go_at_call 73; refine (within _ _ _ _).mono ?_; rintro e w' ⟨rfl, rfl⟩)
          go_ret
          exact ⟨congrArg _ (HT.out (by simp [h1])).symm, hb.alloc hsz _⟩
        | true =>
          cases h2 : inB y 0 1000 with
          | false =>
            go_wp2_with (go_at_call 73; refine (within _ _ _ _).mono ?_; rintro e w' ⟨rfl, rfl⟩)
            go_ret
            exact ⟨congrArg _ (HT.out (by simp [h2])).symm, hb.alloc hsz _⟩
          | true =>
            go_wp2_with (go_at_call 73; refine (within _ _ _ _).mono ?_; rintro e w' ⟨rfl, rfl⟩)
            go_roundw
            case rel => exact ⟨k + 1, by omega, by go_num, hb.alloc hsz _, HS.out h1 h2⟩
            case measure => simp [intOf]; omega
      · have hlz : ¬ (k : Int) < n := by omega
        have HE : Hid (errV (pairErr l) = .nilIface) := by
          show _ = _
          rw [HP.out, ← HI.out, drop_end (by rw [HN.out]; omega)]; rfl
        go_wp2
        go_ret
        exact ⟨congrArg _ HE.out.symm, hb⟩
end Go.Proofs.YtpaoiaogcckibaaDoor
