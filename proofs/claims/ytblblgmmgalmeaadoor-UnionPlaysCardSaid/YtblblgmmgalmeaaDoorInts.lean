/- What ricksteadsame.Ints answers: are two lists of numbers the same. Conditions: lengths are such that slices can have. -/
import Derived.Test.YtblblgmmgalmeaaDoorCore
namespace Go.Proofs.YtblblgmmgalmeaaDoor
open Go.RowKit
/-- are two lists the same? -/
def eqB (xs ys : List Int) : Bool := decide (xs = ys)
theorem eqB_true {xs ys : List Int} (h : xs = ys) : eqB xs ys = true := decide_eq_true h
theorem eqB_false {xs ys : List Int} (h : xs ≠ ys) : eqB xs ys = false := decide_eq_false h

set_option maxHeartbeats 400000 in
theorem ints_same (A B : Option Addr) (n c m c' : Nat) (xs ys : List Int) (w : World) (hA : Cells w w.heap.size A (ints xs)) (hn : xs.length = n) (hm : n ≤ 9223372036854775807) (hB : Cells w w.heap.size B (ints ys)) (hn' : ys.length = m) :
    Calls Tryd.prog 16 #[.slice A n c, .slice B m c'] w fun e w' => e = .returned (.bool (eqB xs ys)) ∧ ∃ q, w' = w.drewN q := by
  by_cases hnm : n = m
  · subst hnm
    have HN := Lib.hid hn
    have HN' := Lib.hid hn'
    clear hn hn'
    go_enter Tryd.func16, Tryd.ntmps16
    go_wp2
    go_loopw [5] (fun i wr => ∃ (k q : Nat), k ≤ n ∧ i = .int .i64 k ∧ wr = w.drewN q ∧ Hid (xs.take k = ys.take k)) (fun i _ => n - (intOf i).toNat)
    case atStart => exact ⟨0, 0, Nat.zero_le _, rfl, rfl, rfl⟩
    case round =>
      obtain ⟨k, q, hk, rfl, rfl, HT⟩ := hrel
      by_cases hlt : k < n
      · have hlz : (k : Int) < n := by omega
        obtain ⟨b, off, x, rfl, _, hx, hc⟩ := ints_at hA (show k < xs.length by rw [HN.out]; exact hlt)
        obtain ⟨b', off', y, rfl, _, hy, hc'⟩ := ints_at hB (show k < ys.length by rw [HN'.out]; exact hlt)
        have HX := Lib.hid hx
        have HY := Lib.hid hy
        clear hx hy hA hB
        by_cases hxy : x = y
        · have HS : Hid (xs.take (k + 1) = ys.take (k + 1)) := by
            show _ = _
            rw [take_at HX.out, take_at HY.out, HT.out, hxy]
          subst hxy
          go_wp2
          go_quiet (fail)
          go_wp2
          go_roundw
          case rel => exact ⟨k + 1, _, by omega, by go_num, rfl, HS⟩
          case measure => simp [intOf]; omega
        · have hd : (x != y) = true := by rw [bne_iff_ne]; exact hxy
          have HE : Hid (eqB xs ys = false) := eqB_false fun e => hxy (by
            have h1 := HX.out
            rw [e, HY.out] at h1
            exact (Option.some.inj h1).symm)
          clear hxy
          go_wp2
          go_quiet (fail)
          go_wp2
          go_ret
          exact ⟨ret_bool HE.out.symm, q + nq, by rw [World.drewN_drewN]⟩
      · have hkn : k = n := by omega
        subst hkn
        have hlz : ¬ (k : Int) < k := by omega
        have HE : Hid (eqB xs ys = true) := eqB_true (by
          have := HT.out
          rwa [List.take_of_length_le (by rw [HN.out]; omega), List.take_of_length_le (by rw [HN'.out]; omega)] at this)
        go_wp2
        go_ret
        exact ⟨ret_bool HE.out.symm, _, rfl⟩
  · have HE : Hid (eqB xs ys = false) := eqB_false fun e => hnm (by rw [← hn, ← hn', e])
    have hz : ((n : Int) != m) = true := by rw [bne_iff_ne]; omega
    clear hn hn' hA hB
    go_enter Tryd.func16, Tryd.ntmps16
    go_wp2
    go_ret
    exact ⟨ret_bool HE.out.symm, 0, rfl⟩
end Go.Proofs.YtblblgmmgalmeaaDoor
