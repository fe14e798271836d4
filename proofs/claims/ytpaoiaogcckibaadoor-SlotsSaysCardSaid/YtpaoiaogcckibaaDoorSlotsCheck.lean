/- What slots.Check answers, and the spans' order. Conditions: lengths are such that slices can have. -/
import Derived.Test.YtpaoiaogcckibaaDoorCore
import Derived.Test.YtpaoiaogcckibaaDoorSlotsPlain
namespace Go.Proofs.YtpaoiaogcckibaaDoor
open Go.RowKit
/-- what is wrong with spans, one behind the other -/
def spansFrom : List Sp → Int
  | [] => 0
  | x :: l => if inB x.1 0 1000 = true ∧ inB x.2 0 1000 = true then (if x.2 ≤ x.1 then 3 else spansFrom l) else 1
def spansErr (l : List Sp) : Int := if 24 < l.length then 4 else spansFrom l
set_option maxHeartbeats 1000000 in
theorem slotsCheck (A : Option Addr) (n c : Nat) (l : List Sp) (w : World) (hA : Cells w w.heap.size A (pairs l)) (hn : l.length = n) (hm : n ≤ 9223372036854775807) :
    Calls Tryd.prog 50 #[.slice A n c] w fun e w' => e = .returned (errV (spansErr l)) ∧ Below w.heap.size w w' := by
  have HN := Lib.hid hn
  by_cases hf : 24 < n
  · have hz : (24 : Int) < n := by omega
    have HE : Hid (errV (spansErr l) = .iface 91 (.int .i64 4)) := by show _ = _; unfold spansErr; rw [if_pos (by omega)]; rfl
    clear hn hA
    go_enter Tryd.func50, Tryd.ntmps50
    go_wp2
    go_ret
    exact ⟨by rw [HE.out]; rfl, Below.refl _ _⟩
  · have hz : ¬ (24 : Int) < n := by omega
    have HP : Hid (spansErr l = spansFrom l) := by show _ = _; unfold spansErr; rw [if_neg (by omega)]
    clear hn
    go_enter Tryd.func50, Tryd.ntmps50
    go_wp2
    go_loopw [11] (fun i wr => ∃ k : Nat, k ≤ n ∧ i = .int .i64 k ∧ Below w.heap.size w wr ∧ Hid (spansFrom (l.drop k) = spansFrom l)) (fun i _ => n - (intOf i).toNat)
    case atStart => exact ⟨0, Nat.zero_le _, rfl, Below.refl _ _, rfl⟩
    case round =>
      obtain ⟨k, hk, rfl, hb, HI⟩ := hrel
      by_cases hlt : k < n
      · have hlz : (k : Int) < n := by omega
        obtain ⟨b, off, x, y, rfl, hbb, hx, hc0, hc1⟩ := pairs_at hA (show k < l.length by rw [HN.out]; exact hlt)
        have HX := Lib.hid (drop_at hx)
        rw [← hb.cell hbb] at hc0 hc1
        have hsz := hb.size
        clear hx hA
        have HS : Hid (inB x 0 1000 = true → inB y 0 1000 = true → ¬ y ≤ x → spansFrom (l.drop (k + 1)) = spansFrom l) := fun e1 e2 e3 => by
          rw [← HI.out, HX.out]; simp [spansFrom, e1, e2, e3]
        have HT : Hid (¬ (inB x 0 1000 = true ∧ inB y 0 1000 = true) → errV (spansErr l) = .iface 91 (.int .i64 1)) := fun e1 => by
          rw [HP.out, ← HI.out, HX.out]; simp only [spansFrom]; rw [if_neg e1]; rfl
        have HU : Hid (inB x 0 1000 = true → inB y 0 1000 = true → y ≤ x → errV (spansErr l) = .iface 91 (.int .i64 3)) := fun e1 e2 e3 => by
          rw [HP.out, ← HI.out, HX.out]; simp only [spansFrom]; rw [if_pos ⟨e1, e2⟩, if_pos e3]; rfl
        clear HI HX HP
        cases h1 : inB x 0 1000 with
        | false =>
          go_wp2_with (go_at_call 73; refine (within _ _ _ _).mono ?_; rintro e w' ⟨rfl, rfl⟩)
          go_ret
          exact ⟨congrArg _ (HT.out (by simp [h1])).symm, hb.alloc hsz _⟩
        | true =>
          cases h2 : inB y 0 1000 with
          | false =>
            go_wp2_with (go_at_call 73; refine (within _ _ _ _).mono ?_; rintro e w' ⟨rfl, rfl⟩)
            go_ret
            exact ⟨congrArg _ (HT.out (by simp [h2])).symm, hb.alloc hsz _⟩
          | true =>
            by_cases h3 : y ≤ x
            · have HH := Lib.hid (HU.out h1 h2 h3)
              go_wp2_with (go_at_call 73; refine (within _ _ _ _).mono ?_; rintro e w' ⟨rfl, rfl⟩)
              go_ret
              exact ⟨congrArg _ HH.out.symm, hb.alloc hsz _⟩
            · have HH := Lib.hid (HS.out h1 h2 h3)
              go_wp2_with (go_at_call 73; refine (within _ _ _ _).mono ?_; rintro e w' ⟨rfl, rfl⟩)
              go_roundw
              case rel => exact ⟨k + 1, by omega, by go_num, hb.alloc hsz _, HH.out⟩
              case measure => simp [intOf]; omega
      · have hlz : ¬ (k : Int) < n := by omega
        have HE : Hid (errV (spansErr l) = .nilIface) := by
          show _ = _
          rw [HP.out, ← HI.out, drop_end (by rw [HN.out]; omega)]; rfl
        go_wp2
        go_ret
        exact ⟨congrArg _ HE.out.symm, hb⟩
theorem spansFrom_ok : ∀ (l : List Sp), spansFrom l = 0 → ∀ x ∈ l, (0 ≤ x.1 ∧ x.1 < x.2) ∧ x.2 ≤ 1000 := by
  intro l
  induction l with
  | nil => intro _ p hp; simp at hp
  | cons q l ih =>
    intro h p hp
    simp only [spansFrom] at h
    split at h
    · next e =>
      split at h
      · simp at h
      · next e2 =>
        rcases List.mem_cons.1 hp with rfl | hp
        · have h1 := of_inB e.1
          have h2 := of_inB e.2
          omega
        · exact ih h p hp
    · simp at h
theorem spansFrom_of {l : List Sp} (hp : ∀ x ∈ l, (0 ≤ x.1 ∧ x.1 < x.2) ∧ x.2 ≤ 1000) : spansFrom l = 0 := by
  induction l with
  | nil => rfl
  | cons p l ih =>
    have h0 := hp p (by simp)
    simp only [spansFrom]
    rw [if_pos ⟨inB_true (by omega), inB_true (by omega)⟩, if_neg (by omega)]
    exact ih fun q hq => hp q (by simp [hq])
theorem spansErr_ok {l : List Sp} (h : spansErr l = 0) : l.length ≤ 24 ∧ ∀ x ∈ l, (0 ≤ x.1 ∧ x.1 < x.2) ∧ x.2 ≤ 1000 := by
  unfold spansErr at h
  split at h
  · simp at h
  · exact ⟨by omega, spansFrom_ok l h⟩
theorem spansErr_of {l : List Sp} (h : l.length ≤ 24) (hp : ∀ x ∈ l, (0 ≤ x.1 ∧ x.1 < x.2) ∧ x.2 ≤ 1000) : spansErr l = 0 := by
  unfold spansErr
  rw [if_neg (by omega)]; exact spansFrom_of hp
end Go.Proofs.YtpaoiaogcckibaaDoor
