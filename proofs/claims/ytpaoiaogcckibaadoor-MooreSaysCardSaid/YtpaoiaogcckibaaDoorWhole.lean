/- What due.Whole answers: the number of what is wrong with an order of so many things. Conditions: the order's length is one that a slice can have. -/
import Derived.Test.YtpaoiaogcckibaaDoorCore
import Derived.Test.YtpaoiaogcckibaaDoorPerm
import Derived.Test.YtpaoiaogcckibaaDoorHad
namespace Go.Proofs.YtpaoiaogcckibaaDoor
open Go.RowKit

/-- what is wrong with an order, one place behind the other -/
def wholeFrom (n : Int) : List Int → List Int → Int
  | _, [] => 0
  | had, i :: r => if inB i 0 (n - 1) = true then (if i ∈ had then 6 else wholeFrom n (i :: had) r) else 1
def whole (n : Int) (o : List Int) : Int := if (o.length : Int) = n then wholeFrom n [] o else 3

theorem wholeFrom_ok (n : Int) : ∀ (o had : List Int), wholeFrom n had o = 0 → (∀ i ∈ o, 0 ≤ i ∧ i < n) ∧ o.Nodup ∧ ∀ i ∈ o, i ∉ had := by
  intro o
  induction o with
  | nil => intro had _; simp
  | cons i r ih =>
    intro had h
    simp only [wholeFrom] at h
    split at h
    · next h1 =>
      have h1 := of_inB h1
      split at h
      · simp at h
      · next h2 =>
        obtain ⟨a, b, c⟩ := ih _ h
        refine ⟨fun j hj => ?_, List.nodup_cons.2 ⟨fun hm => c i hm (by simp), b⟩, fun j hj => ?_⟩
        · rcases List.mem_cons.1 hj with rfl | hj
          · omega
          · exact a j hj
        · rcases List.mem_cons.1 hj with rfl | hj
          · exact h2
          · exact fun hm => c j hj (by simp [hm])
    · simp at h
theorem wholeFrom_of (n : Int) : ∀ (o had : List Int), (∀ i ∈ o, 0 ≤ i ∧ i < n) → o.Nodup → (∀ i ∈ o, i ∉ had) → wholeFrom n had o = 0 := by
  intro o
  induction o with
  | nil => intro had _ _ _; rfl
  | cons i r ih =>
    intro had h1 h2 h3
    have hn := List.nodup_cons.1 h2
    simp only [wholeFrom]
    rw [if_pos (inB_true (by have := h1 i (by simp); omega)), if_neg (h3 i (by simp))]
    refine ih _ (fun j hj => h1 j (by simp [hj])) hn.2 (fun j hj hm => ?_)
    rcases List.mem_cons.1 hm with rfl | hm
    · exact hn.1 hj
    · exact h3 j (by simp [hj]) hm
theorem whole_iff (n : Nat) (o : List Int) : whole n o = 0 ↔ IsOrd n o := by
  unfold whole
  constructor
  · intro h
    split at h
    · next e =>
      obtain ⟨a, b, _⟩ := wholeFrom_ok _ _ _ h
      exact ⟨by omega, a, b⟩
    · simp at h
  · intro h
    rw [if_pos (by have := h.1; omega)]
    exact wholeFrom_of _ _ _ h.2.1 h.2.2 (by simp)

set_option maxHeartbeats 1000000 in
theorem dueWhole (n : Int) (A : Option Addr) (m c : Nat) (o : List Int) (w : World) (hA : Cells w w.heap.size A (ints o)) (hn : o.length = m) (hm : m ≤ 17592186044416) :
    Calls Tryd.prog 38 #[.int .i64 n, .slice A m c] w fun e w' => e = .returned (errV (whole n o)) ∧ Below w.heap.size w w' := by
  have HN := Lib.hid hn
  by_cases hne : n = m
  · subst hne
    have HP : Hid (whole m o = wholeFrom m [] o) := by show _ = _; unfold whole; rw [if_pos (by omega)]
    have hmk := make_row 103 4 (.bool false) 1 Tryd.underlying103 info_bool rfl m (by omega) (by omega)
    clear hn
    go_enter Tryd.func38, Tryd.ntmps38
    go_wp2
    have HR : Row (w.alloc (.cells (madeCells #[.bool false] m) 4)) w.heap.size 4 (hadRow m []) := by rw [← hadRow_nil]; exact Row.made _ _ _ _
    clear hmk
    go_loopw [17] (fun i wr => ∃ (k : Nat) (had : List Int), k ≤ m ∧ i = .int .i64 k ∧ Below w.heap.size w wr ∧ Row wr w.heap.size 4 (hadRow m had) ∧ Hid (wholeFrom m had (o.drop k) = wholeFrom m [] o)) (fun i _ => m - (intOf i).toNat)
    case atStart => exact ⟨0, [], Nat.zero_le _, rfl, (Below.refl _ _).alloc (Nat.le_refl _) _, HR, rfl⟩
    case round =>
      clear HR
      obtain ⟨k, had, hk, rfl, hb, hr, HI⟩ := hrel
      by_cases hlt : k < m
      · have hlz : (k : Int) < m := by omega
        obtain ⟨b, off, x, rfl, hbb, hx, hc0⟩ := ints_at hA (show k < o.length by rw [HN.out]; exact hlt)
        have HX := Lib.hid (drop_at hx)
        rw [← hb.cell hbb] at hc0
        clear hx hA
        cases h1 : inB x 0 (m - 1) with
        | false =>
          have HT : Hid (errV (whole m o) = .iface 91 (.int .i64 1)) := by
            show _ = _
            rw [HP.out, ← HI.out, HX.out]; simp only [wholeFrom]; rw [if_neg (by simp [h1])]; rfl
          clear HI HX HP
          go_wp2_with (go_at_call 73; refine (within _ _ _ _).mono ?_; rintro e w' ⟨rfl, rfl⟩)
          go_ret
          exact ⟨congrArg _ HT.out.symm, hb⟩
        | true =>
          obtain ⟨hx0, hx1⟩ := of_inB h1
          obtain ⟨y, rfl⟩ : ∃ y : Nat, x = y := ⟨x.toNat, by omega⟩
          have hym : y < m := by omega
          have hcy := hr.cell y
          rw [hadRow_at hym] at hcy
          have hfy := hr.frozen y
          by_cases hin : (y : Int) ∈ had
          · have HT : Hid (errV (whole m o) = .iface 91 (.int .i64 6)) := by
              show _ = _
              rw [HP.out, ← HI.out, HX.out]; simp only [wholeFrom]; rw [if_pos h1, if_pos hin]; rfl
            rw [decide_eq_true hin] at hcy
            clear HI HX HP hin
            go_wp2_with (go_at_call 73; refine (within _ _ _ _).mono ?_; rintro e w' ⟨rfl, rfl⟩)
            go_ret
            exact ⟨congrArg _ HT.out.symm, hb⟩
          · rw [decide_eq_false hin] at hcy
            have HS : Hid (wholeFrom m ((y : Int) :: had) (o.drop (k + 1)) = wholeFrom m [] o) := by
              show _ = _
              rw [← HI.out, HX.out]; simp only [wholeFrom]; rw [if_pos h1, if_neg hin]
            clear HI HX HP hin
            go_wp2_with (go_at_call 73; refine (within _ _ _ _).mono ?_; rintro e w' ⟨rfl, rfl⟩)
            go_roundw
            case rel => exact ⟨k + 1, (y : Int) :: had, by omega, by go_num, hb.setCell (Nat.le_refl _) _, by rw [← hadRow_set]; exact hr.set_ _ _, HS⟩
            case measure => simp [intOf]; omega
      · have hlz : ¬ (k : Int) < m := by omega
        have HE : Hid (errV (whole m o) = .nilIface) := by
          show _ = _
          rw [HP.out, ← HI.out, drop_end (by rw [HN.out]; omega)]; rfl
        go_wp2
        go_ret
        exact ⟨congrArg _ HE.out.symm, hb⟩
  · have HE : Hid (errV (whole n o) = .iface 91 (.int .i64 3)) := by show _ = _; unfold whole; rw [if_neg (by omega)]; rfl
    have hz : ((m : Int) != n) = true := by rw [bne_iff_ne]; omega
    clear hn hA
    go_enter Tryd.func38, Tryd.ntmps38
    go_wp2
    go_ret
    exact ⟨congrArg _ HE.out.symm, Below.refl _ _⟩
end Go.Proofs.YtpaoiaogcckibaaDoor
