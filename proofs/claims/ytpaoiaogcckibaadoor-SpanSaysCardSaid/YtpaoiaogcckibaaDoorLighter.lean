/- Which of two edges is the lighter one, as the document's text asks it, and as span.Prim's closure does. Conditions: lengths are such that slices can have. -/
import Derived.Test.YtpaoiaogcckibaaDoorPrimP
import Derived.Test.YtpaoiaogcckibaaDoorSpanCheck
import Derived.Deep.RegionHeld3
namespace Go.Proofs.YtpaoiaogcckibaaDoor
open Go.RowKit
set_option maxHeartbeats 1000000 in
/-- ricksteadref3.Lighter -/
theorem lighter_ (x : Int) (A : Option Addr) (n c i j : Nat) (l : List Edge) (w : World) (hA : Cells w w.heap.size A (edges l)) (hn : l.length = n) (hi : i < n) (hj : j < n) (_hm : n ≤ 9223372036854775807) :
    Calls Tryd.prog 121 #[graphV x A n c, .int .i64 (i : Int), .int .i64 (j : Int)] w fun e w' => e = .returned (.bool (ltB l i j)) ∧ Below w.heap.size w w' := by
  obtain ⟨b, off, a1, b1, t1, rfl, hbb1, h1, _, _, hc1⟩ := edges_at hA (show i < l.length by omega)
  obtain ⟨b', off', a2, b2, t2, hbb, _, h2, _, _, hc2⟩ := edges_at hA (show j < l.length by omega)
  simp only [Option.some.injEq, Addr.mk.injEq, and_true] at hbb
  obtain ⟨rfl, rfl⟩ := hbb
  have hiz : (i : Int) < n := by omega
  have hjz : (j : Int) < n := by omega
  have hC : ∀ bb : Bool, ((t1 < t2 ∨ t1 = t2 ∧ (i : Int) < j) ↔ bb = true) → ltB l i j = bb := fun bb hb => by
    have e1 : wOf l (i : Int) = t1 := by unfold wOf; rw [eAt_of h1]
    have e2 : wOf l (j : Int) = t2 := by unfold wOf; rw [eAt_of h2]
    unfold ltB
    rw [e1, e2]
    cases bb with
    | true => exact decide_eq_true (hb.2 rfl)
    | false => exact decide_eq_false fun h => by have := hb.1 h; cases this
  have HC := Lib.hid hC
  have HB1 : Hid (Below w.heap.size w (w.alloc (.cells #[.int .i64 x, .slice (some ⟨b, off, none⟩) n c] 40))) := (Below.refl _ _).alloc (Nat.le_refl _) _
  have HR1 : Hid (Row (w.alloc (.cells #[.int .i64 x, .slice (some ⟨b, off, none⟩) n c] 40)) w.heap.size 40 [.int .i64 x, .slice (some ⟨b, off, none⟩) n c]) := Row.new _ _ _
  rw [← HB1.out.cell hbb1] at hc1 hc2
  clear h1 h2 hA hn hC
  unfold graphV
  go_enter Tryd.func121, Tryd.ntmps121
  go_upto_region 1 with fail
  generalize w.alloc (.cells #[.int .i64 x, .slice (some ⟨b, off, none⟩) n c] 40) = w1 at HB1 HR1 hc1 hc2 ⊢
  have hq1 := HR1.out.cell 1
  by_cases hlt : t1 < t2
  · have HV := Lib.hid (HC.out true (by simp [hlt]))
    have hd1 : decide (t1 < t2) = true := decide_eq_true hlt
    go_wp2
    go_quiet (fail)
    go_wp2
    go_ret
    exact ⟨ret_bool HV.out.symm, below_drewN HB1.out _⟩
  · have hd1 : decide (t1 < t2) = false := decide_eq_false hlt
    by_cases heq : t1 = t2
    · subst heq
      by_cases hij : i < j
      · have HV := Lib.hid (HC.out true (by simp [hij]))
        have hd3 : decide (i < j) = true := decide_eq_true hij
        go_wp2
        go_quiet (fail)
        go_wp2
        go_ret
        exact ⟨ret_bool HV.out.symm, below_drewN HB1.out _⟩
      · have HV := Lib.hid (HC.out false (by simp [hij]))
        have hd3 : decide (i < j) = false := decide_eq_false hij
        go_wp2
        go_quiet (fail)
        go_wp2
        go_ret
        exact ⟨ret_bool HV.out.symm, below_drewN HB1.out _⟩
    · have HV := Lib.hid (HC.out false (by simp [hlt, heq]))
      have hd2 : (t1 == t2) = false := by simpa using heq
      go_wp2
      go_quiet (fail)
      go_wp2
      go_ret
      exact ⟨ret_bool HV.out.symm, below_drewN HB1.out _⟩
set_option maxHeartbeats 1000000 in
/-- the closure of span.Prim: it reads the boxed graph -/
theorem primLess (A : Option Addr) (n c bx i j : Nat) (l : List Edge) (w : World) (hA : Cells w w.heap.size A (edges l)) (hn : l.length = n) (hbx : w.cell? ⟨bx, 1, none⟩ = some (.slice A n c)) (hi : i < n) (hj : j < n) (_hm : n ≤ 9223372036854775807) :
    Calls Tryd.prog 102 #[.int .i64 (i : Int), .int .i64 (j : Int), .pointer (some ⟨bx, 0, none⟩)] w fun e w' => e = .returned (.bool (ltB l i j)) ∧ Below w.heap.size w w' := by
  obtain ⟨b, off, a1, b1, t1, rfl, hbb1, h1, _, _, hc1⟩ := edges_at hA (show i < l.length by omega)
  obtain ⟨b', off', a2, b2, t2, hbb, _, h2, _, _, hc2⟩ := edges_at hA (show j < l.length by omega)
  simp only [Option.some.injEq, Addr.mk.injEq, and_true] at hbb
  obtain ⟨rfl, rfl⟩ := hbb
  have hiz : (i : Int) < n := by omega
  have hjz : (j : Int) < n := by omega
  have hC : ∀ bb : Bool, ((t1 < t2 ∨ t1 = t2 ∧ (i : Int) < j) ↔ bb = true) → ltB l i j = bb := fun bb hb => by
    have e1 : wOf l (i : Int) = t1 := by unfold wOf; rw [eAt_of h1]
    have e2 : wOf l (j : Int) = t2 := by unfold wOf; rw [eAt_of h2]
    unfold ltB
    rw [e1, e2]
    cases bb with
    | true => exact decide_eq_true (hb.2 rfl)
    | false => exact decide_eq_false fun h => by have := hb.1 h; cases this
  have HC := Lib.hid hC
  have HB1 : Hid (Below w.heap.size w w) := Below.refl _ _
  clear h1 h2 hA hn hC hbb1
  go_enter Tryd.func102, Tryd.ntmps102
  by_cases hlt : t1 < t2
  · have HV := Lib.hid (HC.out true (by simp [hlt]))
    have hd1 : decide (t1 < t2) = true := decide_eq_true hlt
    go_wp2
    go_quiet (fail)
    go_wp2
    go_ret
    exact ⟨ret_bool HV.out.symm, below_drewN HB1.out _⟩
  · have hd1 : decide (t1 < t2) = false := decide_eq_false hlt
    by_cases heq : t1 = t2
    · subst heq
      by_cases hij : i < j
      · have HV := Lib.hid (HC.out true (by simp [hij]))
        have hd3 : decide (i < j) = true := decide_eq_true hij
        go_wp2
        go_quiet (fail)
        go_wp2
        go_ret
        exact ⟨ret_bool HV.out.symm, below_drewN HB1.out _⟩
      · have HV := Lib.hid (HC.out false (by simp [hij]))
        have hd3 : decide (i < j) = false := decide_eq_false hij
        go_wp2
        go_quiet (fail)
        go_wp2
        go_ret
        exact ⟨ret_bool HV.out.symm, below_drewN HB1.out _⟩
    · have HV := Lib.hid (HC.out false (by simp [hlt, heq]))
      have hd2 : (t1 == t2) = false := by simpa using heq
      go_wp2
      go_quiet (fail)
      go_wp2
      go_ret
      exact ⟨ret_bool HV.out.symm, below_drewN HB1.out _⟩
end Go.Proofs.YtpaoiaogcckibaaDoor
