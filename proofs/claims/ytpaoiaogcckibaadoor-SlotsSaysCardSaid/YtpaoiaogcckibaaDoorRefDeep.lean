/- What the document's own Deep answers: at the times when one begins there are as many as ever. Conditions: the spans are ones that may be. -/
import Derived.Test.YtpaoiaogcckibaaDoorSlotsRoomsP
import Derived.Test.YtpaoiaogcckibaaDoorSlotsCheck
namespace Go.Proofs.YtpaoiaogcckibaaDoor
open Go.RowKit
def deepAt (l : List Sp) : Nat → Int
  | 0 => 0
  | k + 1 => max (deepAt l k) (cnt l (spAt l (k : Int)).1)
theorem filter_le_of {α : Type} (p q : α → Bool) : ∀ l : List α, (∀ x ∈ l, p x = true → q x = true) → (l.filter p).length ≤ (l.filter q).length := by
  intro l
  induction l with
  | nil => intro _; simp
  | cons x l ih =>
    intro h
    have h1 := ih fun y hy => h y (by simp [hy])
    cases hp : p x with
    | true => rw [List.filter_cons_of_pos hp, List.filter_cons_of_pos (h x (by simp) hp)]; simpa using h1
    | false =>
      rw [List.filter_cons_of_neg (by simp [hp])]
      refine Nat.le_trans h1 ?_
      cases hq : q x with
      | true => rw [List.filter_cons_of_pos hq]; simp
      | false => rw [List.filter_cons_of_neg (by simp [hq])]; exact Nat.le_refl _
/-- of those that have a time one begins last -/
theorem last_begun (t : Int) : ∀ l : List Sp, (∃ x ∈ l, x.1 ≤ t ∧ t < x.2) → ∃ x ∈ l, (x.1 ≤ t ∧ t < x.2) ∧ ∀ y ∈ l, y.1 ≤ t ∧ t < y.2 → y.1 ≤ x.1 := by
  intro l
  induction l with
  | nil => rintro ⟨x, hx, _⟩; simp at hx
  | cons z l ih =>
    rintro ⟨x, hx, hc⟩
    by_cases hz : z.1 ≤ t ∧ t < z.2
    · by_cases he : ∃ x ∈ l, x.1 ≤ t ∧ t < x.2
      · obtain ⟨y, hy, hyc, hm⟩ := ih he
        by_cases hzy : y.1 ≤ z.1
        · refine ⟨z, by simp, hz, fun u hu huc => ?_⟩
          rcases List.mem_cons.1 hu with rfl | hu
          · exact Int.le_refl _
          · have := hm u hu huc; omega
        · refine ⟨y, by simp [hy], hyc, fun u hu huc => ?_⟩
          rcases List.mem_cons.1 hu with rfl | hu
          · omega
          · exact hm u hu huc
      · refine ⟨z, by simp, hz, fun u hu huc => ?_⟩
        rcases List.mem_cons.1 hu with rfl | hu
        · exact Int.le_refl _
        · exact absurd ⟨u, hu, huc⟩ he
    · rcases List.mem_cons.1 hx with rfl | hx
      · exact absurd hc hz
      · obtain ⟨y, hy, hyc, hm⟩ := ih ⟨x, hx, hc⟩
        refine ⟨y, by simp [hy], hyc, fun u hu huc => ?_⟩
        rcases List.mem_cons.1 hu with rfl | hu
        · exact absurd huc hz
        · exact hm u hu huc
theorem deepAt_ge (l : List Sp) : ∀ (n k : Nat), k < n → cnt l (spAt l (k : Int)).1 ≤ deepAt l n := by
  intro n
  induction n with
  | zero => intro k h; omega
  | succ n ih =>
    intro k h
    simp only [deepAt]
    by_cases e : k = n
    · subst e; omega
    · have := ih k (by omega); omega
theorem deepAt_is {l : List Sp} (hs : ∀ x ∈ l, (0 ≤ x.1 ∧ x.1 < x.2) ∧ x.2 ≤ 1000) : deepAt l l.length = deepV l := by
  have hin : ∀ i : Nat, i < l.length → spAt l (i : Int) ∈ l := fun i hi => by unfold spAt; rw [List.getD_eq_getElem?_getD, List.getElem?_eq_getElem (by omega), Option.getD_some]; exact List.getElem_mem _
  have h1 : ∀ n : Nat, n ≤ l.length → 0 ≤ deepAt l n ∧ deepAt l n ≤ deepV l := by
    intro n
    induction n with
    | zero => intro _; exact ⟨Int.le_refl _, (deepUp_le l 1001).1⟩
    | succ n ih =>
      intro hn
      have h2 := ih (by omega)
      have h3 := hs _ (hin n (by omega))
      have h4 := deep_of_cnt l (spAt l (n : Int)).1.toNat (by omega)
      rw [show (((spAt l (n : Int)).1.toNat : Nat) : Int) = (spAt l (n : Int)).1 by omega] at h4
      simp only [deepAt]; omega
  have h2 := h1 l.length (Nat.le_refl _)
  rcases deepUp_at l 1001 with h0 | ⟨t, ht, hd⟩
  · unfold deepV at h2 ⊢; omega
  · have hd2 : deepV l = cnt l t := hd
    by_cases hc : ∃ x ∈ l, x.1 ≤ (t : Int) ∧ (t : Int) < x.2
    · obtain ⟨x, hx, hxc, hm⟩ := last_begun t l hc
      obtain ⟨k, hk, hke⟩ := List.getElem_of_mem hx
      have hsk : spAt l (k : Int) = x := by
        obtain ⟨x1, x2⟩ := x
        exact spAt_nat (by rw [List.getElem?_eq_getElem hk, hke])
      have h5 : cnt l t ≤ cnt l x.1 := by
        unfold cnt
        have := filter_le_of (fun y : Sp => decide (y.1 ≤ (t : Int) ∧ (t : Int) < y.2)) (fun y : Sp => decide (y.1 ≤ x.1 ∧ x.1 < y.2)) l (fun y hy h => by
          have h := of_decide_eq_true h
          exact decide_eq_true ⟨hm y hy h, by omega⟩)
        omega
      have h6 := deepAt_ge l l.length k hk
      rw [hsk] at h6
      omega
    · have h5 : cnt l t = 0 := by
        unfold cnt
        rw [List.filter_eq_nil_iff.2 fun y hy h => hc ⟨y, hy, of_decide_eq_true h⟩]; rfl
      omega
set_option maxHeartbeats 1000000 in
set_option maxRecDepth 100000 in
theorem refDeep (A : Option Addr) (n c : Nat) (l : List Sp) (w : World) (hA : Cells w w.heap.size A (pairs l)) (hn : l.length = n) (he : spansErr l = 0) :
    Calls Tryd.prog 53 #[.slice A n c] w fun e w' => e = .returned (.int .i64 (deepV l)) ∧ ∃ q, w' = w.drewN q := by
  have HN := Lib.hid hn
  have HE := Lib.hid (deepAt_is (spansErr_ok he).2)
  have hn24 : n ≤ 24 := by have := (spansErr_ok he).1; omega
  have HA := Lib.hid hA
  clear hn he hA
  go_enter Tryd.func53, Tryd.ntmps53
  go_wp2
  go_loopw [4, 3] (fun iv mv wr => ∃ (k : Nat) (y : Int), k ≤ n ∧ iv = .int .i64 (k : Int) ∧ mv = .int .i64 y ∧ Hid (y = deepAt l k) ∧ Hid (∃ q, wr = w.drewN q)) (fun iv _ _ => n - (intOf iv).toNat)
  case atStart => exact ⟨0, 0, Nat.zero_le _, rfl, rfl, rfl, 0, rfl⟩
  case round =>
    obtain ⟨k, y, hk, rfl, rfl, HY, HQ⟩ := hrel
    by_cases hlt : k < n
    · have hlz : (k : Int) < n := by omega
      obtain ⟨b, off, x1, y1, rfl, hbb, h1, hc1, hd1⟩ := pairs_at HA.out (show k < l.length by rw [HN.out]; exact hlt)
      have HX := Lib.hid (spAt_nat h1)
      clear h1 hd1
      go_wp2
      go_loopw [6, 5] (fun jv nv wr => ∃ (j : Nat) (z : Int), j ≤ n ∧ jv = .int .i64 (j : Int) ∧ nv = .int .i64 z ∧ 0 ≤ z ∧ z ≤ j ∧ Hid (z = cnt (l.take j) x1) ∧ Hid (∃ q, wr = w.drewN q)) (fun jv _ _ => n - (intOf jv).toNat)
      case atStart => exact ⟨0, 0, Nat.zero_le _, rfl, rfl, by omega, by omega, by show _ = _; simp [cnt], HQ.out⟩
      case round =>
        clear HQ
        obtain ⟨j, z, hj, rfl, rfl, hz0, hz1, HZ, HQ⟩ := hrel
        obtain ⟨qd, rfl⟩ := HQ.out
        clear HQ
        by_cases hjn : j < n
        · have hjz : (j : Int) < n := by omega
          obtain ⟨b', off', x2, y2, hbe, _, h2, hc2, hd2⟩ := pairs_at HA.out (show j < l.length by rw [HN.out]; exact hjn)
          simp only [Option.some.injEq, Addr.mk.injEq, and_true] at hbe
          obtain ⟨rfl, rfl⟩ := hbe
          have HNX : Hid (cnt (l.take (j + 1)) x1 = z + if x2 ≤ x1 ∧ x1 < y2 then 1 else 0) := by show _ = _; rw [take_at h2, cnt_snoc, HZ.out]
          clear h2
          by_cases ha : x2 ≤ x1
          · have ha0 : decide (x2 ≤ x1) = true := decide_eq_true ha
            by_cases hb : x1 < y2
            · have hb0 : decide (x1 < y2) = true := decide_eq_true hb
              have HZ2 : Hid (z + 1 = cnt (l.take (j + 1)) x1) := by show _ = _; rw [HNX.out, if_pos ⟨ha, hb⟩]
              go_wp2
              go_quiet (fail)
              go_wp2
              go_roundw
              case rel => exact ⟨j + 1, z + 1, by omega, by go_num, rfl, by omega, by omega, HZ2, _, rfl⟩
              case measure => simp [intOf]; omega
            · have hb0 : decide (x1 < y2) = false := decide_eq_false hb
              have HZ2 : Hid (z = cnt (l.take (j + 1)) x1) := by show _ = _; rw [HNX.out, if_neg (fun h => hb h.2)]; simp
              go_wp2
              go_quiet (fail)
              go_wp2
              go_roundw
              case rel => exact ⟨j + 1, z, by omega, by go_num, rfl, by omega, by omega, HZ2, _, rfl⟩
              case measure => simp [intOf]; omega
          · have ha0 : decide (x2 ≤ x1) = false := decide_eq_false ha
            have HZ2 : Hid (z = cnt (l.take (j + 1)) x1) := by show _ = _; rw [HNX.out, if_neg (fun h => ha h.1)]; simp
            go_wp2
            go_quiet (fail)
            go_wp2
            go_roundw
            case rel => exact ⟨j + 1, z, by omega, by go_num, rfl, by omega, by omega, HZ2, _, rfl⟩
            case measure => simp [intOf]; omega
        · have hje : j = n := by omega
          subst hje
          have hjz : ¬ (j : Int) < j := by omega
          have HZ2 : Hid (deepAt l (k + 1) = max y z) := by
            show _ = _
            simp only [deepAt]
            rw [HX.out, ← HY.out, HZ.out, List.take_of_length_le (by rw [HN.out]; omega)]
          by_cases hyz : y < z
          · have HY2 : Hid (z = deepAt l (k + 1)) := by show _ = _; rw [HZ2.out]; omega
            go_wp2
            go_roundw
            case rel => exact ⟨k + 1, z, by omega, by go_num, rfl, HY2, _, rfl⟩
            case measure => simp [intOf]; omega
          · have HY2 : Hid (y = deepAt l (k + 1)) := by show _ = _; rw [HZ2.out]; omega
            go_wp2
            go_roundw
            case rel => exact ⟨k + 1, y, by omega, by go_num, rfl, HY2, _, rfl⟩
            case measure => simp [intOf]; omega
    · have hlz : ¬ (k : Int) < n := by omega
      obtain ⟨qd, rfl⟩ := HQ.out
      have HEE : Hid (y = deepV l) := by show _ = _; rw [HY.out, ← HE.out, show k = l.length by rw [HN.out]; omega]
      clear HQ
      go_wp2
      go_ret
      exact ⟨ret_int HEE.out, qd, rfl⟩
end Go.Proofs.YtpaoiaogcckibaaDoor
