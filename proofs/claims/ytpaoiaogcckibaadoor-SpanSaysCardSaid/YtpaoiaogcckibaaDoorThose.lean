/- What span.those tells: the places of what is in. Conditions: at most 40. -/
import Derived.Test.YtpaoiaogcckibaaDoorBoruvkaP
import Derived.Test.YtpaoiaogcckibaaDoorBRow
import Derived.Test.YtpaoiaogcckibaaDoorKruskal
namespace Go.Proofs.YtpaoiaogcckibaaDoor
open Go.RowKit
theorem insOf_succ (k : Nat) (ib : Nat → Bool) : insOf (k + 1) ib = insOf k ib ++ (if ib k = true then [(k : Int)] else []) := by
  unfold insOf upto
  rw [List.range_succ, List.map_append, List.filter_append]
  congr 1
  cases h : ib k <;> simp [h]
theorem insOf_len (k : Nat) (ib : Nat → Bool) : (insOf k ib).length ≤ k := by
  unfold insOf
  have h1 := List.length_filter_le (fun i : Int => ib i.toNat) (upto k)
  rw [upto_len] at h1
  exact h1
/-- a row of edges' places, told -/
def RowOK (w : World) (xs : List Int) (e : Ending) (w' : World) : Prop :=
  ∃ V c, e = .returned (.slice V xs.length c) ∧ w'.ownsRow w.heap.size 3 1 (.slice V xs.length c) xs.length (ints xs) ∧ Below w.heap.size w w'
set_option maxHeartbeats 2000000 in
set_option maxRecDepth 100000 in
theorem those_ (A : Option Addr) (n c : Nat) (ib : Nat → Bool) (w : World) (hA : Cells w w.heap.size A (bRow n ib)) (hn : n ≤ 40) :
    Calls Tryd.prog 100 #[.slice A n c] w (RowOK w (insOf n ib)) := by
  have HO0 : Hid (w.ownsRow w.heap.size 3 1 (.slice none 0 0) 0 []) := World.ownsRow_nil _ _ _ _
  go_enter Tryd.func100, Tryd.ntmps100
  go_wp2
  go_loopw [7, 2] (fun i v wr => ∃ (k m : Nat) (V : Option Addr) (cv : Nat), i = .int .i64 (k : Int) ∧ k ≤ n ∧ v = .slice V m cv ∧ m ≤ k ∧ Hid (m = (insOf k ib).length) ∧ Hid (wr.ownsRow w.heap.size 3 1 (.slice V m cv) m (ints (insOf k ib))) ∧ Hid (Below w.heap.size w wr)) (fun i _ _ => n - (intOf i).toNat)
  case atStart => exact ⟨0, 0, none, 0, rfl, by omega, rfl, by omega, rfl, HO0.out, Below.refl _ _⟩
  case round =>
    clear HO0
    obtain ⟨k, m, V, cv, rfl, hk, rfl, hmk, HM, HO, HB⟩ := hrel
    by_cases hlt : k < n
    · have hlz : (k : Int) < n := by omega
      obtain ⟨b, off, rfl, hb, hc⟩ := hA (by simp [bRow]; omega)
      have hck := hc k _ (bRow_at hlt)
      rw [← HB.out.cell (p := ⟨b, off + k, none⟩) hb] at hck
      have HS := Lib.hid (insOf_succ k ib)
      have hsz := HB.out.size
      cases hib : ib k with
      | true =>
        rw [hib] at hck
        have HS2 : Hid (insOf (k + 1) ib = insOf k ib ++ [(k : Int)]) := by show _ = _; rw [HS.out, if_pos hib]
        have HNEW := Lib.hid (fun i => (Row.new wr 3 #[.int .i64 (k : Int)]).cell i)
        have hm1 : (m + 1) * 8 ≤ 140737488355328 := by omega
        have hm2 : m + 1 ≤ 9223372036854775807 := by omega
        clear hib hc HS
        go_wp2_with (at_builtin; refine wp_push _ rfl (.tmp 13) (.tmp 15) 29 rfl w.heap.size 3 1 8 _ Tryd.underlying29 info_int rfl (by omega) V m cv (ints (insOf k ib)) rfl (HO.out.alloc _) wr.heap.size 1 [.int .i64 (k : Int)] rfl rfl (fun i u hu => (HNEW.out i).trans hu) (by intro u hu; simp at hu; subst hu; rfl) hm1 hm2 (by simp; omega) ?_; intro g1 c1 w9 ho9 hb9 hg9 hgr9 hat9)
        have HO9 := Lib.hid ho9
        have HB9 : Hid (Below w.heap.size w w9) := (HB.out.alloc hsz _).trans hb9
        clear ho9 hb9 hgr9 hat9
        go_roundw
        case rel =>
          refine ⟨k + 1, m + 1, _, c1, by go_num, by omega, rfl, by omega, by show _ = _; rw [HS2.out, List.length_append, ← HM.out]; rfl, ?_, HB9.out⟩
          show World.ownsRow _ _ _ _ _ _ _
          rw [HS2.out, ints_append]; exact HO9.out
        case measure => simp [intOf]; omega
      | false =>
        rw [hib] at hck
        have HS2 : Hid (insOf (k + 1) ib = insOf k ib) := by show _ = _; rw [HS.out, if_neg (by rw [hib]; simp), List.append_nil]
        clear hib hc HS
        go_wp2
        go_roundw
        case rel =>
          refine ⟨k + 1, m, V, cv, by go_num, by omega, rfl, by omega, by show _ = _; rw [HS2.out]; exact HM.out, ?_, HB.out⟩
          show World.ownsRow _ _ _ _ _ _ _
          rw [HS2.out]; exact HO.out
        case measure => simp [intOf]; omega
    · have hkn : k = n := by omega
      subst hkn
      have hlz : ¬ (k : Int) < k := by omega
      go_wp2
      go_ret
      exact ⟨V, cv, by rw [HM.out]; rfl, by rw [← HM.out]; exact HO.out, HB.out⟩
end Go.Proofs.YtpaoiaogcckibaaDoor
