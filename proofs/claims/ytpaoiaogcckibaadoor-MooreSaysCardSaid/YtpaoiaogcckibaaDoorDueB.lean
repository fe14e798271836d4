/- What due.Order answers: what is wrong, or an order of the jobs by when they are due. Conditions: lengths are such that slices can have. -/
import Derived.Test.YtpaoiaogcckibaaDoorDueA
import Derived.Test.YtpaoiaogcckibaaDoorSortNone
namespace Go.Proofs.YtpaoiaogcckibaaDoor
open Go.RowKit
set_option maxHeartbeats 1000000 in
theorem dueOrder_bad (A : Option Addr) (n c : Nat) (l : List Job) (w : World) (hA : Cells w w.heap.size A (jobs l)) (hn : l.length = n) (hm : n ≤ 9223372036854775807) (he : jobErr l ≠ 0) :
    Calls Tryd.prog 40 #[.slice A n c] w fun e w' => e = .returned (.tuple #[.slice none 0 0, .iface 91 (.int .i64 (jobErr l))]) ∧ Below w.heap.size w w' := by
  have HF := Lib.hid (errV_bad he)
  have hb0 : Below w.heap.size w (w.alloc (.cells #[.slice A n c] 55)) := (Below.refl _ _).alloc (Nat.le_refl _) _
  have c1 := Lib.hid (dueCheck A n c l (w.alloc (.cells #[.slice A n c] 55)) (hA.step hb0) hn hm)
  clear he hn
  go_enter Tryd.func40, Tryd.ntmps40
  go_wp2_with fail
  refine c1.out.mono ?_
  rintro e w1 ⟨rfl, hb1⟩
  rw [HF.out]
  go_wp2
  go_ret2
  exact ⟨rfl, hb0.trans (hb1.mono (by simp))⟩

set_option maxRecDepth 100000 in
set_option maxHeartbeats 1000000 in
theorem dueOrder_ok (A : Option Addr) (n c : Nat) (l : List Job) (w : World) (hA : Cells w w.heap.size A (jobs l)) (hn : l.length = n) (hm : n ≤ 9223372036854775807) (he : jobErr l = 0) :
    Calls Tryd.prog 40 #[.slice A n c] w fun e w' => ∃ (g : Nat) (ys : List Int), e = .returned (.tuple #[.slice (some ⟨g, 0, none⟩) n n, .nilIface]) ∧ IsOrd n ys ∧ ys.Pairwise (Ahead (dueC l) id) ∧
      w'.ownsRow w.heap.size 3 1 (.slice (some ⟨g, 0, none⟩) n n) n (ints ys) ∧ Below w.heap.size w w' := by
  have HE := Lib.hid he
  have HN := Lib.hid hn
  have HL := Lib.hid (jobErr_ok he)
  have hl16 : n ≤ 16 := by have := HL.out.1; omega
  have hb0 : Below w.heap.size w (w.alloc (.cells #[.slice A n c] 55)) := (Below.refl _ _).alloc (Nat.le_refl _) _
  have hbx0 : (w.alloc (.cells #[.slice A n c] 55)).cell? ⟨w.heap.size, 0, none⟩ = some (.slice A n c) := by
    simp
  have c1 := Lib.hid (dueCheck A n c l (w.alloc (.cells #[.slice A n c] 55)) (hA.step hb0) hn hm)
  have hmk := make_row 29 3 (.int .i64 0) 8 Tryd.underlying29 info_int rfl n (by omega) (by omega)
  have HB0 := Lib.hid hb0
  clear he hn hb0
  go_enter Tryd.func40, Tryd.ntmps40
  go_wp2_with fail
  refine c1.out.mono ?_
  rintro e w1 ⟨rfl, hb1⟩
  rw [HE.out, errV_zero]
  have hsz : w.heap.size + 1 ≤ w1.heap.size := by have := hb1.size; simpa using this
  have hbx : w1.cell? ⟨w.heap.size, 0, none⟩ = some (.slice A n c) := by rw [hb1.cell (by simp)]; exact hbx0
  have hbw := HB0.out.trans (hb1.mono (by simp))
  have hA1 := hA.below hbw (Nat.le_refl _)
  clear hbx0 hA c1 hb1
  go_wp2
  clear hmk
  have HR : Row (w1.alloc (.cells (madeCells #[.int .i64 0] n) 3)) w1.heap.size 3 (fillRow n 0) := by rw [← fillRow_zero]; exact Row.made _ _ _ _
  go_loopw [17] (fun i wr => ∃ k : Nat, k ≤ n ∧ i = .int .i64 k ∧ Row wr w1.heap.size 3 (fillRow n k) ∧ Below w1.heap.size w1 wr) (fun i _ => n - (intOf i).toNat)
  case atStart => exact ⟨0, Nat.zero_le _, rfl, HR, (Below.refl _ _).alloc (Nat.le_refl _) _⟩
  case round =>
    clear HR
    obtain ⟨k, hk, rfl, hr, hb⟩ := hrel
    by_cases hlt : k < n
    · have hlz : (k : Int) < n := by omega
      have hc := hr.cell k
      rw [fillRow_at hlt] at hc
      have hf := hr.frozen k
      go_wp2
      go_roundw
      case rel => exact ⟨k + 1, by omega, by go_num, by rw [← fillRow_set]; exact hr.set_ _ _, hb.setCell (Nat.le_refl _) _⟩
      case measure => simp [intOf]; omega
    · have hkn : k = n := by omega
      subst hkn
      have hlz : ¬ (k : Int) < k := by omega
      rw [fillRow_full] at hr
      have hbo := hbw.trans (hb.mono (by omega))
      by_cases hz : k = 0
      · subst hz
        have c2 := Lib.hid (sortNone (some ⟨w1.heap.size, 0, none⟩) 0 (.func (.func 85) #[] #[.pointer (some ⟨w.heap.size, 0, none⟩)]) wr)
        have HR := Lib.hid (hr.owns (base := w.heap.size) (upto_len 0) (by omega) (by simp [maxLen]))
        clear hr hbx hA1
        go_wp2_with fail
        refine c2.out.mono ?_
        rintro e w2 ⟨rfl, rfl⟩
        go_wp2
        go_ret2
        exact ⟨w1.heap.size, _, rfl, isOrd_of_perm (List.Perm.refl _), by simp [upto], HR.out, hbo⟩
      · have hbx2 : wr.cell? ⟨w.heap.size, 0, none⟩ = some (.slice A k c) := by rw [hb.cell (by simp; omega)]; exact hbx
        have hA2 := hA1.below hb (show w.heap.size ≤ w1.heap.size by omega)
        have c2 := Lib.hid (sortStable (M := k - 1) (f := 85) (cb := #[.pointer (some ⟨w.heap.size, 0, none⟩)]) (c := dueC l) (hr.owns (base := w.heap.size) (upto_len k) (by omega) (by simp only [maxLen]; omega)) (by omega) (by omega)
          (fun x hx => by have := (mem_upto k x).1 hx; omega) (upto_rising k) (weak_key fun i : Fin (k - 1 + 1) => (jobAt l i.val).due) (fun _ _ => rfl)
          (fun W hg x y hx0 hx1 hy0 hy1 => by
            have hAW : Cells W W.heap.size A (jobs l) := (hA2.keep fun p hp => World.cell?_of_block (hg.block p.block (by have := hb.size; omega) (by intro e; injection e with e; omega))).more (by have := hg.size; have := hb.size; omega)
            exact dueLess A k c w.heap.size l x y W hAW HN.out (by rw [World.cell?_of_block (hg.block w.heap.size (by have := hb.size; omega) (by intro e; injection e with e; omega))]; exact hbx2) hx0 (by omega) hy0 (by omega) hm ))
        clear hr hbx hbx2 hA1 hA2
        go_wp2_with fail
        refine c2.out.mono ?_
        rintro e w2 ⟨rfl, ys, hp, hs, ho, hg⟩
        go_wp2
        go_ret2
        exact ⟨w1.heap.size, ys, rfl, isOrd_of_perm hp, hs, ho, hbo.grown hg (by have := hbo.size; omega) (fun q hq => by injection hq with hq; omega)⟩
end Go.Proofs.YtpaoiaogcckibaaDoor
