/- The walk of the law on bounds, and the closed fact of the laws on two machines. Conditions: lengths are such that slices can have. -/
import Derived.Test.YtbpggecholgdkaaFlowB
namespace Go.Proofs.Ytbpggecholgdkaa
open Go.RowKit

theorem sa_perm {l m : List (Int × Int)} (h : l.Perm m) : sa l = sa m := by
  induction h with
  | nil => rfl
  | cons x _ ih => simp only [sa, ih]
  | swap x y l => simp only [sa]; omega
  | trans _ _ a b => exact a.trans b
theorem sb_perm {l m : List (Int × Int)} (h : l.Perm m) : sb l = sb m := by
  induction h with
  | nil => rfl
  | cons x _ ih => simp only [sb, ih]
  | swap x y l => simp only [sb]; omega
  | trans _ _ a b => exact a.trans b
theorem pat_at (l : List (Int × Int)) (o : List Int) : pat l o = at_ l o := by
  unfold pat at_
  exact List.map_congr_left fun i _ => by rw [List.getElem!_eq_getElem?_getD]; simp [List.getD]; rfl
theorem pat_perm {l : List (Int × Int)} {o : List Int} (h : IsOrd l.length o) : (pat l o).Perm l := by rw [pat_at]; exact at_perm l h
theorem flowErr_ok {l : List (Int × Int)} {o : List Int} (h : flowErr l o = 0) : pairErr l = 0 ∧ IsOrd l.length o := by
  unfold flowErr at h
  split at h
  · next e => exact ⟨e, (whole_iff _ _).1 h⟩
  · next e => exact absurd h e
theorem pos_of {l : List (Int × Int)} (h : pairErr l = 0) : Pos l := fun p hp => ⟨((pairErr_ok h).2 p hp).1.1, ((pairErr_ok h).2 p hp).2.1⟩
theorem pos_pat {l : List (Int × Int)} {o : List Int} (h : flowErr l o = 0) : Pos (pat l o) := fun p hp =>
  pos_of (flowErr_ok h).1 p ((pat_perm (flowErr_ok h).2).mem_iff.1 hp)
theorem flow_bounds {l : List (Int × Int)} {o : List Int} (h : flowErr l o = 0) : sa l ≤ done (pat l o) ∧ sb l ≤ done (pat l o) ∧ done (pat l o) ≤ sa l + sb l := by
  have := done_bounds _ (pos_pat h)
  rw [sa_perm (pat_perm (flowErr_ok h).2), sb_perm (pat_perm (flowErr_ok h).2)] at this
  omega

set_option maxHeartbeats 1000000 in
theorem flowFact (w : World) : Calls Try.prog 12 #[] w fun e w' => e = .returned (.bool true) ∧ Below w.heap.size w w' := by
  have c1 := fun W h1 h2 => Lib.hid (flowDone_ok (some ⟨w.heap.size, 0, none⟩) (some ⟨w.heap.size + 1, 0, none⟩) 2 2 2 2 [(3, 4), (1, 5)] [1, 0] W h1 rfl (by omega) h2 rfl (by omega) (by decide))
  have hd : Hid (done (pat [(3, 4), (1, 5)] [1, 0]) = 10) := by show _ = _; decide
  have r1 := Row.new w 30 #[.int .i64 3, .int .i64 4, .int .i64 1, .int .i64 5]
  have r2 := Row.new (w.alloc (.cells #[.int .i64 3, .int .i64 4, .int .i64 1, .int .i64 5] 30)) 3 #[.int .i64 1, .int .i64 0]
  have c2 := Lib.hid (c1 _ (r1.alloc _).cells (by have := r2.cells; simp at this ⊢; exact this)).out
  clear c1 r1 r2
  go_enter Try.func12, Try.ntmps12
  go_wp2_with fail
  refine c2.out.mono ?_
  rintro e w1 ⟨rfl, hb⟩
  rw [hd.out]
  go_wp2
  go_ret
  exact ⟨rfl, (((Below.refl _ _).alloc (Nat.le_refl _) _).alloc (by simp) _).trans (hb.mono (by simp; omega))⟩

set_option maxHeartbeats 1000000 in
theorem flowBoundsW (A : Option Addr) (n c : Nat) (A' : Option Addr) (m c' : Nat) (l : List (Int × Int)) (o : List Int) (w : World) (hA : Cells w w.heap.size A (pairs l)) (hn : l.length = n) (hm : n * 16 ≤ 140737488351232)
    (_ : ∀ x ∈ l, (-9223372036854775808 ≤ x.1 ∧ x.1 ≤ 9223372036854775807) ∧ (-9223372036854775808 ≤ x.2 ∧ x.2 ≤ 9223372036854775807)) (hA' : Cells w w.heap.size A' (ints o)) (hn' : o.length = m) (hm' : m * 8 ≤ 140737488351232) (_ : ∀ x ∈ o, -9223372036854775808 ≤ x ∧ x ≤ 9223372036854775807) :
    Calls Try.prog 4 #[.slice A n c, .slice A' m c'] w fun e w' => e = .returned (.bool true) ∧ Below w.heap.size w w' := by
  by_cases he : flowErr l o = 0
  · have HB := Lib.hid (flow_bounds he)
    have HE := Lib.hid he
    have HL := Lib.hid (pairErr_ok (flowErr_ok he).1)
    have HN := Lib.hid hn
    have hl16 : n ≤ 16 := by have := HL.out.1; omega
    clear he hn
    have c0 := Lib.hid (flowFact w)
    go_enter Try.func4, Try.ntmps4
    go_wp2_with fail
    refine c0.out.mono ?_
    rintro e w1 ⟨rfl, hb1⟩
    have c1 := Lib.hid (flowDone_ok A A' n c m c' l o w1 (hA.step hb1) HN.out (by omega) (hA'.step hb1) hn' (by omega) HE.out)
    clear c0 hn'
    go_wp2_with fail
    refine c1.out.mono ?_
    rintro e w2 ⟨rfl, hb2⟩
    have hb := hb1.trans (hb2.mono hb1.size)
    have hA2 := hA.below hb (Nat.le_refl _)
    clear hA hA' c1 hb1 hb2
    obtain ⟨d, HD⟩ : ∃ d, Hid (done (pat l o) = d) := ⟨_, rfl⟩
    rw [HD.out]
    go_wp2
    go_loop [8, 9, 10] (fun a b i => ∃ (k : Nat) (x y : Int), k ≤ n ∧ i = .int .i64 k ∧ a = .int .i64 x ∧ b = .int .i64 y ∧ 0 ≤ x ∧ x ≤ 1000 * k ∧ 0 ≤ y ∧ y ≤ 1000 * k ∧ Hid (x + sa (l.drop k) = sa l ∧ y + sb (l.drop k) = sb l)) (fun _ _ i => n - (intOf i).toNat)
    case atStart => exact ⟨0, 0, 0, Nat.zero_le _, rfl, rfl, rfl, by omega, by omega, by omega, by omega, by show _ ∧ _; simp⟩
    case round =>
      obtain ⟨k, x, y, hk, rfl, rfl, rfl, hx0, hx1, hy0, hy1, HI⟩ := hrel
      by_cases hlt : k < n
      · have hlz : (k : Int) < n := by omega
        obtain ⟨b', off', p, q, rfl, hbb', hp, hc1, hc2⟩ := pairs_at hA2 (show k < l.length by rw [HN.out]; exact hlt)
        have hpq := HL.out.2 _ (List.mem_of_getElem? hp)
        obtain ⟨⟨hp0, hp1⟩, hq0, hq1⟩ := hpq
        simp only at hp0 hp1 hq0 hq1
        have HS : Hid (x + p + sa (l.drop (k + 1)) = sa l ∧ y + q + sb (l.drop (k + 1)) = sb l) := by
          have := HI.out
          rw [drop_at hp] at this
          show _ ∧ _
          simp only [sa, sb] at this; omega
        clear hp HI hA2
        go_wp2
        go_round
        case rel => exact ⟨k + 1, x + p, y + q, by omega, by go_num, rfl, rfl, by omega, by omega, by omega, by omega, HS⟩
        case measure => simp [intOf]; omega
      · have hlz : ¬ (k : Int) < n := by omega
        have h := HI.out
        rw [drop_end (by rw [HN.out]; omega)] at h
        have hbd := HB.out
        have hd := HD.out
        simp only [sa, sb] at h
        have g1 : x ≤ d := by omega
        have g2 : y ≤ d := by omega
        have g3 : d ≤ x + y := by omega
        clear h hbd hd
        go_wp2
        go_ret
        exact ⟨rfl, hb⟩
  · have HE := Lib.hid he
    clear he
    have c0 := Lib.hid (flowFact w)
    go_enter Try.func4, Try.ntmps4
    go_wp2_with fail
    refine c0.out.mono ?_
    rintro e w1 ⟨rfl, hb1⟩
    have c1 := Lib.hid (flowDone_bad A A' n c m c' l o w1 (hA.step hb1) hn (by omega) (hA'.step hb1) hn' (by omega) HE.out)
    clear c0 hn hn'
    go_wp2_with fail
    refine c1.out.mono ?_
    rintro e w2 ⟨rfl, hb2⟩
    go_wp2
    go_ret
    exact ⟨rfl, hb1.trans (hb2.mono hb1.size)⟩
end Go.Proofs.Ytbpggecholgdkaa
