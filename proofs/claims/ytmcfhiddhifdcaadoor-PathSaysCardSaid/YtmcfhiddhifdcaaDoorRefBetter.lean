/- What the document's better answers: which of two labels is better. Conditions: lengths are such that slices can have. -/
import Derived.Test.YtmcfhiddhifdcaaDoorRefWaysP
import Derived.Test.YtmcfhiddhifdcaaDoorCore
import Derived.Sort.Grow
namespace Go.Proofs.YtmcfhiddhifdcaaDoor
open Go.RowKit Go.Lib Go.Sort
/-- a label as a value -/
def labV (x : Int) (P : Option Addr) (n c : Nat) : Value := .agg #[.int .i64 x, .slice P n c]
def BetterOK (w : World) (b : Bool) (e : Ending) (w' : World) : Prop := e = .returned (.bool b) ∧ ∃ q os, w' = grow (w.drewN q) os
theorem two_grow (w : World) (a b : Obj) (q : Nat) : ((w.alloc a).alloc b).drewN q = grow (w.drewN q) #[a, b] := by
  rw [alloc_eq_grow, alloc_eq_grow, grow_grow]; rfl
set_option maxHeartbeats 2000000 in
set_option maxRecDepth 100000 in
theorem refBetter (x y : Int) (P Q : Option Addr) (n m c d : Nat) (xs ys : List Int) (w : World) (hP : Cells w w.heap.size P (ints xs)) (hn : xs.length = n) (hQ : Cells w w.heap.size Q (ints ys)) (hm : ys.length = m) (hn8 : n ≤ 9223372036854775806) :
    Calls Tryd.prog 19 #[labV x P n c, labV y Q m d] w (BetterOK w (betterB (x, xs) (y, ys))) := by
  have HN := Lib.hid hn
  have HM := Lib.hid hm
  have HGR := Lib.hid (two_grow w (.cells #[.int .i64 x, .slice P n c] 47) (.cells #[.int .i64 y, .slice Q m d] 47))
  have hb2 : Below w.heap.size w ((w.alloc (.cells #[.int .i64 x, .slice P n c] 47)).alloc (.cells #[.int .i64 y, .slice Q m d] 47)) := ((Below.refl _ _).alloc (Nat.le_refl _) _).alloc (by simp) _
  have HR2 : Hid (Row ((w.alloc (.cells #[.int .i64 x, .slice P n c] 47)).alloc (.cells #[.int .i64 y, .slice Q m d] 47)) w.heap.size 47 [.int .i64 x, .slice P n c]) := (Row.new _ _ _).alloc _
  have HR3 : Hid (Row ((w.alloc (.cells #[.int .i64 x, .slice P n c] 47)).alloc (.cells #[.int .i64 y, .slice Q m d] 47)) (w.heap.size + 1) 47 [.int .i64 y, .slice Q m d]) := by
    have := Row.new (w.alloc (.cells #[.int .i64 x, .slice P n c] 47)) 47 #[.int .i64 y, .slice Q m d]
    show Row _ _ _ _
    simpa using this
  have HP := Lib.hid (hP.below hb2 (Nat.le_refl _))
  have HQ := Lib.hid (hQ.below hb2 (Nat.le_refl _))
  clear hP hn hQ hm hb2
  unfold labV
  go_enter Tryd.func19, Tryd.ntmps19
  go_upto_region 1 with fail
  generalize (w.alloc (.cells #[.int .i64 x, .slice P n c] 47)).alloc (.cells #[.int .i64 y, .slice Q m d] 47) = wb at HGR HR2 HR3 HP HQ ⊢
  have g0 := HR2.out.cell 0
  have g1 := HR2.out.cell 1
  have k0 := HR3.out.cell 0
  have k1 := HR3.out.cell 1
  by_cases hm0 : m = 0
  · have HE : Hid (betterB (x, xs) (y, ys) = true) := if_pos (List.eq_nil_of_length_eq_zero (by rw [HM.out, hm0]))
    have z : ((m : Int) == 0) = true := by rw [hm0]; rfl
    clear hm0
    go_wp2
    go_ret
    exact ⟨ret_bool HE.out.symm, 0, _, HGR.out 0⟩
  · have HNE : Hid (¬ ys = []) := fun h => hm0 (by rw [← HM.out, h]; rfl)
    have z : ((m : Int) == 0) = false := beq_eq_false_iff_ne.2 (by omega)
    by_cases hxy : x = y
    · have zx : (x != y) = false := by simp [hxy]
      by_cases hnm : n = m
      · have zn : ((n : Int) != (m : Int)) = false := by simp [hnm]
        have HE : Hid (betterB (x, xs) (y, ys) = lexB xs ys) := by
          show _ = _
          unfold betterB
          rw [if_neg HNE.out, if_pos hxy, if_pos (by rw [HN.out, HM.out, hnm])]
        have HMN := Lib.hid hnm.symm
        clear hxy hnm hm0
        go_wp2
        go_loopw [5] (fun i wr => ∃ (k q : Nat), k ≤ n ∧ i = .int .i64 k ∧ wr = wb.drewN q ∧ Hid (lexB (xs.drop k) (ys.drop k) = lexB xs ys)) (fun i _ => n - (intOf i).toNat)
        case atStart => exact ⟨0, 0, Nat.zero_le _, rfl, rfl, rfl⟩
        case round =>
          obtain ⟨k, q, hk, rfl, rfl, HT⟩ := hrel
          by_cases hlt : k < n
          · have hlz : (k : Int) < n := by omega
            have hltm : k < m := by rw [HMN.out]; exact hlt
            have hlzm : (k : Int) < m := by omega
            have hk0 : (0 : Int) ≤ k := by omega
            obtain ⟨b, off, u, rfl, _, hx, hc⟩ := ints_at HP.out (show k < xs.length by rw [HN.out]; exact hlt)
            obtain ⟨b', off', v, rfl, _, hy, hc'⟩ := ints_at HQ.out (show k < ys.length by rw [HM.out]; exact hltm)
            have HX := Lib.hid (drop_at hx)
            have HY := Lib.hid (drop_at hy)
            clear hx hy
            by_cases huv : u = v
            · have HS : Hid (lexB (xs.drop (k + 1)) (ys.drop (k + 1)) = lexB xs ys) := by
                show _ = _
                rw [← HT.out, HX.out, HY.out, lexB, if_pos huv]
              have zu : (u != v) = false := by simp [huv]
              clear huv
              go_wp2
              go_quiet (fail)
              go_wp2
              go_roundw
              case rel => exact ⟨k + 1, _, by omega, by go_num, rfl, HS⟩
              case measure => simp [intOf]; omega
            · have zu : (u != v) = true := by rw [bne_iff_ne]; exact huv
              have HF : Hid (betterB (x, xs) (y, ys) = decide (u < v)) := by
                show _ = _
                rw [HE.out, ← HT.out, HX.out, HY.out, lexB, if_neg huv]
              clear huv
              go_wp2
              go_quiet (fail)
              go_wp2
              go_quiet (fail)
              go_wp2
              go_ret
              exact ⟨ret_bool HF.out.symm, _, _, by simp only [World.drewN_drewN]; exact HGR.out _⟩
          · have hlz : ¬ (k : Int) < n := by omega
            have HF : Hid (betterB (x, xs) (y, ys) = false) := by
              show _ = _
              rw [HE.out, ← HT.out, drop_end (by rw [HN.out]; omega)]; rfl
            go_wp2
            go_ret
            exact ⟨ret_bool HF.out.symm, q, _, HGR.out q⟩
      · have zn : ((n : Int) != (m : Int)) = true := by rw [bne_iff_ne]; omega
        have HE : Hid (betterB (x, xs) (y, ys) = decide (n < m)) := by
          show _ = _
          unfold betterB
          rw [if_neg HNE.out, if_pos hxy, if_neg (by rw [HN.out, HM.out]; exact hnm), HN.out, HM.out]
        clear hxy hnm hm0
        go_wp2
        go_ret
        exact ⟨ret_bool HE.out.symm, 0, _, HGR.out 0⟩
    · have zx : (x != y) = true := by rw [bne_iff_ne]; exact hxy
      have HE : Hid (betterB (x, xs) (y, ys) = decide (x < y)) := by
        show _ = _
        unfold betterB
        rw [if_neg HNE.out, if_neg hxy]
      clear hxy hm0
      go_wp2
      go_ret
      exact ⟨ret_bool HE.out.symm, 0, _, HGR.out 0⟩
end Go.Proofs.YtmcfhiddhifdcaaDoor
