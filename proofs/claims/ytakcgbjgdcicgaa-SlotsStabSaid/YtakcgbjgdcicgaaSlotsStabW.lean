/- The walk of SlotsStab. Conditions: lengths are such that slices can have. -/
import Derived.Test.YtakcgbjgdcicgaaSlotsApart
namespace Go.Proofs.Ytakcgbjgdcicgaa
open Go.RowKit
/-- is a span seen by the first of those that are picked? -/
def seenB (l : List Sp) (x0 x1 : Int) (xs : List Int) : Bool := xs.any fun p => decide (x0 ≤ (spAt l p).2 - 1 ∧ (spAt l p).2 - 1 < x1)
theorem seenB_snoc (l : List Sp) (x0 x1 : Int) (xs : List Int) (p : Int) : seenB l x0 x1 (xs ++ [p]) = (seenB l x0 x1 xs || decide (x0 ≤ (spAt l p).2 - 1 ∧ (spAt l p).2 - 1 < x1)) := by simp [seenB]
theorem seenB_all {l : List Sp} {x0 x1 : Int} {xs : List Int} {p : Int} (hp : p ∈ xs) (h : x0 < (spAt l p).2 ∧ (spAt l p).2 ≤ x1) : seenB l x0 x1 xs = true := by
  unfold seenB
  rw [List.any_eq_true]
  exact ⟨p, hp, decide_eq_true (by omega)⟩
set_option maxHeartbeats 4000000 in
set_option maxRecDepth 100000 in
theorem slotsStabW (A : Option Addr) (n c : Nat) (l : List Sp) (w : World) (hA : Cells w w.heap.size A (pairs l)) (hn : l.length = n) (hm : n * 16 ≤ 140737488351232)
    (_ : ∀ x ∈ l, (-9223372036854775808 ≤ x.1 ∧ x.1 ≤ 9223372036854775807) ∧ (-9223372036854775808 ≤ x.2 ∧ x.2 ≤ 9223372036854775807)) :
    Calls Try.prog 4 #[.slice A n c] w fun e w' => e = .returned (.bool true) ∧ Below w.heap.size w w' := by
  have HN := Lib.hid hn
  have c0 := Lib.hid (slotsFact w)
  clear hn
  go_enter Try.func4, Try.ntmps4
  go_wp2_with fail
  refine c0.out.mono ?_
  rintro e w1 ⟨rfl, hb1⟩
  have HB1 := Lib.hid hb1
  have hA1 := hA.step hb1
  clear c0 hb1 hA
  by_cases he : spansErr l = 0
  · have c1 := Lib.hid (slotsPick_ok A n c l w1 hA1 HN.out he)
    obtain ⟨hl24, hsp⟩ := spansErr_ok he
    have HSP := Lib.hid hsp
    have hn24 : n ≤ 24 := by have := HN.out; omega
    clear he hl24 hsp
    go_wp2_with fail
    refine c1.out.mono ?_
    rintro e w2 ⟨V, cv, xs, rfl, hp, _, hown, hb2⟩
    have HB2 : Hid (Below w.heap.size w w2) := HB1.out.trans (hb2.mono HB1.out.size)
    have hA2 := hA1.step hb2
    have hX2 := hown.own (by omega)
    have hxl : xs.length ≤ 24 := by
      have h1 := len_le_of_sub xs (upto l.length) (List.nodup_iff_pairwise_ne.2 (hp.apart.2.imp fun h => h.1)) (fun x hx => (mem_upto _ _).2 (hp.apart.1 x hx))
      rw [upto_len] at h1
      have := HN.out
      omega
    have HP := Lib.hid hp
    clear c1 hb2 hown hA1 hp HB1
    go_wp2
    go_loop [6] (fun i => ∃ k : Nat, i = .int .i64 (k : Int) ∧ k ≤ n) (fun i => n - (intOf i).toNat)
    case atStart => exact ⟨0, rfl, by omega⟩
    case round =>
      obtain ⟨k, rfl, hk⟩ := hrel
      by_cases hlt : k < n
      · have hlz : (k : Int) < n := by omega
        obtain ⟨b, off, x0, x1, hAA, hbb, hx, hc0, hc1⟩ := pairs_at hA2 (show k < l.length by rw [HN.out]; exact hlt)
        have HS0 := Lib.hid (spAt_nat hx)
        have hr0 := HSP.out _ (List.mem_of_getElem? hx)
        simp only at hr0
        have HR0 := Lib.hid hr0
        have HSEEN : Hid (seenB l x0 x1 xs = true) := by
          obtain ⟨p, h1, h2, h3⟩ := HP.out.stab k (by omega) (by have := HN.out; omega)
          rw [HS0.out] at h2 h3
          exact seenB_all h1 ⟨h2, h3⟩
        clear hx hr0
        go_wp2
        go_loop [8, 7, 9] (fun i sv _ => ∃ j : Nat, i = .int .i64 (j : Int) ∧ j ≤ xs.length ∧ sv = .bool (seenB l x0 x1 (xs.take j))) (fun i _ _ => xs.length - (intOf i).toNat)
        case atStart => exact ⟨0, rfl, by omega, by simp [seenB]⟩
        case round =>
          obtain ⟨j, rfl, hj, rfl⟩ := hrel
          by_cases hjl : j < xs.length
          · have hjz : (j : Int) < xs.length := by omega
            obtain ⟨bb, boff, p, hVV, _, hp, hcp⟩ := ints_at hX2 hjl
            have hpr := HP.out.apart.1 p (List.mem_of_getElem? hp)
            obtain ⟨p, rfl⟩ : ∃ z : Nat, p = z := ⟨p.toNat, by omega⟩
            have hpn : p < n := by have := HN.out; omega
            have hp1 : ¬ (p : Int) < 0 := by omega
            have hp2 : ¬ (n : Int) ≤ (p : Int) := by omega
            obtain ⟨b2, off2, y0, y1, hA3, _, hy, hd0, hd1⟩ := pairs_at hA2 (show p < l.length by rw [HN.out]; exact hpn)
            rw [hAA] at hA3
            simp only [Option.some.injEq, Addr.mk.injEq, and_true] at hA3
            obtain ⟨rfl, rfl⟩ := hA3
            have hyr := HSP.out _ (List.mem_of_getElem? hy)
            simp only at hyr
            obtain ⟨⟨hy0, hy1⟩, hy2⟩ := hyr
            have HT : Hid (seenB l x0 x1 (xs.take (j + 1)) = (seenB l x0 x1 (xs.take j) || decide (x0 ≤ y1 - 1 ∧ y1 - 1 < x1))) := by
              show _ = _
              rw [take_at hp, seenB_snoc, spAt_nat hy]
            obtain ⟨sv, hsv⟩ : ∃ s, s = seenB l x0 x1 (xs.take j) := ⟨_, rfl⟩
            rw [← hsv] at HT ⊢
            clear hsv hp hy hpr
            subst hAA hVV
            cases sv with
            | true =>
              have HT2 : Hid (seenB l x0 x1 (xs.take (j + 1)) = true) := by show _ = _; rw [HT.out]; rfl
              clear hA2 hX2
              go_wp2
              go_round
              case rel => exact ⟨j + 1, by go_num, by omega, by rw [HT2.out]⟩
              case measure => simp [intOf]; omega
            | false =>
              by_cases h1 : x0 ≤ y1 - 1
              · by_cases h2 : y1 - 1 < x1
                · have HT2 : Hid (seenB l x0 x1 (xs.take (j + 1)) = true) := by show _ = _; rw [HT.out]; simp [h1, h2]
                  clear hA2 hX2
                  go_wp2
                  go_round
                  case rel => exact ⟨j + 1, by go_num, by omega, by rw [HT2.out]⟩
                  case measure => simp [intOf]; omega
                · have HT2 : Hid (seenB l x0 x1 (xs.take (j + 1)) = false) := by show _ = _; rw [HT.out]; simp [h2]
                  have d2 : decide (y1 - 1 < x1) = false := decide_eq_false h2
                  clear hA2 hX2
                  go_wp2
                  go_round
                  case rel => exact ⟨j + 1, by go_num, by omega, by rw [HT2.out]⟩
                  case measure => simp [intOf]; omega
              · have HT2 : Hid (seenB l x0 x1 (xs.take (j + 1)) = false) := by show _ = _; rw [HT.out]; simp [h1]
                have d1 : decide (x0 ≤ y1 - 1) = false := decide_eq_false h1
                clear hA2 hX2
                go_wp2
                go_round
                case rel => exact ⟨j + 1, by go_num, by omega, by rw [HT2.out]⟩
                case measure => simp [intOf]; omega
          · have hjz : ¬ (j : Int) < xs.length := by omega
            rw [List.take_of_length_le (show xs.length ≤ j by omega), HSEEN.out]
            go_wp2
            go_round
            case rel => exact ⟨k + 1, by go_num, by omega⟩
            case measure => simp [intOf]; omega
      · have hlz : ¬ (k : Int) < n := by omega
        go_wp2
        go_ret
        exact ⟨rfl, HB2.out⟩
  · have c1 := Lib.hid (slotsPick_bad A n c l w1 hA1 HN.out (by omega) he)
    clear he
    go_wp2_with fail
    refine c1.out.mono ?_
    rintro e w2 ⟨rfl, hb2⟩
    have HB2 : Hid (Below w.heap.size w w2) := HB1.out.trans (hb2.mono HB1.out.size)
    clear c1 hb2
    go_wp2
    go_ret
    exact ⟨rfl, HB2.out⟩
end Go.Proofs.Ytakcgbjgdcicgaa
