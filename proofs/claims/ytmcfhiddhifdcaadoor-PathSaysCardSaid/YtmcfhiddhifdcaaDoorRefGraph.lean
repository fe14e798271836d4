/- What the document answers is wrong with a graph. Conditions: lengths are such that slices can have. -/
import Derived.Test.YtmcfhiddhifdcaaDoorCore
import Derived.Test.YtmcfhiddhifdcaaDoorSpanCheck
namespace Go.Proofs.YtmcfhiddhifdcaaDoor
open Go.RowKit
theorem in3_ (n lo hi : Int) (w : World) :
    Calls Tryd.prog 13 #[.int .i64 n, .int .i64 lo, .int .i64 hi] w fun e w' => e = .returned (.bool (inB n lo hi)) ∧ w = w' := by
  by_cases h1 : lo ≤ n
  · by_cases h2 : n ≤ hi
    · have H := Lib.hid (inB_true ⟨h1, h2⟩)
      go_enter Tryd.func13, Tryd.ntmps13
      go_wp2
      go_ret
      exact ⟨ret_bool H.out.symm, rfl⟩
    · have H := Lib.hid (inB_false (fun h : lo ≤ n ∧ n ≤ hi => h2 h.2))
      go_enter Tryd.func13, Tryd.ntmps13
      go_wp2
      go_ret
      exact ⟨ret_bool H.out.symm, rfl⟩
  · have H := Lib.hid (inB_false (fun h : lo ≤ n ∧ n ≤ hi => h1 h.1))
    go_enter Tryd.func13, Tryd.ntmps13
    go_wp2
    go_ret
    exact ⟨ret_bool H.out.symm, rfl⟩
end Go.Proofs.YtmcfhiddhifdcaaDoor
namespace Go.Proofs.YtmcfhiddhifdcaaDoor
open Go.RowKit
set_option maxHeartbeats 1000000 in
theorem refGraph (N : Int) (A : Option Addr) (n c : Nat) (l : List Edge) (w : World) (hA : Cells w w.heap.size A (edges l)) (hn : l.length = n) (hm : n ≤ 9223372036854775807) :
    Calls Tryd.prog 4 #[graphV N A n c] w fun e w' => e = .returned (Value.int .i64 (graphErr N l)) ∧ Below w.heap.size w w' := by
  have HN := Lib.hid hn
  unfold graphV
  cases h0 : inB N 0 16 with
  | false =>
    have HE : Hid (Value.int .i64 (graphErr N l) = .int .i64 1) := by show _ = _; unfold graphErr; rw [if_neg (by simp [h0])]
    have H0 := Lib.hid h0
    clear hn hA h0
    go_enter Tryd.func4, Tryd.ntmps4
    go_wp2_with (go_at_call 13; refine (in3_ _ _ _ _).mono ?_; rintro e w' ⟨rfl, rfl⟩; rw [H0.out])
    go_ret
    exact ⟨congrArg _ HE.out.symm, (Below.refl _ _).alloc (Nat.le_refl _) _⟩
  | true =>
    have H0 := Lib.hid h0
    obtain ⟨hN0, hN1⟩ := of_inB h0
    by_cases hf : 40 < n
    · have hz : (40 : Int) < n := by omega
      have HE : Hid (Value.int .i64 (graphErr N l) = .int .i64 4) := by show _ = _; unfold graphErr; rw [if_pos h0, if_pos (by omega)]
      clear hn hA h0
      go_enter Tryd.func4, Tryd.ntmps4
      go_wp2_with (go_at_call 13; refine (in3_ _ _ _ _).mono ?_; rintro e w' ⟨rfl, rfl⟩; rw [H0.out])
      go_ret
      exact ⟨congrArg _ HE.out.symm, (Below.refl _ _).alloc (Nat.le_refl _) _⟩
    · have hz : ¬ (40 : Int) < n := by omega
      have HP : Hid (graphErr N l = edgeErr N l) := by show _ = _; unfold graphErr; rw [if_pos h0, if_neg (by omega)]
      have HR0 : Row (w.alloc (.cells #[.int .i64 N, .slice A n c] 24)) w.heap.size 24 [.int .i64 N, .slice A n c] := Row.new _ _ _
      clear hn h0
      go_enter Tryd.func4, Tryd.ntmps4
      go_wp2_with (go_at_call 13; refine (in3_ _ _ _ _).mono ?_; rintro e w' ⟨rfl, rfl⟩; rw [H0.out])
      go_loopw [3] (fun i wr => ∃ k : Nat, k ≤ n ∧ i = .int .i64 k ∧ Below w.heap.size w wr ∧ Hid (Row wr w.heap.size 24 [.int .i64 N, .slice A n c]) ∧ Hid (edgeErr N (l.drop k) = edgeErr N l)) (fun i _ => n - (intOf i).toNat)
      case atStart => exact ⟨0, Nat.zero_le _, rfl, (Below.refl _ _).alloc (Nat.le_refl _) _, HR0, rfl⟩
      case round =>
        clear HR0
        obtain ⟨k, hk, rfl, hb, HR, HI⟩ := hrel
        have hq1 := HR.out.cell 1
        by_cases hlt : k < n
        · have hlz : (k : Int) < n := by omega
          obtain ⟨b, off, x, y, z, rfl, hbb, hx, hc0, hc1, hc2⟩ := edges_at hA (show k < l.length by rw [HN.out]; exact hlt)
          have HX := Lib.hid (drop_at hx)
          rw [← hb.cell hbb] at hc0 hc1 hc2
          have hsz := hb.size
          have hg0 : ∀ O, (wr.alloc O).cell? ⟨w.heap.size, 0, none⟩ = some (.int .i64 N) := fun O => (HR.out.alloc O).cell 0
          clear hx hA
          have HS : Hid (inB x 0 (N - 1) = true → inB y 0 (N - 1) = true → inB z 0 1000 = true → edgeErr N (l.drop (k + 1)) = edgeErr N l) := fun e1 e2 e3 => by
            rw [← HI.out, HX.out]; simp [edgeErr, e1, e2, e3]
          have HT : Hid (¬ (inB x 0 (N - 1) = true ∧ inB y 0 (N - 1) = true ∧ inB z 0 1000 = true) → Value.int .i64 (graphErr N l) = .int .i64 1) := fun e1 => by
            rw [HP.out, ← HI.out, HX.out]; simp only [edgeErr]; rw [if_neg e1]
          clear HI HX HP
          cases h1 : inB x 0 (N - 1) with
          | false =>
            go_wp2_with (go_at_call 13; refine (in3_ _ _ _ _).mono ?_; rintro e w' ⟨rfl, rfl⟩)
            go_ret
            exact ⟨congrArg _ (HT.out (by simp [h1])).symm, hb.alloc hsz _⟩
          | true =>
            cases h2 : inB y 0 (N - 1) with
            | false =>
              go_wp2_with (go_at_call 13; refine (in3_ _ _ _ _).mono ?_; rintro e w' ⟨rfl, rfl⟩)
              go_ret
              exact ⟨congrArg _ (HT.out (by simp [h2])).symm, hb.alloc hsz _⟩
            | true =>
              cases h3 : inB z 0 1000 with
              | false =>
                go_wp2_with (go_at_call 13; refine (in3_ _ _ _ _).mono ?_; rintro e w' ⟨rfl, rfl⟩)
                go_ret
                exact ⟨congrArg _ (HT.out (by simp [h3])).symm, hb.alloc hsz _⟩
              | true =>
                go_wp2_with (go_at_call 13; refine (in3_ _ _ _ _).mono ?_; rintro e w' ⟨rfl, rfl⟩)
                go_roundw
                case rel => exact ⟨k + 1, by omega, by go_num, hb.alloc hsz _, HR.out.alloc _, HS.out h1 h2 h3⟩
                case measure => simp [intOf]; omega
        · have hlz : ¬ (k : Int) < n := by omega
          have HE : Hid (Value.int .i64 (graphErr N l) = .int .i64 0) := by
            show _ = _
            rw [HP.out, ← HI.out, drop_end (by rw [HN.out]; omega)]; rfl
          go_wp2
          go_ret
          exact ⟨congrArg _ HE.out.symm, hb⟩

end Go.Proofs.YtmcfhiddhifdcaaDoor
