/- What the document's own Pairs and Johnson answer. Conditions: lengths are such that slices can have; for Johnson: the times are ones that may be. -/
import Derived.Test.YtpaoiaogcckibaaDoorRefJohnP
import Derived.Test.YtpaoiaogcckibaaDoorFlowB
import Derived.Test.YtpaoiaogcckibaaDoorIn4
import Derived.Test.YtpaoiaogcckibaaDoorKeeps
import Derived.Deep.RegionHeld3
import Derived.Deep.DeepCutAuto
namespace Go.Proofs.YtpaoiaogcckibaaDoor
open Go.RowKit
set_option maxHeartbeats 1000000 in
theorem refPairs (A : Option Addr) (n c : Nat) (l : List (Int × Int)) (w : World) (hA : Cells w w.heap.size A (pairs l)) (hn : l.length = n) (hm : n ≤ 9223372036854775807) :
    Calls Tryd.prog 43 #[.slice A n c] w fun e w' => e = .returned (.int .i64 (pairErr l)) ∧ ∃ q, w' = w.drewN q := by
  have HN := Lib.hid hn
  by_cases hf : 16 < n
  · have hz : (16 : Int) < n := by omega
    have HE : Hid (pairErr l = 4) := by show _ = _; unfold pairErr; rw [if_pos (by omega)]
    clear hn hA
    go_enter Tryd.func43, Tryd.ntmps43
    go_wp2
    go_ret
    exact ⟨ret_int HE.out.symm, 0, rfl⟩
  · have hz : ¬ (16 : Int) < n := by omega
    have HP : Hid (pairErr l = pairErrFrom l) := by show _ = _; unfold pairErr; rw [if_neg (by omega)]
    clear hn
    go_enter Tryd.func43, Tryd.ntmps43
    go_wp2
    go_loop [3] (fun i => ∃ k : Nat, k ≤ n ∧ i = .int .i64 k ∧ Hid (pairErrFrom (l.drop k) = pairErrFrom l)) (fun i => n - (intOf i).toNat)
    case atStart => exact ⟨0, Nat.zero_le _, rfl, rfl⟩
    case round =>
      obtain ⟨k, hk, rfl, HI⟩ := hrel
      by_cases hlt : k < n
      · have hlz : (k : Int) < n := by omega
        obtain ⟨b, off, x, y, rfl, hbb, hx, hc0, hc1⟩ := pairs_at hA (show k < l.length by rw [HN.out]; exact hlt)
        have HX := Lib.hid (drop_at hx)
        clear hx hA
        have HS : Hid (inB x 0 1000 = true → inB y 0 1000 = true → pairErrFrom (l.drop (k + 1)) = pairErrFrom l) := fun e1 e2 => by
          rw [← HI.out, HX.out]; simp [pairErrFrom, e1, e2]
        have HT : Hid (¬ (inB x 0 1000 = true ∧ inB y 0 1000 = true) → pairErr l = 1) := fun e1 => by
          rw [HP.out, ← HI.out, HX.out]; simp only [pairErrFrom]; rw [if_neg e1]
        clear HI HX HP
        cases h1 : inB x 0 1000 with
        | false =>
          go_wp2_with (go_at_call 81; refine (in4_ _ _ _ _).mono ?_; rintro e w' ⟨rfl, rfl⟩)
          go_ret
          exact ⟨ret_int (HT.out (by simp [h1])).symm, 0, rfl⟩
        | true =>
          cases h2 : inB y 0 1000 with
          | false =>
            go_wp2_with (go_at_call 81; refine (in4_ _ _ _ _).mono ?_; rintro e w' ⟨rfl, rfl⟩)
            go_ret
            exact ⟨ret_int (HT.out (by simp [h2])).symm, 0, rfl⟩
          | true =>
            go_wp2_with (go_at_call 81; refine (in4_ _ _ _ _).mono ?_; rintro e w' ⟨rfl, rfl⟩)
            go_round
            case rel => exact ⟨k + 1, by omega, by go_num, HS.out h1 h2⟩
            case measure => simp [intOf]; omega
      · have hlz : ¬ (k : Int) < n := by omega
        have HE : Hid (pairErr l = 0) := by
          show _ = _
          rw [HP.out, ← HI.out, drop_end (by rw [HN.out]; omega)]; rfl
        go_wp2
        go_ret
        exact ⟨ret_int HE.out.symm, 0, rfl⟩
def JohnOK (w : World) (l : List (Int × Int)) (e : Ending) (w' : World) : Prop :=
  ∃ V cv o, e = .returned (.slice V o.length cv) ∧ JohnIs l o ∧ w'.ownsRow w.heap.size 3 1 (.slice V o.length cv) o.length (ints o) ∧ Below w.heap.size w w'
theorem JA.cast {l : List (Int × Int)} {v : Nat} {ys : List Int} (h : JA l v 0 ys) (hv : v = 1001) : JA l 1001 0 ys := by subst hv; exact h
set_option maxHeartbeats 4000000 in
set_option maxRecDepth 100000 in
theorem refJohnson (A : Option Addr) (n c : Nat) (l : List (Int × Int)) (w : World) (hA : Cells w w.heap.size A (pairs l)) (hn : l.length = n) (he : pairErr l = 0) :
    Calls Tryd.prog 45 #[.slice A n c] w (JohnOK w l) := by
  have HN := Lib.hid hn
  have HL := Lib.hid (pairErr_ok he).2
  have hn16 : n ≤ 16 := by have := (pairErr_ok he).1; omega
  have HA := Lib.hid hA
  clear hn he hA
  go_enter Tryd.func45, Tryd.ntmps45
  go_wp2
  go_loopw [4, 3] (fun nv ov wr => ∃ (v : Nat) (V : Option Addr) (m cv : Nat) (ys : List Int), nv = .int .i64 (v : Int) ∧ ov = .slice V m cv ∧ v ≤ 1001 ∧ m ≤ n ∧ Hid (ys.length = m) ∧ Hid (JA l v 0 ys) ∧ Hid (wr.ownsRow w.heap.size 3 1 (.slice V m cv) m (ints ys)) ∧ Hid (Below w.heap.size w wr)) (fun nv _ _ => 1001 - (intOf nv).toNat)
  case atStart => exact ⟨0, none, 0, 0, [], rfl, rfl, by omega, by omega, rfl, JA.start HL.out, World.ownsRow_nil _ _ _ _, Below.refl _ _⟩
  case round =>
    obtain ⟨v, V, m, cv, ys, rfl, rfl, hv, hm, HM, HJ, HO, HB⟩ := hrel
    by_cases hvl : v ≤ 1000
    · have hvz : (v : Int) ≤ 1000 := by omega
      go_wp2
      go_loopw [5, 3] (fun iv ov wr => ∃ (k : Nat) (V : Option Addr) (m cv : Nat) (ys : List Int), iv = .int .i64 (k : Int) ∧ ov = .slice V m cv ∧ k ≤ n ∧ m ≤ n ∧ Hid (ys.length = m) ∧ Hid (JA l v k ys) ∧ Hid (wr.ownsRow w.heap.size 3 1 (.slice V m cv) m (ints ys)) ∧ Hid (Below w.heap.size w wr)) (fun iv _ _ => n - (intOf iv).toNat)
      case atStart => exact ⟨0, V, m, cv, ys, rfl, rfl, by omega, hm, HM.out, HJ.out, HO.out, HB.out⟩
      case round =>
        clear HM HJ HO HB hm
        obtain ⟨k, V, m, cv, ys, rfl, rfl, hk, hm, HM, HJ, HO, HB⟩ := hrel
        by_cases hlt : k < n
        · have hlz : (k : Int) < n := by omega
          obtain ⟨b, off, x, y, rfl, hbb, hx, hc0, hc1⟩ := pairs_at HA.out (show k < l.length by rw [HN.out]; exact hlt)
          rw [← HB.out.cell (p := ⟨b, off + k * 2, none⟩) hbb] at hc0
          rw [← HB.out.cell (p := ⟨b, off + k * 2 + 1, none⟩) hbb] at hc1
          have HP : Hid (pairAt l k = (x, y)) := by show _ = _; simp [pairAt, hx]
          clear hx
          by_cases hxy : x ≤ y
          · have HH : Hid (isHd l k = true) := by show _ = _; unfold isHd; rw [HP.out]; exact decide_eq_true hxy
            by_cases hxv : x = v
            · have HJ2 := Lib.hid (HJ.out.take (by rw [HN.out]; exact hlt) HH.out (by rw [HP.out]; exact hxv))
              have hm2 : m + 1 ≤ n := by
                have h1 := HJ2.out.le
                rw [List.length_append, HM.out, HN.out] at h1
                exact h1
              have hd1 : decide (x ≤ y) = true := decide_eq_true hxy
              have hd2 : (x == (v : Int)) = true := by simpa using hxv
              clear hxv hxy
              go_wp2
              go_quiet (fail)
              go_upto_region 9 with fail
              have HBd := Lib.hid (below_drewN HB.out nq)
              have HOd : Hid ((wr.drewN nq).ownsRow w.heap.size 3 1 (.slice V m cv) m (ints ys)) := HO.out
              clear HB HO hc0 hc1
              generalize wr.drewN nq = w3 at HBd HOd ⊢
              have HNEW := Lib.hid (fun j => (Row.new w3 3 #[.int .i64 (k : Int)]).cell j)
              have hsz3 := HBd.out.size
              go_wp2_with (at_builtin; refine wp_push _ rfl (.tmp 38) (.tmp 40) 29 rfl w.heap.size 3 1 8 _ Tryd.underlying29 info_int rfl (by omega) V m cv (ints ys) rfl (HOd.out.alloc _) w3.heap.size 1 [.int .i64 (k : Int)] rfl rfl (fun j u hu => (HNEW.out j).trans hu) (by intro u hu; simp at hu; subst hu; rfl) (by omega) (by omega) (by rw [World.size_alloc]; omega) ?_; intro g1 c1 w4 ho4 hb4 hg4 hgr4 hat4)
              have HO4 := Lib.hid ho4
              have HB4 : Hid (Below w.heap.size w w4) := (HBd.out.alloc (by omega) _).trans hb4
              clear ho4 hb4 hgr4 hat4
              go_roundw
              case rel =>
                refine ⟨k + 1, _, m + 1, c1, ys ++ [(k : Int)], by go_num, rfl, by omega, hm2, ?_, HJ2.out, ?_, HB4.out⟩
                · show _ = _
                  rw [List.length_append, HM.out]; rfl
                · show World.ownsRow _ _ _ _ _ _ _
                  rw [ints_append]; exact HO4.out
              case measure => simp [intOf]; omega
            · have HJ2 := Lib.hid (HJ.out.skip (fun h => hxv (by have := h.2; rw [HP.out] at this; exact this)))
              have hd1 : decide (x ≤ y) = true := decide_eq_true hxy
              have hd2 : (x == (v : Int)) = false := by simpa using hxv
              clear hxv hxy
              go_wp2
              go_quiet (fail)
              go_wp2
              go_roundw
              case rel => exact ⟨k + 1, V, m, cv, ys, by go_num, rfl, by omega, hm, HM.out, HJ2.out, HO.out, below_drewN HB.out _⟩
              case measure => simp [intOf]; omega
          · have HH : Hid (isHd l k = false) := by show _ = _; unfold isHd; rw [HP.out]; exact decide_eq_false hxy
            have HJ2 := Lib.hid (HJ.out.skip (fun h => by have := h.1; rw [HH.out] at this; cases this))
            have hd1 : decide (x ≤ y) = false := decide_eq_false hxy
            go_wp2
            go_quiet (fail)
            go_wp2
            go_roundw
            case rel => exact ⟨k + 1, V, m, cv, ys, by go_num, rfl, by omega, hm, HM.out, HJ2.out, HO.out, below_drewN HB.out _⟩
            case measure => simp [intOf]; omega
        · have hkn : k = n := by omega
          subst hkn
          have hlz : ¬ (k : Int) < k := by omega
          have HJ2 : Hid (JA l ((v + 1 : Nat) : Int) 0 ys) := by
            have := HJ.out.row (by rw [HN.out]; omega)
            show JA _ _ _ _
            simpa using this
          go_wp2
          go_roundw
          case rel => exact ⟨v + 1, V, m, cv, ys, by go_num, rfl, by omega, hm, HM.out, HJ2.out, HO.out, HB.out⟩
          case measure => simp [intOf]; omega
    · have hvz : ¬ (v : Int) ≤ 1000 := by omega
      have HJA := Lib.hid (HJ.out.cast (by omega))
      clear HJ
      go_wp2
      go_loopw [6, 3] (fun nv ov wr => ∃ (u : Int) (V : Option Addr) (m2 cv : Nat) (zs : List Int), nv = .int .i64 u ∧ ov = .slice V m2 cv ∧ -1 ≤ u ∧ u ≤ 1000 ∧ m2 ≤ n + n ∧ Hid ((ys ++ zs).length = m2) ∧ Hid (JB l u 0 zs) ∧ Hid (wr.ownsRow w.heap.size 3 1 (.slice V m2 cv) m2 (ints (ys ++ zs))) ∧ Hid (Below w.heap.size w wr)) (fun nv _ _ => (intOf nv + 1).toNat)
      case atStart => exact ⟨1000, V, m, cv, [], rfl, rfl, by omega, by omega, by omega, by show _ = _; rw [List.append_nil]; exact HM.out, JB.start HL.out, by show World.ownsRow _ _ _ _ _ _ _; rw [List.append_nil]; exact HO.out, HB.out⟩
      case round =>
        clear HO HB
        obtain ⟨u, V2, m2, cv2, zs, rfl, rfl, hu0, hu1, hm2, HM2, HJ, HO, HB⟩ := hrel
        by_cases hul : 0 ≤ u
        · go_wp2
          go_loopw [7, 3] (fun iv ov wr => ∃ (k : Nat) (V : Option Addr) (m2 cv : Nat) (zs : List Int), iv = .int .i64 (k : Int) ∧ ov = .slice V m2 cv ∧ k ≤ n ∧ m2 ≤ n + n ∧ Hid ((ys ++ zs).length = m2) ∧ Hid (JB l u k zs) ∧ Hid (wr.ownsRow w.heap.size 3 1 (.slice V m2 cv) m2 (ints (ys ++ zs))) ∧ Hid (Below w.heap.size w wr)) (fun iv _ _ => n - (intOf iv).toNat)
          case atStart => exact ⟨0, V2, m2, cv2, zs, rfl, rfl, by omega, hm2, HM2.out, HJ.out, HO.out, HB.out⟩
          case round =>
            clear HM2 HJ HO HB hm2
            obtain ⟨k, V2, m2, cv2, zs, rfl, rfl, hk, hm2, HM2, HJ, HO, HB⟩ := hrel
            by_cases hlt : k < n
            · have hlz : (k : Int) < n := by omega
              obtain ⟨b, off, x, y, rfl, hbb, hx, hc0, hc1⟩ := pairs_at HA.out (show k < l.length by rw [HN.out]; exact hlt)
              rw [← HB.out.cell (p := ⟨b, off + k * 2, none⟩) hbb] at hc0
              rw [← HB.out.cell (p := ⟨b, off + k * 2 + 1, none⟩) hbb] at hc1
              have HP : Hid (pairAt l k = (x, y)) := by show _ = _; simp [pairAt, hx]
              clear hx
              by_cases hxy : y < x
              · have HH : Hid (isHd l k = false) := by show _ = _; unfold isHd; rw [HP.out]; exact decide_eq_false (by simp only; omega)
                by_cases hxv : y = u
                · have HJ2 := Lib.hid (HJ.out.take (by rw [HN.out]; exact hlt) HH.out (by rw [HP.out]; exact hxv))
                  have hm3 : m2 + 1 ≤ n + n := by
                    have h1 := HJ2.out.le
                    have h2 := HJA.out.le
                    have h3 := HM2.out
                    rw [List.length_append] at h1 h3
                    rw [HN.out] at h1 h2
                    simp only [List.length_cons, List.length_nil] at h1
                    omega
                  have hd1 : decide (y < x) = true := decide_eq_true hxy
                  have hd2 : (y == u) = true := by simpa using hxv
                  clear hxv hxy
                  go_wp2
                  go_quiet (fail)
                  go_upto_region 17 with fail
                  have HBd := Lib.hid (below_drewN HB.out nq)
                  have HOd : Hid ((wr.drewN nq).ownsRow w.heap.size 3 1 (.slice V2 m2 cv2) m2 (ints (ys ++ zs))) := HO.out
                  clear HB HO hc0 hc1
                  generalize wr.drewN nq = w3 at HBd HOd ⊢
                  have HNEW := Lib.hid (fun j => (Row.new w3 3 #[.int .i64 (k : Int)]).cell j)
                  have hsz3 := HBd.out.size
                  go_wp2_with (at_builtin; refine wp_push _ rfl (.tmp 72) (.tmp 74) 29 rfl w.heap.size 3 1 8 _ Tryd.underlying29 info_int rfl (by omega) V2 m2 cv2 (ints (ys ++ zs)) rfl (HOd.out.alloc _) w3.heap.size 1 [.int .i64 (k : Int)] rfl rfl (fun j u hu => (HNEW.out j).trans hu) (by intro u hu; simp at hu; subst hu; rfl) (by omega) (by omega) (by rw [World.size_alloc]; omega) ?_; intro g1 c1 w4 ho4 hb4 hg4 hgr4 hat4)
                  have HO4 := Lib.hid ho4
                  have HB4 : Hid (Below w.heap.size w w4) := (HBd.out.alloc (by omega) _).trans hb4
                  clear ho4 hb4 hgr4 hat4
                  go_roundw
                  case rel =>
                    refine ⟨k + 1, _, m2 + 1, c1, zs ++ [(k : Int)], by go_num, rfl, by omega, hm3, ?_, HJ2.out, ?_, HB4.out⟩
                    · show _ = _
                      rw [← List.append_assoc, List.length_append, HM2.out]; rfl
                    · show World.ownsRow _ _ _ _ _ _ _
                      rw [← List.append_assoc, ints_append]; exact HO4.out
                  case measure => simp [intOf]; omega
                · have HJ2 := Lib.hid (HJ.out.skip (fun h => hxv (by have := h.2; rw [HP.out] at this; exact this)))
                  have hd1 : decide (y < x) = true := decide_eq_true hxy
                  have hd2 : (y == u) = false := by simpa using hxv
                  clear hxv hxy
                  go_wp2
                  go_quiet (fail)
                  go_wp2
                  go_roundw
                  case rel => exact ⟨k + 1, V2, m2, cv2, zs, by go_num, rfl, by omega, hm2, HM2.out, HJ2.out, HO.out, below_drewN HB.out _⟩
                  case measure => simp [intOf]; omega
              · have HH : Hid (isHd l k = true) := by show _ = _; unfold isHd; rw [HP.out]; exact decide_eq_true (by simp only; omega)
                have HJ2 := Lib.hid (HJ.out.skip (fun h => by have := h.1; rw [HH.out] at this; cases this))
                have hd1 : decide (y < x) = false := decide_eq_false hxy
                go_wp2
                go_quiet (fail)
                go_wp2
                go_roundw
                case rel => exact ⟨k + 1, V2, m2, cv2, zs, by go_num, rfl, by omega, hm2, HM2.out, HJ2.out, HO.out, below_drewN HB.out _⟩
                case measure => simp [intOf]; omega
            · have hkn : k = n := by omega
              subst hkn
              have hlz : ¬ (k : Int) < k := by omega
              have HJ2 : Hid (JB l (u - 1) 0 zs) := HJ.out.row (by rw [HN.out]; omega)
              go_wp2
              go_roundw
              case rel => exact ⟨u - 1, V2, m2, cv2, zs, by go_num, rfl, by omega, by omega, hm2, HM2.out, HJ2.out, HO.out, HB.out⟩
              case measure => simp [intOf]; omega
        · have hue : u = -1 := by omega
          subst hue
          go_wp2
          go_ret
          have h1 := HM2.out
          subst h1
          exact ⟨V2, cv2, ys ++ zs, rfl, ⟨ys, zs, rfl, HJA.out, HJ.out⟩, HO.out, HB.out⟩
end Go.Proofs.YtpaoiaogcckibaaDoor
