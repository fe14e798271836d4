/- What the document's own By answers, kind 0: the order of the places, equals in their order. Conditions: the jobs are ones that may be. -/
import Derived.Test.YtpaoiaogcckibaaDoorRefByP
namespace Go.Proofs.YtpaoiaogcckibaaDoor
open Go.RowKit Go.BigFrame
set_option maxHeartbeats 1000000 in
set_option maxRecDepth 100000 in
theorem refBy0 (A : Option Addr) (n c : Nat) (l : List Job) (zs : List Int) (w : World) (hA : Cells w w.heap.size A (jobs l)) (hn : l.length = n) (hj : jobErr l = 0) (hz : IsOrd n zs) (hs : zs.Pairwise (Ahead (dueC l) id)) :
    Calls Tryd.prog 33 #[.slice A n c, .int .i64 0] w (ByOK w n zs) := by
  have HN := Lib.hid hn
  have HJ := Lib.hid (jobErr_ok hj).2
  have hn16 : n ≤ 16 := by have := (jobErr_ok hj).1; omega
  have HZ := Lib.hid (And.intro hz hs)
  have HA := Lib.hid hA
  have HW : Hid (Weak (dueC l)) := weak_due l
  have hmk := make_row 103 4 (.bool false) 1 Tryd.underlying103 info_bool rfl n (by omega) (by omega)
  clear hn hj hz hs hA
  go_enter Tryd.func33, Tryd.ntmps33
  go_wp2
  have HR0 : Hid (Row (w.alloc (.cells (madeCells #[.bool false] n) 4)) w.heap.size 4 (hadRow n [])) := by show Row _ _ _ _; rw [← hadRow_nil]; exact Row.made _ _ _ _
  have HB0 : Hid (Below w.heap.size w (w.alloc (.cells (madeCells #[.bool false] n) 4))) := (Below.refl _ _).alloc (Nat.le_refl _) _
  have HS0 : Hid (w.heap.size + 1 ≤ (w.alloc (.cells (madeCells #[.bool false] n) 4)).heap.size) := by show _ ≤ _; simp
  clear hmk
  generalize w.alloc (.cells (madeCells #[.bool false] n) 4) = w1 at HR0 HB0 HS0 ⊢
  go_loopw [7, 5] (fun nv ov wr => ∃ (k : Nat) (V : Option Addr) (cv : Nat) (ys : List Int), nv = .int .i64 (k : Int) ∧ ov = .slice V k cv ∧ k ≤ n ∧ Hid (ys.length = k) ∧ Hid (SelI (dueC l) n ys) ∧ Hid (wr.ownsRow (w.heap.size + 1) 3 1 (.slice V k cv) k (ints ys)) ∧ Hid (Row wr w.heap.size 4 (hadRow n ys)) ∧ Hid (Below w.heap.size w wr) ∧ Hid (w.heap.size + 1 ≤ wr.heap.size)) (fun nv _ _ => n - (intOf nv).toNat)
  case atStart => exact ⟨0, none, 0, [], rfl, rfl, by omega, rfl, SelI.start _ _, World.ownsRow_nil _ _ _ _, HR0.out, HB0.out, HS0.out⟩
  case round =>
    clear HR0 HB0 HS0
    obtain ⟨k, V, cv, ys, rfl, rfl, hk, HL, HI, HO, HR, HB, HS⟩ := hrel
    by_cases hlt : k < n
    · have hlz : (k : Int) < n := by omega
      go_wp2
      go_loopw [9, 8] (fun iv bv wi => ∃ (i : Nat) (v : Int), iv = .int .i64 (i : Int) ∧ bv = .int .i64 v ∧ i ≤ n ∧ Hid (SelB (dueC l) ys i v) ∧ Hid (∃ q, wi = wr.drewN q)) (fun iv _ _ => n - (intOf iv).toNat)
      case atStart => exact ⟨0, -1, rfl, rfl, by omega, SelB.start, 0, rfl⟩
      case round =>
        obtain ⟨i, v, rfl, rfl, hi, HSB, HWI⟩ := hrel
        obtain ⟨qd, rfl⟩ := HWI.out
        clear HWI
        by_cases hin : i < n
        · have hiz : (i : Int) < n := by omega
          have hcy := HR.out.cell i
          rw [hadRow_at hin] at hcy
          by_cases hy : (i : Int) ∈ ys
          · rw [decide_eq_true hy] at hcy
            have HSN := Lib.hid (HSB.out.skip hy)
            clear hy
            go_wp2
            go_roundw
            case rel => exact ⟨i + 1, v, by go_num, rfl, by omega, HSN.out, qd, rfl⟩
            case measure => simp [intOf]; omega
          · rw [decide_eq_false hy] at hcy
            have HY := Lib.hid hy
            clear hy
            by_cases hv : v < 0
            · have HSN := Lib.hid (HSB.out.first hv HY.out)
              go_wp2
              refine wp_region_quiet_lit (by kernel_rfl) (by kernel_rfl) ?_
              try dsimp only [List.append]
              repeat (go_big_quiet_step (fail))
              refine wpQuiet_nil ?_
              intro _ hw'
              obtain ⟨nq, hw''⟩ := hw'
              subst hw''
              go_wp2
              go_roundw
              case rel => exact ⟨i + 1, (i : Int), by go_num, rfl, by omega, HSN.out, _, rfl⟩
              case measure => simp [intOf]; omega
            · obtain ⟨q, rfl, hq, hqy⟩ := HSB.out.pos hv
              have hqn : q < n := by omega
              have hqz : (q : Int) < n := by omega
              obtain ⟨b, off, t1, d1, v1, rfl, hbb, h1, hc1, hd1, hv1⟩ := jobs_at HA.out (show i < l.length by rw [HN.out]; exact hin)
              obtain ⟨b', off', t2, d2, v2, hbe, _, h2, hc2, hd2, hv2⟩ := jobs_at HA.out (show q < l.length by rw [HN.out]; exact hqn)
              simp only [Option.some.injEq, Addr.mk.injEq, and_true] at hbe
              obtain ⟨rfl, rfl⟩ := hbe
              have HC : Hid (dueC l i q = cmpI d1 d2) := by
                show _ = _
                simp [dueC, jobAt, h1, h2]
              rw [← HB.out.cell (p := ⟨b, off + i * 3, none⟩) hbb] at hc1
              rw [← HB.out.cell (p := ⟨b, off + i * 3 + 1, none⟩) hbb] at hd1
              rw [← HB.out.cell (p := ⟨b, off + i * 3 + 2, none⟩) hbb] at hv1
              rw [← HB.out.cell (p := ⟨b, off + q * 3, none⟩) hbb] at hc2
              rw [← HB.out.cell (p := ⟨b, off + q * 3 + 1, none⟩) hbb] at hd2
              rw [← HB.out.cell (p := ⟨b, off + q * 3 + 2, none⟩) hbb] at hv2
              clear h1 h2 hqy
              have hv0 : decide ((q : Int) < 0) = false := decide_eq_false (by omega)
              by_cases hd : d1 < d2
              · have HSN := Lib.hid (HSB.out.take HW.out HY.out (by rw [HC.out]; exact cmpI_lt.2 hd))
                go_wp2
                refine wp_region_quiet_lit (by kernel_rfl) (by kernel_rfl) ?_
                try dsimp only [List.append]
                repeat (go_big_quiet_step (fail))
                refine wpQuiet_nil ?_
                intro _ hw'
                obtain ⟨nq, hw''⟩ := hw'
                subst hw''
                go_wp2
                go_roundw
                case rel => exact ⟨i + 1, (i : Int), by go_num, rfl, by omega, HSN.out, _, rfl⟩
                case measure => simp [intOf]; omega
              · have HSN := Lib.hid (HSB.out.stay HW.out (by rw [HC.out]; exact fun h => hd (cmpI_lt.1 h)))
                have hd0 : decide (d1 < d2) = false := decide_eq_false hd
                go_wp2
                refine wp_region_quiet_lit (by kernel_rfl) (by kernel_rfl) ?_
                try dsimp only [List.append]
                repeat (go_big_quiet_step (fail))
                refine wpQuiet_nil ?_
                intro _ hw'
                obtain ⟨nq, hw''⟩ := hw'
                subst hw''
                go_wp2
                go_roundw
                case rel => exact ⟨i + 1, (q : Int), by go_num, rfl, by omega, HSN.out, _, rfl⟩
                case measure => simp [intOf]; omega
        · have hie : i = n := by omega
          subst hie
          have hiz : ¬ (i : Int) < i := by omega
          obtain ⟨q, rfl, hq, hqy, hsel⟩ := HI.out.some (by rw [HL.out]; exact hlt) HSB.out
          have hqz : (q : Int) < i := by omega
          have HSEL := Lib.hid hsel
          have HRd := Lib.hid (HR.out.drewN qd)
          have HBd := Lib.hid (below_drewN HB.out qd)
          have HOd : Hid ((wr.drewN qd).ownsRow (w.heap.size + 1) 3 1 (.slice V k cv) k (ints ys)) := HO.out
          have HSd : Hid (w.heap.size + 1 ≤ (wr.drewN qd).heap.size) := HS.out
          clear HR HB HO HS
          generalize wr.drewN qd = wr at HRd HBd HOd HSd ⊢
          have HR := HRd
          have HB := HBd
          have HO := HOd
          have HS := HSd
          clear HRd HBd HOd HSd
          have hcq := HR.out.cell q
          rw [hadRow_at hq, decide_eq_false hqy] at hcq
          have hfq := HR.out.frozen q
          have hsz := HS.out
          have HR2 := Lib.hid (HR.out.set_ q (.bool true))
          have HB2 : Hid (Below w.heap.size w (wr.setCell ⟨w.heap.size, q, none⟩ (.bool true))) := HB.out.setCell (Nat.le_refl _) _
          have HO2 : Hid ((wr.setCell ⟨w.heap.size, q, none⟩ (.bool true)).ownsRow (w.heap.size + 1) 3 1 (.slice V k cv) k (ints ys)) := (Keeps.setCell (Keeps.refl [w.heap.size] wr) (p := ⟨w.heap.size, q, none⟩) (Or.inl (by simp)) _).own HO.out (fun g hg hm => by
            have := (HO.out.lt g hg).1
            simp at hm; omega)
          have HS2 : Hid (w.heap.size + 1 ≤ (wr.setCell ⟨w.heap.size, q, none⟩ (.bool true)).heap.size) := by show _ ≤ _; simpa [World.setCell] using hsz
          clear hsel hqy HI
          go_upto_region 14 with fail
          generalize wr.setCell ⟨w.heap.size, q, none⟩ (.bool true) = w3 at HR2 HB2 HO2 HS2 ⊢
          have HNEW := Lib.hid (fun j => (Row.new w3 3 #[.int .i64 (q : Int)]).cell j)
          have hsz3 := HS2.out
          clear hcq hfq
          go_wp2_with (at_builtin; refine wp_push _ rfl (.tmp 98) (.tmp 100) 29 rfl (w.heap.size + 1) 3 1 8 _ Tryd.underlying29 info_int rfl (by omega) V k cv (ints ys) rfl (HO2.out.alloc _) w3.heap.size 1 [.int .i64 (q : Int)] rfl rfl (fun j u hu => (HNEW.out j).trans hu) (by intro u hu; simp at hu; subst hu; rfl) (by omega) (by omega) (by rw [World.size_alloc]; omega) ?_; intro g1 c1 w4 ho4 hb4 hg4 hgr4 hat4)
          have HO4 := Lib.hid ho4
          have HR4 : Hid (Row w4 w.heap.size 4 (hadRow i (ys ++ [(q : Int)]))) := by
            show Row _ _ _ _
            rw [hadRow_add, ← hadRow_set]
            exact (HR2.out.alloc _).grown hgr4 (fun e => by have := (HO2.out.lt _ e.symm).1; omega)
          have HB4 : Hid (Below w.heap.size w w4) := (HB2.out.alloc (by omega) _).trans (hb4.mono (by omega))
          have HS4 : Hid (w.heap.size + 1 ≤ w4.heap.size) := Nat.le_trans hsz3 (Nat.le_trans (by simp) hb4.size)
          clear ho4 hb4 hgr4 hat4
          go_roundw
          case rel =>
            refine ⟨k + 1, _, c1, ys ++ [(q : Int)], by go_num, rfl, by omega, ?_, HSEL.out, ?_, HR4.out, HB4.out, HS4.out⟩
            · show _ = _
              rw [List.length_append, HL.out]; rfl
            · show World.ownsRow _ _ _ _ _ _ _
              rw [ints_append]; exact HO4.out
          case measure => simp [intOf]; omega
    · have hkn : k = n := by omega
      subst hkn
      have hlz : ¬ (k : Int) < k := by omega
      have HE := Lib.hid (HI.out.done HW.out HL.out HZ.out.1 HZ.out.2)
      go_wp2
      go_ret
      exact ⟨V, cv, rfl, by rw [← HE.out]; exact own_baseB HO.out (by omega), HB.out⟩
end Go.Proofs.YtpaoiaogcckibaaDoor
