/- What the document's own Moore answers: the jobs that the program picks. Conditions: the jobs are ones that may be. -/
import Derived.Test.YtpaoiaogcckibaaDoorRefMooreP
import Derived.Test.YtpaoiaogcckibaaDoorKeeps
import Derived.Deep.RegionHeld3
import Derived.Deep.DeepCutAuto
namespace Go.Proofs.YtpaoiaogcckibaaDoor
open Go.RowKit
def MooreR (w : World) (l : List Job) (ys : List Int) (n : Nat) (e : Ending) (w' : World) : Prop :=
  ∃ V cv m, e = .returned (.slice V m cv) ∧ (outM (mooreS l ys) n).length = m ∧ w'.ownsRow w.heap.size 3 1 (.slice V m cv) m (ints (outM (mooreS l ys) n)) ∧ Below w.heap.size w w'
theorem getM (S : List Int) {k : Nat} (h : k < S.length) : S[k]? = some S[k]! := by rw [getElem!_pos S k h, List.getElem?_eq_getElem h]
set_option maxHeartbeats 8000000 in
set_option maxRecDepth 100000 in
theorem refMoore (A : Option Addr) (n c : Nat) (l : List Job) (ys : List Int) (w : World) (hA : Cells w w.heap.size A (jobs l)) (hn : l.length = n) (hj : jobErr l = 0) (ho : IsOrd n ys) (hs : ys.Pairwise (Ahead (dueC l) id)) :
    Calls Tryd.prog 57 #[.slice A n c] w (MooreR w l ys n) := by
  have HN := Lib.hid hn
  have HJ := Lib.hid (jobErr_ok hj).2
  have hn16 : n ≤ 16 := by have := (jobErr_ok hj).1; omega
  have HO_ := Lib.hid ho
  have HA := Lib.hid hA
  have C1 := Lib.hid (refBy0 A n c l ys w hA hn hj ho hs)
  clear hn hj ho hs hA
  go_enter Tryd.func57, Tryd.ntmps57
  go_wp2_with fail
  refine C1.out.mono ?_
  rintro e w1 ⟨Vo, co, rfl, hown1, hb1⟩
  have HB1 := Lib.hid hb1
  have HC1 : Hid (Cells w1 w1.heap.size Vo (ints ys)) := hown1.own (by omega)
  have hsz1 := hb1.size
  have HA1 : Hid (Cells w1 w1.heap.size A (jobs l)) := (HA.out.below hb1 (Nat.le_refl _)).more hsz1
  clear hown1 hb1 C1 HA
  go_wp2
  go_loopw [5, 4] (fun nv hv wr => ∃ (k m cv : Nat) (V : Option Addr) (S : List Int), nv = .int .i64 (k : Int) ∧ hv = .slice V m cv ∧ k ≤ n ∧ m ≤ n ∧ Hid (S = mooreS l (ys.take k)) ∧ Hid (S.length = m) ∧ Hid (wr.ownsRow w1.heap.size 3 1 (.slice V m cv) m (ints S)) ∧ Hid (Below w1.heap.size w1 wr)) (fun nv _ _ => n - (intOf nv).toNat)
  case atStart => exact ⟨0, 0, 0, none, [], rfl, rfl, by omega, by omega, rfl, rfl, World.ownsRow_nil _ _ _ _, Below.refl _ _⟩
  case round =>
    obtain ⟨k, m, cv, V, S, rfl, rfl, hk, hm, HS, HM, HO, HB⟩ := hrel
    by_cases hlt : k < n
    · have hlz : (k : Int) < n := by omega
      obtain ⟨bo, offo, y, rfl, hbo, hy, hcy0⟩ := ints_at HC1.out (show k < ys.length by rw [HO_.out.1]; exact hlt)
      have HY := Lib.hid hy
      have hyr := HO_.out.2.1 y (List.mem_of_getElem? hy)
      have hcy := (HB.out.cell (p := ⟨bo, offo + k, none⟩) hbo).trans hcy0
      have HCY := Lib.hid hcy0
      have HMS : Hid (mooreS l (ys.take (k + 1)) = mstep l S y) := by show _ = _; rw [take_at hy, mooreS_snoc, ← HS.out]
      have HL1 : Hid (m + 1 ≤ n) := by
        have h1 := (mooreS_sub l (ys.take k)).length_le
        rw [← HS.out, HM.out, List.length_take] at h1
        show m + 1 ≤ n
        have := Nat.min_le_left k ys.length
        omega
      have HRS : Hid (∀ i ∈ S ++ [y], 0 ≤ i ∧ i < n) := fun i hi => by
        rcases List.mem_append.1 hi with h | h
        · rw [HS.out] at h; exact mooreS_rng HO_.out k i h
        · simp at h; subst h; exact hyr
      have hmn : m + 1 ≤ n := HL1.out
      have HNEW := Lib.hid (fun j => (Row.new wr 3 #[.int .i64 y]).cell j)
      have hszr := HB.out.size
      clear hy hyr hcy0
      go_wp2_with (at_builtin; refine wp_push _ rfl (.tmp 21) (.tmp 26) 29 rfl w1.heap.size 3 1 8 _ Tryd.underlying29 info_int rfl (by omega) V m cv (ints S) rfl (HO.out.alloc _) wr.heap.size 1 [.int .i64 y] rfl rfl (fun j u hu => (HNEW.out j).trans hu) (by intro u hu; simp at hu; subst hu; rfl) (by omega) (by omega) (by rw [World.size_alloc]; omega) ?_; intro g1 c1 w4 ho4 hb4 hg4 hgr4 hat4)
      obtain ⟨T, hT⟩ : ∃ T, T = S ++ [y] := ⟨_, rfl⟩
      have HO4 : Hid (w4.ownsRow w1.heap.size 3 1 (.slice (some ⟨g1, 0, none⟩) (m + 1) c1) (m + 1) (ints T)) := by
        show World.ownsRow _ _ _ _ _ _ _
        rw [hT, ints_append]; exact ho4
      have HB4 : Hid (Below w1.heap.size w1 w4) := (HB.out.alloc hszr _).trans hb4
      have HTL : Hid (T.length = m + 1) := by show _ = _; rw [hT, List.length_append, HM.out]; rfl
      have HTR : Hid (∀ i ∈ T, 0 ≤ i ∧ i < n) := by rw [hT]; exact HRS.out
      have HTS : Hid (mooreS l (ys.take (k + 1)) = if (jobAt l y).due < sumT (T.map (jobAt l)) then T.eraseIdx (longTo l T T.length) else T) := by show _ = _; rw [HMS.out, hT]; rfl
      have HTY : Hid (y ∈ T) := by show _ ∈ _; rw [hT]; simp
      clear ho4 hb4 hg4 hgr4 hat4 HO HB HNEW HMS HRS hT HS HM HL1 hcy hm
      go_wp2
      go_loopw [8, 6, 7] (fun iv nv lv wi => ∃ (i : Nat) (x : Int), iv = .int .i64 (i : Int) ∧ nv = .int .i64 x ∧ lv = .int .i64 (longTo l T i : Int) ∧ i ≤ m + 1 ∧ 0 ≤ x ∧ x ≤ 1000 * i ∧ Hid (x = sumT ((T.take i).map (jobAt l))) ∧ Hid (∃ q, wi = w4.drewN q)) (fun iv _ _ _ => m + 1 - (intOf iv).toNat)
      case atStart => exact ⟨0, 0, rfl, rfl, rfl, by omega, by omega, by omega, by show _ = _; simp [sumT], 0, rfl⟩
      case round =>
        obtain ⟨i, x, rfl, rfl, rfl, hi, hx0, hx1, HX, HW⟩ := hrel
        obtain ⟨qd, rfl⟩ := HW.out
        clear HW
        by_cases hin : i < m + 1
        · have hiz : (i : Int) < ((m + 1 : Nat) : Int) := by omega
          have hli : longTo l T i < m + 1 := by
            by_cases h0 : i = 0
            · subst h0; simp only [longTo]; omega
            · have := (longTo_is l T i (by omega)).1; omega
          have HLN : Hid (longTo l T (i + 1) = if (jobAt l T[longTo l T i]!).time ≤ (jobAt l T[i]!).time then i else longTo l T i) := rfl
          obtain ⟨lg, hlg⟩ : ∃ z, z = longTo l T i := ⟨_, rfl⟩
          rw [← hlg] at hli HLN ⊢
          have hlz2 : (lg : Int) < ((m + 1 : Nat) : Int) := by omega
          have hti := getM T (show i < T.length by rw [HTL.out]; exact hin)
          have htl := getM T (show lg < T.length by rw [HTL.out]; exact hli)
          have hri := HTR.out _ (List.mem_of_getElem? hti)
          have hrl := HTR.out _ (List.mem_of_getElem? htl)
          have hci := HO4.out.cellAt i (by omega)
          have hcl := HO4.out.cellAt lg (by omega)
          rw [ints, List.getElem?_map, hti, Option.map_some] at hci
          rw [ints, List.getElem?_map, htl, Option.map_some] at hcl
          have hsum : sumT ((T.take (i + 1)).map (jobAt l)) = x + (jobAt l T[i]!).time := by rw [take_at hti, List.map_append, sumT_append, ← HX.out]; simp [sumT]
          obtain ⟨q1, b1, off1, t1, d1, v1, e1, hq1, rfl, hbb, ej1, hm1, hct1, _⟩ := job_behind (k := 0) HA1.out hri.1 (by rw [HN.out]; exact hri.2)
          obtain ⟨q2, b2, off2, t2, d2, v2, e2, hq2, hbe, _, ej2, hm2, hct2, _⟩ := job_behind (k := 0) HA1.out hrl.1 (by rw [HN.out]; exact hrl.2)
          simp only [Option.some.injEq, Addr.mk.injEq, and_true] at hbe
          obtain ⟨rfl, rfl⟩ := hbe
          rw [e1] at hci
          rw [e2] at hcl
          rw [ej1] at hsum
          rw [ej1, ej2] at HLN
          have hj1 := (HJ.out _ hm1).1
          simp only at hj1 hsum HLN
          rw [← HB4.out.cell (p := ⟨b1, off1 + q1 * 3, none⟩) hbb] at hct1
          rw [← HB4.out.cell (p := ⟨b1, off1 + q2 * 3, none⟩) hbb] at hct2
          have hq1z : (q1 : Int) < n := by have := HN.out; omega
          have hq2z : (q2 : Int) < n := by have := HN.out; omega
          have HX2 : Hid (x + t1 = sumT ((T.take (i + 1)).map (jobAt l))) := hsum.symm
          clear hti htl hri hrl hsum e1 e2 ej1 ej2 hm1 hm2 hlg hq1 hq2
          by_cases hcmp : t2 ≤ t1
          · have hd : decide (t2 ≤ t1) = true := decide_eq_true hcmp
            have HLN2 : Hid (longTo l T (i + 1) = i) := by show _ = _; rw [HLN.out, if_pos hcmp]
            go_wp2
            go_quiet (fail)
            go_wp2
            go_roundw
            case rel => exact ⟨i + 1, x + t1, by go_num, rfl, by rw [HLN2.out], by omega, by omega, by omega, HX2.out, _, rfl⟩
            case measure => simp [intOf]; omega
          · have hd : decide (t2 ≤ t1) = false := decide_eq_false hcmp
            have HLN2 : Hid (longTo l T (i + 1) = lg) := by show _ = _; rw [HLN.out, if_neg hcmp]
            go_wp2
            go_quiet (fail)
            go_wp2
            go_roundw
            case rel => exact ⟨i + 1, x + t1, by go_num, rfl, by rw [HLN2.out], by omega, by omega, by omega, HX2.out, _, rfl⟩
            case measure => simp [intOf]; omega
        · have hie : i = m + 1 := by omega
          subst hie
          have hiz : ¬ ((m + 1 : Nat) : Int) < ((m + 1 : Nat) : Int) := by omega
          have HXS : Hid (x = sumT (T.map (jobAt l))) := by
            have := HX.out
            rwa [List.take_of_length_le (by rw [HTL.out]; omega)] at this
          have hln := (longTo_is l T (m + 1) (by omega)).1
          have HOd : Hid ((w4.drewN qd).ownsRow w1.heap.size 3 1 (.slice (some ⟨g1, 0, none⟩) (m + 1) c1) (m + 1) (ints T)) := HO4.out
          have HBd := Lib.hid (below_drewN HB4.out qd)
          have hyr := HTR.out y HTY.out
          obtain ⟨q1, b1, off1, t1, d1, v1, rfl, hq1, rfl, hbb, ej1, hm1, _, hcd1⟩ := job_behind (k := 0) HA1.out hyr.1 (by rw [HN.out]; exact hyr.2)
          rw [← HBd.out.cell (p := ⟨b1, off1 + q1 * 3 + 1, none⟩) hbb] at hcd1
          have hcy := (HBd.out.cell (p := ⟨bo, offo + k, none⟩) hbo).trans HCY.out
          have hq1z : (q1 : Int) < n := by have := HN.out; omega
          have HTS2 : Hid (mooreS l (ys.take (k + 1)) = if d1 < x then T.eraseIdx (longTo l T (m + 1)) else T) := by
            show _ = _
            rw [HTS.out, ej1, HXS.out, HTL.out]
          have hcm : m + 1 ≤ c1 := by
            rcases HOd.out.2 with ⟨h, _⟩ | ⟨g, cap, cur, h, _, _, hnc, _⟩
            · cases h
            · injection h with _ _ h3; omega
          obtain ⟨lg, hlg⟩ : ∃ z, z = longTo l T (m + 1) := ⟨_, rfl⟩
          rw [← hlg] at hln HTS2 ⊢
          clear HO4 HB4 ej1 hm1 hyr HX hlg hq1
          generalize w4.drewN qd = w5 at HOd HBd hcy hcd1 ⊢
          have hsz5 := HBd.out.size
          by_cases hlate : d1 < x
          · have HTS3 : Hid (mooreS l (ys.take (k + 1)) = T.take lg ++ T.drop (lg + 1)) := by show _ = _; rw [HTS2.out, if_pos hlate, List.eraseIdx_eq_take_drop_succ]
            have HCT : Hid (Cells w5 w5.heap.size (some ⟨g1, 0, none⟩) (ints T)) := HOd.out.own (by omega)
            have HGL := Lib.hid (HOd.out.lt g1 rfl)
            have hcx0 := cells_takeR HCT.out lg
            have hlc : (lg : Int) ≤ (c1 : Int) := by omega
            have hl0 : (0 : Int) ≤ (lg : Int) := by omega
            have hlw : IntKind.i64.wrap ((lg : Int) + 1) = ((lg + 1 : Nat) : Int) := by rw [IntKind.wrap_i64]; omega
            go_upto_region 18 with (at_builtin; refine wp_cat _ rfl (.tmp 72) (.tmp 75) 29 rfl w5.heap.size 3 1 8 _ Tryd.underlying29 info_int rfl (by omega) none 0 0 [] rfl (World.ownsRow_nil _ _ _ _) w5.heap.size (some ⟨g1, 0, none⟩) lg c1 ((ints T).take lg) rfl (by rw [List.length_take, ints_len, HTL.out]; omega) hcx0 (fun u hu => one_ints _ u (List.mem_of_mem_take hu)) (by omega) (by omega) (Nat.le_refl _) ?_; intro V1 c2 w6 ho6 hb6 hg6)
            have HO6 := Lib.hid ho6
            have HB6 : Hid (Below w1.heap.size w1 w6) := HBd.out.trans (hb6.mono hsz5)
            have hsz56 := hb6.size
            have HCT6 : Hid (Cells w6 w6.heap.size (some ⟨g1, 0, none⟩) (ints T)) := (HCT.out.below hb6 (Nat.le_refl _)).more hsz56
            have hcx1 : Cells w6 w6.heap.size (some ⟨g1, lg + 1, none⟩) ((ints T).drop (lg + 1)) := by have h := cells_dropR HCT6.out (lg + 1); rwa [Nat.zero_add] at h
            have hle1 : ((lg + 1 : Nat) : Int) ≤ ((m + 1 : Nat) : Int) := by omega
            simp only [List.nil_append, Nat.zero_add] at HO6
            clear ho6 hb6 hg6 hcx0
            have HLR : Hid ((T.take lg ++ T.drop (lg + 1)).length = lg + (m + 1 - (lg + 1))) := by show _ = _; rw [List.length_append, List.length_take, List.length_drop, HTL.out]; omega
            by_cases hce : c1 = lg + 1
            · have hml : m = lg := by omega
              subst hce hml
              have HE : Hid (T.drop (m + 1) = []) := List.drop_of_length_le (by rw [HTL.out]; omega)
              go_upto_region 19 with (at_builtin; refine wp_cat _ rfl (.tmp 77) (.tmp 81) 29 rfl w5.heap.size 3 1 8 _ Tryd.underlying29 info_int rfl (by omega) V1 m c2 _ rfl HO6.out w6.heap.size _ 0 0 [] rfl rfl Cells.nil (fun u hu => by simp at hu) (by omega) (by omega) hsz56 ?_; intro V2 c3 w7 ho7 hb7 hg7)
              have HB7 : Hid (Below w1.heap.size w1 w7) := HB6.out.trans (hb7.mono hsz5)
              have HO7 : Hid (w7.ownsRow w1.heap.size 3 1 (.slice V2 (m + 0) c3) (m + 0) (ints (T.take m ++ T.drop (m + 1)))) := by
                show World.ownsRow _ _ _ _ _ _ _
                rw [HE.out]
                exact own_baseB (by simpa [ints] using ho7) hsz5
              clear ho7 hb7 hg7
              go_wp2
              go_roundw
              case rel => exact ⟨k + 1, m + 0, c3, V2, _, by go_num, rfl, by omega, by omega, HTS3.out.symm, by show _ = _; rw [HE.out, List.append_nil, List.length_take, HTL.out]; omega, HO7.out, HB7.out⟩
              case measure => simp [intOf]; omega
            · have hce2 : ¬ (c1 : Int) = ((lg + 1 : Nat) : Int) := by omega
              go_upto_region 19 with (at_builtin; refine wp_cat _ rfl (.tmp 77) (.tmp 81) 29 rfl w5.heap.size 3 1 8 _ Tryd.underlying29 info_int rfl (by omega) V1 lg c2 _ rfl HO6.out w6.heap.size (some ⟨g1, lg + 1, none⟩) (m - lg) (c1 - (lg + 1)) ((ints T).drop (lg + 1)) rfl (by rw [List.length_drop, ints_len, HTL.out]; omega) hcx1 (fun u hu => one_ints _ u (List.mem_of_mem_drop hu)) (by omega) (by omega) hsz56 ?_; intro V2 c3 w7 ho7 hb7 hg7)
              have HB7 : Hid (Below w1.heap.size w1 w7) := HB6.out.trans (hb7.mono hsz5)
              have HO7 : Hid (w7.ownsRow w1.heap.size 3 1 (.slice V2 (lg + (m - lg)) c3) (lg + (m - lg)) (ints (T.take lg ++ T.drop (lg + 1)))) := by
                show World.ownsRow _ _ _ _ _ _ _
                exact own_baseB (by simpa [ints] using ho7) hsz5
              clear ho7 hb7 hg7
              go_wp2
              go_roundw
              case rel => exact ⟨k + 1, lg + (m - lg), c3, V2, _, by go_num, rfl, by omega, by omega, HTS3.out.symm, by show _ = _; have := HLR.out; omega, HO7.out, HB7.out⟩
              case measure => simp [intOf]; omega
          · have HTS3 : Hid (mooreS l (ys.take (k + 1)) = T) := by show _ = _; rw [HTS2.out, if_neg hlate]
            go_wp2
            go_roundw
            case rel => exact ⟨k + 1, m + 1, c1, some ⟨g1, 0, none⟩, T, by go_num, rfl, by omega, by omega, HTS3.out.symm, HTL.out, HOd.out, HBd.out⟩
            case measure => simp [intOf]; omega
    · have hkn : k = n := by omega
      subst hkn
      have hlz : ¬ (k : Int) < k := by omega
      have HSS : Hid (S = mooreS l ys) := by
        have := HS.out
        rwa [List.take_of_length_le (by rw [HO_.out.1]; omega)] at this
      have HND : Hid (S.Nodup) := by rw [HSS.out]; exact (mooreS_sub l ys).nodup HO_.out.2.2
      have HCS : Hid (Cells wr wr.heap.size V (ints S)) := HO.out.own (by omega)
      have HBW : Hid (Below w.heap.size w wr) := HB1.out.trans (HB.out.mono hsz1)
      have hszr := HBW.out.size
      clear HO HB HS
      generalize wr = w8 at HCS HBW hszr ⊢
      go_wp2
      go_loopw [11, 10] (fun iv ov wi => ∃ (i m2 cv2 : Nat) (V2 : Option Addr), iv = .int .i64 (i : Int) ∧ ov = .slice V2 m2 cv2 ∧ i ≤ k ∧ m2 ≤ i ∧ Hid ((outM S i).length = m2) ∧ Hid (wi.ownsRow w8.heap.size 3 1 (.slice V2 m2 cv2) m2 (ints (outM S i))) ∧ Hid (Below w8.heap.size w8 wi)) (fun iv _ _ => k - (intOf iv).toNat)
      case atStart => exact ⟨0, 0, 0, none, rfl, rfl, by omega, by omega, rfl, World.ownsRow_nil _ _ _ _, Below.refl _ _⟩
      case round =>
        obtain ⟨i, m2, cv2, V2, rfl, rfl, hi, hm2, HL, HO, HB⟩ := hrel
        by_cases hin : i < k
        · have hiz : (i : Int) < k := by omega
          have HNX := Lib.hid (outM_snoc S i)
          go_wp2
          go_loopw [12, 10] (fun jv ov wi => ∃ (j m2 cv2 : Nat) (V2 : Option Addr), jv = .int .i64 (j : Int) ∧ ov = .slice V2 m2 cv2 ∧ j ≤ m ∧ m2 ≤ i + 1 ∧ Hid ((outM S i ++ (if (i : Int) ∈ S.take j then [(i : Int)] else [])).length = m2) ∧ Hid (wi.ownsRow w8.heap.size 3 1 (.slice V2 m2 cv2) m2 (ints (outM S i ++ (if (i : Int) ∈ S.take j then [(i : Int)] else [])))) ∧ Hid (Below w8.heap.size w8 wi)) (fun jv _ _ => m - (intOf jv).toNat)
          case atStart => exact ⟨0, m2, cv2, V2, rfl, rfl, by omega, by omega, by show _ = _; simpa using HL.out, by show World.ownsRow _ _ _ _ _ _ _; simpa using HO.out, HB.out⟩
          case round =>
            clear HL HO HB hm2
            obtain ⟨j, m2, cv2, V2, rfl, rfl, hj, hm2, HL, HO, HB⟩ := hrel
            by_cases hjm : j < m
            · have hjz : (j : Int) < m := by omega
              obtain ⟨bs, offs, z, rfl, hbs, hz, hcz0⟩ := ints_at HCS.out (show j < S.length by rw [HM.out]; exact hjm)
              have hcz := (HB.out.cell (p := ⟨bs, offs + j, none⟩) hbs).trans hcz0
              have HT := Lib.hid (take_at hz)
              have HZ := Lib.hid hz
              clear hz hcz0
              by_cases hzi : z = (i : Int)
              · have hzb : (z == (i : Int)) = true := by simpa using hzi
                have HNI : Hid ((i : Int) ∉ S.take j) := fun hm => by
                  obtain ⟨p, hp, he⟩ := List.mem_take_iff_getElem.1 hm
                  obtain ⟨hj2, he2⟩ := List.getElem?_eq_some_iff.1 HZ.out
                  have := (List.getElem_inj HND.out).1 (he.trans (hzi.symm.trans he2.symm))
                  omega
                have HE1 : Hid (outM S i ++ (if (i : Int) ∈ S.take j then [(i : Int)] else []) = outM S i) := by show _ = _; rw [if_neg HNI.out, List.append_nil]
                have HE2 : Hid (outM S i ++ (if (i : Int) ∈ S.take (j + 1) then [(i : Int)] else []) = outM S i ++ [(i : Int)]) := by show _ = _; rw [HT.out, if_pos (by simp [hzi])]
                rw [HE1.out] at HL HO
                have hm3 : m2 ≤ i := by have := outM_le S i; have := HL.out; omega
                have HNEW := Lib.hid (fun t => (Row.new wr 3 #[.int .i64 (i : Int)]).cell t)
                have hsz2 := HB.out.size
                clear hzi
                go_wp2_with (at_builtin; refine wp_push _ rfl (.tmp 102) (.tmp 104) 29 rfl w8.heap.size 3 1 8 _ Tryd.underlying29 info_int rfl (by omega) V2 m2 cv2 (ints (outM S i)) rfl (HO.out.alloc _) wr.heap.size 1 [.int .i64 (i : Int)] rfl rfl (fun t u hu => (HNEW.out t).trans hu) (by intro u hu; simp at hu; subst hu; rfl) (by omega) (by omega) (by rw [World.size_alloc]; omega) ?_; intro g3 c3 w6 ho6 hb6 hg6 hgr6 hat6)
                have HO6 := Lib.hid ho6
                have HB6 : Hid (Below w8.heap.size w8 w6) := (HB.out.alloc hsz2 _).trans hb6
                clear ho6 hb6 hg6 hgr6 hat6
                go_roundw
                case rel => exact ⟨j + 1, m2 + 1, c3, some ⟨g3, 0, none⟩, by go_num, rfl, by omega, by omega, by show _ = _; rw [HE2.out, List.length_append, HL.out]; rfl, by show World.ownsRow _ _ _ _ _ _ _; rw [HE2.out, ints_append]; exact HO6.out, HB6.out⟩
                case measure => simp [intOf]; omega
              · have hzb : (z == (i : Int)) = false := by simpa using hzi
                have HE2 : Hid ((if (i : Int) ∈ S.take (j + 1) then [(i : Int)] else []) = (if (i : Int) ∈ S.take j then [(i : Int)] else [])) := by
                  show _ = _
                  rw [HT.out]
                  have : ((i : Int) ∈ S.take j ++ [z]) ↔ (i : Int) ∈ S.take j := by simp [Ne.symm hzi]
                  simp only [this]
                clear hzi
                go_wp2
                go_roundw
                case rel => exact ⟨j + 1, m2, cv2, V2, by go_num, rfl, by omega, hm2, by show _ = _; rw [HE2.out]; exact HL.out, by show World.ownsRow _ _ _ _ _ _ _; rw [HE2.out]; exact HO.out, HB.out⟩
                case measure => simp [intOf]; omega
            · have hjm2 : j = m := by omega
              subst hjm2
              have hjz : ¬ (j : Int) < j := by omega
              have HE : Hid (outM S i ++ (if (i : Int) ∈ S.take j then [(i : Int)] else []) = outM S (i + 1)) := by show _ = _; rw [HNX.out, List.take_of_length_le (by rw [HM.out]; omega)]
              rw [HE.out] at HL HO
              go_wp2
              go_roundw
              case rel => exact ⟨i + 1, m2, cv2, V2, by go_num, rfl, by omega, hm2, HL.out, HO.out, HB.out⟩
              case measure => simp [intOf]; omega
        · have hik : i = k := by omega
          subst hik
          have hiz : ¬ (i : Int) < i := by omega
          go_wp2
          go_ret
          exact ⟨V2, cv2, m2, rfl, by rw [← HSS.out]; exact HL.out, by rw [← HSS.out]; exact own_baseB HO.out hszr, HBW.out.trans (HB.out.mono hszr)⟩
end Go.Proofs.YtpaoiaogcckibaaDoor
