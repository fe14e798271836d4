/- What narrow.Most answers. Conditions: lengths are such that slices can have. -/
import Derived.Test.YtpaoiaogcckibaaDoorMostP
import Derived.Deep.RegionHeld3
import Derived.Deep.DeepCutAuto
import Derived.BigQuiet
namespace Go.Proofs.YtpaoiaogcckibaaDoor
open Go.RowKit
def MostOK (w : World) (x : Int) (l : List Edge) (o : List Int) (e : Ending) (w' : World) : Prop := e = .returned (.tuple #[.int .i64 (mostVal x l o), errV (mostErr x l o)]) ∧ Below w.heap.size w w'
theorem most_bad_ {w w' : World} {x : Int} {l : List Edge} {o : List Int} {k : Int} (hb : Below w.heap.size w w') (h : mostErr x l o = k) (h0 : k ≠ 0) : MostOK w x l o (.returned (.tuple #[.int .i64 0, .iface 91 (.int .i64 k)])) w' := by
  refine ⟨?_, hb⟩
  unfold mostVal
  rw [h, if_neg h0, errV_bad h0]
theorem most_none {x : Int} {l : List Edge} {o : List Int} (hg : graphErr x l = 0) (hw : walkErr x o = 0) (h : mostOf l o = none) : mostErr x l o = 5 := by
  unfold mostErr
  rw [if_pos hg, if_pos hw, h]; rfl
theorem most_good {w w' : World} {x : Int} {l : List Edge} {o : List Int} {v : Int} (hb : Below w.heap.size w w') (hg : graphErr x l = 0) (hw : walkErr x o = 0) (h : mostOf l o = some v) : MostOK w x l o (.returned (.tuple #[.int .i64 v, .nilIface])) w' := by
  have he : mostErr x l o = 0 := by unfold mostErr; rw [if_pos hg, if_pos hw, h]; rfl
  refine ⟨?_, hb⟩
  unfold mostVal
  rw [he, if_pos rfl, h, errV_zero]; rfl
set_option maxHeartbeats 8000000 in
set_option maxRecDepth 100000 in
theorem most_ (x : Int) (A : Option Addr) (n c : Nat) (l : List Edge) (A' : Option Addr) (m c' : Nat) (o : List Int) (w : World) (hA : Cells w w.heap.size A (edges l)) (hn : l.length = n) (hm : n ≤ 9223372036854775807)
    (hA' : Cells w w.heap.size A' (ints o)) (hn' : o.length = m) (hm' : m ≤ 9223372036854775806) :
    Calls Tryd.prog 25 #[graphV x A n c, .slice A' m c'] w (MostOK w x l o) := by
  have HN := Lib.hid hn
  have HN' := Lib.hid hn'
  have HR0 : Hid (Row (w.alloc (.cells #[.int .i64 x, .slice A n c] 40)) w.heap.size 40 [.int .i64 x, .slice A n c]) := Row.new _ _ _
  have hb0 : Below w.heap.size w (w.alloc (.cells #[.int .i64 x, .slice A n c] 40)) := (Below.refl _ _).alloc (Nat.le_refl _) _
  have c1 := spanCheck x A n c l _ (hA.step hb0) hn hm
  have HB0 := Lib.hid hb0
  unfold graphV at c1 ⊢
  have C1 := Lib.hid c1
  clear hn hn' c1 hb0
  by_cases hg : graphErr x l = 0
  · rw [hg, errV_zero] at C1
    obtain ⟨⟨hx0, hx1⟩, hl40, hed⟩ := graphErr_ok hg
    have hn40 : n ≤ 40 := by have := HN.out; omega
    have HED := Lib.hid hed
    have HG := Lib.hid hg
    clear hg hl40 hed
    go_enter Tryd.func25, Tryd.ntmps25
    go_wp2_with fail
    refine C1.out.mono ?_
    rintro e w1 ⟨rfl, hb1⟩
    have HB1 : Hid (Below w.heap.size w w1) := HB0.out.trans (hb1.mono (by simp))
    have HR1 := Lib.hid (HR0.out.step hb1)
    clear hb1 C1 HB0 HR0
    have hwx : IntKind.i64.wrap (x - 1) = x - 1 := by rw [IntKind.wrap_i64]; omega
    go_wp2
    go_loopw [21] (fun i wr => ∃ k : Nat, i = .int .i64 (k : Int) ∧ k ≤ m ∧ Hid (nodesE x (o.drop k) = nodesE x o) ∧ Hid (Row wr w.heap.size 40 [.int .i64 x, .slice A n c]) ∧ Hid (Below w.heap.size w wr)) (fun i _ => m - (intOf i).toNat)
    case atStart => exact ⟨0, rfl, by omega, rfl, HR1.out, HB1.out⟩
    case round =>
      clear HR1 HB1
      obtain ⟨k, rfl, hk, HI, HR, HB⟩ := hrel
      by_cases hkm : k < m
      · have hkz : (k : Int) < m := by omega
        obtain ⟨b', off', y, rfl, hbb', hy, hcy⟩ := ints_at hA' (show k < o.length by rw [HN'.out]; exact hkm)
        rw [← HB.out.cell hbb'] at hcy
        have HX := Lib.hid (drop_at hy)
        have hq0 := HR.out.cell 0
        clear hy
        cases h1 : inB y 0 (x - 1) with
        | false =>
          have HT : Hid (mostErr x l o = 1) := by
            have h2 : nodesE x o = 1 := by rw [← HI.out, HX.out]; simp only [nodesE]; rw [if_neg (by simp [h1])]
            show _ = _
            unfold mostErr walkErr
            rw [if_pos HG.out, h2]
            simp
          go_wp2_with (go_at_call 73; refine (within _ _ _ _).mono ?_; rintro e w' ⟨rfl, rfl⟩)
          go_ret2
          exact most_bad_ HB.out HT.out (by omega)
        | true =>
          have HS : Hid (nodesE x (o.drop (k + 1)) = nodesE x o) := by
            show _ = _
            rw [← HI.out, HX.out]; simp only [nodesE]; rw [if_pos h1]
          go_wp2_with (go_at_call 73; refine (within _ _ _ _).mono ?_; rintro e w' ⟨rfl, rfl⟩)
          go_roundw
          case rel => exact ⟨k + 1, by go_num, by omega, HS.out, HR.out, HB.out⟩
          case measure => simp [intOf]; omega
      · have hkz : ¬ (k : Int) < m := by omega
        have HE : Hid (nodesE x o = 0) := by
          show _ = _
          rw [← HI.out, drop_end (by rw [HN'.out]; omega)]; rfl
        by_cases hz : m = 0
        · subst hz
          have HT : Hid (mostErr x l o = 3) := by
            show _ = _
            unfold mostErr walkErr
            rw [if_pos HG.out, HE.out, HN'.out]; simp
          go_wp2
          go_ret2
          exact most_bad_ HB.out HT.out (by omega)
        · have hz1 : ((m : Int) == 0) = false := by simp; omega
          by_cases h60 : 60 < m
          · have h60z : (60 : Int) < (m : Int) := by omega
            have HT : Hid (mostErr x l o = 4) := by
              show _ = _
              unfold mostErr walkErr
              rw [if_pos HG.out, HE.out, HN'.out]; simp [hz, h60]
            go_wp2
            go_ret2
            exact most_bad_ HB.out HT.out (by omega)
          · have h60z : ¬ (60 : Int) < (m : Int) := by omega
            have HWE : Hid (walkErr x o = 0) := by
              show _ = _
              unfold walkErr
              rw [if_pos HE.out, HN'.out, if_neg hz, if_neg h60]
            obtain ⟨p0, xs, rfl⟩ : ∃ p xs, o = p :: xs := by
              cases o with
              | nil => have := HN'.out; simp at this; omega
              | cons p xs => exact ⟨p, xs, rfl⟩
            have HND := Lib.hid (nodesE_ok _ _ HE.out)
            clear HE HI
            go_wp2
            clear hk hkm hkz
            go_loopw [10, 9] (fun i mo wr => ∃ (j : Nat) (mv : Int), i = .int .i64 (j : Int) ∧ 1 ≤ j ∧ j ≤ m ∧ mo = .int .i64 mv ∧ 0 ≤ mv ∧ mv ≤ 1000 ∧ Hid (mostFrom l mv ((p0 :: xs)[j - 1]!) ((p0 :: xs).drop j) = mostOf l (p0 :: xs)) ∧ Hid (Row wr w.heap.size 40 [.int .i64 x, .slice A n c]) ∧ Hid (Below w.heap.size w wr)) (fun i _ _ => m - (intOf i).toNat)
            case atStart => exact ⟨1, 0, rfl, by omega, by omega, rfl, by omega, by omega, rfl, HR.out, HB.out⟩
            case round =>
              clear HR HB
              obtain ⟨j, mv, rfl, hj1, hjm, rfl, hv0, hv1, HI, HR, HB⟩ := hrel
              by_cases hlt : j < m
              · have hltz : (j : Int) < m := by omega
                obtain ⟨b', off', y, rfl, hbb', hy, hcy⟩ := ints_at hA' (show j < (p0 :: xs).length by rw [HN'.out]; exact hlt)
                obtain ⟨b'', off'', p, hbo, _, hp, hcp⟩ := ints_at hA' (show j - 1 < (p0 :: xs).length by rw [HN'.out]; omega)
                simp only [Option.some.injEq, Addr.mk.injEq, and_true] at hbo
                obtain ⟨rfl, rfl⟩ := hbo
                have HCY := Lib.hid hcy
                have HCP := Lib.hid hcp
                have HBB := Lib.hid hbb'
                have HI2 : Hid (mostFrom l mv p (y :: (p0 :: xs).drop (j + 1)) = mostOf l (p0 :: xs)) := by
                  have h1 := HI.out
                  rw [drop_at hy, List.getElem!_eq_getElem?_getD, hp] at h1
                  exact h1
                have HY : Hid ((p0 :: xs)[j + 1 - 1]! = y) := by
                  show _ = _
                  rw [Nat.add_sub_cancel, List.getElem!_eq_getElem?_getD, hy]; rfl
                have hq1 := HR.out.cell 1
                have hjw : IntKind.i64.wrap ((j : Int) - 1) = ((j - 1 : Nat) : Int) := by rw [IntKind.wrap_i64]; omega
                have hjs : (j : Int) - 1 = ((j - 1 : Nat) : Int) := by omega
                clear hy hp hcy hcp hbb' HI
                go_wp2
                go_loopw [50, 11] (fun i bo wr2 => ∃ (k2 : Nat) (bv : Int), i = .int .i64 (k2 : Int) ∧ k2 ≤ n ∧ bo = .int .i64 bv ∧ -1 ≤ bv ∧ bv ≤ 1000 ∧ Hid ((l.drop k2).foldl (stepOn p y) bv = stepL l p y) ∧ Hid (Row wr2 w.heap.size 40 [.int .i64 x, .slice A n c]) ∧ Hid (Below w.heap.size w wr2)) (fun i _ _ => n - (intOf i).toNat)
                case atStart => exact ⟨0, -1, rfl, by omega, rfl, by omega, by omega, rfl, HR.out, HB.out⟩
                case round =>
                  clear HR HB hq1
                  obtain ⟨k2, bv, rfl, hk2, rfl, hb0, hb1, HI, HR, HB⟩ := hrel
                  by_cases hkn : k2 < n
                  · have hknz : (k2 : Int) < n := by omega
                    obtain ⟨b, off, ea, eb, et, rfl, hbb, hx, hc0, hc1, hc2⟩ := edges_at hA (show k2 < l.length by rw [HN.out]; exact hkn)
                    obtain ⟨_, _, ht0, ht1⟩ := HED.out _ (List.mem_of_getElem? hx)
                    simp only at ht0 ht1
                    have HST : Hid ((l.drop (k2 + 1)).foldl (stepOn p y) (stepOn p y bv ⟨ea, eb, et⟩) = stepL l p y) := by
                      have h1 := HI.out
                      rw [drop_at hx, List.foldl_cons] at h1
                      exact h1
                    rw [← HB.out.cell hbb] at hc0 hc1 hc2
                    have hcy := (HB.out.cell (p := ⟨b', off' + j, none⟩) HBB.out).trans HCY.out
                    have hcp := (HB.out.cell (p := ⟨b', off' + (j - 1), none⟩) HBB.out).trans HCP.out
                    have HBN : Hid (Below w.heap.size w (wr.alloc (.cells #[.int .i64 ea, .int .i64 eb, .int .i64 et] 101))) := HB.out.alloc HB.out.size _
                    clear hx
                    go_upto_region 22 with fail
                    have hnw := Row.new wr 101 #[.int .i64 ea, .int .i64 eb, .int .i64 et]
                    have k0 := hnw.cell 0
                    have k1 := hnw.cell 1
                    have k2c := hnw.cell 2
                    have HR2 : Hid (Row (wr.alloc (.cells #[.int .i64 ea, .int .i64 eb, .int .i64 et] 101)) w.heap.size 40 [.int .i64 x, .slice (some ⟨b, off, none⟩) n c]) := HR.out.alloc _
                    replace hcy : (wr.alloc (.cells #[.int .i64 ea, .int .i64 eb, .int .i64 et] 101)).cell? ⟨b', off' + j, none⟩ = some (.int .i64 y) := (HBN.out.cell (p := ⟨b', off' + j, none⟩) HBB.out).trans HCY.out
                    replace hcp : (wr.alloc (.cells #[.int .i64 ea, .int .i64 eb, .int .i64 et] 101)).cell? ⟨b', off' + (j - 1), none⟩ = some (.int .i64 p) := (HBN.out.cell (p := ⟨b', off' + (j - 1), none⟩) HBB.out).trans HCP.out
                    have hj1z : ((j - 1 : Nat) : Int) < m := by omega
                    have hj0z : (0 : Int) ≤ ((j - 1 : Nat) : Int) := by omega
                    have hj1n : j - 1 < m := by omega
                    have hneg : decide (((j - 1 : Nat) : Int) < 0) = false := decide_eq_false (by omega)
                    have hneg2 : decide ((j : Int) < 0) = false := decide_eq_false (by omega)
                    have hneg3 : decide ((m : Int) ≤ ((j - 1 : Nat) : Int)) = false := decide_eq_false (by omega)
                    have hneg4 : decide ((m : Int) ≤ (j : Int)) = false := decide_eq_false (by omega)
                    clear hc0 hc1 hc2 hnw HR HB
                    generalize wr.heap.size = bx at k0 k1 k2c ⊢
                    generalize wr.alloc (.cells #[.int .i64 ea, .int .i64 eb, .int .i64 et] 101) = w2 at HBN HR2 hcy hcp k0 k1 k2c ⊢
                    by_cases t1 : ea = p
                    · have t1d : (ea == p) = true := by simpa using t1
                      by_cases t2 : eb = y
                      · have t2d : (eb == y) = true := by simpa using t2
                        by_cases hbn : bv < 0
                        · have hbd : decide (bv < 0) = true := decide_eq_true hbn
                          have HST2 : Hid ((l.drop (k2 + 1)).foldl (stepOn p y) et = stepL l p y) := by
                            have h := HST.out
                            rw [show stepOn p y bv ⟨ea, eb, et⟩ = et from if_pos ⟨Or.inl ⟨t1, t2⟩, Or.inl hbn⟩] at h
                            exact h
                          clear HST t1 t2 hbn
                          go_quiet (fail)
                          have HB3 : Hid (Below w.heap.size w (w2.drewN nq)) := below_drewN HBN.out _
                          have HR3 : Hid (Row (w2.drewN nq) w.heap.size 40 [.int .i64 x, .slice (some ⟨b, off, none⟩) n c]) := HR2.out.drewN _
                          have k2d : (w2.drewN nq).cell? ⟨bx, 2, none⟩ = some (.int .i64 et) := k2c
                          clear k0 k1 k2c hcy hcp HBN HR2
                          generalize w2.drewN nq = w3 at HB3 HR3 k2d ⊢
                          go_wp2
                          go_roundw
                          case rel => exact ⟨k2 + 1, et, by go_num, by omega, rfl, by omega, by omega, HST2.out, HR3.out, HB3.out⟩
                          case measure => simp [intOf]; omega
                        · have hbd : decide (bv < 0) = false := decide_eq_false hbn
                          by_cases htb : et < bv
                          · have htd : decide (et < bv) = true := decide_eq_true htb
                            have HST2 : Hid ((l.drop (k2 + 1)).foldl (stepOn p y) et = stepL l p y) := by
                              have h := HST.out
                              rw [show stepOn p y bv ⟨ea, eb, et⟩ = et from if_pos ⟨Or.inl ⟨t1, t2⟩, Or.inr htb⟩] at h
                              exact h
                            clear HST t1 t2 hbn htb
                            go_quiet (fail)
                            have HB3 : Hid (Below w.heap.size w (w2.drewN nq)) := below_drewN HBN.out _
                            have HR3 : Hid (Row (w2.drewN nq) w.heap.size 40 [.int .i64 x, .slice (some ⟨b, off, none⟩) n c]) := HR2.out.drewN _
                            have k2d : (w2.drewN nq).cell? ⟨bx, 2, none⟩ = some (.int .i64 et) := k2c
                            clear k0 k1 k2c hcy hcp HBN HR2
                            generalize w2.drewN nq = w3 at HB3 HR3 k2d ⊢
                            go_wp2
                            go_roundw
                            case rel => exact ⟨k2 + 1, et, by go_num, by omega, rfl, by omega, by omega, HST2.out, HR3.out, HB3.out⟩
                            case measure => simp [intOf]; omega
                          · have htd : decide (et < bv) = false := decide_eq_false htb
                            have HST2 : Hid ((l.drop (k2 + 1)).foldl (stepOn p y) bv = stepL l p y) := by
                              have h := HST.out
                              rw [show stepOn p y bv ⟨ea, eb, et⟩ = bv from if_neg (fun h => by dsimp only at h; omega)] at h
                              exact h
                            clear HST t1 t2 hbn htb
                            go_quiet (fail)
                            have HB3 : Hid (Below w.heap.size w (w2.drewN nq)) := below_drewN HBN.out _
                            have HR3 : Hid (Row (w2.drewN nq) w.heap.size 40 [.int .i64 x, .slice (some ⟨b, off, none⟩) n c]) := HR2.out.drewN _
                            have k2d : (w2.drewN nq).cell? ⟨bx, 2, none⟩ = some (.int .i64 et) := k2c
                            clear k0 k1 k2c hcy hcp HBN HR2
                            generalize w2.drewN nq = w3 at HB3 HR3 k2d ⊢
                            go_wp2
                            go_roundw
                            case rel => exact ⟨k2 + 1, bv, by go_num, by omega, rfl, by omega, by omega, HST2.out, HR3.out, HB3.out⟩
                            case measure => simp [intOf]; omega
                      · have t2d : (eb == y) = false := by simpa using t2
                        by_cases t3 : eb = p
                        · have t3d : (eb == p) = true := by simpa using t3
                          by_cases t4 : ea = y
                          · have t4d : (ea == y) = true := by simpa using t4
                            by_cases hbn : bv < 0
                            · have hbd : decide (bv < 0) = true := decide_eq_true hbn
                              have HST2 : Hid ((l.drop (k2 + 1)).foldl (stepOn p y) et = stepL l p y) := by
                                have h := HST.out
                                rw [show stepOn p y bv ⟨ea, eb, et⟩ = et from if_pos ⟨Or.inr ⟨t3, t4⟩, Or.inl hbn⟩] at h
                                exact h
                              clear HST t1 t2 t3 t4 hbn
                              go_quiet (fail)
                              have HB3 : Hid (Below w.heap.size w (w2.drewN nq)) := below_drewN HBN.out _
                              have HR3 : Hid (Row (w2.drewN nq) w.heap.size 40 [.int .i64 x, .slice (some ⟨b, off, none⟩) n c]) := HR2.out.drewN _
                              have k2d : (w2.drewN nq).cell? ⟨bx, 2, none⟩ = some (.int .i64 et) := k2c
                              clear k0 k1 k2c hcy hcp HBN HR2
                              generalize w2.drewN nq = w3 at HB3 HR3 k2d ⊢
                              go_wp2
                              go_roundw
                              case rel => exact ⟨k2 + 1, et, by go_num, by omega, rfl, by omega, by omega, HST2.out, HR3.out, HB3.out⟩
                              case measure => simp [intOf]; omega
                            · have hbd : decide (bv < 0) = false := decide_eq_false hbn
                              by_cases htb : et < bv
                              · have htd : decide (et < bv) = true := decide_eq_true htb
                                have HST2 : Hid ((l.drop (k2 + 1)).foldl (stepOn p y) et = stepL l p y) := by
                                  have h := HST.out
                                  rw [show stepOn p y bv ⟨ea, eb, et⟩ = et from if_pos ⟨Or.inr ⟨t3, t4⟩, Or.inr htb⟩] at h
                                  exact h
                                clear HST t1 t2 t3 t4 hbn htb
                                go_quiet (fail)
                                have HB3 : Hid (Below w.heap.size w (w2.drewN nq)) := below_drewN HBN.out _
                                have HR3 : Hid (Row (w2.drewN nq) w.heap.size 40 [.int .i64 x, .slice (some ⟨b, off, none⟩) n c]) := HR2.out.drewN _
                                have k2d : (w2.drewN nq).cell? ⟨bx, 2, none⟩ = some (.int .i64 et) := k2c
                                clear k0 k1 k2c hcy hcp HBN HR2
                                generalize w2.drewN nq = w3 at HB3 HR3 k2d ⊢
                                go_wp2
                                go_roundw
                                case rel => exact ⟨k2 + 1, et, by go_num, by omega, rfl, by omega, by omega, HST2.out, HR3.out, HB3.out⟩
                                case measure => simp [intOf]; omega
                              · have htd : decide (et < bv) = false := decide_eq_false htb
                                have HST2 : Hid ((l.drop (k2 + 1)).foldl (stepOn p y) bv = stepL l p y) := by
                                  have h := HST.out
                                  rw [show stepOn p y bv ⟨ea, eb, et⟩ = bv from if_neg (fun h => by dsimp only at h; omega)] at h
                                  exact h
                                clear HST t1 t2 t3 t4 hbn htb
                                go_quiet (fail)
                                have HB3 : Hid (Below w.heap.size w (w2.drewN nq)) := below_drewN HBN.out _
                                have HR3 : Hid (Row (w2.drewN nq) w.heap.size 40 [.int .i64 x, .slice (some ⟨b, off, none⟩) n c]) := HR2.out.drewN _
                                have k2d : (w2.drewN nq).cell? ⟨bx, 2, none⟩ = some (.int .i64 et) := k2c
                                clear k0 k1 k2c hcy hcp HBN HR2
                                generalize w2.drewN nq = w3 at HB3 HR3 k2d ⊢
                                go_wp2
                                go_roundw
                                case rel => exact ⟨k2 + 1, bv, by go_num, by omega, rfl, by omega, by omega, HST2.out, HR3.out, HB3.out⟩
                                case measure => simp [intOf]; omega
                          · have t4d : (ea == y) = false := by simpa using t4
                            have HST2 : Hid ((l.drop (k2 + 1)).foldl (stepOn p y) bv = stepL l p y) := by
                              have h := HST.out
                              rw [show stepOn p y bv ⟨ea, eb, et⟩ = bv from if_neg (fun h => by dsimp only at h; omega)] at h
                              exact h
                            clear HST t1 t2 t3 t4
                            go_quiet (fail)
                            have HB3 : Hid (Below w.heap.size w (w2.drewN nq)) := below_drewN HBN.out _
                            have HR3 : Hid (Row (w2.drewN nq) w.heap.size 40 [.int .i64 x, .slice (some ⟨b, off, none⟩) n c]) := HR2.out.drewN _
                            have k2d : (w2.drewN nq).cell? ⟨bx, 2, none⟩ = some (.int .i64 et) := k2c
                            clear k0 k1 k2c hcy hcp HBN HR2
                            generalize w2.drewN nq = w3 at HB3 HR3 k2d ⊢
                            go_wp2
                            go_roundw
                            case rel => exact ⟨k2 + 1, bv, by go_num, by omega, rfl, by omega, by omega, HST2.out, HR3.out, HB3.out⟩
                            case measure => simp [intOf]; omega
                        · have t3d : (eb == p) = false := by simpa using t3
                          have HST2 : Hid ((l.drop (k2 + 1)).foldl (stepOn p y) bv = stepL l p y) := by
                            have h := HST.out
                            rw [show stepOn p y bv ⟨ea, eb, et⟩ = bv from if_neg (fun h => by dsimp only at h; omega)] at h
                            exact h
                          clear HST t1 t2 t3
                          go_quiet (fail)
                          have HB3 : Hid (Below w.heap.size w (w2.drewN nq)) := below_drewN HBN.out _
                          have HR3 : Hid (Row (w2.drewN nq) w.heap.size 40 [.int .i64 x, .slice (some ⟨b, off, none⟩) n c]) := HR2.out.drewN _
                          have k2d : (w2.drewN nq).cell? ⟨bx, 2, none⟩ = some (.int .i64 et) := k2c
                          clear k0 k1 k2c hcy hcp HBN HR2
                          generalize w2.drewN nq = w3 at HB3 HR3 k2d ⊢
                          go_wp2
                          go_roundw
                          case rel => exact ⟨k2 + 1, bv, by go_num, by omega, rfl, by omega, by omega, HST2.out, HR3.out, HB3.out⟩
                          case measure => simp [intOf]; omega
                    · have t1d : (ea == p) = false := by simpa using t1
                      by_cases t3 : eb = p
                      · have t3d : (eb == p) = true := by simpa using t3
                        by_cases t4 : ea = y
                        · have t4d : (ea == y) = true := by simpa using t4
                          by_cases hbn : bv < 0
                          · have hbd : decide (bv < 0) = true := decide_eq_true hbn
                            have HST2 : Hid ((l.drop (k2 + 1)).foldl (stepOn p y) et = stepL l p y) := by
                              have h := HST.out
                              rw [show stepOn p y bv ⟨ea, eb, et⟩ = et from if_pos ⟨Or.inr ⟨t3, t4⟩, Or.inl hbn⟩] at h
                              exact h
                            clear HST t1 t3 t4 hbn
                            go_quiet (fail)
                            have HB3 : Hid (Below w.heap.size w (w2.drewN nq)) := below_drewN HBN.out _
                            have HR3 : Hid (Row (w2.drewN nq) w.heap.size 40 [.int .i64 x, .slice (some ⟨b, off, none⟩) n c]) := HR2.out.drewN _
                            have k2d : (w2.drewN nq).cell? ⟨bx, 2, none⟩ = some (.int .i64 et) := k2c
                            clear k0 k1 k2c hcy hcp HBN HR2
                            generalize w2.drewN nq = w3 at HB3 HR3 k2d ⊢
                            go_wp2
                            go_roundw
                            case rel => exact ⟨k2 + 1, et, by go_num, by omega, rfl, by omega, by omega, HST2.out, HR3.out, HB3.out⟩
                            case measure => simp [intOf]; omega
                          · have hbd : decide (bv < 0) = false := decide_eq_false hbn
                            by_cases htb : et < bv
                            · have htd : decide (et < bv) = true := decide_eq_true htb
                              have HST2 : Hid ((l.drop (k2 + 1)).foldl (stepOn p y) et = stepL l p y) := by
                                have h := HST.out
                                rw [show stepOn p y bv ⟨ea, eb, et⟩ = et from if_pos ⟨Or.inr ⟨t3, t4⟩, Or.inr htb⟩] at h
                                exact h
                              clear HST t1 t3 t4 hbn htb
                              go_quiet (fail)
                              have HB3 : Hid (Below w.heap.size w (w2.drewN nq)) := below_drewN HBN.out _
                              have HR3 : Hid (Row (w2.drewN nq) w.heap.size 40 [.int .i64 x, .slice (some ⟨b, off, none⟩) n c]) := HR2.out.drewN _
                              have k2d : (w2.drewN nq).cell? ⟨bx, 2, none⟩ = some (.int .i64 et) := k2c
                              clear k0 k1 k2c hcy hcp HBN HR2
                              generalize w2.drewN nq = w3 at HB3 HR3 k2d ⊢
                              go_wp2
                              go_roundw
                              case rel => exact ⟨k2 + 1, et, by go_num, by omega, rfl, by omega, by omega, HST2.out, HR3.out, HB3.out⟩
                              case measure => simp [intOf]; omega
                            · have htd : decide (et < bv) = false := decide_eq_false htb
                              have HST2 : Hid ((l.drop (k2 + 1)).foldl (stepOn p y) bv = stepL l p y) := by
                                have h := HST.out
                                rw [show stepOn p y bv ⟨ea, eb, et⟩ = bv from if_neg (fun h => by dsimp only at h; omega)] at h
                                exact h
                              clear HST t1 t3 t4 hbn htb
                              go_quiet (fail)
                              have HB3 : Hid (Below w.heap.size w (w2.drewN nq)) := below_drewN HBN.out _
                              have HR3 : Hid (Row (w2.drewN nq) w.heap.size 40 [.int .i64 x, .slice (some ⟨b, off, none⟩) n c]) := HR2.out.drewN _
                              have k2d : (w2.drewN nq).cell? ⟨bx, 2, none⟩ = some (.int .i64 et) := k2c
                              clear k0 k1 k2c hcy hcp HBN HR2
                              generalize w2.drewN nq = w3 at HB3 HR3 k2d ⊢
                              go_wp2
                              go_roundw
                              case rel => exact ⟨k2 + 1, bv, by go_num, by omega, rfl, by omega, by omega, HST2.out, HR3.out, HB3.out⟩
                              case measure => simp [intOf]; omega
                        · have t4d : (ea == y) = false := by simpa using t4
                          have HST2 : Hid ((l.drop (k2 + 1)).foldl (stepOn p y) bv = stepL l p y) := by
                            have h := HST.out
                            rw [show stepOn p y bv ⟨ea, eb, et⟩ = bv from if_neg (fun h => by dsimp only at h; omega)] at h
                            exact h
                          clear HST t1 t3 t4
                          go_quiet (fail)
                          have HB3 : Hid (Below w.heap.size w (w2.drewN nq)) := below_drewN HBN.out _
                          have HR3 : Hid (Row (w2.drewN nq) w.heap.size 40 [.int .i64 x, .slice (some ⟨b, off, none⟩) n c]) := HR2.out.drewN _
                          have k2d : (w2.drewN nq).cell? ⟨bx, 2, none⟩ = some (.int .i64 et) := k2c
                          clear k0 k1 k2c hcy hcp HBN HR2
                          generalize w2.drewN nq = w3 at HB3 HR3 k2d ⊢
                          go_wp2
                          go_roundw
                          case rel => exact ⟨k2 + 1, bv, by go_num, by omega, rfl, by omega, by omega, HST2.out, HR3.out, HB3.out⟩
                          case measure => simp [intOf]; omega
                      · have t3d : (eb == p) = false := by simpa using t3
                        have HST2 : Hid ((l.drop (k2 + 1)).foldl (stepOn p y) bv = stepL l p y) := by
                          have h := HST.out
                          rw [show stepOn p y bv ⟨ea, eb, et⟩ = bv from if_neg (fun h => by dsimp only at h; omega)] at h
                          exact h
                        clear HST t1 t3
                        go_quiet (fail)
                        have HB3 : Hid (Below w.heap.size w (w2.drewN nq)) := below_drewN HBN.out _
                        have HR3 : Hid (Row (w2.drewN nq) w.heap.size 40 [.int .i64 x, .slice (some ⟨b, off, none⟩) n c]) := HR2.out.drewN _
                        have k2d : (w2.drewN nq).cell? ⟨bx, 2, none⟩ = some (.int .i64 et) := k2c
                        clear k0 k1 k2c hcy hcp HBN HR2
                        generalize w2.drewN nq = w3 at HB3 HR3 k2d ⊢
                        go_wp2
                        go_roundw
                        case rel => exact ⟨k2 + 1, bv, by go_num, by omega, rfl, by omega, by omega, HST2.out, HR3.out, HB3.out⟩
                        case measure => simp [intOf]; omega
                  · have hknz : ¬ (k2 : Int) < n := by omega
                    have HE : Hid (bv = stepL l p y) := by
                      have h := HI.out
                      rw [drop_end (by rw [HN.out]; omega)] at h; exact h
                    by_cases hbn : bv < 0
                    · have HT : Hid (mostErr x l (p0 :: xs) = 5) := by
                        refine most_none HG.out HWE.out ?_
                        rw [← HI2.out, mostFrom, ← HE.out, if_pos hbn]
                      go_wp2
                      go_ret2
                      exact most_bad_ HB.out HT.out (by omega)
                    · have HI3 : Hid (mostFrom l (max mv bv) y ((p0 :: xs).drop (j + 1)) = mostOf l (p0 :: xs)) := by
                        have h := HI2.out
                        rw [mostFrom, ← HE.out, if_neg hbn] at h
                        exact h
                      go_wp2
                      go_roundw
                      case rel => exact ⟨j + 1, max mv bv, by go_num, by omega, by omega, int_eq (by split <;> omega), by omega, by omega, by show _ = _; rw [HY.out]; exact HI3.out, HR.out, HB.out⟩
                      case measure => simp [intOf]; omega
              · have hltz : ¬ (j : Int) < m := by omega
                have HV : Hid (mostOf l (p0 :: xs) = some mv) := by
                  show _ = _
                  rw [← HI.out, drop_end (by rw [HN'.out]; omega)]; rfl
                go_wp2
                go_ret2
                exact most_good HB.out HG.out HWE.out HV.out
  · have HE : Hid (mostErr x l o = graphErr x l) := if_neg hg
    rw [errV_bad hg] at C1
    go_enter Tryd.func25, Tryd.ntmps25
    go_wp2_with fail
    refine C1.out.mono ?_
    rintro e w1 ⟨rfl, hb1⟩
    have HB1 : Hid (Below w.heap.size w w1) := HB0.out.trans (hb1.mono (by simp))
    clear hb1 C1 HB0 HR0
    go_wp2
    go_ret2
    exact most_bad_ HB1.out HE.out hg
end Go.Proofs.YtpaoiaogcckibaaDoor
