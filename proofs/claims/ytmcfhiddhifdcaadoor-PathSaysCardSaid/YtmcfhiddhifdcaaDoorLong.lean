/- What path.Long answers. Conditions: lengths are such that slices can have. -/
import Derived.Test.YtmcfhiddhifdcaaDoorLongP
import Derived.Test.YtmcfhiddhifdcaaDoorFar
import Derived.Deep.RegionHeld3
import Derived.Deep.DeepCutAuto
import Derived.BigQuiet
namespace Go.Proofs.YtmcfhiddhifdcaaDoor
open Go.RowKit
def longErr (N : Int) (l : List Edge) (xs : List Int) : Int := if pathErr N l xs = 0 then (if xs.length = 0 then 3 else if 60 < xs.length then 4 else if longRes l xs = none then 5 else 0) else pathErr N l xs
def longVal (N : Int) (l : List Edge) (xs : List Int) : Int := if longErr N l xs = 0 then (longRes l xs).getD 0 else 0
def LongOK (w : World) (x : Int) (l : List Edge) (o : List Int) (e : Ending) (w' : World) : Prop := e = .returned (.tuple #[.int .i64 (longVal x l o), errV (longErr x l o)]) ∧ Below w.heap.size w w'
theorem long_bad_ {w w' : World} {x : Int} {l : List Edge} {o : List Int} {k : Int} (hb : Below w.heap.size w w') (h : longErr x l o = k) (h0 : k ≠ 0) : LongOK w x l o (.returned (.tuple #[.int .i64 0, .iface 53 (.int .i64 k)])) w' := by
  refine ⟨?_, hb⟩
  unfold longVal
  rw [h, if_neg h0, errV_bad h0]
theorem long_good {w w' : World} {x : Int} {l : List Edge} {o : List Int} {v : Int} (hb : Below w.heap.size w w') (hp : pathErr x l o = 0) (h1 : o.length ≠ 0) (h2 : ¬ 60 < o.length) (h : longRes l o = some v) : LongOK w x l o (.returned (.tuple #[.int .i64 v, .nilIface])) w' := by
  have he : longErr x l o = 0 := by unfold longErr; rw [if_pos hp, if_neg h1, if_neg h2, h]; simp
  refine ⟨?_, hb⟩
  unfold longVal
  rw [he, if_pos rfl, h, errV_zero]; rfl
set_option maxHeartbeats 8000000 in
set_option maxRecDepth 100000 in
theorem long_ (x : Int) (A : Option Addr) (n c : Nat) (l : List Edge) (A' : Option Addr) (m c' : Nat) (o : List Int) (w : World) (hA : Cells w w.heap.size A (edges l)) (hn : l.length = n) (hm : n ≤ 9223372036854775807)
    (hA' : Cells w w.heap.size A' (ints o)) (hn' : o.length = m) (hm' : m ≤ 9223372036854775806) :
    Calls Tryd.prog 12 #[graphV x A n c, .slice A' m c'] w (LongOK w x l o) := by
  have HN := Lib.hid hn
  have HN' := Lib.hid hn'
  have HR0 : Hid (Row (w.alloc (.cells #[.int .i64 x, .slice A n c] 24)) w.heap.size 24 [.int .i64 x, .slice A n c]) := Row.new _ _ _
  have hb0 : Below w.heap.size w (w.alloc (.cells #[.int .i64 x, .slice A n c] 24)) := (Below.refl _ _).alloc (Nat.le_refl _) _
  have c1 := pathCheck x A n c l A' m c' o _ (hA.step hb0) hn hm (hA'.step hb0) hn' (by omega)
  have HB0 := Lib.hid hb0
  unfold graphV at c1 ⊢
  have C1 := Lib.hid c1
  clear hn hn' c1 hb0
  by_cases hp : pathErr x l o = 0
  · rw [hp, errV_zero] at C1
    obtain ⟨hg, hnd⟩ := pathErr_ok hp
    obtain ⟨⟨hx0, hx1⟩, hl40, hed⟩ := graphErr_ok hg
    have hn40 : n ≤ 40 := by have := HN.out; omega
    have HED := Lib.hid hed
    have HP := Lib.hid hp
    clear hg hl40 hed hp hnd
    go_enter Tryd.func12, Tryd.ntmps12
    go_wp2_with fail
    refine C1.out.mono ?_
    rintro e w1 ⟨rfl, hb1⟩
    have HB1 : Hid (Below w.heap.size w w1) := HB0.out.trans (hb1.mono (by simp))
    have HR1 := Lib.hid (HR0.out.step hb1)
    clear hb1 C1 HB0 HR0
    by_cases hz : m = 0
    · subst hz
      have HT : Hid (longErr x l o = 3) := by show _ = _; unfold longErr; rw [if_pos HP.out, HN'.out]; simp
      go_wp2
      go_ret2
      exact long_bad_ HB1.out HT.out (by omega)
    · have hz1 : ((m : Int) == 0) = false := by simp; omega
      by_cases h60 : 60 < m
      · have h60z : (60 : Int) < (m : Int) := by omega
        have HT : Hid (longErr x l o = 4) := by show _ = _; unfold longErr; rw [if_pos HP.out, HN'.out]; simp [hz, h60]
        go_wp2
        go_ret2
        exact long_bad_ HB1.out HT.out (by omega)
      · have h60z : ¬ (60 : Int) < (m : Int) := by omega
        have HNONE : Hid (longRes l o = none → longErr x l o = 5) := fun h => by unfold longErr; rw [if_pos HP.out, HN'.out, if_neg hz, if_neg h60, h]; simp
        have HZ := Lib.hid hz
        go_wp2
        go_loopw [8, 7] (fun i so wr => ∃ (j : Nat) (s : Int), i = .int .i64 (j : Int) ∧ 1 ≤ j ∧ j ≤ m ∧ so = .int .i64 s ∧ 0 ≤ s ∧ s ≤ 1000 * j ∧ Hid ((longRes l (o.drop (j - 1))).map (fun n => s + n) = longRes l o) ∧ Hid (Row wr w.heap.size 24 [.int .i64 x, .slice A n c]) ∧ Hid (Below w.heap.size w wr)) (fun i _ _ => m - (intOf i).toNat)
        case atStart => exact ⟨1, 0, rfl, by omega, by omega, rfl, by omega, by omega, by show _ = _; simp, HR1.out, HB1.out⟩
        case round =>
          clear HR1 HB1
          obtain ⟨j, s, rfl, hj1, hjm, rfl, hs0, hs1, HI, HR, HB⟩ := hrel
          by_cases hlt : j < m
          · have hltz : (j : Int) < m := by omega
            obtain ⟨b', off', y, rfl, hbb', hy, hcy⟩ := ints_at hA' (show j < o.length by rw [HN'.out]; exact hlt)
            obtain ⟨b'', off'', p, hbo, _, hp, hcp⟩ := ints_at hA' (show j - 1 < o.length by rw [HN'.out]; omega)
            simp only [Option.some.injEq, Addr.mk.injEq, and_true] at hbo
            obtain ⟨rfl, rfl⟩ := hbo
            have HCY := Lib.hid hcy
            have HCP := Lib.hid hcp
            have HBB := Lib.hid hbb'
            have HI2 : Hid ((longRes l (p :: y :: o.drop (j + 1))).map (fun n => s + n) = longRes l o) := by
              have h1 := HI.out
              rw [drop_at hp, show j - 1 + 1 = j by omega, drop_at hy] at h1
              exact h1
            have HDY := Lib.hid (drop_at hy)
            have hq1 := HR.out.cell 1
            have hjw : IntKind.i64.wrap ((j : Int) - 1) = ((j - 1 : Nat) : Int) := by rw [IntKind.wrap_i64]; omega
            have hjs : (j : Int) - 1 = ((j - 1 : Nat) : Int) := by omega
            clear hy hp hcy hcp hbb' HI
            go_wp2
            go_loopw [35, 9] (fun i bo wr2 => ∃ (k2 : Nat) (bv : Int), i = .int .i64 (k2 : Int) ∧ k2 ≤ n ∧ bo = .int .i64 bv ∧ -1 ≤ bv ∧ bv ≤ 1000 ∧ Hid (lightFrom p y (l.drop k2) bv = light l p y) ∧ Hid (Row wr2 w.heap.size 24 [.int .i64 x, .slice A n c]) ∧ Hid (Below w.heap.size w wr2)) (fun i _ _ => n - (intOf i).toNat)
            case atStart => exact ⟨0, -1, rfl, by omega, rfl, by omega, by omega, rfl, HR.out, HB.out⟩
            case round =>
              clear HR HB hq1
              obtain ⟨k2, bv, rfl, hk2, rfl, hb0, hb1, HI, HR, HB⟩ := hrel
              by_cases hkn : k2 < n
              · have hknz : (k2 : Int) < n := by omega
                obtain ⟨b, off, ea, eb, et, rfl, hbb, hx, hc0, hc1, hc2⟩ := edges_at hA (show k2 < l.length by rw [HN.out]; exact hkn)
                obtain ⟨_, _, ht0, ht1⟩ := HED.out _ (List.mem_of_getElem? hx)
                simp only at ht0 ht1
                have HST : Hid (lightFrom p y (l.drop (k2 + 1)) (if (ea = p ∧ eb = y) ∧ (bv < 0 ∨ et < bv) then et else bv) = light l p y) := by
                  have h1 := HI.out
                  rw [drop_at hx] at h1
                  exact h1
                rw [← HB.out.cell hbb] at hc0 hc1 hc2
                have hcy := (HB.out.cell (p := ⟨b', off' + j, none⟩) HBB.out).trans HCY.out
                have hcp := (HB.out.cell (p := ⟨b', off' + (j - 1), none⟩) HBB.out).trans HCP.out
                have HBN : Hid (Below w.heap.size w (wr.alloc (.cells #[.int .i64 ea, .int .i64 eb, .int .i64 et] 43))) := HB.out.alloc HB.out.size _
                clear hx
                go_upto_region 16 with fail
                have hnw := Row.new wr 43 #[.int .i64 ea, .int .i64 eb, .int .i64 et]
                have k0 := hnw.cell 0
                have k1 := hnw.cell 1
                have k2c := hnw.cell 2
                have HR2 : Hid (Row (wr.alloc (.cells #[.int .i64 ea, .int .i64 eb, .int .i64 et] 43)) w.heap.size 24 [.int .i64 x, .slice (some ⟨b, off, none⟩) n c]) := HR.out.alloc _
                replace hcy : (wr.alloc (.cells #[.int .i64 ea, .int .i64 eb, .int .i64 et] 43)).cell? ⟨b', off' + j, none⟩ = some (.int .i64 y) := (HBN.out.cell (p := ⟨b', off' + j, none⟩) HBB.out).trans HCY.out
                replace hcp : (wr.alloc (.cells #[.int .i64 ea, .int .i64 eb, .int .i64 et] 43)).cell? ⟨b', off' + (j - 1), none⟩ = some (.int .i64 p) := (HBN.out.cell (p := ⟨b', off' + (j - 1), none⟩) HBB.out).trans HCP.out
                have hj1z : ((j - 1 : Nat) : Int) < m := by omega
                have hj0z : (0 : Int) ≤ ((j - 1 : Nat) : Int) := by omega
                have hj1n : j - 1 < m := by omega
                have hneg : decide (((j - 1 : Nat) : Int) < 0) = false := decide_eq_false (by omega)
                have hneg2 : decide ((j : Int) < 0) = false := decide_eq_false (by omega)
                have hneg3 : decide ((m : Int) ≤ ((j - 1 : Nat) : Int)) = false := decide_eq_false (by omega)
                have hneg4 : decide ((m : Int) ≤ (j : Int)) = false := decide_eq_false (by omega)
                clear hc0 hc1 hc2 hnw HR HB
                generalize wr.heap.size = bx at k0 k1 k2c ⊢
                generalize wr.alloc (.cells #[.int .i64 ea, .int .i64 eb, .int .i64 et] 43) = w2 at HBN HR2 hcy hcp k0 k1 k2c ⊢
                by_cases t1 : ea = p
                · have t1d : (ea == p) = true := by simpa using t1
                  by_cases t2 : eb = y
                  · have t2d : (eb == y) = true := by simpa using t2
                    by_cases hbn : bv < 0
                    · have hbd : decide (bv < 0) = true := decide_eq_true hbn
                      have HST2 : Hid (lightFrom p y (l.drop (k2 + 1)) et = light l p y) := by
                        have h := HST.out
                        rw [if_pos ⟨⟨t1, t2⟩, Or.inl hbn⟩] at h
                        exact h
                      clear HST t1 t2 hbn
                      go_quiet (fail)
                      have HB3 : Hid (Below w.heap.size w (w2.drewN nq)) := below_drewN HBN.out _
                      have HR3 : Hid (Row (w2.drewN nq) w.heap.size 24 [.int .i64 x, .slice (some ⟨b, off, none⟩) n c]) := HR2.out.drewN _
                      have k2d : (w2.drewN nq).cell? ⟨bx, 2, none⟩ = some (.int .i64 et) := k2c
                      clear k0 k1 k2c hcy hcp HBN HR2
                      generalize w2.drewN nq = w3 at HB3 HR3 k2d ⊢
                      go_wp2
                      go_roundw
                      case rel => exact ⟨k2 + 1, et, by go_num, by omega, rfl, by omega, by omega, HST2.out, HR3.out, HB3.out⟩
                      case measure => simp [intOf]; omega
                    · have hbd : decide (bv < 0) = false := decide_eq_false hbn
                      by_cases htb : et < bv
                      · have htd : decide (et < bv) = true := decide_eq_true htb
                        have HST2 : Hid (lightFrom p y (l.drop (k2 + 1)) et = light l p y) := by
                          have h := HST.out
                          rw [if_pos ⟨⟨t1, t2⟩, Or.inr htb⟩] at h
                          exact h
                        clear HST t1 t2 hbn htb
                        go_quiet (fail)
                        have HB3 : Hid (Below w.heap.size w (w2.drewN nq)) := below_drewN HBN.out _
                        have HR3 : Hid (Row (w2.drewN nq) w.heap.size 24 [.int .i64 x, .slice (some ⟨b, off, none⟩) n c]) := HR2.out.drewN _
                        have k2d : (w2.drewN nq).cell? ⟨bx, 2, none⟩ = some (.int .i64 et) := k2c
                        clear k0 k1 k2c hcy hcp HBN HR2
                        generalize w2.drewN nq = w3 at HB3 HR3 k2d ⊢
                        go_wp2
                        go_roundw
                        case rel => exact ⟨k2 + 1, et, by go_num, by omega, rfl, by omega, by omega, HST2.out, HR3.out, HB3.out⟩
                        case measure => simp [intOf]; omega
                      · have htd : decide (et < bv) = false := decide_eq_false htb
                        have HST2 : Hid (lightFrom p y (l.drop (k2 + 1)) bv = light l p y) := by
                          have h := HST.out
                          rw [if_neg (fun h => by omega)] at h
                          exact h
                        clear HST t1 t2 hbn htb
                        go_quiet (fail)
                        have HB3 : Hid (Below w.heap.size w (w2.drewN nq)) := below_drewN HBN.out _
                        have HR3 : Hid (Row (w2.drewN nq) w.heap.size 24 [.int .i64 x, .slice (some ⟨b, off, none⟩) n c]) := HR2.out.drewN _
                        have k2d : (w2.drewN nq).cell? ⟨bx, 2, none⟩ = some (.int .i64 et) := k2c
                        clear k0 k1 k2c hcy hcp HBN HR2
                        generalize w2.drewN nq = w3 at HB3 HR3 k2d ⊢
                        go_wp2
                        go_roundw
                        case rel => exact ⟨k2 + 1, bv, by go_num, by omega, rfl, by omega, by omega, HST2.out, HR3.out, HB3.out⟩
                        case measure => simp [intOf]; omega
                  · have t2d : (eb == y) = false := by simpa using t2
                    have HST2 : Hid (lightFrom p y (l.drop (k2 + 1)) bv = light l p y) := by
                      have h := HST.out
                      rw [if_neg (fun h => t2 h.1.2)] at h
                      exact h
                    clear HST t1 t2
                    go_quiet (fail)
                    have HB3 : Hid (Below w.heap.size w (w2.drewN nq)) := below_drewN HBN.out _
                    have HR3 : Hid (Row (w2.drewN nq) w.heap.size 24 [.int .i64 x, .slice (some ⟨b, off, none⟩) n c]) := HR2.out.drewN _
                    have k2d : (w2.drewN nq).cell? ⟨bx, 2, none⟩ = some (.int .i64 et) := k2c
                    clear k0 k1 k2c hcy hcp HBN HR2
                    generalize w2.drewN nq = w3 at HB3 HR3 k2d ⊢
                    go_wp2
                    go_roundw
                    case rel => exact ⟨k2 + 1, bv, by go_num, by omega, rfl, by omega, by omega, HST2.out, HR3.out, HB3.out⟩
                    case measure => simp [intOf]; omega
                · have t1d : (ea == p) = false := by simpa using t1
                  have HST2 : Hid (lightFrom p y (l.drop (k2 + 1)) bv = light l p y) := by
                    have h := HST.out
                    rw [if_neg (fun h => t1 h.1.1)] at h
                    exact h
                  clear HST t1
                  go_quiet (fail)
                  have HB3 : Hid (Below w.heap.size w (w2.drewN nq)) := below_drewN HBN.out _
                  have HR3 : Hid (Row (w2.drewN nq) w.heap.size 24 [.int .i64 x, .slice (some ⟨b, off, none⟩) n c]) := HR2.out.drewN _
                  have k2d : (w2.drewN nq).cell? ⟨bx, 2, none⟩ = some (.int .i64 et) := k2c
                  clear k0 k1 k2c hcy hcp HBN HR2
                  generalize w2.drewN nq = w3 at HB3 HR3 k2d ⊢
                  go_wp2
                  go_roundw
                  case rel => exact ⟨k2 + 1, bv, by go_num, by omega, rfl, by omega, by omega, HST2.out, HR3.out, HB3.out⟩
                  case measure => simp [intOf]; omega
              · have hke : k2 = n := by omega
                subst hke
                have hknz : ¬ (k2 : Int) < k2 := by omega
                have HLG : Hid (bv = light l p y) := by
                  have h := HI.out
                  rw [drop_end (by rw [HN.out]; omega)] at h
                  exact h
                by_cases hbn : bv < 0
                · have HE := Lib.hid (HNONE.out (by rw [← HI2.out, longRes_none (by rw [← HLG.out]; exact hbn)]; rfl))
                  go_wp2
                  go_ret2
                  exact long_bad_ HB.out HE.out (by omega)
                · have HI3 : Hid ((longRes l (o.drop j)).map (fun n => s + bv + n) = longRes l o) := by
                    show _ = _
                    rw [← HI2.out, longRes_step (by rw [← HLG.out]; exact hbn), HDY.out, Option.map_map, ← HLG.out]
                    congr 1
                    funext n
                    simp only [Function.comp]; omega
                  go_wp2
                  go_roundw
                  case rel => exact ⟨j + 1, s + bv, by go_num, by omega, by omega, rfl, by omega, by omega, by show _ = _; rw [Nat.add_sub_cancel]; exact HI3.out, HR.out, HB.out⟩
                  case measure => simp [intOf]; omega
          · have hje : j = m := by omega
            subst hje
            have hltz : ¬ (j : Int) < j := by omega
            have HF : Hid (longRes l o = some s) := by
              show _ = _
              rw [← HI.out]
              have hd : o.drop (j - 1) = [o[j - 1]'(by rw [HN'.out]; omega)] := by
                rw [List.drop_eq_getElem_cons (by rw [HN'.out]; omega), show j - 1 + 1 = j by omega, drop_end (by rw [HN'.out]; omega)]
              rw [hd]; simp [longRes]
            go_wp2
            go_ret2
            exact long_good HB.out HP.out (by rw [HN'.out]; exact HZ.out) (by rw [HN'.out]; exact h60) HF.out
  · have HT : Hid (longErr x l o = pathErr x l o) := if_neg hp
    have HBD := Lib.hid (errV_bad hp)
    have HP := Lib.hid hp
    clear hp
    go_enter Tryd.func12, Tryd.ntmps12
    go_wp2_with fail
    refine C1.out.mono ?_
    rintro e w1 ⟨rfl, hb1⟩
    have HB1 : Hid (Below w.heap.size w w1) := HB0.out.trans (hb1.mono (by simp))
    rw [HBD.out]
    clear hb1 C1 HB0 HR0
    go_wp2
    go_ret2
    exact long_bad_ HB1.out HT.out HP.out
end Go.Proofs.YtmcfhiddhifdcaaDoor
