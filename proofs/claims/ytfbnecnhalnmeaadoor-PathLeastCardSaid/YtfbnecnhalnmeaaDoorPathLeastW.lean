/- The walk of PathLeast. Conditions: lengths are such that slices can have; errors.errorType holds the handle of the type error. -/
import Derived.Test.YtfbnecnhalnmeaaDoorFarCells
import Derived.Test.YtfbnecnhalnmeaaDoorLong
import Derived.Test.YtfbnecnhalnmeaaDoorTold
namespace Go.Proofs.YtfbnecnhalnmeaaDoor
open Go.RowKit
theorem pathErr_out {N : Nat} {l : List Edge} {s : Nat} {t : Int} (hg : graphErr N l = 0) (hs : s < N) (ht : t < 0 ∨ (N : Int) ≤ t) : pathErr N l [(s : Int), t] = 1 := by
  unfold pathErr
  rw [if_pos hg]
  unfold nodesErr
  rw [if_pos (inB_true (by omega))]
  unfold nodesErr
  rw [if_neg]
  intro h
  have := of_inB h
  omega
/-- no walk is shorter -/
theorem walk_longer {N : Nat} {l : List Edge} {a : Nat} {outs : List Fr} (hsh : Short (arcs false l) (a : Int) N (outF outs)) (hl : outs.length = N) (hw : ∀ e ∈ l, 0 ≤ e.weight) {o : List Int} {v : Int} {y : Nat} (hv : longRes l o = some v) (h0 : o[0]? = some (a : Int)) (h1 : o[o.length - 1]? = some (y : Int)) :
    0 ≤ outs[y]!.weight ∧ outs[y]!.weight ≤ v := by
  cases o with
  | nil => simp at h0
  | cons x r =>
    simp at h0
    subst h0
    have h2 := long_reach hw r (a : Int) v hv
    have h3 : ((a : Int) :: r).getLast (by simp) = (y : Int) := by
      rw [List.getLast_eq_getElem]
      rw [List.getElem?_eq_getElem (by simp)] at h1
      injection h1
    rw [h3] at h2
    obtain ⟨w, e, h4, h5⟩ := hsh.least h2
    obtain ⟨h6, _⟩ := outF_some h4
    have h7 := (hsh.sound _ _ _ h4).2.2.2.1
    unfold le2 at h5
    omega
theorem longErr_zero {N : Int} {l : List Edge} {o : List Int} (h : longErr N l o = 0) : pathErr N l o = 0 ∧ o.length ≠ 0 ∧ o.length ≤ 60 ∧ longRes l o = some (longVal N l o) := by
  have h' := h
  unfold longErr at h
  split at h
  · next hp =>
    split at h
    · omega
    · next hz =>
      split at h
      · omega
      · next h6 =>
        split at h
        · omega
        · next hr =>
          refine ⟨hp, hz, by omega, ?_⟩
          unfold longVal
          rw [if_pos h']
          cases hq : longRes l o with
          | none => exact absurd hq hr
          | some v => rfl
  · next hp => exact absurd h hp
theorem long_of_way {N : Nat} {l : List Edge} {o : List Int} {v : Int} (hg : graphErr N l = 0) (hin : ∀ x ∈ o, 0 ≤ x ∧ x < (N : Int)) (hz : o.length ≠ 0) (h6 : o.length ≤ 60) (h : longRes l o = some v) : longErr N l o = 0 ∧ longVal N l o = v := by
  have h1 : longErr N l o = 0 := by
    unfold longErr
    rw [if_pos (pathErr_of hg (fun x hx => by have := hin x hx; omega)), if_neg hz, if_neg (by omega), h]
    simp
  refine ⟨h1, ?_⟩
  unfold longVal
  rw [if_pos h1, h]; rfl
set_option maxHeartbeats 8000000 in
set_option maxRecDepth 100000 in
theorem pathLeastW (x : Int) (A : Option Addr) (n c : Nat) (a t : Int) (A' : Option Addr) (m c' : Nat) (l : List Edge) (o : List Int) (w : World) (_ : -9223372036854775808 ≤ x ∧ x ≤ 9223372036854775807) (hA : Cells w w.heap.size A (edges l)) (hn : l.length = n) (hm : n * 24 ≤ 140737488351232) (_ : ∀ e ∈ l, InEdge e) (_ : -9223372036854775808 ≤ a ∧ a ≤ 9223372036854775807) (_ : -9223372036854775808 ≤ t ∧ t ≤ 9223372036854775807) (hA' : Cells w w.heap.size A' (ints o)) (hn' : o.length = m) (hm' : m * 8 ≤ 140737488351232) (_ : ∀ i ∈ o, -9223372036854775808 ≤ i ∧ i ≤ 9223372036854775807) (hgt : ErrT w) :
    Calls Tryd.prog 3 #[graphV x A n c, .int .i64 a, .int .i64 t, .slice A' m c'] w fun e w' => e = .returned (.bool true) ∧ Below w.heap.size w w' := by
  have HN := Lib.hid hn
  have HN' := Lib.hid hn'
  have hn8 : n ≤ 9223372036854775807 := by omega
  have hm8 : m ≤ 9223372036854775806 := by omega
  have HGT := Lib.hid hgt
  have HPOS := Lib.hid hgt.pos
  have HB0 : Hid (Below w.heap.size w (w.alloc (.cells #[.int .i64 x, .slice A n c] 24))) := (Below.refl _ _).alloc (Nat.le_refl _) _
  have HR0 : Hid (Row (w.alloc (.cells #[.int .i64 x, .slice A n c] 24)) w.heap.size 24 [.int .i64 x, .slice A n c]) := Row.new _ _ _
  have HA := Lib.hid hA
  have HA' := Lib.hid hA'
  clear hn hn' hA hA' hgt
  unfold graphV
  go_enter Tryd.func3, Tryd.ntmps3
  go_wp2_with fail
  refine (pathFact _).mono ?_
  rintro e w1 ⟨rfl, hb1⟩
  have HB1 : Hid (Below w.heap.size w w1) := HB0.out.trans (hb1.mono (by simp))
  have HR1 := Lib.hid (HR0.out.step hb1)
  have hsz1 := HB1.out.size
  have hA1 := (HA.out.below HB1.out (Nat.le_refl _)).more hsz1
  have hq0 := HR1.out.cell 0
  have hq1 := HR1.out.cell 1
  clear hb1 HB0 HR0 hm hm'
  by_cases hp : pathErr x l [a] = 0
  · obtain ⟨hg, hsx⟩ := pathErr_ok hp
    have ha := hsx a (by simp)
    obtain ⟨⟨hx0, hx1⟩, hl40, hed⟩ := graphErr_ok hg
    obtain ⟨N, rfl⟩ : ∃ N : Nat, x = N := ⟨x.toNat, by omega⟩
    obtain ⟨a, rfl⟩ : ∃ k : Nat, a = k := ⟨a.toNat, by omega⟩
    have haN : a < N := by omega
    have hN : N ≤ 16 := by omega
    have HG := Lib.hid hg
    have HED := Lib.hid hed
    have c2 := far_ok N A n c l a w1 hA1 HN.out hn8 hg haN
    unfold graphV at c2
    have C2 := Lib.hid c2
    clear c2 hp hg hsx hx0 hx1 hl40 hed ha
    go_wp2_with fail
    refine C2.out.mono ?_
    rintro e w2 ⟨g2, k2, o2, rfl, hol2, hown2, hsh2, hww2, hb2⟩
    have HB2 : Hid (Below w.heap.size w w2) := HB1.out.trans (hb2.mono hsz1)
    have HR2 := Lib.hid (HR1.out.step hb2)
    have hsz2 := HB2.out.size
    have hA2 := (HA.out.below HB2.out (Nat.le_refl _)).more hsz2
    have hA2' := (HA'.out.below HB2.out (Nat.le_refl _)).more hsz2
    have HF2 := Lib.hid (far_cells hown2 hol2)
    have HL2 := Lib.hid hol2
    have HS2 := Lib.hid hsh2
    have HW2 := Lib.hid hww2
    have HG2 := Lib.hid (hown2.lt g2 rfl)
    have hq0 := HR2.out.cell 0
    have hq1 := HR2.out.cell 1
    clear hol2 hown2 hsh2 hww2 hb2 C2 hA1 hsz1 HB1 HR1
    have c3 := long_ N A n c l A' m c' o w2 hA2 HN.out hn8 hA2' HN'.out hm8
    unfold graphV at c3
    have C3 := Lib.hid c3
    have hne : ((N : Int) != N) = false := by simp
    clear c3 hA2 hA2'
    go_wp2_with fail
    refine C3.out.mono ?_
    rintro e w3 ⟨rfl, hb3⟩
    have HB3 : Hid (Below w.heap.size w w3) := HB2.out.trans (hb3.mono hsz2)
    have HR3 := Lib.hid (HR2.out.step hb3)
    have hsz3 := HB3.out.size
    have HF3 : Hid (∀ i, i < N → w3.cell? ⟨g2, i, none⟩ = some (.int .i64 o2[i]!.weight)) := fun i hi => (hb3.cell (p := ⟨g2, i, none⟩) HG2.out.2).trans (HF2.out i hi)
    have HG3 : Hid (g2 < w3.heap.size) := Nat.lt_of_lt_of_le HG2.out.2 hb3.size
    have hA3' := (HA'.out.below HB3.out (Nat.le_refl _))
    have HZ := Lib.hid (fun h => longErr_zero (N := N) (l := l) (o := o) h)
    clear hb3 C3 HB2 HR2 hsz2 HF2 HG2 hq0 hq1
    have hq0 := HR3.out.cell 0
    have hq1 := HR3.out.cell 1
    generalize longErr N l o = le at HZ ⊢
    generalize longVal N l o = lv at HZ ⊢
    obtain ⟨ev, hev⟩ : ∃ ev, ev = errV le := ⟨_, rfl⟩
    rw [← hev]
    have HEV := Lib.hid hev
    clear hev
    go_upto_region 10 with fail
    go_cut [78] from 45 to 78 (fun v wx => v = .bool false ∧ wx = w3)
    case first =>
      by_cases hle : le = 0
      · obtain rfl : ev = .nilIface := by rw [HEV.out, hle]; exact errV_zero
        clear HEV
        obtain ⟨hpo, hz, h60, hlr⟩ := HZ.out hle
        rw [HN'.out] at hz h60
        have HNW := Lib.hid (pathErr_ok hpo).2
        obtain ⟨b', off', z, rfl, hbb, hz0, hcz⟩ := ints_at hA3' (show 0 < o.length by rw [HN'.out]; omega)
        rw [Nat.add_zero] at hcz
        have hm0 : (0 : Int) < (m : Int) := by omega
        by_cases hza : z = (a : Int)
        · have hzd : (z == (a : Int)) = true := by simpa using hza
          obtain ⟨b'', off'', y, hbo, _, hy, hcy⟩ := ints_at hA3' (show m - 1 < o.length by rw [HN'.out]; omega)
          simp only [Option.some.injEq, Addr.mk.injEq, and_true] at hbo
          obtain ⟨rfl, rfl⟩ := hbo
          have hyN := HNW.out y (List.mem_of_getElem? hy)
          obtain ⟨y, rfl⟩ : ∃ k : Nat, y = k := ⟨y.toNat, by omega⟩
          have hyn : y < N := by omega
          have hyz : (y : Int) < N := by omega
          have hy0 : (0 : Int) ≤ (y : Int) := by omega
          have hfy := HF3.out y hyn
          have hle2 := walk_longer HS2.out HL2.out (fun e he => (HED.out e he).2.2.1) hlr (by rw [hz0, hza]) (by rw [HN'.out]; exact hy)
          have hmw : IntKind.i64.wrap ((m : Int) - 1) = ((m - 1 : Nat) : Int) := by rw [IntKind.wrap_i64]; omega
          have hm1 : ((m - 1 : Nat) : Int) < (m : Int) := by omega
          have hm10 : (0 : Int) ≤ ((m - 1 : Nat) : Int) := by omega
          have hms : m - 1 < m := by omega
          generalize o2[y]!.weight = ow at hfy hle2
          have hd1 : decide (ow < 0) = false := decide_eq_false (by omega)
          have hd2 : decide (lv < ow) = false := decide_eq_false (by omega)
          have hn1 : ¬ ow < 0 := by omega
          have hn2 : ¬ lv < ow := by omega
          clear hy hyN hle2 hpo hlr hz0 hza hle
          go_wp2
          go_meet
          exact ⟨rfl, rfl⟩
        · have hzd : (z == (a : Int)) = false := by simpa using hza
          clear hza hz0 hpo hlr
          go_wp2
          go_meet
          exact ⟨rfl, rfl⟩
      · obtain rfl : ev = .iface 43 (.int .i64 le) := by rw [HEV.out]; exact errV_bad hle
        clear hle HEV
        go_wp2
        go_meet
        exact ⟨rfl, rfl⟩
    case rest =>
    obtain ⟨rfl, hwc⟩ := hcut
    replace hwc := hwc.symm
    subst hwc
    have hA3 := (HA.out.below HB3.out (Nat.le_refl _)).more hsz3
    clear hA3' HZ HEV
    by_cases htr : t < 0 ∨ (N : Int) ≤ t
    · have hpe := pathErr_out HG.out haN htr
      have c4 := way_bad N A n c l a t w3 hA3 HN.out hn8 (by omega)
      rw [hpe] at c4
      unfold graphV at c4
      have C4 := Lib.hid c4
      have htr' : t < 0 ∨ (¬ t < 0 ∧ (N : Int) ≤ t) := by omega
      clear c4 hpe htr hA3
      go_wp2_with fail
      refine C4.out.mono ?_
      rintro e w4 ⟨rfl, hb4⟩
      have HB4 : Hid (Below w.heap.size w w4) := HB3.out.trans (hb4.mono hsz3)
      have HR4 := Lib.hid (HR3.out.step hb4)
      have hq0 := HR4.out.cell 0
      have hq1 := HR4.out.cell 1
      have C5 := Lib.hid (error_bad 1 (by omega) w4 (HGT.out.below HB4.out HPOS.out))
      clear hb4 C4 HB3 HR3 HF3 HG3
      rcases htr' with h1 | ⟨h1, h2⟩
      all_goals
        go_wp2_with fail
        refine C5.out.mono ?_
        rintro e w5 ⟨rfl, hb5⟩
        have HB5 : Hid (Below w.heap.size w w5) := HB4.out.trans (hb5.mono HB4.out.size)
        clear hb5 C5
        go_wp2
        go_ret
        exact ⟨rfl, HB5.out⟩
    · obtain ⟨t, rfl⟩ : ∃ k : Nat, t = k := ⟨t.toNat, by omega⟩
      have htN : t < N := by omega
      have htz : (t : Int) < N := by omega
      have ht0 : (0 : Int) ≤ (t : Int) := by omega
      have htn0 : ¬ (t : Int) < 0 := by omega
      have htn1 : ¬ (N : Int) ≤ t := by omega
      have c4 := way_ok N A n c l a t w3 hA3 HN.out hn8 HG.out haN htN
      unfold graphV at c4
      have C4 := Lib.hid c4
      clear c4 htr hA3
      go_wp2_with fail
      refine C4.out.mono ?_
      rintro e w4 ⟨D, hsh4, hb4, (⟨hD, rfl⟩ | ⟨wt, k, g5, c5, hD, hkN, rfl, hown5⟩)⟩
      · have HB4 : Hid (Below w.heap.size w w4) := HB3.out.trans (hb4.mono hsz3)
        have HR4 := Lib.hid (HR3.out.step hb4)
        have hq0 := HR4.out.cell 0
        have hq1 := HR4.out.cell 1
        have hm1 := far_none HS2.out hsh4 (by rw [HL2.out]; exact htN) (HW2.out t htN) hD
        have hc4 := (hb4.cell (p := ⟨g2, t, none⟩) HG3.out).trans (HF3.out t htN)
        rw [hm1] at hc4
        have HC4 := Lib.hid hc4
        have HG4 : Hid (g2 < w4.heap.size) := Nat.lt_of_lt_of_le HG3.out hb4.size
        have C5 := Lib.hid (error_bad 5 (by omega) w4 (HGT.out.below HB4.out HPOS.out))
        clear hb4 C4 HB3 HR3 HF3 HG3 hm1 hD hsh4 hc4
        go_wp2_with fail
        refine C5.out.mono ?_
        rintro e w5 ⟨rfl, hb5⟩
        have HB5 : Hid (Below w.heap.size w w5) := HB4.out.trans (hb5.mono HB4.out.size)
        have hc5 := (hb5.cell (p := ⟨g2, t, none⟩) HG4.out).trans HC4.out
        clear hb5 C5 hq0 hq1 HR4
        go_wp2
        go_ret
        exact ⟨rfl, HB5.out⟩
      · have HB4 : Hid (Below w.heap.size w w4) := HB3.out.trans (hb4.mono hsz3)
        have HR4 := Lib.hid (HR3.out.step hb4)
        have hsz4 := HB4.out.size
        have hq0 := HR4.out.cell 0
        have hq1 := HR4.out.cell 1
        have hb : ∀ e ∈ l, 0 ≤ e.b := fun e he => (HED.out e he).2.1.1
        have hwl : (((a : Int) :: wayFrom l D k (a : Int))).length = k + 1 := by simp [wayFrom_len]
        have hlw := long_of_way HG.out (way_in hsh4 hb hD) (by omega) (by omega) (long_way hsh4 hb (fun e he => (HED.out e he).2.2.1) k (a : Int) wt hD)
        have hfar : o2[t]!.weight = wt := by
          have h1 := short_both HS2.out hsh4
          rw [hD] at h1
          exact (outF_some h1).1
        have HFT : Hid (w4.cell? ⟨g2, t, none⟩ = some (.int .i64 wt)) := by
          have h := (hb4.cell (p := ⟨g2, t, none⟩) HG3.out).trans (HF3.out t htN)
          rw [hfar] at h
          exact h
        have HG4 : Hid (g2 < w4.heap.size) := Nat.lt_of_lt_of_le HG3.out hb4.size
        have hW0 : (((a : Int) :: wayFrom l D k (a : Int)))[0]! = (a : Int) := rfl
        have hWL : (((a : Int) :: wayFrom l D k (a : Int)))[k + 1 - 1]! = (t : Int) := by rw [Nat.add_sub_cancel]; exact way_last hsh4 hb hD
        have hWI : ∀ i j, i < k + 1 → j < i → (((a : Int) :: wayFrom l D k (a : Int)))[i]! ≠ (((a : Int) :: wayFrom l D k (a : Int)))[j]! := fun i j hi hj h => by
          have := way_once hsh4 hb hD (i := i) (j := j) (by omega) (by omega) h
          omega
        have hCW : Cells w4 w4.heap.size (some ⟨g5, 0, none⟩) (ints ((a : Int) :: wayFrom l D k (a : Int))) := hown5.own (by omega)
        have hcap := own_cap hown5
        clear hb4 C4 HB3 HR3 HF3 HG3 hfar hown5 hD hsh4 hb
        obtain ⟨L, hL⟩ : ∃ L, L = k + 1 := ⟨_, rfl⟩
        rw [← hL] at hwl hWL hWI hcap
        rw [← hL]
        have hL1 : 1 ≤ L := by omega
        have hL17 : L ≤ 17 := by omega
        clear hL hkN
        generalize ((a : Int) :: wayFrom l D k (a : Int)) = W at hwl hlw hW0 hWL hWI hCW
        have c5' := long_ N A n c l (some ⟨g5, 0, none⟩) L c5 W w4 ((HA.out.below HB4.out (Nat.le_refl _)).more hsz4) HN.out hn8 hCW hwl (by omega)
        unfold LongOK at c5'
        rw [hlw.1, hlw.2, errV_zero] at c5'
        unfold graphV at c5'
        have C5 := Lib.hid c5'
        have HCW := Lib.hid hCW
        have HWLN := Lib.hid hwl
        have HW0 := Lib.hid hW0
        have HWL := Lib.hid hWL
        have HWI := Lib.hid hWI
        clear c5' hlw hCW hwl hW0 hWL hWI
        go_wp2_with fail
        refine C5.out.mono ?_
        rintro e w5 ⟨rfl, hb5⟩
        have HB5 : Hid (Below w.heap.size w w5) := HB4.out.trans (hb5.mono hsz4)
        have hc5t := (hb5.cell (p := ⟨g2, t, none⟩) HG4.out).trans HFT.out
        have HC5 : Hid (Cells w5 w5.heap.size (some ⟨g5, 0, none⟩) (ints W)) := HCW.out.step hb5
        have hat : ∀ (wr : World), Cells wr wr.heap.size (some ⟨g5, 0, none⟩) (ints W) → ∀ i, i < L → wr.cell? ⟨g5, i, none⟩ = some (.int .i64 W[i]!) := fun wr hC i hi => by
          obtain ⟨b', off', y, hbb, _, hx, hcw⟩ := ints_at hC (show i < W.length by rw [HWLN.out]; exact hi)
          simp only [Option.some.injEq, Addr.mk.injEq, and_true] at hbb
          obtain ⟨rfl, rfl⟩ := hbb
          rw [Nat.zero_add] at hcw
          rw [hcw, List.getElem!_eq_getElem?_getD, hx]; rfl
        have HAT := Lib.hid hat
        have hw0 := hat w5 HC5.out 0 (by omega)
        rw [HW0.out] at hw0
        have hwL := hat w5 HC5.out (L - 1) (by omega)
        rw [HWL.out] at hwL
        have hLw : IntKind.i64.wrap ((L : Int) - 1) = ((L - 1 : Nat) : Int) := by rw [IntKind.wrap_i64]; omega
        have hL1z : ((L - 1 : Nat) : Int) < (L : Int) := by omega
        have hL10 : (0 : Int) ≤ ((L - 1 : Nat) : Int) := by omega
        have hLs : L - 1 < L := by omega
        have hL0 : ((L : Int) == 0) = false := by simp; omega
        have hLp : (0 : Int) < (L : Int) := by omega
        have hww : (wt != wt) = false := by simp
        have haa : ((a : Int) != (a : Int)) = false := by simp
        have htt : ((t : Int) != (t : Int)) = false := by simp
        clear hb5 C5 hq0 hq1 HR4 HB4 hat HFT HG4 hsz4
        go_wp2
        go_loopw [18] (fun i wr => ∃ j : Nat, i = .int .i64 (j : Int) ∧ j ≤ L ∧ Hid (Cells wr wr.heap.size (some ⟨g5, 0, none⟩) (ints W)) ∧ Hid (Below w.heap.size w wr)) (fun i _ => L - (intOf i).toNat)
        case atStart => exact ⟨0, rfl, by omega, HC5.out, HB5.out⟩
        case round =>
          clear HC5 HB5 hc5t hw0 hwL
          obtain ⟨i, rfl, hi, HC, HB⟩ := hrel
          by_cases hiL : i < L
          · have hiz : (i : Int) < (L : Int) := by omega
            have hi0 : (0 : Int) ≤ (i : Int) := by omega
            generalize wr = wq at HC HB ⊢
            go_wp2
            go_loopw [19] (fun j wr => ∃ q : Nat, j = .int .i64 (q : Int) ∧ q ≤ i ∧ Hid (Cells wr wr.heap.size (some ⟨g5, 0, none⟩) (ints W)) ∧ Hid (Below w.heap.size w wr)) (fun j _ => i - (intOf j).toNat)
            case atStart => exact ⟨0, rfl, by omega, HC.out, HB.out⟩
            case round =>
              clear HC HB
              obtain ⟨q, rfl, hq, HC, HB⟩ := hrel
              by_cases hqi : q < i
              · have hqz : (q : Int) < (i : Int) := by omega
                have hqL : q < L := by omega
                have hqLz : (q : Int) < (L : Int) := by omega
                have hq0 : (0 : Int) ≤ (q : Int) := by omega
                have hneg : decide ((i : Int) < 0) = false := decide_eq_false (by omega)
                have hneg2 : decide ((q : Int) < 0) = false := decide_eq_false (by omega)
                have hneg3 : decide ((L : Int) ≤ (i : Int)) = false := decide_eq_false (by omega)
                have hneg4 : decide ((L : Int) ≤ (q : Int)) = false := decide_eq_false (by omega)
                have hci := HAT.out wr HC.out i hiL
                have hcq := HAT.out wr HC.out q hqL
                have hne := HWI.out i q hiL hqi
                generalize W[i]! = wi at hci hne
                generalize W[q]! = wq' at hcq hne
                have hned : (wi == wq') = false := by simpa using hne
                clear hne
                go_upto_region 26 with fail
                go_quiet (fail)
                have HB3 : Hid (Below w.heap.size w (wr.drewN nq)) := below_drewN HB.out _
                have HC3 : Hid (Cells (wr.drewN nq) (wr.drewN nq).heap.size (some ⟨g5, 0, none⟩) (ints W)) := HC.out.below (below_drewN (Below.refl _ _) nq) (Nat.le_refl _)
                clear hci hcq HB HC
                generalize wr.drewN nq = w6 at HB3 HC3 ⊢
                go_wp2
                go_roundw
                case rel => exact ⟨q + 1, by go_num, by omega, HC3.out, HB3.out⟩
                case measure => simp [intOf]; omega
              · have hqz : ¬ (q : Int) < (i : Int) := by omega
                go_wp2
                go_roundw
                case rel => exact ⟨i + 1, by go_num, by omega, HC.out, HB.out⟩
                case measure => simp [intOf]; omega
          · have hiz : ¬ (i : Int) < (L : Int) := by omega
            go_wp2
            go_ret
            exact ⟨rfl, HB.out⟩
  · have c2 := far_bad x A n c l a w1 hA1 HN.out hn8 hp
    unfold graphV at c2
    have C2 := Lib.hid c2
    clear c2 hp
    go_wp2_with fail
    refine C2.out.mono ?_
    rintro e w2 ⟨rfl, hb2⟩
    have HB2 : Hid (Below w.heap.size w w2) := HB1.out.trans (hb2.mono hsz1)
    clear hb2 C2
    go_wp2
    go_ret
    exact ⟨rfl, HB2.out⟩
end Go.Proofs.YtfbnecnhalnmeaaDoor
