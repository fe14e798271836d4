/- The walk of NarrowSays. Conditions: lengths are such that slices can have; errors.errorType holds the handle of the type error. -/
import Derived.Test.YtpaoiaogcckibaaDoorTold
import Derived.Test.YtpaoiaogcckibaaDoorInts
import Derived.Test.YtpaoiaogcckibaaDoorRefNar
import Derived.Test.YtpaoiaogcckibaaDoorMost
import Derived.Test.YtpaoiaogcckibaaDoorLeast
import Derived.Test.YtpaoiaogcckibaaDoorLeastBad
import Derived.Deep.DeepCutAuto
namespace Go.Proofs.YtpaoiaogcckibaaDoor
open Go.RowKit
theorem nodesD_E (N : Int) : ∀ xs : List Int, nodesD N xs = nodesE N xs := by
  intro xs
  induction xs with
  | nil => rfl
  | cons x xs ih => simp only [nodesD, nodesE, ih]
theorem steps_most (l : List Edge) : ∀ (xs : List Int) (s mo p : Int), ∃ s', stepsF true l s mo p xs = (match mostFrom l mo p xs with | none => (5, 0, 0) | some n => (0, s', n)) := by
  intro xs
  induction xs with
  | nil => intro s mo p; exact ⟨s, by simp [stepsF, mostFrom]⟩
  | cons x xs ih =>
    intro s mo p
    by_cases h : stepL l p x < 0
    · exact ⟨0, by rw [stepsF, step_true, if_pos h, mostFrom, if_pos h]⟩
    · obtain ⟨s', h1⟩ := ih (s + stepL l p x) (max mo (stepL l p x)) x
      refine ⟨s', ?_⟩
      rw [stepsF, step_true, if_neg h, mostFrom, if_neg h, ← h1]
      congr 1
      split <;> omega
theorem walk_most (x : Int) (l : List Edge) (o : List Int) : ∃ sv, walkD true x l o = (mostErr x l o, sv, mostVal x l o) := by
  by_cases hg : graphErr x l = 0
  · by_cases hn : nodesE x o = 0
    · have hE : nodesF x (graphErr x l) o = 0 := by unfold nodesF; rw [if_pos hg, nodesD_E, hn]
      by_cases h0 : o.length = 0
      · have hme : mostErr x l o = 3 := by unfold mostErr walkErr; rw [if_pos hg]; simp [hn, h0]
        refine ⟨0, ?_⟩
        unfold mostVal walkD
        rw [hme, hE]
        have : lenE 0 o.length = 3 := by unfold lenE; simp [h0]
        rw [this, walkF_bad (by omega)]; rfl
      · by_cases h6 : 60 < o.length
        · have hme : mostErr x l o = 4 := by unfold mostErr walkErr; rw [if_pos hg]; simp [hn, h0, h6]
          refine ⟨0, ?_⟩
          unfold mostVal walkD
          rw [hme, hE]
          have : lenE 0 o.length = 4 := by unfold lenE; simp [h0, h6]
          rw [this, walkF_bad (by omega)]; rfl
        · have hl : lenE 0 o.length = 0 := by unfold lenE; simp [h0, h6]
          have hwe : walkErr x o = 0 := by unfold walkErr; rw [if_pos hn, if_neg h0, if_neg h6]
          cases o with
          | nil => simp at h0
          | cons p xs =>
            obtain ⟨s', hs⟩ := steps_most l xs 0 0 p
            have hw : walkD true x l (p :: xs) = stepsF true l 0 0 p xs := by unfold walkD; rw [hE, hl]; rfl
            cases hm : mostFrom l 0 p xs with
            | none =>
              rw [hm] at hs
              have hme : mostErr x l (p :: xs) = 5 := by unfold mostErr; rw [if_pos hg, if_pos hwe]; simp [mostOf, hm]
              refine ⟨0, ?_⟩
              unfold mostVal
              rw [hw, hs, hme]; rfl
            | some v =>
              rw [hm] at hs
              have hme : mostErr x l (p :: xs) = 0 := by unfold mostErr; rw [if_pos hg, if_pos hwe]; simp [mostOf, hm]
              refine ⟨s', ?_⟩
              unfold mostVal
              rw [hw, hs, hme]; simp [mostOf, hm]
    · have hE : nodesF x (graphErr x l) o = nodesE x o := by unfold nodesF; rw [if_pos hg, nodesD_E]
      have hwe : walkErr x o = nodesE x o := if_neg hn
      have hme : mostErr x l o = nodesE x o := by unfold mostErr; rw [if_pos hg, if_neg (by rw [hwe]; exact hn), hwe]
      refine ⟨0, ?_⟩
      unfold mostVal walkD
      rw [hme, hE]
      have : lenE (nodesE x o) o.length = nodesE x o := if_neg hn
      rw [this, walkF_bad hn, if_neg hn]
  · have hE : nodesF x (graphErr x l) o = graphErr x l := if_neg hg
    have hme : mostErr x l o = graphErr x l := if_neg hg
    refine ⟨0, ?_⟩
    unfold mostVal walkD
    rw [hme, hE]
    have : lenE (graphErr x l) o.length = graphErr x l := if_neg hg
    rw [this, walkF_bad hg, if_neg hg]
theorem narWalk (x : Int) (A : Option Addr) (n c : Nat) (l : List Edge) (A' : Option Addr) (m c' : Nat) (o : List Int) (w : World) (hA : Cells w w.heap.size A (edges l)) (hn : l.length = n) (hm : n ≤ 9223372036854775806)
    (hA' : Cells w w.heap.size A' (ints o)) (hn' : o.length = m) (hm' : m ≤ 9223372036854775806) (hx : -9223372036854775808 ≤ x ∧ x ≤ 9223372036854775807) :
    Calls Tryd.prog 24 #[graphV x A n c, .slice A' m c', .bool true] w fun e w' => ∃ sv, e = .returned (.tuple #[.int .i64 (mostErr x l o), .int .i64 sv, .int .i64 (mostVal x l o)]) ∧ Below w.heap.size w w' :=
  (refWalk x A n c l A' m c' o true w hA hn hm hA' hn' hm' hx).mono fun e w' ⟨h, hb⟩ => by
    obtain ⟨sv, hs⟩ := walk_most x l o
    rw [hs] at h
    exact ⟨sv, h, hb⟩
/-- the program's answer is the document's -/
theorem least_told {w w' : World} {N : Nat} {l : List Edge} {a b : Nat} {e : Ending} (hI : (0 ≤ narK l N a b ∧ By N l (narK l N a b) a b ∧ ∀ m, 0 ≤ m → By N l m a b → narK l N a b ≤ m) ∨ (narK l N a b < 0 ∧ ∀ m, 0 ≤ m → ¬ By N l m a b))
    (h : ((∃ v, e = .returned (.tuple #[.int .i64 v, .nilIface]) ∧ LeastIs N l a b v) ∨ (e = .returned (.tuple #[.int .i64 0, .iface 91 (.int .i64 5)]) ∧ ∀ m, ¬ By N l m a b)) ∧ Below w.heap.size w w') :
    e = (if narK l N a b < 0 then .returned (.tuple #[.int .i64 0, .iface 91 (.int .i64 5)]) else .returned (.tuple #[.int .i64 (narK l N a b), .nilIface])) ∧ Below w.heap.size w w' := by
  obtain ⟨h, hb⟩ := h
  refine ⟨?_, hb⟩
  rcases hI with ⟨i1, i2, i3⟩ | ⟨i1, i2⟩
  · rw [if_neg (by omega)]
    rcases h with ⟨v, h1, h2⟩ | ⟨_, h2⟩
    · have e1 := i3 v h2.1.1 h2.2.1
      have e2 := h2.2.2 _ i1 i2
      have : v = narK l N a b := by omega
      rw [h1, this]
    · exact absurd i2 (h2 _)
  · rw [if_pos i1]
    rcases h with ⟨v, h1, h2⟩ | ⟨h1, _⟩
    · exact absurd h2.2.1 (i2 v h2.1.1)
    · exact h1
set_option maxHeartbeats 8000000 in
set_option maxRecDepth 100000 in
theorem narrowSaysW (x : Int) (A : Option Addr) (n c : Nat) (a b : Int) (A' : Option Addr) (m c' : Nat) (l : List Edge) (o : List Int) (w : World) (hxr : -9223372036854775808 ≤ x ∧ x ≤ 9223372036854775807) (hA : Cells w w.heap.size A (edges l)) (hn : l.length = n) (hm : n * 24 ≤ 140737488351232) (_ : ∀ e ∈ l, InEdge e) (_ : -9223372036854775808 ≤ a ∧ a ≤ 9223372036854775807) (_ : -9223372036854775808 ≤ b ∧ b ≤ 9223372036854775807) (hA' : Cells w w.heap.size A' (ints o)) (hn' : o.length = m) (hm' : m * 8 ≤ 140737488351232) (_ : ∀ i ∈ o, -9223372036854775808 ≤ i ∧ i ≤ 9223372036854775807) (hg : ErrT w) :
    Calls Tryd.prog 4 #[graphV x A n c, .int .i64 a, .int .i64 b, .slice A' m c'] w fun e w' => e = .returned (.bool true) ∧ Below w.heap.size w w' := by
  have HA := Lib.hid hA
  have HN := Lib.hid hn
  have hn8 : n ≤ 9223372036854775806 := by omega
  have hn9 : n ≤ 9223372036854775807 := by omega
  have HA' := Lib.hid hA'
  have HN' := Lib.hid hn'
  have hm8 : m ≤ 9223372036854775806 := by omega
  have HGT := Lib.hid hg
  have hpos := hg.pos
  have HB0 : Hid (Below w.heap.size w (w.alloc (.cells #[.int .i64 x, .slice A n c] 40))) := (Below.refl _ _).alloc (Nat.le_refl _) _
  have HR0 : Hid (Row (w.alloc (.cells #[.int .i64 x, .slice A n c] 40)) w.heap.size 40 [.int .i64 x, .slice A n c]) := Row.new _ _ _
  clear hA hn hm hg hA' hn' hm'
  unfold graphV
  go_enter Tryd.func4, Tryd.ntmps4
  go_upto_region 1 with fail
  generalize w.alloc (.cells #[.int .i64 x, .slice A n c] 40) = w0 at HB0 HR0 ⊢
  have hq0 := HR0.out.cell 0
  have hq1 := HR0.out.cell 1
  have c1 := refGraph x A n c l w0 ((HA.out.below HB0.out (Nat.le_refl _)).more HB0.out.size) HN.out hn9
  unfold graphV at c1
  have C1 := Lib.hid c1
  clear c1
  go_wp2_with fail
  refine C1.out.mono ?_
  rintro e w1 ⟨rfl, hb1⟩
  have HB1 : Hid (Below w.heap.size w w1) := HB0.out.trans (hb1.mono HB0.out.size)
  have HR1 := Lib.hid (HR0.out.step hb1)
  clear HR0
  clear hq0 hq1
  have hq0 := HR1.out.cell 0
  have hq1 := HR1.out.cell 1
  clear hb1 HB0 C1
  by_cases hgr : graphErr x l = 0
  · obtain ⟨⟨hx0, hx1⟩, hl40, _⟩ := graphErr_ok hgr
    obtain ⟨N, rfl⟩ : ∃ N : Nat, x = N := ⟨x.toNat, by omega⟩
    have hN : N ≤ 16 := by omega
    have HG := Lib.hid hgr
    rw [hgr]
    clear hgr hx0 hx1 hl40
    by_cases hab : (0 ≤ a ∧ a < N) ∧ (0 ≤ b ∧ b < N)
    · obtain ⟨⟨ha0, ha1⟩, hb0, hb1⟩ := hab
      obtain ⟨a, rfl⟩ : ∃ k : Nat, a = k := ⟨a.toNat, by omega⟩
      obtain ⟨b, rfl⟩ : ∃ k : Nat, b = k := ⟨b.toNat, by omega⟩
      have haN : a < N := by omega
      have hbN : b < N := by omega
      have hn0a : ¬ (a : Int) < 0 := by omega
      have hn0b : ¬ (b : Int) < 0 := by omega
      have hn1a : ¬ (N : Int) ≤ a := by omega
      have hn1b : ¬ (N : Int) ≤ b := by omega
      have c2 := refNarrow N A n c l w1 ((HA.out.below HB1.out (Nat.le_refl _)).more HB1.out.size) HN.out HG.out (by omega)
      unfold graphV at c2
      have C2 := Lib.hid c2
      clear c2
      go_wp2_with fail
      refine C2.out.mono ?_
      rintro e w2 ⟨go, co, gs, cs, rfl, hmat, hb2⟩
      have HB2 : Hid (Below w.heap.size w w2) := HB1.out.trans (hb2.mono HB1.out.size)
      have HR2 := Lib.hid (HR1.out.step hb2)
      clear HR1
      clear hq0 hq1
      have hq0 := HR2.out.cell 0
      have hq1 := HR2.out.cell 1
      clear hb2 HB1 C2
      have kr := hmat.row haN
      have kc := hmat.cell haN hbN
      clear hmat
      have HIS := Lib.hid (nar_is HG.out haN hbN)
      obtain ⟨v, hv⟩ : ∃ z, z = narK l N a b := ⟨_, rfl⟩
      rw [← hv] at kc
      have HV := Lib.hid hv
      clear hv
      have cL := (least_ok N A n c a b l w2 ((HA.out.below HB2.out (Nat.le_refl _)).more HB2.out.size) HN.out HG.out haN hbN).mono (fun e w' h => least_told HIS.out h)
      rw [← HV.out] at cL
      by_cases hv0 : v < 0
      · simp only [if_pos hv0] at cL
        have c3 := cL
        unfold graphV at c3
        have C3 := Lib.hid c3
        clear c3
        go_wp2_with fail
        refine C3.out.mono ?_
        rintro e w3 ⟨rfl, hb3⟩
        have HB3 : Hid (Below w.heap.size w w3) := HB2.out.trans (hb3.mono HB2.out.size)
        have HR3 := Lib.hid (HR2.out.step hb3)
        clear HR2
        clear hq0 hq1
        have hq0 := HR3.out.cell 0
        have hq1 := HR3.out.cell 1
        clear hb3 HB2 C3
        have c4 := error_bad 5 (by omega) w3 (HGT.out.below HB3.out hpos)
        have C4 := Lib.hid c4
        clear c4
        go_wp2_with fail
        refine C4.out.mono ?_
        rintro e w4 ⟨rfl, hb4⟩
        have HB4 : Hid (Below w.heap.size w w4) := HB3.out.trans (hb4.mono HB3.out.size)
        have HR4 := Lib.hid (HR3.out.step hb4)
        clear HR3
        clear hq0 hq1
        have hq0 := HR4.out.cell 0
        have hq1 := HR4.out.cell 1
        clear hb4 HB3 C4
        have hvv : ((mostVal N l o : Int) == mostVal N l o) = true := by simp
        have c5 := narWalk N A n c l A' m c' o w4 ((HA.out.below HB4.out (Nat.le_refl _)).more HB4.out.size) HN.out hn8 ((HA'.out.below HB4.out (Nat.le_refl _)).more HB4.out.size) HN'.out hm8 hxr
        unfold graphV at c5
        have C5 := Lib.hid c5
        clear c5
        go_wp2_with fail
        refine C5.out.mono ?_
        rintro e w5 ⟨sv, rfl, hb5⟩
        have HB5 : Hid (Below w.heap.size w w5) := HB4.out.trans (hb5.mono HB4.out.size)
        have HR5 := Lib.hid (HR4.out.step hb5)
        clear HR4
        clear hq0 hq1
        have hq0 := HR5.out.cell 0
        have hq1 := HR5.out.cell 1
        clear hb5 HB4 C5
        have c6 := most_ N A n c l A' m c' o w5 ((HA.out.below HB5.out (Nat.le_refl _)).more HB5.out.size) HN.out hn9 ((HA'.out.below HB5.out (Nat.le_refl _)).more HB5.out.size) HN'.out hm8
        unfold graphV at c6
        have C6 := Lib.hid c6
        clear c6
        go_wp2_with fail
        refine C6.out.mono ?_
        rintro e w6 ⟨rfl, hb6⟩
        have HB6 : Hid (Below w.heap.size w w6) := HB5.out.trans (hb6.mono HB5.out.size)
        have HR6 := Lib.hid (HR5.out.step hb6)
        clear HR5
        clear hq0 hq1
        have hq0 := HR6.out.cell 0
        have hq1 := HR6.out.cell 1
        clear hb6 HB5 C6
        have c7 := error_same (mostErr N l o) w6 (HGT.out.below HB6.out hpos)
        have C7 := Lib.hid c7
        clear c7
        go_wp2_with fail
        refine C7.out.mono ?_
        rintro e w7 ⟨rfl, hb7⟩
        have HB7 : Hid (Below w.heap.size w w7) := HB6.out.trans (hb7.mono HB6.out.size)
        have HR7 := Lib.hid (HR6.out.step hb7)
        clear HR6
        clear hq0 hq1
        have hq0 := HR7.out.cell 0
        have hq1 := HR7.out.cell 1
        clear hb7 HB6 C7
        go_wp2
        go_ret
        exact ⟨rfl, HB7.out⟩
      · simp only [if_neg hv0] at cL
        have hvv0 : ((v : Int) == v) = true := by simp
        have c3 := cL
        unfold graphV at c3
        have C3 := Lib.hid c3
        clear c3
        go_wp2_with fail
        refine C3.out.mono ?_
        rintro e w3 ⟨rfl, hb3⟩
        have HB3 : Hid (Below w.heap.size w w3) := HB2.out.trans (hb3.mono HB2.out.size)
        have HR3 := Lib.hid (HR2.out.step hb3)
        clear HR2
        clear hq0 hq1
        have hq0 := HR3.out.cell 0
        have hq1 := HR3.out.cell 1
        clear hb3 HB2 C3
        have c4 := error_nil w3 (HGT.out.below HB3.out hpos)
        have C4 := Lib.hid c4
        clear c4
        go_wp2_with fail
        refine C4.out.mono ?_
        rintro e w4 ⟨rfl, hb4⟩
        have HB4 : Hid (Below w.heap.size w w4) := HB3.out.trans (hb4.mono HB3.out.size)
        have HR4 := Lib.hid (HR3.out.step hb4)
        clear HR3
        clear hq0 hq1
        have hq0 := HR4.out.cell 0
        have hq1 := HR4.out.cell 1
        clear hb4 HB3 C4
        have hvv : ((mostVal N l o : Int) == mostVal N l o) = true := by simp
        have c5 := narWalk N A n c l A' m c' o w4 ((HA.out.below HB4.out (Nat.le_refl _)).more HB4.out.size) HN.out hn8 ((HA'.out.below HB4.out (Nat.le_refl _)).more HB4.out.size) HN'.out hm8 hxr
        unfold graphV at c5
        have C5 := Lib.hid c5
        clear c5
        go_wp2_with fail
        refine C5.out.mono ?_
        rintro e w5 ⟨sv, rfl, hb5⟩
        have HB5 : Hid (Below w.heap.size w w5) := HB4.out.trans (hb5.mono HB4.out.size)
        have HR5 := Lib.hid (HR4.out.step hb5)
        clear HR4
        clear hq0 hq1
        have hq0 := HR5.out.cell 0
        have hq1 := HR5.out.cell 1
        clear hb5 HB4 C5
        have c6 := most_ N A n c l A' m c' o w5 ((HA.out.below HB5.out (Nat.le_refl _)).more HB5.out.size) HN.out hn9 ((HA'.out.below HB5.out (Nat.le_refl _)).more HB5.out.size) HN'.out hm8
        unfold graphV at c6
        have C6 := Lib.hid c6
        clear c6
        go_wp2_with fail
        refine C6.out.mono ?_
        rintro e w6 ⟨rfl, hb6⟩
        have HB6 : Hid (Below w.heap.size w w6) := HB5.out.trans (hb6.mono HB5.out.size)
        have HR6 := Lib.hid (HR5.out.step hb6)
        clear HR5
        clear hq0 hq1
        have hq0 := HR6.out.cell 0
        have hq1 := HR6.out.cell 1
        clear hb6 HB5 C6
        have c7 := error_same (mostErr N l o) w6 (HGT.out.below HB6.out hpos)
        have C7 := Lib.hid c7
        clear c7
        go_wp2_with fail
        refine C7.out.mono ?_
        rintro e w7 ⟨rfl, hb7⟩
        have HB7 : Hid (Below w.heap.size w w7) := HB6.out.trans (hb7.mono HB6.out.size)
        have HR7 := Lib.hid (HR6.out.step hb7)
        clear HR6
        clear hq0 hq1
        have hq0 := HR7.out.cell 0
        have hq1 := HR7.out.cell 1
        clear hb7 HB6 C7
        go_wp2
        go_ret
        exact ⟨rfl, HB7.out⟩
    · have hle : leastErr N l a b = 1 := by unfold leastErr; rw [if_pos HG.out, if_neg (fun h => hab (by have h1 := of_inB h.1; have h2 := of_inB h.2; omega))]
      have cL := least_bad N A n c a b l w1 ((HA.out.below HB1.out (Nat.le_refl _)).more HB1.out.size) HN.out hn9 (by rw [hle]; omega)
      rw [hle] at cL
      have CL := Lib.hid cL
      clear cL hle
      have hor : a < 0 ∨ (¬ a < 0 ∧ (N : Int) ≤ a) ∨ (¬ a < 0 ∧ ¬ (N : Int) ≤ a ∧ b < 0) ∨ (¬ a < 0 ∧ ¬ (N : Int) ≤ a ∧ ¬ b < 0 ∧ (N : Int) ≤ b) := by omega
      clear hab
      go_upto_region 2 with fail
      go_cut [41] from 20 to 41 (fun z wx => z = .bool true ∧ wx = w1)
      case first =>
        rcases hor with h1 | ⟨h1, h2⟩ | ⟨h1, h2, h3⟩ | ⟨h1, h2, h3, h4⟩
        all_goals
          go_wp2
          go_meet
          exact ⟨rfl, rfl⟩
      case rest =>
      obtain ⟨rfl, hwc⟩ := hcut
      replace hwc := hwc.symm
      subst hwc
      clear hor
      have c2 := CL.out
      unfold graphV at c2
      have C2 := Lib.hid c2
      clear c2
      go_wp2_with fail
      refine C2.out.mono ?_
      rintro e w2 ⟨rfl, hb2⟩
      have HB2 : Hid (Below w.heap.size w w2) := HB1.out.trans (hb2.mono HB1.out.size)
      have HR2 := Lib.hid (HR1.out.step hb2)
      clear HR1
      clear hq0 hq1
      have hq0 := HR2.out.cell 0
      have hq1 := HR2.out.cell 1
      clear hb2 HB1 C2
      have c3 := error_same 1 w2 (HGT.out.below HB2.out hpos)
      have C3 := Lib.hid c3
      clear c3
      go_wp2_with fail
      refine C3.out.mono ?_
      rintro e w3 ⟨rfl, hb3⟩
      have HB3 : Hid (Below w.heap.size w w3) := HB2.out.trans (hb3.mono HB2.out.size)
      have HR3 := Lib.hid (HR2.out.step hb3)
      clear HR2
      clear hq0 hq1
      have hq0 := HR3.out.cell 0
      have hq1 := HR3.out.cell 1
      clear hb3 HB2 C3
      have hvv : ((mostVal N l o : Int) == mostVal N l o) = true := by simp
      have c4 := narWalk N A n c l A' m c' o w3 ((HA.out.below HB3.out (Nat.le_refl _)).more HB3.out.size) HN.out hn8 ((HA'.out.below HB3.out (Nat.le_refl _)).more HB3.out.size) HN'.out hm8 hxr
      unfold graphV at c4
      have C4 := Lib.hid c4
      clear c4
      go_wp2_with fail
      refine C4.out.mono ?_
      rintro e w4 ⟨sv, rfl, hb4⟩
      have HB4 : Hid (Below w.heap.size w w4) := HB3.out.trans (hb4.mono HB3.out.size)
      have HR4 := Lib.hid (HR3.out.step hb4)
      clear HR3
      clear hq0 hq1
      have hq0 := HR4.out.cell 0
      have hq1 := HR4.out.cell 1
      clear hb4 HB3 C4
      have c5 := most_ N A n c l A' m c' o w4 ((HA.out.below HB4.out (Nat.le_refl _)).more HB4.out.size) HN.out hn9 ((HA'.out.below HB4.out (Nat.le_refl _)).more HB4.out.size) HN'.out hm8
      unfold graphV at c5
      have C5 := Lib.hid c5
      clear c5
      go_wp2_with fail
      refine C5.out.mono ?_
      rintro e w5 ⟨rfl, hb5⟩
      have HB5 : Hid (Below w.heap.size w w5) := HB4.out.trans (hb5.mono HB4.out.size)
      have HR5 := Lib.hid (HR4.out.step hb5)
      clear HR4
      clear hq0 hq1
      have hq0 := HR5.out.cell 0
      have hq1 := HR5.out.cell 1
      clear hb5 HB4 C5
      have c6 := error_same (mostErr N l o) w5 (HGT.out.below HB5.out hpos)
      have C6 := Lib.hid c6
      clear c6
      go_wp2_with fail
      refine C6.out.mono ?_
      rintro e w6 ⟨rfl, hb6⟩
      have HB6 : Hid (Below w.heap.size w w6) := HB5.out.trans (hb6.mono HB5.out.size)
      have HR6 := Lib.hid (HR5.out.step hb6)
      clear HR5
      clear hq0 hq1
      have hq0 := HR6.out.cell 0
      have hq1 := HR6.out.cell 1
      clear hb6 HB5 C6
      go_wp2
      go_ret
      exact ⟨rfl, HB6.out⟩
  · have HG : Hid (graphErr x l ≠ 0) := hgr
    have hgb : ((graphErr x l : Int) == 0) = false := beq_eq_false_iff_ne.2 hgr
    have hle : leastErr x l a b = graphErr x l := if_neg hgr
    have cL := least_bad x A n c a b l w1 ((HA.out.below HB1.out (Nat.le_refl _)).more HB1.out.size) HN.out hn9 (by rw [hle]; exact hgr)
    rw [hle] at cL
    obtain ⟨ge, hge⟩ : ∃ z, z = graphErr x l := ⟨_, rfl⟩
    rw [← hge] at hgb cL ⊢
    clear hgr hge hle
    have c2 := cL
    unfold graphV at c2
    have C2 := Lib.hid c2
    clear c2
    go_wp2_with fail
    refine C2.out.mono ?_
    rintro e w2 ⟨rfl, hb2⟩
    have HB2 : Hid (Below w.heap.size w w2) := HB1.out.trans (hb2.mono HB1.out.size)
    have HR2 := Lib.hid (HR1.out.step hb2)
    clear HR1
    clear hq0 hq1
    have hq0 := HR2.out.cell 0
    have hq1 := HR2.out.cell 1
    clear hb2 HB1 C2
    have c3 := error_same ge w2 (HGT.out.below HB2.out hpos)
    have C3 := Lib.hid c3
    clear c3
    go_wp2_with fail
    refine C3.out.mono ?_
    rintro e w3 ⟨rfl, hb3⟩
    have HB3 : Hid (Below w.heap.size w w3) := HB2.out.trans (hb3.mono HB2.out.size)
    have HR3 := Lib.hid (HR2.out.step hb3)
    clear HR2
    clear hq0 hq1
    have hq0 := HR3.out.cell 0
    have hq1 := HR3.out.cell 1
    clear hb3 HB2 C3
    have hvv : ((mostVal x l o : Int) == mostVal x l o) = true := by simp
    have c4 := narWalk x A n c l A' m c' o w3 ((HA.out.below HB3.out (Nat.le_refl _)).more HB3.out.size) HN.out hn8 ((HA'.out.below HB3.out (Nat.le_refl _)).more HB3.out.size) HN'.out hm8 hxr
    unfold graphV at c4
    have C4 := Lib.hid c4
    clear c4
    go_wp2_with fail
    refine C4.out.mono ?_
    rintro e w4 ⟨sv, rfl, hb4⟩
    have HB4 : Hid (Below w.heap.size w w4) := HB3.out.trans (hb4.mono HB3.out.size)
    have HR4 := Lib.hid (HR3.out.step hb4)
    clear HR3
    clear hq0 hq1
    have hq0 := HR4.out.cell 0
    have hq1 := HR4.out.cell 1
    clear hb4 HB3 C4
    have c5 := most_ x A n c l A' m c' o w4 ((HA.out.below HB4.out (Nat.le_refl _)).more HB4.out.size) HN.out hn9 ((HA'.out.below HB4.out (Nat.le_refl _)).more HB4.out.size) HN'.out hm8
    unfold graphV at c5
    have C5 := Lib.hid c5
    clear c5
    go_wp2_with fail
    refine C5.out.mono ?_
    rintro e w5 ⟨rfl, hb5⟩
    have HB5 : Hid (Below w.heap.size w w5) := HB4.out.trans (hb5.mono HB4.out.size)
    have HR5 := Lib.hid (HR4.out.step hb5)
    clear HR4
    clear hq0 hq1
    have hq0 := HR5.out.cell 0
    have hq1 := HR5.out.cell 1
    clear hb5 HB4 C5
    have c6 := error_same (mostErr x l o) w5 (HGT.out.below HB5.out hpos)
    have C6 := Lib.hid c6
    clear c6
    go_wp2_with fail
    refine C6.out.mono ?_
    rintro e w6 ⟨rfl, hb6⟩
    have HB6 : Hid (Below w.heap.size w w6) := HB5.out.trans (hb6.mono HB5.out.size)
    have HR6 := Lib.hid (HR5.out.step hb6)
    clear HR5
    clear hq0 hq1
    have hq0 := HR6.out.cell 0
    have hq1 := HR6.out.cell 1
    clear hb6 HB5 C6
    go_wp2
    go_ret
    exact ⟨rfl, HB6.out⟩
end Go.Proofs.YtpaoiaogcckibaaDoor
