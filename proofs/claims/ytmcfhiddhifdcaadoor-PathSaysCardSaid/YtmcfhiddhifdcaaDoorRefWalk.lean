/- What the document's Walk answers: what is wrong with one; how long it is, and its heaviest edge. Conditions: lengths are such that slices can have. -/
import Derived.Test.YtmcfhiddhifdcaaDoorRefStep
import Derived.Deep.RegionHeld3
namespace Go.Proofs.YtmcfhiddhifdcaaDoor
open Go.RowKit
def nodesD (N : Int) : List Int → Int
  | [] => 0
  | x :: l => if inB x 0 (N - 1) = true then nodesD N l else 1
/-- the first loop: what is wrong so far, and the nodes that are left -/
def nodesF (N ev : Int) (xs : List Int) : Int := if ev = 0 then nodesD N xs else ev
/-- what is wrong ahead of the steps -/
def lenE (ev : Int) (m : Nat) : Int := if ev = 0 then (if m = 0 then 3 else if 60 < m then 4 else 0) else ev
/-- the second loop -/
def stepsF (both : Bool) (l : List Edge) : Int → Int → Int → List Int → Int × Int × Int
  | s, mo, p, x :: r => if stepV both l p x < 0 then (5, 0, 0) else stepsF both l (s + stepV both l p x) (if mo < stepV both l p x then stepV both l p x else mo) x r
  | s, mo, _, [] => (0, s, mo)
def walkF (both : Bool) (l : List Edge) (ev s mo : Int) (xs : List Int) : Int × Int × Int :=
  if ev = 0 then (match xs with | [] => (0, s, mo) | p :: r => stepsF both l s mo p r) else (ev, 0, 0)
def walkD (both : Bool) (N : Int) (l : List Edge) (o : List Int) : Int × Int × Int := walkF both l (lenE (nodesF N (graphErr N l) o) o.length) 0 0 o
theorem stepV_range {both : Bool} {a b : Int} : ∀ {l : List Edge} {best : Int}, (∀ e ∈ l, 0 ≤ e.weight ∧ e.weight ≤ 1000) → (-1 ≤ best ∧ best ≤ 1000) → -1 ≤ l.foldl (stepG both a b) best ∧ l.foldl (stepG both a b) best ≤ 1000 := by
  intro l
  induction l with
  | nil => intro best _ h; exact h
  | cons e l ih =>
    intro best h hb
    rw [List.foldl_cons]
    refine ih (fun x hx => h x (by simp [hx])) ?_
    have := h e (by simp)
    unfold stepG
    split
    · split <;> omega
    · exact hb
def WalkOK (w : World) (v : Int × Int × Int) (e : Ending) (w' : World) : Prop := e = .returned (.tuple #[.int .i64 v.1, .int .i64 v.2.1, .int .i64 v.2.2]) ∧ Below w.heap.size w w'
theorem walkF_bad {both : Bool} {l : List Edge} {ev s mo : Int} {xs : List Int} (h : ev ≠ 0) : walkF both l ev s mo xs = (ev, 0, 0) := if_neg h
theorem walkF_step {both : Bool} {l : List Edge} {s mo p x : Int} {r : List Int} (h : ¬ stepV both l p x < 0) : walkF both l 0 s mo (p :: x :: r) = walkF both l 0 (s + stepV both l p x) (if mo < stepV both l p x then stepV both l p x else mo) (x :: r) := by
  unfold walkF
  rw [if_pos rfl, if_pos rfl]
  simp only
  rw [stepsF, if_neg h]
theorem walkF_none {both : Bool} {l : List Edge} {s mo p x : Int} {r : List Int} (h : stepV both l p x < 0) : walkF both l 0 s mo (p :: x :: r) = (5, 0, 0) := by
  unfold walkF
  rw [if_pos rfl]
  simp only
  rw [stepsF, if_pos h]
theorem walkF_end {both : Bool} {l : List Edge} {s mo : Int} {xs : List Int} (h : xs.length ≤ 1) : walkF both l 0 s mo xs = (0, s, mo) := by
  unfold walkF
  rw [if_pos rfl]
  match xs, h with
  | [], _ => rfl
  | [p], _ => simp [stepsF]
set_option maxHeartbeats 8000000 in
set_option maxRecDepth 100000 in
theorem refWalk (x : Int) (A : Option Addr) (n c : Nat) (l : List Edge) (A' : Option Addr) (m c' : Nat) (o : List Int) (both : Bool) (w : World) (hA : Cells w w.heap.size A (edges l)) (hn : l.length = n) (hm : n ≤ 9223372036854775806)
    (hA' : Cells w w.heap.size A' (ints o)) (hn' : o.length = m) (hm' : m ≤ 9223372036854775806) (hx : -9223372036854775808 ≤ x ∧ x ≤ 9223372036854775807) :
    Calls Tryd.prog 11 #[graphV x A n c, .slice A' m c', .bool both] w (WalkOK w (walkD both x l o)) := by
  have HN := Lib.hid hn
  have HN' := Lib.hid hn'
  have HA := Lib.hid hA
  have HA' := Lib.hid hA'
  have HB0 : Hid (Below w.heap.size w (w.alloc (.cells #[.int .i64 x, .slice A n c] 24))) := (Below.refl _ _).alloc (Nat.le_refl _) _
  have HR0 : Hid (Row (w.alloc (.cells #[.int .i64 x, .slice A n c] 24)) w.heap.size 24 [.int .i64 x, .slice A n c]) := Row.new _ _ _
  have c1 := refGraph x A n c l _ ((hA.below HB0.out (Nat.le_refl _)).more HB0.out.size) hn (by omega)
  have HGE : Hid (∀ k, graphErr x l = k → k = 0 → x ≤ 16 ∧ 0 ≤ x) := fun k h h0 => by
    have := (graphErr_ok (h.trans h0)).1; omega
  have HWT : Hid (graphErr x l = 0 → ∀ e ∈ l, 0 ≤ e.weight ∧ e.weight ≤ 1000) := fun h e he => ((graphErr_ok h).2.2 e he).2.2
  clear hA hn hA' hn'
  unfold graphV at c1 ⊢
  have C1 := Lib.hid c1
  clear c1
  go_enter Tryd.func11, Tryd.ntmps11
  go_wp2_with fail
  refine C1.out.mono ?_
  rintro e w1 ⟨rfl, hb1⟩
  have HB1 : Hid (Below w.heap.size w w1) := HB0.out.trans (hb1.mono HB0.out.size)
  have HR1 := Lib.hid (HR0.out.step hb1)
  clear hb1 C1 HB0 HR0
  go_wp2
  go_loopw [10, 9] (fun i ev wr => ∃ (k : Nat) (er : Int), i = .int .i64 (k : Int) ∧ k ≤ m ∧ ev = .int .i64 er ∧ (er = 0 → -1 ≤ x - 1 ∧ x - 1 ≤ 15) ∧ Hid (nodesF x er (o.drop k) = nodesF x (graphErr x l) o) ∧ Hid (er = 0 → graphErr x l = 0) ∧ Hid (Row wr w.heap.size 24 [.int .i64 x, .slice A n c]) ∧ Hid (Below w.heap.size w wr)) (fun i _ _ => m - (intOf i).toNat)
  case atStart => exact ⟨0, graphErr x l, rfl, by omega, rfl, fun h => by have := HGE.out _ rfl h; omega, rfl, fun h => h, HR1.out, HB1.out⟩
  case round =>
    clear HR1 HB1
    obtain ⟨k, er, rfl, hk, rfl, hxr, HI, HZ, HR, HB⟩ := hrel
    have hq0 := HR.out.cell 0
    by_cases her : er = 0
    · subst her
      replace hxr := hxr rfl
      have HG0 := Lib.hid (HZ.out rfl)
      clear HZ
      by_cases hlt : k < m
      · have hlz : (k : Int) < m := by omega
        have hk0 : (0 : Int) ≤ k := by omega
        obtain ⟨b', off', y, rfl, hbb', hy, hcy⟩ := ints_at HA'.out (show k < o.length by rw [HN'.out]; exact hlt)
        rw [← HB.out.cell hbb'] at hcy
        have HX := Lib.hid (drop_at hy)
        have hwx : IntKind.i64.wrap (x - 1) = x - 1 := by rw [IntKind.wrap_i64]; omega
        have HB5 : Hid (Below w.heap.size w wr.drew) := below_drewN HB.out 1
        have HR5 : Hid (Row wr.drew w.heap.size 24 [.int .i64 x, .slice A n c]) := HR.out.drewN 1
        obtain ⟨h1, hh1⟩ : ∃ z, z = inB y 0 (x - 1) := ⟨_, rfl⟩
        have c6 := in3_ y 0 (x - 1) wr.drew
        rw [← hh1] at c6
        have C6 := Lib.hid c6
        have HH1 := Lib.hid hh1
        clear c6 hh1 hy
        go_upto_region 5 with fail
        go_region_held3 (fun W => W.cell? ⟨w.heap.size, 0, none⟩ = some (.int .i64 x) ∧ W.cell? ⟨b', off' + k, none⟩ = some (.int .i64 y)) (first | go_keep | (go_split_ands; refine ⟨?_, ?_⟩ <;> assumption)) (first | (go_at_call 13; refine C6.out.mono ?_; rintro e w6 ⟨rfl, rfl⟩; have f1 := HR5.out.cell 0; have f2 : wr.drew.cell? ⟨b', off' + k, none⟩ = some (.int .i64 y) := hcy))
        clear HB HR hq0 hcy C6
        cases h1 with
        | true =>
          have HI2 : Hid (nodesF x 0 (o.drop (k + 1)) = nodesF x (graphErr x l) o) := by
            have h := HI.out
            unfold nodesF at h ⊢
            rw [if_pos rfl, HX.out, nodesD, if_pos HH1.out.symm] at h
            rw [if_pos rfl]; exact h
          go_wp2
          go_roundw
          case rel => exact ⟨k + 1, 0, by go_num, by omega, rfl, fun _ => hxr, HI2.out, fun _ => HG0.out, HR5.out, HB5.out⟩
          case measure => simp [intOf]; omega
        | false =>
          have HI2 : Hid (nodesF x 1 (o.drop (k + 1)) = nodesF x (graphErr x l) o) := by
            have h := HI.out
            unfold nodesF at h ⊢
            rw [if_pos rfl, HX.out, nodesD, if_neg (by rw [← HH1.out]; simp)] at h
            rw [if_neg (by omega)]; exact h
          go_wp2
          go_roundw
          case rel => exact ⟨k + 1, 1, by go_num, by omega, rfl, fun h => by omega, HI2.out, fun h => by omega, HR5.out, HB5.out⟩
          case measure => simp [intOf]; omega
      · have hlz : ¬ (k : Int) < m := by omega
        have HE : Hid (nodesF x (graphErr x l) o = 0) := by
          have h := HI.out
          rw [drop_end (by rw [HN'.out]; omega)] at h
          show _ = _
          rw [← h]; rfl
        clear HI
        by_cases hm0 : m = 0
        · have hmz : ((m : Int) == 0) = true := by simp [hm0]
          have HV : Hid (walkD both x l o = (3, 0, 0)) := by show _ = _; unfold walkD; rw [HE.out, HN'.out, walkF_bad (by unfold lenE; simp [hm0])]; unfold lenE; simp [hm0]
          skip
          go_wp2
          go_loopw [13, 9] (fun i ev wr => i = .int .i64 1 ∧ ev = .int .i64 3 ∧ Hid (Below w.heap.size w wr)) (fun _ _ _ => 0)
          case atStart => exact ⟨rfl, rfl, HB.out⟩
          case round =>
            clear HB HR hq0
            obtain ⟨rfl, rfl, HB⟩ := hrel
            by_cases h1m : (1 : Int) < m
            · go_wp2
              go_ret3
              exact ⟨by rw [HV.out]; rfl, HB.out⟩
            · go_wp2
              go_ret3
              exact ⟨by rw [HV.out]; rfl, HB.out⟩
        · have hmz : ((m : Int) == 0) = false := by simp; omega
          by_cases hm6 : 60 < m
          · have hm6z : (60 : Int) < m := by omega
            have HV : Hid (walkD both x l o = (4, 0, 0)) := by show _ = _; unfold walkD; rw [HE.out, HN'.out, walkF_bad (by unfold lenE; simp [hm0, hm6])]; unfold lenE; simp [hm0, hm6]
            skip
            go_wp2
            go_loopw [13, 9] (fun i ev wr => i = .int .i64 1 ∧ ev = .int .i64 4 ∧ Hid (Below w.heap.size w wr)) (fun _ _ _ => 0)
            case atStart => exact ⟨rfl, rfl, HB.out⟩
            case round =>
              clear HB HR hq0
              obtain ⟨rfl, rfl, HB⟩ := hrel
              by_cases h1m : (1 : Int) < m
              · go_wp2
                go_ret3
                exact ⟨by rw [HV.out]; rfl, HB.out⟩
              · go_wp2
                go_ret3
                exact ⟨by rw [HV.out]; rfl, HB.out⟩
          · have hm6z : ¬ (60 : Int) < m := by omega
            have hm1 : 1 ≤ m := by omega
            have hm60 : m ≤ 60 := by omega
            have HV : Hid (walkF both l 0 0 0 (o.drop (1 - 1)) = walkD both x l o) := by
              show _ = _
              unfold walkD
              rw [HE.out, HN'.out]
              unfold lenE
              simp [hm0, hm6]
            have HWR := Lib.hid (HWT.out HG0.out)
            go_wp2
            go_loopw [13, 9, 11, 12] (fun i ev sv mv wr => ∃ (k : Nat) (er s mo : Int), i = .int .i64 (k : Int) ∧ 1 ≤ k ∧ k ≤ m ∧ ev = .int .i64 er ∧ sv = .int .i64 s ∧ mv = .int .i64 mo ∧ (-1 ≤ s ∧ s ≤ 1000 * k) ∧ (er ≠ 0 ∨ 0 ≤ s) ∧ (0 ≤ mo ∧ mo ≤ 1000) ∧ Hid (walkF both l er s mo (o.drop (k - 1)) = walkD both x l o) ∧ Hid (Row wr w.heap.size 24 [.int .i64 x, .slice A n c]) ∧ Hid (Below w.heap.size w wr)) (fun i _ _ _ _ => m - (intOf i).toNat)
            case atStart => exact ⟨1, 0, 0, 0, rfl, by omega, by omega, rfl, rfl, rfl, by omega, by omega, by omega, HV.out, HR.out, HB.out⟩
            case round =>
              clear HB HR hq0
              obtain ⟨k, er, s, mo, rfl, hk1, hk, rfl, rfl, rfl, hs, hs0, hmo, HI, HR, HB⟩ := hrel
              have hq0 := HR.out.cell 0
              have hq1 := HR.out.cell 1
              by_cases her : er = 0
              · subst her
                by_cases hlt : k < m
                · have hltz : (k : Int) < m := by omega
                  have hk0 : (0 : Int) ≤ k := by omega
                  obtain ⟨b', off', y, hAe, hbb', hy, hcy⟩ := ints_at HA'.out (show k < o.length by rw [HN'.out]; exact hlt)
                  subst hAe
                  obtain ⟨b'', off'', p, hbo, _, hp, hcp⟩ := ints_at HA'.out (show k - 1 < o.length by rw [HN'.out]; omega)
                  simp only [Option.some.injEq, Addr.mk.injEq, and_true] at hbo
                  obtain ⟨rfl, rfl⟩ := hbo
                  rw [← HB.out.cell hbb'] at hcy hcp
                  have HBB := Lib.hid (Nat.lt_of_lt_of_le hbb' HB.out.size)
                  have hkw : IntKind.i64.wrap ((k : Int) - 1) = ((k - 1 : Nat) : Int) := by rw [IntKind.wrap_i64]; omega
                  have hkm1 : ((k - 1 : Nat) : Int) < m := by omega
                  have hkm0 : (0 : Int) ≤ ((k - 1 : Nat) : Int) := by omega
                  have hkmn : k - 1 < m := by omega
                  have HI2 : Hid (walkF both l 0 s mo (p :: y :: o.drop (k + 1)) = walkD both x l o) := by
                    have h1 := HI.out
                    rw [drop_at hp, show k - 1 + 1 = k by omega, drop_at hy] at h1
                    exact h1
                  have HDY := Lib.hid (drop_at hy)
                  have c6 := refStep x A n c p y both l wr.drew ((HA.out.below (below_drewN HB.out 1) (Nat.le_refl _)).more HB.out.size) HN.out hm
                  obtain ⟨sv, hsv⟩ : ∃ z, z = stepV both l p y := ⟨_, rfl⟩
                  have hsr : -1 ≤ sv ∧ sv ≤ 1000 := by
                    rw [hsv]
                    exact stepV_range HWR.out (by omega)
                  rw [← hsv] at c6
                  have HSV := Lib.hid hsv
                  unfold StepOK at c6
                  unfold graphV at c6
                  have C6 := Lib.hid c6
                  clear c6 hsv hy hp HI
                  go_upto_region 16 with fail
                  go_region_held3 (fun W => W.cell? ⟨w.heap.size, 0, none⟩ = some (.int .i64 x) ∧ W.cell? ⟨w.heap.size, 1, none⟩ = some (.slice A n c) ∧ W.cell? ⟨b', off' + (k - 1), none⟩ = some (.int .i64 p) ∧ W.cell? ⟨b', off' + k, none⟩ = some (.int .i64 y)) (first | go_keep | (go_split_ands; refine ⟨?_, ?_, ?_, ?_⟩ <;> assumption)) (first | (go_at_call 18; refine C6.out.mono ?_; rintro e w6 ⟨rfl, hb6⟩; have f0 := (HR.out.drewN 1).step hb6; have f1 := f0.cell 0; have f2 := f0.cell 1; have f3 := (hb6.cell (p := ⟨b', off' + (k - 1), none⟩) HBB.out).trans hcp; have f4 := (hb6.cell (p := ⟨b', off' + k, none⟩) HBB.out).trans hcy))
                  have HR6 := Lib.hid f0
                  have HB6 : Hid (Below w.heap.size w w6) := (below_drewN HB.out 1).trans (hb6.mono HB.out.size)
                  clear f0 f1 f2 f3 f4 hb6 HR HB hq0 hq1 hcy hcp C6
                  have hsw : IntKind.i64.wrap (s + sv) = s + sv := by rw [IntKind.wrap_i64]; omega
                  by_cases hneg : sv < 0
                  · have HI3 : Hid (walkF both l 5 (s + sv) mo (o.drop (k + 1 - 1)) = walkD both x l o) := by
                      show _ = _
                      rw [← HI2.out, walkF_none (by rw [← HSV.out]; exact hneg), walkF_bad (by omega)]
                    have hng : ¬ mo < sv := by omega
                    have hsb : -1 ≤ s + sv ∧ s + sv ≤ 1000 * ((k + 1 : Nat) : Int) := by omega
                    go_wp2
                    go_roundw
                    case rel => exact ⟨k + 1, 5, s + sv, mo, by go_num, by omega, by omega, rfl, rfl, rfl, hsb, Or.inl (by omega), hmo, HI3.out, HR6.out, HB6.out⟩
                    case measure => simp [intOf]; omega
                  · have hI3 := HI2.out
                    rw [walkF_step (by rw [← HSV.out]; exact hneg), ← HSV.out] at hI3
                    by_cases hgt : mo < sv
                    · rw [if_pos hgt] at hI3
                      have HI3 : Hid (walkF both l 0 (s + sv) sv (o.drop (k + 1 - 1)) = walkD both x l o) := by
                        show _ = _
                        rw [Nat.add_sub_cancel, HDY.out]; exact hI3
                      clear hI3
                      go_wp2
                      go_roundw
                      case rel => exact ⟨k + 1, 0, s + sv, sv, by go_num, by omega, by omega, rfl, rfl, rfl, by omega, Or.inr (by omega), by omega, HI3.out, HR6.out, HB6.out⟩
                      case measure => simp [intOf]; omega
                    · rw [if_neg hgt] at hI3
                      have HI3 : Hid (walkF both l 0 (s + sv) mo (o.drop (k + 1 - 1)) = walkD both x l o) := by
                        show _ = _
                        rw [Nat.add_sub_cancel, HDY.out]; exact hI3
                      clear hI3
                      go_wp2
                      go_roundw
                      case rel => exact ⟨k + 1, 0, s + sv, mo, by go_num, by omega, by omega, rfl, rfl, rfl, by omega, Or.inr (by omega), by omega, HI3.out, HR6.out, HB6.out⟩
                      case measure => simp [intOf]; omega
                · have hltz : ¬ (k : Int) < m := by omega
                  have HF : Hid (walkD both x l o = (0, s, mo)) := by
                    show _ = _
                    rw [← HI.out, walkF_end (by rw [List.length_drop, HN'.out]; omega)]
                  go_wp2
                  go_ret3
                  exact ⟨by rw [HF.out]; rfl, HB.out⟩
              · have hez : (er == 0) = false := by simpa using her
                have HF : Hid (walkD both x l o = (er, 0, 0)) := by
                  show _ = _
                  rw [← HI.out, walkF_bad her]
                have hez2 : (er != 0) = true := by simpa using her
                by_cases hlt : (k : Int) < m
                · go_wp2
                  go_ret3
                  exact ⟨by rw [HF.out]; rfl, HB.out⟩
                · go_wp2
                  go_ret3
                  exact ⟨by rw [HF.out]; rfl, HB.out⟩
    · have hez : (er == 0) = false := by simpa using her
      have hez2 : (er != 0) = true := by simpa using her
      have HE : Hid (nodesF x (graphErr x l) o = er) := by
        show _ = _
        rw [← HI.out]
        exact if_neg her
      have HER := Lib.hid her
      clear her HI
      by_cases hlt : (k : Int) < m
      · skip
        have HV : Hid (walkD both x l o = (er, 0, 0)) := by show _ = _; unfold walkD; rw [HE.out, walkF_bad (by unfold lenE; rw [if_neg HER.out]; exact HER.out)]; unfold lenE; rw [if_neg HER.out]
        skip
        go_wp2
        go_loopw [13, 9] (fun i ev wr => i = .int .i64 1 ∧ ev = .int .i64 er ∧ Hid (Below w.heap.size w wr)) (fun _ _ _ => 0)
        case atStart => exact ⟨rfl, rfl, HB.out⟩
        case round =>
          clear HB HR hq0
          obtain ⟨rfl, rfl, HB⟩ := hrel
          by_cases h1m : (1 : Int) < m
          · go_wp2
            go_ret3
            exact ⟨by rw [HV.out]; rfl, HB.out⟩
          · go_wp2
            go_ret3
            exact ⟨by rw [HV.out]; rfl, HB.out⟩
      · skip
        have HV : Hid (walkD both x l o = (er, 0, 0)) := by show _ = _; unfold walkD; rw [HE.out, walkF_bad (by unfold lenE; rw [if_neg HER.out]; exact HER.out)]; unfold lenE; rw [if_neg HER.out]
        skip
        go_wp2
        go_loopw [13, 9] (fun i ev wr => i = .int .i64 1 ∧ ev = .int .i64 er ∧ Hid (Below w.heap.size w wr)) (fun _ _ _ => 0)
        case atStart => exact ⟨rfl, rfl, HB.out⟩
        case round =>
          clear HB HR hq0
          obtain ⟨rfl, rfl, HB⟩ := hrel
          by_cases h1m : (1 : Int) < m
          · go_wp2
            go_ret3
            exact ⟨by rw [HV.out]; rfl, HB.out⟩
          · go_wp2
            go_ret3
            exact ⟨by rw [HV.out]; rfl, HB.out⟩
end Go.Proofs.YtmcfhiddhifdcaaDoor
