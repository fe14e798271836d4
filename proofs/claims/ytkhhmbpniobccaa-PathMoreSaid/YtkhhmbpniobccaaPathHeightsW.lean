/- The walk of PathHeights. Conditions: lengths are such that slices can have. -/
import Derived.Test.YtkhhmbpniobccaaPathFact
import Derived.Test.YtkhhmbpniobccaaHad
import Derived.Deep.DeepCutAuto
namespace Go.Proofs.Ytkhhmbpniobccaa
open Go.RowKit
theorem far_cells {w : World} {base g N c e : Nat} {outs : List Fr} (h : w.ownsRow base e 1 (.slice (some ⟨g, 0, none⟩) N c) N (ints (outs.map (·.weight)))) (hl : outs.length = N) : ∀ i, i < N → w.cell? ⟨g, i, none⟩ = some (.int .i64 outs[i]!.weight) := fun i hi => by
  rw [h.cellAt i (by omega)]
  unfold ints
  rw [List.map_map, List.getElem?_map, gget outs (show i < outs.length by omega)]
  rfl
theorem outF_nat {outs : List Fr} {v : Nat} (hv : v < outs.length) (h : 0 ≤ outs[v]!.weight) : outF outs (v : Int) = some (outs[v]!.weight, outs[v]!.edges) := by
  unfold outF
  rw [Int.toNat_natCast, if_pos ⟨by omega, hv, h⟩]
theorem short_edge {N : Nat} {l : List Edge} {s : Int} {outs : List Fr} (h : Short (arcs false l) s N (outF outs)) (hl : outs.length = N) {a b : Nat} {t : Int} (he : (⟨a, b, t⟩ : Edge) ∈ l) (ha : a < N) (h0 : 0 ≤ outs[a]!.weight) :
    0 ≤ outs[b]!.weight ∧ outs[b]!.weight ≤ outs[a]!.weight + t := by
  obtain ⟨w', e', h1, h2⟩ := h.closed _ _ _ (outF_nat (by omega) h0) b t (List.mem_map.2 ⟨_, he, rfl⟩)
  have h3 := (h.sound _ _ _ h1).2.2.2.1
  have h4 := (outF_some h1).1
  unfold le2 at h2
  omega
theorem short_tight {N : Nat} {l : List Edge} {s : Nat} {outs : List Fr} (h : Short (arcs false l) (s : Int) N (outF outs)) (hl : outs.length = N) (hed : ∀ p ∈ l, (0 ≤ p.a ∧ p.a ≤ (N : Int) - 1) ∧ (0 ≤ p.b ∧ p.b ≤ (N : Int) - 1) ∧ (0 ≤ p.weight ∧ p.weight ≤ 1000)) {i : Nat} (hi : i < N) (h0 : 0 ≤ outs[i]!.weight) (hne : i ≠ s) :
    ∃ (a : Nat) (t : Int), (⟨a, i, t⟩ : Edge) ∈ l ∧ a < N ∧ 0 ≤ outs[a]!.weight ∧ outs[i]!.weight = outs[a]!.weight + t := by
  obtain ⟨u, w', e', c, hg, h1, h2, _⟩ := h.tight (outF_nat (by omega) h0) (by omega)
  obtain ⟨e, he, hq⟩ := List.mem_map.1 hg
  simp only [Bool.false_eq_true, if_false, Prod.mk.injEq] at hq
  obtain ⟨rfl, e2, rfl⟩ := hq
  have := hed e he
  obtain ⟨a, ha⟩ : ∃ a : Nat, e.a = a := ⟨e.a.toNat, by omega⟩
  rw [ha] at h1
  have h3 := (outF_some h1).1
  have h4 := (h.sound _ _ _ h1).2.2.2.1
  refine ⟨a, e.weight, ?_, by omega, by omega, by omega⟩
  rw [← ha, ← e2]; exact he
set_option maxHeartbeats 4000000 in
set_option maxRecDepth 100000 in
theorem pathHeightsW (x : Int) (A : Option Addr) (n c : Nat) (s : Int) (l : List Edge) (w : World) (_ : -9223372036854775808 ≤ x ∧ x ≤ 9223372036854775807) (hA : Cells w w.heap.size A (edges l)) (hn : l.length = n) (hm : n * 24 ≤ 140737488351232) (_ : ∀ e ∈ l, InEdge e) (_ : -9223372036854775808 ≤ s ∧ s ≤ 9223372036854775807) :
    Calls Try.prog 4 #[graphV x A n c, .int .i64 s] w fun e w' => e = .returned (.bool true) ∧ Below w.heap.size w w' := by
  have HN := Lib.hid hn
  have HB0 : Hid (Below w.heap.size w (w.alloc (.cells #[.int .i64 x, .slice A n c] 24))) := (Below.refl _ _).alloc (Nat.le_refl _) _
  have HR0 : Hid (Row (w.alloc (.cells #[.int .i64 x, .slice A n c] 24)) w.heap.size 24 [.int .i64 x, .slice A n c]) := Row.new _ _ _
  by_cases hp : pathErr x l [s] = 0
  · obtain ⟨hg, hsx⟩ := pathErr_ok hp
    have hs := hsx s (by simp)
    obtain ⟨⟨hx0, hx1⟩, hl40, hed⟩ := graphErr_ok hg
    obtain ⟨N, rfl⟩ : ∃ N : Nat, x = N := ⟨x.toNat, by omega⟩
    obtain ⟨s, rfl⟩ : ∃ k : Nat, s = k := ⟨s.toNat, by omega⟩
    have hsN : s < N := by omega
    have hN : N ≤ 16 := by omega
    have hn40 : n ≤ 40 := by omega
    have HED := Lib.hid hed
    have HG := Lib.hid hg
    have hmk := make_row 34 4 (.bool false) 1 Try.underlying34 info_bool rfl N (by omega) (by omega)
    have HMK := Lib.hid hmk
    clear hn hp hg hsx hs hed hl40 hx0 hx1 hmk
    unfold graphV
    go_enter Try.func4, Try.ntmps4
    go_wp2_with fail
    refine (pathFact _).mono ?_
    rintro e w1 ⟨rfl, hb1⟩
    have HB1 : Hid (Below w.heap.size w w1) := HB0.out.trans (hb1.mono (by simp))
    have HR1 := Lib.hid (HR0.out.step hb1)
    have hsz := HB1.out.size
    have c2 := far_ok N A n c l s w1 ((hA.below HB1.out (Nat.le_refl _)).more hsz) HN.out (by omega) HG.out hsN
    unfold graphV at c2
    have C2 := Lib.hid c2
    have hq0 := HR1.out.cell 0
    have hq1 := HR1.out.cell 1
    clear hb1 c2 HB0 HR0
    go_wp2_with fail
    refine C2.out.mono ?_
    rintro e w2 ⟨g, cf, outs, rfl, hol, hown, hsh, hww, hb2⟩
    have HB2 : Hid (Below w.heap.size w w2) := HB1.out.trans (hb2.mono hsz)
    have HR2 := Lib.hid (HR1.out.step hb2)
    have HFC := Lib.hid (far_cells hown hol)
    have HGL := Lib.hid (hown.lt g rfl)
    have HOL := Lib.hid hol
    have HSH := Lib.hid hsh
    have HWW := Lib.hid hww
    have hq0 := HR2.out.cell 0
    have hs0 := HFC.out s hsN
    have hf0 := (outF_some hsh.first).1
    rw [hf0] at hs0
    have hsz2 : (s : Int) < N := by omega
    have hmk := HMK.out
    have hbz : ((N : Int) != N) = false := by simp
    clear hol hown hsh hww hb2 C2 hq1 HR1 HB1 hf0 hsz
    go_upto_region 10 with fail
    have HT : Row (w2.alloc (.cells (madeCells #[.bool false] N) 4)) w2.heap.size 4 (hadRow N []) := by rw [← hadRow_nil]; exact Row.made _ _ _ _
    have HRB : Hid (Row (w2.alloc (.cells (madeCells #[.bool false] N) 4)) w.heap.size 24 [.int .i64 (N : Int), .slice A n c]) := HR2.out.alloc _
    have HBB : Hid (Below w.heap.size w (w2.alloc (.cells (madeCells #[.bool false] N) 4))) := HB2.out.alloc HB2.out.size _
    have HFB : Hid (∀ i, i < N → (w2.alloc (.cells (madeCells #[.bool false] N) 4)).cell? ⟨g, i, none⟩ = some (.int .i64 outs[i]!.weight)) := fun i hi => (World.cell?_alloc_lt _ _ ⟨g, i, none⟩ HGL.out.2).trans (HFC.out i hi)
    clear hmk HMK hq0 hs0 HFC
    obtain ⟨T, hT⟩ : ∃ T, T = w2.heap.size := ⟨_, rfl⟩
    rw [← hT] at HT ⊢
    have HTG : Hid (g < T ∧ w.heap.size < T) := by
      have := HR2.out.lt
      exact ⟨by have := HGL.out.2; omega, by omega⟩
    generalize w2.alloc (.cells (madeCells #[.bool false] N) 4) = w3 at HT HRB HBB HFB ⊢
    clear hT HB2 HR2
    have hct := HT.cell s
    rw [hadRow_at hsN] at hct
    have hft := HT.frozen s
    have HT2 : Hid (Row (w3.setCell ⟨T, s, none⟩ (.bool true)) T 4 (hadRow N [(s : Int)])) := by
      have := HT.set_ s (.bool true)
      rw [hadRow_set] at this; exact this
    have HRB2 : Hid (Row (w3.setCell ⟨T, s, none⟩ (.bool true)) w.heap.size 24 [.int .i64 (N : Int), .slice A n c]) := HRB.out.far (by have := HTG.out; show w.heap.size ≠ T; omega) _
    have HBB2 : Hid (Below w.heap.size w (w3.setCell ⟨T, s, none⟩ (.bool true))) := HBB.out.setCell (by have := HTG.out; show w.heap.size ≤ T; omega) _
    have HFB2 : Hid (∀ i, i < N → (w3.setCell ⟨T, s, none⟩ (.bool true)).cell? ⟨g, i, none⟩ = some (.int .i64 outs[i]!.weight)) := fun i hi => by
      rw [World.cell?_setCell_other _ _ _ _ (by have := HTG.out; intro e; simp only [Addr.mk.injEq] at e; omega)]; exact HFB.out i hi
    clear HT HRB HBB HFB
    go_wp2
    clear hct hft
    generalize w3.setCell ⟨T, s, none⟩ (.bool true) = w4 at HT2 HRB2 HBB2 HFB2 ⊢
    go_loopw [9] (fun i wr => ∃ (k : Nat) (had : List Int), i = .int .i64 (k : Int) ∧ k ≤ n ∧ Hid ((s : Int) ∈ had ∧ ∀ (a b : Nat) (t : Int), (⟨a, b, t⟩ : Edge) ∈ l.take k → 0 ≤ outs[a]!.weight → outs[b]!.weight = outs[a]!.weight + t → (b : Int) ∈ had) ∧ Hid (Row wr T 4 (hadRow N had)) ∧ Hid (Row wr w.heap.size 24 [.int .i64 (N : Int), .slice A n c]) ∧
      Hid (∀ i, i < N → wr.cell? ⟨g, i, none⟩ = some (.int .i64 outs[i]!.weight)) ∧ Hid (Below w.heap.size w wr)) (fun i _ => n - (intOf i).toNat)
    case atStart => exact ⟨0, [(s : Int)], rfl, by omega, ⟨by simp, by simp⟩, HT2.out, HRB2.out, HFB2.out, HBB2.out⟩
    case round =>
      clear HT2 HRB2 HFB2 HBB2
      obtain ⟨k, had, rfl, hk, HI, HT, HR, HF, HB⟩ := hrel
      have hq1 := HR.out.cell 1
      by_cases hlt : k < n
      · have hlz : (k : Int) < n := by omega
        obtain ⟨b, off, ea, eb, et, rfl, hbb, hx, hc0, hc1, hc2⟩ := edges_at hA (show k < l.length by rw [HN.out]; exact hlt)
        obtain ⟨⟨ha0, ha1⟩, ⟨hb0, hb1⟩, ht0, ht1⟩ := HED.out _ (List.mem_of_getElem? hx)
        simp only at ha0 ha1 hb0 hb1 ht0 ht1
        obtain ⟨a, rfl⟩ : ∃ m : Nat, ea = m := ⟨ea.toNat, by omega⟩
        obtain ⟨v, rfl⟩ : ∃ m : Nat, eb = m := ⟨eb.toNat, by omega⟩
        have haN : a < N := by omega
        have hvN : v < N := by omega
        have haz : (a : Int) < N := by omega
        have hvz : (v : Int) < N := by omega
        rw [← HB.out.cell hbb] at hc0 hc1 hc2
        obtain ⟨fa, hfa⟩ : ∃ z, z = outs[a]!.weight := ⟨_, rfl⟩
        obtain ⟨fv, hfv⟩ : ∃ z, z = outs[v]!.weight := ⟨_, rfl⟩
        have hca := HF.out a haN
        have hcv := HF.out v hvN
        rw [← hfa] at hca
        rw [← hfv] at hcv
        have HFA := Lib.hid hfa
        have HFV := Lib.hid hfv
        have HEX := Lib.hid hx
        have hgw : g < wr.heap.size := by
          have := HTG.out; have := HT.out.lt; omega
        have hca2 : ∀ O, (wr.alloc O).cell? ⟨g, a, none⟩ = some (.int .i64 fa) := fun O => (World.cell?_alloc_lt _ _ ⟨g, a, none⟩ hgw).trans hca
        have hcv2 : ∀ O, (wr.alloc O).cell? ⟨g, v, none⟩ = some (.int .i64 fv) := fun O => (World.cell?_alloc_lt _ _ ⟨g, v, none⟩ hgw).trans hcv
        have HSE : Hid (0 ≤ fa → 0 ≤ fv ∧ fv ≤ fa + et) := fun h0 => by
          have := short_edge HSH.out HOL.out (List.mem_of_getElem? hx) haN (by rw [← hfa]; exact h0)
          rw [← hfa, ← hfv] at this; exact this
        have hbnd : fa ≤ 16000 := by
          rcases Int.lt_or_le fa 0 with h | h
          · omega
          · have h1 := outF_nat (outs := outs) (v := a) (by rw [HOL.out]; exact haN) (by rw [← hfa]; exact h)
            have h2 := (HSH.out.sound _ _ _ h1).2.2
            rw [← hfa] at h2
            omega
        have hwA : -1 ≤ fa := by
          have := HWW.out a haN
          rw [← hfa] at this; omega
        have hct : ∀ O, (wr.alloc O).cell? ⟨T, v, none⟩ = some (.bool (decide ((v : Int) ∈ had))) := fun O => by
          rw [(HT.out.alloc O).cell v, hadRow_at hvN]
        have hfrt : ∀ O, (wr.alloc O).frozen? ⟨T, v, none⟩ = false := fun O => (HT.out.alloc O).frozen v
        clear hx hA hfa hfv hca hcv
        have hstep : ∀ had' : List Int, (∀ y ∈ had, y ∈ had') → (0 ≤ fa → fv = fa + et → (v : Int) ∈ had') → ((s : Int) ∈ had' ∧ ∀ (a b : Nat) (t : Int), (⟨a, b, t⟩ : Edge) ∈ l.take (k + 1) → 0 ≤ outs[a]!.weight → outs[b]!.weight = outs[a]!.weight + t → (b : Int) ∈ had') := fun had' h1 h2 => by
          refine ⟨h1 _ HI.out.1, fun a' b' t' hm h3 h4 => ?_⟩
          rw [take_at HEX.out, List.mem_append] at hm
          rcases hm with hm | hm
          · exact h1 _ (HI.out.2 a' b' t' hm h3 h4)
          · simp only [List.mem_singleton, Edge.mk.injEq] at hm
            obtain ⟨e1, e2, rfl⟩ := hm
            have e1' : a' = a := by omega
            have e2' : b' = v := by omega
            subst e1' e2'
            rw [← HFA.out] at h3 h4
            rw [← HFV.out] at h4
            exact h2 h3 h4
        have HST := Lib.hid hstep
        clear hstep
        have HKEEP : Hid (∀ q : Nat, Row ((wr.alloc (.cells #[.int .i64 (a : Int), .int .i64 (v : Int), .int .i64 et] 36)).drewN q) T 4 (hadRow N had) ∧ Row ((wr.alloc (.cells #[.int .i64 (a : Int), .int .i64 (v : Int), .int .i64 et] 36)).drewN q) w.heap.size 24 [.int .i64 (N : Int), .slice (some ⟨b, off, none⟩) n c] ∧
            (∀ i, i < N → ((wr.alloc (.cells #[.int .i64 (a : Int), .int .i64 (v : Int), .int .i64 et] 36)).drewN q).cell? ⟨g, i, none⟩ = some (.int .i64 outs[i]!.weight)) ∧ Below w.heap.size w ((wr.alloc (.cells #[.int .i64 (a : Int), .int .i64 (v : Int), .int .i64 et] 36)).drewN q)) := fun q =>
          ⟨(HT.out.alloc _).drewN _, (HR.out.alloc _).drewN _, fun i hi => (World.cell?_alloc_lt wr (.cells #[.int .i64 (a : Int), .int .i64 (v : Int), .int .i64 et] 36) ⟨g, i, none⟩ hgw).trans (HF.out i hi), below_drewN (HB.out.alloc HB.out.size _) _⟩
        by_cases h0 : 0 ≤ fa
        · have hse := HSE.out h0
          have h1 : ¬ fv < 0 := by omega
          have h2 : ¬ fa + et < fv := by omega
          have hw1 : IntKind.i64.wrap (fa + et) = fa + et := by rw [IntKind.wrap_i64]; omega
          have d0 : decide (0 ≤ fa) = true := decide_eq_true h0
          have d1 : decide (fv < 0) = false := decide_eq_false h1
          have d2 : decide (fa + et < fv) = false := decide_eq_false h2
          by_cases h3 : fv = fa + et
          · have d3 : (fv == fa + et) = true := beq_iff_eq.2 h3
            have H3 := Lib.hid h3
            clear h3 hse
            go_wp2
            go_quiet (fail)
            go_wp2
            go_quiet (fail)
            go_wp2
            go_roundw
            case rel =>
              refine ⟨k + 1, (v : Int) :: had, by go_num, by omega, HST.out _ (fun y hy => by simp [hy]) (fun _ _ => by simp), ?_, (HKEEP.out _).2.1.far (by have := HTG.out; show w.heap.size ≠ T; omega) _, fun i hi => ?_, (HKEEP.out _).2.2.2.setCell (by have := HTG.out; show w.heap.size ≤ T; omega) _⟩
              · show Row _ _ _ _
                rw [← hadRow_set]; exact (HKEEP.out _).1.set_ v _
              · rw [World.cell?_setCell_other _ _ _ _ (by have := HTG.out; intro e; simp only [Addr.mk.injEq] at e; omega)]
                exact (HKEEP.out _).2.2.1 i hi
            case measure => simp [intOf]; omega
          · have d3 : (fv == fa + et) = false := beq_eq_false_iff_ne.2 h3
            have HS2 : Hid ((s : Int) ∈ had ∧ ∀ (a b : Nat) (t : Int), (⟨a, b, t⟩ : Edge) ∈ l.take (k + 1) → 0 ≤ outs[a]!.weight → outs[b]!.weight = outs[a]!.weight + t → (b : Int) ∈ had) := HST.out had (fun _ hy => hy) (fun _ h => absurd h h3)
            clear h3 hse
            go_wp2
            go_quiet (fail)
            go_wp2
            go_quiet (fail)
            go_wp2
            go_roundw
            case rel => exact ⟨k + 1, had, by go_num, by omega, HS2.out, (HKEEP.out _).1, (HKEEP.out _).2.1, (HKEEP.out _).2.2.1, (HKEEP.out _).2.2.2⟩
            case measure => simp [intOf]; omega
        · have d0 : decide (0 ≤ fa) = false := decide_eq_false h0
          have HS2 : Hid ((s : Int) ∈ had ∧ ∀ (a b : Nat) (t : Int), (⟨a, b, t⟩ : Edge) ∈ l.take (k + 1) → 0 ≤ outs[a]!.weight → outs[b]!.weight = outs[a]!.weight + t → (b : Int) ∈ had) := HST.out had (fun _ hy => hy) (fun h _ => absurd h h0)
          go_wp2
          go_quiet (fail)
          go_wp2
          go_quiet (fail)
          go_wp2
          go_roundw
          case rel => exact ⟨k + 1, had, by go_num, by omega, HS2.out, (HKEEP.out _).1, (HKEEP.out _).2.1, (HKEEP.out _).2.2.1, (HKEEP.out _).2.2.2⟩
          case measure => simp [intOf]; omega
      · have hlz : ¬ (k : Int) < n := by omega
        have hkn : k = n := by omega
        subst hkn
        have HH : Hid (∀ i : Nat, i < N → 0 ≤ outs[i]!.weight → (i : Int) ∈ had) := fun i hi h0 => by
          by_cases e : i = s
          · rw [e]; exact HI.out.1
          · obtain ⟨a, t, h1, h2, h3, h4⟩ := short_tight HSH.out HOL.out HED.out hi h0 e
            refine HI.out.2 a i t ?_ h3 h4
            rw [List.take_of_length_le (by rw [HN.out]; omega)]; exact h1
        go_wp2
        go_loop [11] (fun i => ∃ j : Nat, i = .int .i64 (j : Int) ∧ j ≤ N) (fun i => N - (intOf i).toNat)
        case atStart => exact ⟨0, rfl, by omega⟩
        case round =>
          obtain ⟨j, rfl, hj⟩ := hrel
          have hq0 := HR.out.cell 0
          by_cases hjN : j < N
          · have hjz : (j : Int) < N := by omega
            have hcj := HF.out j hjN
            have hctj := HT.out.cell j
            rw [hadRow_at hjN] at hctj
            obtain ⟨fj, hfj⟩ : ∃ z, z = outs[j]!.weight := ⟨_, rfl⟩
            rw [← hfj] at hcj
            by_cases h0 : 0 ≤ fj
            · have hin := HH.out j hjN (by rw [← hfj]; exact h0)
              rw [decide_eq_true hin] at hctj
              clear hin hfj
              go_wp2
              go_round
              case rel => exact ⟨j + 1, by go_num, by omega⟩
              case measure => simp [intOf]; omega
            · clear hfj
              go_wp2
              go_round
              case rel => exact ⟨j + 1, by go_num, by omega⟩
              case measure => simp [intOf]; omega
          · have hjz : ¬ (j : Int) < N := by omega
            go_wp2
            go_ret
            exact ⟨rfl, HB.out⟩
  · have HP := Lib.hid hp
    clear hp
    unfold graphV
    go_enter Try.func4, Try.ntmps4
    go_wp2_with fail
    refine (pathFact _).mono ?_
    rintro e w1 ⟨rfl, hb1⟩
    have HB1 : Hid (Below w.heap.size w w1) := HB0.out.trans (hb1.mono (by simp))
    have HR1 := Lib.hid (HR0.out.step hb1)
    have hsz := HB1.out.size
    have c2 := far_bad x A n c l s w1 ((hA.below HB1.out (Nat.le_refl _)).more hsz) hn (by omega) HP.out
    unfold graphV at c2
    have C2 := Lib.hid c2
    have hq0 := HR1.out.cell 0
    have hq1 := HR1.out.cell 1
    clear hb1 c2 HB0 HR0 hn
    go_wp2_with fail
    refine C2.out.mono ?_
    rintro e w2 ⟨rfl, hb2⟩
    have HB2 : Hid (Below w.heap.size w w2) := HB1.out.trans (hb2.mono hsz)
    clear hb2 C2 hq0 hq1 HR1 HB1
    go_wp2
    go_ret
    exact ⟨rfl, HB2.out⟩
end Go.Proofs.Ytkhhmbpniobccaa
