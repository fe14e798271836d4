/- The walk of PathThree. Conditions: lengths are such that slices can have. -/
import Derived.Test.YtlilnnemclichaaFarCells
namespace Go.Proofs.Ytlilnnemclichaa
open Go.RowKit
/-- the way to a node of a way is its beginning -/
theorem way_begin (N : Nat) (A : Option Addr) (n c : Nat) (l : List Edge) (a y : Nat) (w : World) (hA : Cells w w.heap.size A (edges l)) (hn : l.length = n) (hm : n ≤ 9223372036854775807) (hg : graphErr N l = 0) (ha : a < N) (hy : y < N)
    {D : Int → Option (Int × Int)} {t wt : Int} {k q : Nat} (hD : Short (arcs true l) t N D) (hk : D (a : Int) = some (wt, (k : Int))) (hq : q ≤ k) (hqy : ((a : Int) :: wayFrom l D k (a : Int))[q]! = (y : Int)) :
    Calls Try.prog 6 #[graphV N A n c, .int .i64 (a : Int), .int .i64 (y : Int)] w fun e w' => ∃ g c', e = .returned (.tuple #[.slice (some ⟨g, 0, none⟩) (q + 1) c', .nilIface]) ∧ w'.ownsRow w.heap.size 3 1 (.slice (some ⟨g, 0, none⟩) (q + 1) c') (q + 1) (ints (((a : Int) :: wayFrom l D k (a : Int)).take (q + 1))) ∧ Below w.heap.size w w' := by
  have hb : ∀ e ∈ l, 0 ≤ e.b := fun e he => ((graphErr_ok hg).2.2 e he).2.1.1
  refine (way_ok N A n c l a y w hA hn hm hg ha hy).mono ?_
  rintro e w' ⟨D', hsh, hbw, (⟨hD', rfl⟩ | ⟨wt', k', g, c', hD', hkN, rfl, hown⟩)⟩
  · obtain ⟨w1, _, h1, _⟩ := way_begins hb hD hsh q k (a : Int) wt hq hk hqy
    rw [hD'] at h1; cases h1
  · obtain ⟨w1, _, h1, h2⟩ := way_begins hb hD hsh q k (a : Int) wt hq hk hqy
    rw [hD'] at h1
    injection h1 with h1
    injection h1 with _ h1
    have hkq : k' = q := by omega
    subst hkq
    rw [h2] at hown
    exact ⟨g, c', rfl, by rw [List.take_succ_cons]; exact hown, hbw⟩
set_option maxHeartbeats 8000000 in
set_option maxRecDepth 100000 in
theorem pathThreeW (x : Int) (A : Option Addr) (n c : Nat) (a b q : Int) (l : List Edge) (w : World) (_ : -9223372036854775808 ≤ x ∧ x ≤ 9223372036854775807) (hA : Cells w w.heap.size A (edges l)) (hn : l.length = n) (hm : n * 24 ≤ 140737488351232) (_ : ∀ e ∈ l, InEdge e) (_ : -9223372036854775808 ≤ a ∧ a ≤ 9223372036854775807) (_ : -9223372036854775808 ≤ b ∧ b ≤ 9223372036854775807) (_ : -9223372036854775808 ≤ q ∧ q ≤ 9223372036854775807) :
    Calls Try.prog 3 #[graphV x A n c, .int .i64 a, .int .i64 b, .int .i64 q] w fun e w' => e = .returned (.bool true) ∧ Below w.heap.size w w' := by
  have HN := Lib.hid hn
  have hn8 : n ≤ 9223372036854775807 := by omega
  have HB0 : Hid (Below w.heap.size w (w.alloc (.cells #[.int .i64 x, .slice A n c] 24))) := (Below.refl _ _).alloc (Nat.le_refl _) _
  have HR0 : Hid (Row (w.alloc (.cells #[.int .i64 x, .slice A n c] 24)) w.heap.size 24 [.int .i64 x, .slice A n c]) := Row.new _ _ _
  clear hn
  unfold graphV
  go_enter Try.func3, Try.ntmps3
  go_wp2_with fail
  refine (pathFact _).mono ?_
  rintro e w1 ⟨rfl, hb1⟩
  have HB1 : Hid (Below w.heap.size w w1) := HB0.out.trans (hb1.mono (by simp))
  have HR1 := Lib.hid (HR0.out.step hb1)
  have hsz1 := HB1.out.size
  have hA1 := (hA.below HB1.out (Nat.le_refl _)).more hsz1
  have hq0 := HR1.out.cell 0
  have hq1 := HR1.out.cell 1
  clear hb1 HB0 HR0 hm
  by_cases hp : pathErr x l [a] = 0
  · obtain ⟨hg, hsx⟩ := pathErr_ok hp
    have ha := hsx a (by simp)
    obtain ⟨⟨hx0, hx1⟩, hl40, hed⟩ := graphErr_ok hg
    obtain ⟨N, rfl⟩ : ∃ N : Nat, x = N := ⟨x.toNat, by omega⟩
    obtain ⟨a, rfl⟩ : ∃ k : Nat, a = k := ⟨a.toNat, by omega⟩
    have haN : a < N := by omega
    have hN : N ≤ 16 := by omega
    have HG := Lib.hid hg
    have HED := Lib.hid hed
    have c2 := far_ok N A n c l a w1 hA1 HN.out hn8 hg haN
    unfold graphV at c2
    have C2 := Lib.hid c2
    clear c2 hp hg hsx hx0 hx1 hl40 hed ha
    go_wp2_with fail
    refine C2.out.mono ?_
    rintro e w2 ⟨g2, k2, o2, rfl, hol2, hown2, hsh2, hww2, hb2⟩
    have HB2 : Hid (Below w.heap.size w w2) := HB1.out.trans (hb2.mono hsz1)
    have HR2 := Lib.hid (HR1.out.step hb2)
    have hsz2 := HB2.out.size
    have hA2 := (hA.below HB2.out (Nat.le_refl _)).more hsz2
    have HF2 := Lib.hid (far_cells hown2 hol2)
    have HL2 := Lib.hid hol2
    have HS2 := Lib.hid hsh2
    have HW2 := Lib.hid hww2
    have HG2 := Lib.hid (hown2.lt g2 rfl)
    have hq0 := HR2.out.cell 0
    have hq1 := HR2.out.cell 1
    clear hol2 hown2 hsh2 hww2 hb2 C2 hA1 hsz1 HB1 HR1
    by_cases hpb : pathErr N l [b] = 0
    · have hb := (pathErr_ok hpb).2 b (by simp)
      obtain ⟨b, rfl⟩ : ∃ k : Nat, b = k := ⟨b.toNat, by omega⟩
      have hbN : b < N := by omega
      have c3 := far_ok N A n c l b w2 hA2 HN.out hn8 HG.out hbN
      unfold graphV at c3
      have C3 := Lib.hid c3
      clear c3 hpb hb
      go_wp2_with fail
      refine C3.out.mono ?_
      rintro e w3 ⟨g3, k3, o3, rfl, hol3, hown3, hsh3, hww3, hb3⟩
      have HB3 : Hid (Below w.heap.size w w3) := HB2.out.trans (hb3.mono hsz2)
      have HR3 := Lib.hid (HR2.out.step hb3)
      have hsz3 := HB3.out.size
      have hA3 := (hA.below HB3.out (Nat.le_refl _)).more hsz3
      have HF3 := Lib.hid (far_cells hown3 hol3)
      have HF23 : Hid (∀ i, i < N → w3.cell? ⟨g2, i, none⟩ = some (.int .i64 o2[i]!.weight)) := fun i hi => (hb3.cell (p := ⟨g2, i, none⟩) HG2.out.2).trans (HF2.out i hi)
      have HG23 : Hid (g2 < w3.heap.size) := Nat.lt_of_lt_of_le HG2.out.2 hb3.size
      have HL3 := Lib.hid hol3
      have HS3 := Lib.hid hsh3
      have HW3 := Lib.hid hww3
      have HG3 := Lib.hid (hown3.lt g3 rfl)
      have hq0 := HR3.out.cell 0
      have hq1 := HR3.out.cell 1
      clear hol3 hown3 hsh3 hww3 hb3 C3 hA2 hsz2 HB2 HR2 HF2 HG2
      by_cases hqin : 0 ≤ q ∧ q < N
      · obtain ⟨q, rfl⟩ : ∃ k : Nat, q = k := ⟨q.toNat, by omega⟩
        have hqN : q < N := by omega
        have hqz : (q : Int) < N := by omega
        have hq00 : ¬ (q : Int) < 0 := by omega
        have hq01 : ¬ (N : Int) ≤ q := by omega
        have hbz : (b : Int) < N := by omega
        have hne : ((N : Int) != N) = false := by simp
        obtain ⟨xb, hxb⟩ : ∃ z, z = o2[b]!.weight := ⟨_, rfl⟩
        obtain ⟨xq, hxq⟩ : ∃ z, z = o2[q]!.weight := ⟨_, rfl⟩
        obtain ⟨yq, hyq⟩ : ∃ z, z = o3[q]!.weight := ⟨_, rfl⟩
        have k1 := HF23.out b hbN
        have k2 := HF23.out q hqN
        have k3 := HF3.out q hqN
        rw [← hxb] at k1
        rw [← hxq] at k2
        rw [← hyq] at k3
        have HXB := Lib.hid hxb
        have HXQ := Lib.hid hxq
        have HYQ := Lib.hid hyq
        have HTH : Hid (0 ≤ xb → 0 ≤ yq → 0 ≤ xq ∧ xq ≤ xb + yq) := fun p1 p2 => by
          rw [HXQ.out, HXB.out, HYQ.out]
          exact far_three HS2.out HS3.out (by rw [HL2.out]; exact hbN) (by rw [HL3.out]; exact hqN) (by rw [← HXB.out]; exact p1) (by rw [← HYQ.out]; exact p2)
        have hbnd : xb ≤ 16000 ∧ yq ≤ 16000 := by
          constructor
          · rcases Int.lt_or_le xb 0 with h | h
            · omega
            · have h1 := (HS2.out.sound _ _ _ (outF_nat (by rw [HL2.out]; exact hbN) (by rw [← hxb]; exact h))).2.2
              rw [← hxb] at h1; omega
          · rcases Int.lt_or_le yq 0 with h | h
            · omega
            · have h1 := (HS3.out.sound _ _ _ (outF_nat (by rw [HL3.out]; exact hqN) (by rw [← hyq]; exact h))).2.2
              rw [← hyq] at h1; omega
        have hbnd0 : -1 ≤ xb ∧ -1 ≤ yq := by
          constructor
          · have := HW2.out b hbN
            rw [← hxb] at this; omega
          · have := HW3.out q hqN
            rw [← hyq] at this; omega
        clear hxb hxq hyq hqin
        go_upto_region 10 with fail
        go_cut [96] from 62 to 96 (fun v wx => v = .bool false ∧ ∃ m, wx = w3.drewN m)
        case first =>
          by_cases p1 : 0 ≤ xb
          · have d1 : decide (0 ≤ xb) = true := decide_eq_true p1
            by_cases p2 : 0 ≤ yq
            · have d2 : decide (0 ≤ yq) = true := decide_eq_true p2
              have h3 := HTH.out p1 p2
              have d3 : decide (xq < 0) = false := decide_eq_false (by omega)
              have d4 : decide (xb + yq < xq) = false := decide_eq_false (by omega)
              have hw1 : IntKind.i64.wrap (xb + yq) = xb + yq := by rw [IntKind.wrap_i64]; omega
              clear h3 p1 p2
              go_quiet (fail)
              go_wp2
              go_meet
              exact ⟨rfl, _, rfl⟩
            · have d2 : decide (0 ≤ yq) = false := decide_eq_false p2
              clear p1 p2
              go_quiet (fail)
              go_wp2
              go_meet
              exact ⟨rfl, _, rfl⟩
          · have d1 : decide (0 ≤ xb) = false := decide_eq_false p1
            clear p1
            go_quiet (fail)
            go_wp2
            go_meet
            exact ⟨rfl, _, rfl⟩
        case rest =>
        obtain ⟨rfl, m, rfl⟩ := hcut
        have HB4 : Hid (Below w.heap.size w (w3.drewN m)) := below_drewN HB3.out m
        have HR4 : Hid (Row (w3.drewN m) w.heap.size 24 [.int .i64 (N : Int), .slice A n c]) := HR3.out.drewN m
        have HF4 : Hid (∀ i, i < N → (w3.drewN m).cell? ⟨g2, i, none⟩ = some (.int .i64 o2[i]!.weight)) := HF23.out
        have HG4 : Hid (g2 < (w3.drewN m).heap.size) := HG23.out
        clear HB3 HR3 HF3 HF23 HG23 HG3 hq0 hq1 k1 k2 k3 hA3 hsz3 hbnd hbnd0 HTH HXB HXQ HYQ hq00 hq01 hne
        generalize w3.drewN m = w4 at HB4 HR4 HF4 HG4 ⊢
        have hsz4 := HB4.out.size
        have hA4 := (hA.below HB4.out (Nat.le_refl _)).more hsz4
        have c5 := way_ok N A n c l a q w4 hA4 HN.out hn8 HG.out haN hqN
        unfold graphV at c5
        have C5 := Lib.hid c5
        have hq0 := HR4.out.cell 0
        have hq1 := HR4.out.cell 1
        clear c5 hA4
        go_wp2_with fail
        refine C5.out.mono ?_
        rintro e w5 ⟨D, hsh5, hb5, (⟨hD, rfl⟩ | ⟨wt, k, g5, c5, hD, hkN, rfl, hown5⟩)⟩
        · have HB5 : Hid (Below w.heap.size w w5) := HB4.out.trans (hb5.mono hsz4)
          have hm1 := far_none HS2.out hsh5 (by rw [HL2.out]; exact hqN) (HW2.out q hqN) hD
          have hc5 := (hb5.cell (p := ⟨g2, q, none⟩) HG4.out).trans (HF4.out q hqN)
          rw [hm1] at hc5
          clear hm1 hD hsh5 hb5 C5
          go_wp2
          go_ret
          exact ⟨rfl, HB5.out⟩
        · have HB5 : Hid (Below w.heap.size w w5) := HB4.out.trans (hb5.mono hsz4)
          have HR5 := Lib.hid (HR4.out.step hb5)
          have HD := Lib.hid hD
          have HSH := Lib.hid hsh5
          have HC5 : Hid (Cells w5 w5.heap.size (some ⟨g5, 0, none⟩) (ints ((a : Int) :: wayFrom l D k (a : Int)))) := hown5.own (by omega)
          have hcap := own_cap hown5
          clear hD hsh5 hb5 hown5 C5 hq0 hq1 HR4 HB4 HF4 HG4 hsz4
          have hk0 : (0 : Int) < (k : Int) + 1 := by omega
          have HED2 := Lib.hid (way_in HSH.out (fun e he => (HED.out e he).2.1.1) HD.out)
          have HWL : Hid (((a : Int) :: wayFrom l D k (a : Int)).length = k + 1) := by show _ = _; simp [wayFrom_len]
          have hkz : k ≤ 16 := by omega
          have hbl : (k : Int) ≤ 16 := by omega
          have hck : (k : Int) + 1 ≤ c5 := by omega
          go_wp2
          go_loopw [16] (fun i wr => ∃ j : Nat, i = .int .i64 ((j : Int) + 1) ∧ j ≤ k + 1 ∧ Hid (Cells wr wr.heap.size (some ⟨g5, 0, none⟩) (ints ((a : Int) :: wayFrom l D k (a : Int)))) ∧ Hid (Row wr w.heap.size 24 [.int .i64 (N : Int), .slice A n c]) ∧ Hid (Below w.heap.size w wr)) (fun i _ => k + 3 - (intOf i).toNat)
          case atStart => exact ⟨0, rfl, by omega, HC5.out, HR5.out, HB5.out⟩
          case round =>
            clear HC5 HR5 HB5
            obtain ⟨j, rfl, hj, HC, HR, HB⟩ := hrel
            have hsz := HB.out.size
            by_cases hjk : j < k + 1
            · have hjz : (j : Int) + 1 ≤ (k : Int) + 1 := by omega
              have hw0 : IntKind.i64.wrap ((j : Int) + 1 - 1) = (j : Int) := by rw [IntKind.wrap_i64]; omega
              have hw00 : IntKind.i64.wrap (j : Int) = (j : Int) := by rw [IntKind.wrap_i64]; omega
              have hj0 : (0 : Int) ≤ (j : Int) := by omega
              have hj1 : (j : Int) < (k : Int) + 1 := by omega
              obtain ⟨b', off', y, hbb, hbl', hx, hcw⟩ := ints_at HC.out (show j < ((a : Int) :: wayFrom l D k (a : Int)).length by rw [HWL.out]; exact hjk)
              simp only [Option.some.injEq, Addr.mk.injEq, and_true] at hbb
              obtain ⟨rfl, rfl⟩ := hbb
              rw [Nat.zero_add] at hcw
              have hy := HED2.out y (List.mem_of_getElem? hx)
              obtain ⟨y, rfl⟩ : ∃ v : Nat, y = v := ⟨y.toNat, by omega⟩
              have hqy : ((a : Int) :: wayFrom l D k (a : Int))[j]! = (y : Int) := by rw [List.getElem!_eq_getElem?_getD, hx]; rfl
              have hAd : Cells wr.drew wr.drew.heap.size A (edges l) := (hA.below (below_drewN HB.out 1) (Nat.le_refl _)).more hsz
              have c6 := way_begin N A n c l a y wr.drew hAd HN.out hn8 HG.out haN (by omega) HSH.out HD.out (by omega) hqy
              unfold graphV at c6
              have C6 := Lib.hid c6
              have hq0 := HR.out.cell 0
              have hq1 := HR.out.cell 1
              have HTC : Hid (∀ W, Cells W W.heap.size (some ⟨g5, 0, none⟩) (ints ((a : Int) :: wayFrom l D k (a : Int))) → Cells W W.heap.size (some ⟨g5, 0, none⟩) (ints (((a : Int) :: wayFrom l D k (a : Int)).take (j + 1)))) := fun W h => by
                refine Cells.front (ys := ints (((a : Int) :: wayFrom l D k (a : Int)).drop (j + 1))) ?_
                rw [← ints_append, List.take_append_drop]; exact h
              have HTL : Hid ((((a : Int) :: wayFrom l D k (a : Int)).take (j + 1)).length = j + 1) := by show _ = _; rw [List.length_take, HWL.out]; omega
              have hjc : (j : Int) + 1 ≤ c5 := by omega
              have hjn : (0 : Int) ≤ (j : Int) + 1 := by omega
              clear c6 hx hy hqy hAd
              go_upto_region 18 with fail
              go_region_held3 (fun W => W.cell? ⟨w.heap.size, 0, none⟩ = some (.int .i64 (N : Int)) ∧ W.cell? ⟨w.heap.size, 1, none⟩ = some (.slice A n c) ∧ W.cell? ⟨g5, j, none⟩ = some (.int .i64 (y : Int))) (first | go_keep | (go_split_ands; refine ⟨?_, ?_, ?_⟩ <;> assumption)) (first | (go_at_call 6; refine C6.out.mono ?_; rintro e w6 ⟨g6, c6, rfl, hown6, hb6⟩; have f0 := (HR.out.drewN 1).step hb6; have f1 := f0.cell 0; have f2 := f0.cell 1; have f3 := (hb6.cell (p := ⟨g5, j, none⟩) hbl').trans hcw))
              have HR6 := Lib.hid f0
              have HC6 : Hid (Cells w6 w6.heap.size (some ⟨g5, 0, none⟩) (ints ((a : Int) :: wayFrom l D k (a : Int)))) := ((HC.out.below (below_drewN (Below.refl _ _) 1) (Nat.le_refl _) : Cells wr.drew wr.drew.heap.size _ _)).step hb6
              have HB6 : Hid (Below w.heap.size w w6) := (below_drewN HB.out 1).trans (hb6.mono hsz)
              have c7 := ints_same (some ⟨g6, 0, none⟩) (some ⟨g5, 0, none⟩) (j + 1) c6 (j + 1) c5 _ _ w6 (hown6.own (by omega)) HTL.out (by omega) (HTC.out w6 HC6.out) HTL.out
              have C7 := Lib.hid c7
              have hE : Hid (eqB (((a : Int) :: wayFrom l D k (a : Int)).take (j + 1)) (((a : Int) :: wayFrom l D k (a : Int)).take (j + 1)) = true) := eqB_true rfl
              clear c7 f0 f1 f2 f3 hown6 hb6 hcw hq0 hq1 C6 HR HC HB
              go_wp2_with fail
              refine C7.out.mono ?_
              rintro e w7 ⟨rfl, m, rfl⟩
              rw [hE.out]
              go_wp2
              go_roundw
              case rel => exact ⟨j + 1, by go_num, by omega, HC6.out, HR6.out.drewN m, below_drewN HB6.out m⟩
              case measure => simp [intOf]; omega
            · have hjz : ¬ (j : Int) + 1 ≤ (k : Int) + 1 := by omega
              go_wp2
              go_ret
              exact ⟨rfl, HB.out⟩
      · have hor : q < 0 ∨ (¬ q < 0 ∧ (N : Int) ≤ q) := by omega
        rcases hor with h | ⟨h, h'⟩
        · go_wp2
          go_ret
          exact ⟨rfl, HB3.out⟩
        · go_wp2
          go_ret
          exact ⟨rfl, HB3.out⟩
    · have c3 := far_bad N A n c l b w2 hA2 HN.out hn8 hpb
      unfold graphV at c3
      have C3 := Lib.hid c3
      clear c3 hpb
      go_wp2_with fail
      refine C3.out.mono ?_
      rintro e w3 ⟨rfl, hb3⟩
      have HB3 : Hid (Below w.heap.size w w3) := HB2.out.trans (hb3.mono hsz2)
      clear hb3 C3
      go_wp2
      go_ret
      exact ⟨rfl, HB3.out⟩
  · have c2 := far_bad x A n c l a w1 hA1 HN.out hn8 hp
    unfold graphV at c2
    have C2 := Lib.hid c2
    clear c2 hp
    go_wp2_with fail
    refine C2.out.mono ?_
    rintro e w2 ⟨rfl, hb2⟩
    have HB2 : Hid (Below w.heap.size w w2) := HB1.out.trans (hb2.mono hsz1)
    have HR2 := Lib.hid (HR1.out.step hb2)
    have hsz2 := HB2.out.size
    have hA2 := (hA.below HB2.out (Nat.le_refl _)).more hsz2
    have hq0 := HR2.out.cell 0
    have hq1 := HR2.out.cell 1
    clear hb2 C2 HB1 HR1 hA1
    have c3 := far_any x A n c l b w2 hA2 HN.out hn8
    unfold graphV at c3
    have C3 := Lib.hid c3
    clear c3
    go_wp2_with fail
    refine C3.out.mono ?_
    rintro e w3 ⟨v1, v2, rfl, hb3⟩
    have HB3 : Hid (Below w.heap.size w w3) := HB2.out.trans (hb3.mono hsz2)
    clear hb3 C3
    go_wp2
    go_ret
    exact ⟨rfl, HB3.out⟩
end Go.Proofs.Ytlilnnemclichaa
