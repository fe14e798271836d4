/- The walk of PathMore. Conditions: lengths are such that slices can have. -/
import Derived.Test.YtkhhmbpniobccaaPathHeightsW
namespace Go.Proofs.Ytkhhmbpniobccaa
open Go.RowKit
theorem info_edge : (Try.prog.info? 36).map (fun i => (i.zero, i.size, i.bytes)) = some (some (.agg #[.int .i64 0, .int .i64 0, .int .i64 0]), 3, 24) := by kernel_rfl
theorem edges_len (l : List Edge) : (edges l).length = l.length * 3 := threes_len _ _
theorem edges_snoc (l : List Edge) (e : Edge) : edges (l ++ [e]) = edges l ++ [.int .i64 e.a, .int .i64 e.b, .int .i64 e.weight] := by unfold edges; rw [threes_append]; rfl
theorem one_edges (l : List Edge) : ∀ u ∈ edges l, u.oneCell' = true := one_threes _ _
theorem reach_more {G G' : List Arc} (h : ∀ a ∈ G, a ∈ G') {s v w e : Int} (hr : Reach G s v w e) : Reach G' s v w e := by
  induction hr with
  | start => exact Reach.start
  | step _ hg ih => exact ih.step (h _ hg)
theorem short_more {N : Nat} {G G' : List Arc} {s : Int} {o o' : List Fr} (h : ∀ a ∈ G, a ∈ G') (h1 : Short G s N (outF o)) (h2 : Short G' s N (outF o')) {i : Nat} (hi : i < o.length) (h0 : 0 ≤ o[i]!.weight) : 0 ≤ o'[i]!.weight ∧ o'[i]!.weight ≤ o[i]!.weight := by
  obtain ⟨w', e', h3, h4⟩ := h2.least (reach_more h (h1.sound _ _ _ (outF_nat hi h0)).1)
  have h5 := (outF_some h3).1
  have h6 := (h2.sound _ _ _ h3).2.2.2.1
  unfold le2 at h4
  omega
set_option maxHeartbeats 4000000 in
set_option maxRecDepth 100000 in
theorem pathMoreW (x : Int) (A : Option Addr) (n c : Nat) (s : Int) (ea eb et : Int) (l : List Edge) (w : World) (_ : -9223372036854775808 ≤ x ∧ x ≤ 9223372036854775807) (hA : Cells w w.heap.size A (edges l)) (hn : l.length = n) (hm : n * 24 ≤ 140737488351232) (_ : ∀ e ∈ l, InEdge e) (_ : -9223372036854775808 ≤ s ∧ s ≤ 9223372036854775807) (_ : InEdge ⟨ea, eb, et⟩) :
    Calls Try.prog 5 #[graphV x A n c, .int .i64 s, .agg #[.int .i64 ea, .int .i64 eb, .int .i64 et]] w fun e w' => e = .returned (.bool true) ∧ Below w.heap.size w w' := by
  have HN := Lib.hid hn
  have HB0 : Hid (Below w.heap.size w ((w.alloc (.cells #[.int .i64 x, .slice A n c] 24)).alloc (.cells #[.int .i64 ea, .int .i64 eb, .int .i64 et] 36))) := ((Below.refl _ _).alloc (Nat.le_refl _) _).alloc (by simp) _
  have HR0 : Hid (Row ((w.alloc (.cells #[.int .i64 x, .slice A n c] 24)).alloc (.cells #[.int .i64 ea, .int .i64 eb, .int .i64 et] 36)) w.heap.size 24 [.int .i64 x, .slice A n c]) := (Row.new w _ #[.int .i64 x, .slice A n c]).alloc _
  have HE0 : Hid (Row ((w.alloc (.cells #[.int .i64 x, .slice A n c] 24)).alloc (.cells #[.int .i64 ea, .int .i64 eb, .int .i64 et] 36)) (w.heap.size + 1) 36 [.int .i64 ea, .int .i64 eb, .int .i64 et]) := by
    have := Row.new (w.alloc (.cells #[.int .i64 x, .slice A n c] 24)) 36 #[.int .i64 ea, .int .i64 eb, .int .i64 et]
    rw [World.size_alloc] at this; exact this
  clear hn
  unfold graphV
  go_enter Try.func5, Try.ntmps5
  go_wp2_with fail
  refine (pathFact _).mono ?_
  rintro e w1 ⟨rfl, hb1⟩
  have HB1 : Hid (Below w.heap.size w w1) := HB0.out.trans (hb1.mono (by simp; omega))
  have HR1 := Lib.hid (HR0.out.step hb1)
  have HE1 := Lib.hid (HE0.out.step hb1)
  clear hb1 HB0 HR0 HE0
  have hq0 := HR1.out.cell 0
  have HE1lt := Lib.hid HE1.out.lt
  go_upto_region 5 with fail
  have HH : Row (w1.alloc (.cells #[.int .i64 x, .slice none 0 0] 24)) w1.heap.size 24 [.int .i64 x, .slice none 0 0] := Row.new _ _ _
  have HRH : Hid (Row (w1.alloc (.cells #[.int .i64 x, .slice none 0 0] 24)) w.heap.size 24 [.int .i64 x, .slice A n c]) := HR1.out.alloc _
  have HEH : Hid (Row (w1.alloc (.cells #[.int .i64 x, .slice none 0 0] 24)) (w.heap.size + 1) 36 [.int .i64 ea, .int .i64 eb, .int .i64 et]) := HE1.out.alloc _
  have HBH : Hid (Below w.heap.size w (w1.alloc (.cells #[.int .i64 x, .slice none 0 0] 24))) := HB1.out.alloc HB1.out.size _
  generalize w1.alloc (.cells #[.int .i64 x, .slice none 0 0] 24) = w2 at HH HRH HEH HBH ⊢
  clear hq0 HR1 HE1
  have hsz1 := HB1.out.size
  have hh0 := HH.cell 0
  have hh1 := HH.cell 1
  have hfh := HH.frozen 1
  have hg1 := HRH.out.cell 1
  have hA2 := hA.below HBH.out (Nat.le_refl _)
  have hlen : (edges l).length = n * 3 := by rw [edges_len, HN.out]
  go_upto_region 6 with (at_builtin; refine wp_cat _ rfl (.tmp 21) (.tmp 23) 22 rfl w.heap.size 36 3 24 _ Try.underlying22 info_edge rfl (by omega) none 0 0 [] rfl (World.ownsRow_nil _ _ _ _) w.heap.size A n c (edges l) rfl hlen hA2 (one_edges _) (by omega) (by omega) HBH.out.size ?_; intro V c1 w3 ho3 hb3 hg3; have hr3 := HH.grown hg3 (by simp [Value.ownBlock]); have hx3 := hr3.cell 1; have hf3 := hr3.frozen 1)
  simp only [Nat.zero_add, List.nil_append] at ho3 ⊢
  have hnone : (some w1.heap.size : Option Nat) ≠ (Value.slice none 0 0).ownBlock := by simp [Value.ownBlock]
  have HH4 : Hid (Row (w3.setCell ⟨w1.heap.size, 1, none⟩ (.slice V n c1)) w1.heap.size 24 [.int .i64 x, .slice V n c1]) := hr3.set_ 1 (.slice V n c1)
  have HR4 : Hid (Row (w3.setCell ⟨w1.heap.size, 1, none⟩ (.slice V n c1)) w.heap.size 24 [.int .i64 x, .slice A n c]) := (HRH.out.grown hg3 (by simp [Value.ownBlock])).far (by have := HE1lt.out; show w.heap.size ≠ w1.heap.size; omega) _
  have HE4 : Hid (Row (w3.setCell ⟨w1.heap.size, 1, none⟩ (.slice V n c1)) (w.heap.size + 1) 36 [.int .i64 ea, .int .i64 eb, .int .i64 et]) := (HEH.out.grown hg3 (by simp [Value.ownBlock])).far (by have := HE1lt.out; show w.heap.size + 1 ≠ w1.heap.size; omega) _
  have HB4 : Hid (Below w.heap.size w (w3.setCell ⟨w1.heap.size, 1, none⟩ (.slice V n c1))) := (HBH.out.trans hb3).setCell (by exact hsz1) _
  have HO4 : Hid ((w3.setCell ⟨w1.heap.size, 1, none⟩ (.slice V n c1)).ownsRow w.heap.size 36 3 (.slice V n c1) n (edges l)) := ownsRow_setCell_other (a := ⟨w1.heap.size, 1, none⟩) ho3 (own_ne_row ho3 hr3 (by decide)) _
  clear ho3 hb3 hg3 hr3 hx3 hf3 hh0 hh1 hfh hg1 hA2 hlen HH HRH HEH HBH hnone
  generalize w3.setCell ⟨w1.heap.size, 1, none⟩ (.slice V n c1) = w4 at HH4 HR4 HE4 HB4 HO4 ⊢
  have hh1 := HH4.out.cell 1
  have he0 := HE4.out.cell 0
  have he1 := HE4.out.cell 1
  have he2 := HE4.out.cell 2
  have hnew := (Row.new w4 36 #[.int .i64 ea, .int .i64 eb, .int .i64 et]).cell
  have hszB := HB4.out.size
  have HHA := Lib.hid (HH4.out.alloc (.cells #[.int .i64 ea, .int .i64 eb, .int .i64 et] 36))
  have hn2 : (n + 1) * 24 ≤ 140737488355328 := by omega
  go_upto_region 7 with (at_builtin; refine wp_push _ rfl (.tmp 27) (.tmp 29) 22 rfl w.heap.size 36 3 24 _ Try.underlying22 info_edge rfl (by omega) V n c1 (edges l) rfl (HO4.out.alloc _) w4.heap.size 1 [.int .i64 ea, .int .i64 eb, .int .i64 et] rfl rfl (fun j u hu => (hnew j).trans hu) (by intro u hu; simp at hu; rcases hu with rfl | rfl | rfl <;> rfl) hn2 (by omega) (by simp; omega) ?_; intro g5 c5 w5 ho5 hb5 hg5 hgr5 hat5; have hr5 := HHA.out.grown hgr5 (fun e => own_ne_row HO4.out HH4.out (by decide) e.symm); have hx5 := hr5.cell 1; have hf5 := hr5.frozen 1)
  have HH6 : Hid (Row (w5.setCell ⟨w1.heap.size, 1, none⟩ (.slice (some ⟨g5, 0, none⟩) (n + 1) c5)) w1.heap.size 24 [.int .i64 x, .slice (some ⟨g5, 0, none⟩) (n + 1) c5]) := hr5.set_ 1 _
  have HR6 : Hid (Row (w5.setCell ⟨w1.heap.size, 1, none⟩ (.slice (some ⟨g5, 0, none⟩) (n + 1) c5)) w.heap.size 24 [.int .i64 x, .slice A n c]) := ((HR4.out.alloc _).grown hgr5 (fun e => own_ne_row HO4.out HR4.out (by decide) e.symm)).far (by have := HE1lt.out; show w.heap.size ≠ w1.heap.size; omega) _
  have HB6 : Hid (Below w.heap.size w (w5.setCell ⟨w1.heap.size, 1, none⟩ (.slice (some ⟨g5, 0, none⟩) (n + 1) c5))) := ((HB4.out.alloc hszB _).trans hb5).setCell (by exact hsz1) _
  have HO6 : Hid ((w5.setCell ⟨w1.heap.size, 1, none⟩ (.slice (some ⟨g5, 0, none⟩) (n + 1) c5)).ownsRow w.heap.size 36 3 (.slice (some ⟨g5, 0, none⟩) (n + 1) c5) (n + 1) (edges (l ++ [⟨ea, eb, et⟩]))) := by
    have := ownsRow_setCell_other (a := ⟨w1.heap.size, 1, none⟩) ho5 (own_ne_row ho5 hr5 (by decide)) (.slice (some ⟨g5, 0, none⟩) (n + 1) c5)
    show World.ownsRow _ _ _ _ _ _ _
    rw [edges_snoc]; exact this
  clear ho5 hb5 hg5 hgr5 hat5 hr5 hx5 hf5 hh1 he0 he1 he2 hnew HHA HH4 HR4 HE4 HB4 HO4 hszB hn2
  generalize w5.setCell ⟨w1.heap.size, 1, none⟩ (.slice (some ⟨g5, 0, none⟩) (n + 1) c5) = w6 at HH6 HR6 HB6 HO6 ⊢
  have hg0 := HR6.out.cell 0
  have hg1 := HR6.out.cell 1
  have hsz6 := HB6.out.size
  have hA6 := (hA.below HB6.out (Nat.le_refl _)).more hsz6
  have hn8 : n ≤ 9223372036854775807 := by omega
  have hn9 : n + 1 ≤ 9223372036854775807 := by omega
  have HL1 : Hid ((l ++ [(⟨ea, eb, et⟩ : Edge)]).length = n + 1) := by show _ = _; rw [List.length_append, HN.out]; rfl
  have hmore : pathErr x (l ++ [⟨ea, eb, et⟩]) [s] = 0 → pathErr x l [s] = 0 := fun h => by
    obtain ⟨h1, h2⟩ := pathErr_ok h
    obtain ⟨h3, h4, h5⟩ := graphErr_ok h1
    rw [List.length_append] at h4
    exact pathErr_of (graphErr_of h3 (by simp at h4; omega) (fun p hp => h5 p (List.mem_append.2 (Or.inl hp)))) h2
  have HMORE := Lib.hid hmore
  clear hmore hA
  by_cases hp : pathErr x (l ++ [⟨ea, eb, et⟩]) [s] = 0
  · have hp1 := HMORE.out hp
    obtain ⟨hg2, hsx⟩ := pathErr_ok hp
    obtain ⟨hgl, _⟩ := pathErr_ok hp1
    have hs := hsx s (by simp)
    obtain ⟨⟨hx0, hx1⟩, _, _⟩ := graphErr_ok hgl
    obtain ⟨N, rfl⟩ : ∃ N : Nat, x = N := ⟨x.toNat, by omega⟩
    obtain ⟨s, rfl⟩ : ∃ k : Nat, s = k := ⟨s.toNat, by omega⟩
    have hsN : s < N := by omega
    have hN : N ≤ 16 := by omega
    have c2 := far_ok N A n c l s w6 hA6 HN.out hn8 hgl hsN
    unfold graphV at c2
    have C2 := Lib.hid c2
    have HG2 := Lib.hid hg2
    clear c2 hp hp1 hg2 hgl hsx hs hx0 hx1 hA6 HMORE
    go_wp2_with fail
    refine C2.out.mono ?_
    rintro e w7 ⟨g7, c7, o7, rfl, hol7, hown7, hsh7, hww7, hb7⟩
    have HB7 : Hid (Below w.heap.size w w7) := HB6.out.trans (hb7.mono hsz6)
    have HR7 := Lib.hid (HR6.out.step hb7)
    have HH7 := Lib.hid (HH6.out.step hb7)
    have HF7 := Lib.hid (far_cells hown7 hol7)
    have HG7 := Lib.hid (hown7.lt g7 rfl)
    have HL7 := Lib.hid hol7
    have HS7 := Lib.hid hsh7
    have hk0 := HH7.out.cell 0
    have hk1 := HH7.out.cell 1
    have hsz7 := HB7.out.size
    have hA7 : Cells w7 w7.heap.size (some ⟨g5, 0, none⟩) (edges (l ++ [⟨ea, eb, et⟩])) := (HO6.out.own (by omega)).step hb7
    have c3 := far_ok N (some ⟨g5, 0, none⟩) (n + 1) c5 (l ++ [⟨ea, eb, et⟩]) s w7 hA7 HL1.out hn9 HG2.out hsN
    unfold graphV at c3
    have C3 := Lib.hid c3
    clear c3 hol7 hown7 hsh7 hb7 C2 hA7 HR6 HB6 HH6 HO6 hg0 hg1
    go_wp2_with fail
    refine C3.out.mono ?_
    rintro e w8 ⟨g8, c8, o8, rfl, hol8, hown8, hsh8, hww8, hb8⟩
    have HB8 : Hid (Below w.heap.size w w8) := HB7.out.trans (hb8.mono hsz7)
    have HR8 := Lib.hid (HR7.out.step hb8)
    have HF8 := Lib.hid (far_cells hown8 hol8)
    have HF78 : Hid (∀ i, i < N → w8.cell? ⟨g7, i, none⟩ = some (.int .i64 o7[i]!.weight)) := fun i hi => (hb8.cell (p := ⟨g7, i, none⟩) HG7.out.2).trans (HF7.out i hi)
    have HL8 := Lib.hid hol8
    have HMO : Hid (∀ i, i < N → 0 ≤ o7[i]!.weight → 0 ≤ o8[i]!.weight ∧ o8[i]!.weight ≤ o7[i]!.weight) := fun i hi h0 => short_more (by
      intro a ha
      unfold arcs at ha ⊢
      rw [List.map_append]
      exact List.mem_append.2 (Or.inl ha)) HS7.out hsh8 (by rw [HL7.out]; exact hi) h0
    have hq0 := HR8.out.cell 0
    have hbz : ((N : Int) != N) = false := by simp
    clear hol8 hown8 hsh8 hb8 C3 HR7 HB7 HH7 hk0 hk1 HF7 HG2
    go_wp2
    go_loopw [13] (fun i wr => ∃ (k q : Nat), i = .int .i64 (k : Int) ∧ k ≤ N ∧ wr = w8.drewN q) (fun i _ => N - (intOf i).toNat)
    case atStart => exact ⟨0, 0, rfl, by omega, rfl⟩
    case round =>
      obtain ⟨k, q, rfl, hk, rfl⟩ := hrel
      by_cases hlt : k < N
      · have hlz : (k : Int) < N := by omega
        have hc7 := HF78.out k hlt
        have hc8 := HF8.out k hlt
        obtain ⟨f7, hf7⟩ : ∃ z, z = o7[k]!.weight := ⟨_, rfl⟩
        obtain ⟨f8, hf8⟩ : ∃ z, z = o8[k]!.weight := ⟨_, rfl⟩
        rw [← hf7] at hc7
        rw [← hf8] at hc8
        by_cases h0 : 0 ≤ f7
        · have hmo := HMO.out k hlt (by rw [← hf7]; exact h0)
          rw [← hf7, ← hf8] at hmo
          obtain ⟨h1, h2⟩ := hmo
          have h1' : ¬ f8 < 0 := by omega
          have h2' : ¬ f7 < f8 := by omega
          have d0 : decide (0 ≤ f7) = true := decide_eq_true h0
          have d1 : decide (f8 < 0) = false := decide_eq_false h1'
          have d2 : decide (f7 < f8) = false := decide_eq_false h2'
          clear hf7 hf8
          go_wp2
          go_quiet (fail)
          go_wp2
          go_roundw
          case rel => exact ⟨k + 1, _, by go_num, by omega, rfl⟩
          case measure => simp [intOf]; omega
        · have d0 : decide (0 ≤ f7) = false := decide_eq_false h0
          clear hf7 hf8
          go_wp2
          go_quiet (fail)
          go_wp2
          go_roundw
          case rel => exact ⟨k + 1, _, by go_num, by omega, rfl⟩
          case measure => simp [intOf]; omega
      · have hlz : ¬ (k : Int) < N := by omega
        go_wp2
        go_ret
        exact ⟨rfl, below_drewN HB8.out q⟩
  · have HP := Lib.hid hp
    clear hp
    by_cases hp1 : pathErr x l [s] = 0
    · obtain ⟨hgl, hsx⟩ := pathErr_ok hp1
      have hs := hsx s (by simp)
      obtain ⟨⟨hx0, hx1⟩, _, _⟩ := graphErr_ok hgl
      obtain ⟨N, rfl⟩ : ∃ N : Nat, x = N := ⟨x.toNat, by omega⟩
      obtain ⟨s, rfl⟩ : ∃ k : Nat, s = k := ⟨s.toNat, by omega⟩
      have hsN : s < N := by omega
      have c2 := far_ok N A n c l s w6 hA6 HN.out hn8 hgl hsN
      unfold graphV at c2
      have C2 := Lib.hid c2
      clear c2 hp1 hgl hsx hs hx0 hx1 hA6 HMORE
      go_wp2_with fail
      refine C2.out.mono ?_
      rintro e w7 ⟨g7, c7, o7, rfl, hol7, hown7, hsh7, hww7, hb7⟩
      have HB7 : Hid (Below w.heap.size w w7) := HB6.out.trans (hb7.mono hsz6)
      have HH7 := Lib.hid (HH6.out.step hb7)
      have hk0 := HH7.out.cell 0
      have hk1 := HH7.out.cell 1
      have hsz7 := HB7.out.size
      have hA7 : Cells w7 w7.heap.size (some ⟨g5, 0, none⟩) (edges (l ++ [⟨ea, eb, et⟩])) := (HO6.out.own (by omega)).step hb7
      have c3 := far_bad N (some ⟨g5, 0, none⟩) (n + 1) c5 (l ++ [⟨ea, eb, et⟩]) s w7 hA7 HL1.out hn9 HP.out
      unfold graphV at c3
      have C3 := Lib.hid c3
      clear c3 hol7 hown7 hsh7 hb7 C2 hA7 HR6 HB6 HH6 HO6 hg0 hg1
      go_wp2_with fail
      refine C3.out.mono ?_
      rintro e w8 ⟨rfl, hb8⟩
      have HB8 : Hid (Below w.heap.size w w8) := HB7.out.trans (hb8.mono hsz7)
      clear hb8 C3 HB7 HH7 hk0 hk1
      go_wp2
      go_ret
      exact ⟨rfl, HB8.out⟩
    · have HP1 := Lib.hid hp1
      have c2 := far_bad x A n c l s w6 hA6 HN.out hn8 HP1.out
      unfold graphV at c2
      have C2 := Lib.hid c2
      clear c2 hp1 hA6 HMORE
      go_wp2_with fail
      refine C2.out.mono ?_
      rintro e w7 ⟨rfl, hb7⟩
      have HB7 : Hid (Below w.heap.size w w7) := HB6.out.trans (hb7.mono hsz6)
      have HH7 := Lib.hid (HH6.out.step hb7)
      have hk0 := HH7.out.cell 0
      have hk1 := HH7.out.cell 1
      have hsz7 := HB7.out.size
      have hA7 : Cells w7 w7.heap.size (some ⟨g5, 0, none⟩) (edges (l ++ [⟨ea, eb, et⟩])) := (HO6.out.own (by omega)).step hb7
      have c3 := far_bad x (some ⟨g5, 0, none⟩) (n + 1) c5 (l ++ [⟨ea, eb, et⟩]) s w7 hA7 HL1.out hn9 HP.out
      unfold graphV at c3
      have C3 := Lib.hid c3
      clear c3 hb7 C2 hA7 HR6 HB6 HH6 HO6 hg0 hg1
      go_wp2_with fail
      refine C3.out.mono ?_
      rintro e w8 ⟨rfl, hb8⟩
      have HB8 : Hid (Below w.heap.size w w8) := HB7.out.trans (hb8.mono hsz7)
      clear hb8 C3 HB7 HH7 hk0 hk1
      go_wp2
      go_ret
      exact ⟨rfl, HB8.out⟩
end Go.Proofs.Ytkhhmbpniobccaa
