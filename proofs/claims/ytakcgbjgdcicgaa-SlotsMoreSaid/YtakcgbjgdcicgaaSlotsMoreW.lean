/- The walk of SlotsMore. Conditions: lengths are such that slices can have. -/
import Derived.Test.YtakcgbjgdcicgaaSlotsFact
import Derived.Test.YtakcgbjgdcicgaaSlotsDeep
import Derived.Deep.DeepCutAuto
namespace Go.Proofs.Ytakcgbjgdcicgaa
open Go.RowKit
theorem info_span : (Try.prog.info? 31).map (fun i => (i.zero, i.size, i.bytes)) = some (some (.agg #[.int .i64 0, .int .i64 0]), 2, 16) := by kernel_rfl
theorem pairs_snoc (l : List Sp) (a b : Int) : pairs (l ++ [(a, b)]) = pairs l ++ [.int .i64 a, .int .i64 b] := by rw [pairs_append]; rfl
theorem spAt_left (l : List Sp) (x : Sp) {i : Int} (h0 : 0 ≤ i) (h : i < l.length) : spAt (l ++ [x]) i = spAt l i := by
  unfold spAt
  simp only [List.getD]
  rw [List.getElem?_append_left (by omega)]
/-- what is picked of one more: as many, or one more -/
theorem more_len {l : List Sp} {x : Sp} {xs ys : List Int} (h : Picked l xs) (h2 : Picked (l ++ [x]) ys) : xs.length ≤ ys.length ∧ ys.length ≤ xs.length + 1 := by
  constructor
  · refine h2.most ⟨fun i hi => ?_, ?_⟩
    · have := h.apart.1 i hi
      rw [List.length_append]; simp; omega
    · refine List.Pairwise.imp_of_mem (fun {a b} ha hb hab => ?_) h.apart.2
      have h1 := h.apart.1 a ha
      have h3 := h.apart.1 b hb
      rw [spAt_left l x h1.1 h1.2, spAt_left l x h3.1 h3.2]; exact hab
  · have hn : ys.Nodup := List.nodup_iff_pairwise_ne.2 (h2.apart.2.imp fun h => h.1)
    have h3 := h.most (o := ys.erase (l.length : Int)) ⟨fun i hi => ?_, ?_⟩
    · rw [List.length_erase] at h3
      split at h3 <;> omega
    · have hi' := (List.Nodup.mem_erase_iff hn).1 hi
      have := h2.apart.1 i hi'.2
      rw [List.length_append] at this; simp at this; omega
    · refine List.Pairwise.imp_of_mem (fun {a b} ha hb hab => ?_) (h2.apart.2.sublist List.erase_sublist)
      have ha' := (List.Nodup.mem_erase_iff hn).1 ha
      have hb' := (List.Nodup.mem_erase_iff hn).1 hb
      have h1 := h2.apart.1 a ha'.2
      have h4 := h2.apart.1 b hb'.2
      rw [List.length_append] at h1 h4
      simp at h1 h4
      rw [spAt_left l x h1.1 (by omega), spAt_left l x h4.1 (by omega)] at hab; exact hab
theorem spansErr_less {l : List Sp} {x : Sp} (h : spansErr (l ++ [x]) = 0) : spansErr l = 0 := by
  obtain ⟨h1, h2⟩ := spansErr_ok h
  rw [List.length_append] at h1
  exact spansErr_of (by simp at h1; omega) (fun p hp => h2 p (List.mem_append.2 (Or.inl hp)))
set_option maxHeartbeats 4000000 in
set_option maxRecDepth 100000 in
theorem slotsMoreW (A : Option Addr) (n c : Nat) (sa sb : Int) (l : List Sp) (w : World) (hA : Cells w w.heap.size A (pairs l)) (hn : l.length = n) (hm : n * 16 ≤ 140737488351232)
    (_ : ∀ x ∈ l, (-9223372036854775808 ≤ x.1 ∧ x.1 ≤ 9223372036854775807) ∧ (-9223372036854775808 ≤ x.2 ∧ x.2 ≤ 9223372036854775807)) (_ : (-9223372036854775808 ≤ sa ∧ sa ≤ 9223372036854775807) ∧ (-9223372036854775808 ≤ sb ∧ sb ≤ 9223372036854775807)) :
    Calls Try.prog 6 #[.slice A n c, .agg #[.int .i64 sa, .int .i64 sb]] w fun e w' => e = .returned (.bool true) ∧ Below w.heap.size w w' := by
  have HN := Lib.hid hn
  have HB0 : Hid (Below w.heap.size w (w.alloc (.cells #[.int .i64 sa, .int .i64 sb] 31))) := (Below.refl _ _).alloc (Nat.le_refl _) _
  have HE0 : Hid (Row (w.alloc (.cells #[.int .i64 sa, .int .i64 sb] 31)) w.heap.size 31 [.int .i64 sa, .int .i64 sb]) := Row.new w _ #[.int .i64 sa, .int .i64 sb]
  clear hn
  go_enter Try.func6, Try.ntmps6
  go_wp2_with fail
  refine (slotsFact _).mono ?_
  rintro e w1 ⟨rfl, hb1⟩
  have HB1 : Hid (Below w.heap.size w w1) := HB0.out.trans (hb1.mono (by simp))
  have HE1 := Lib.hid (HE0.out.step hb1)
  have hsz1 := HB1.out.size
  have hA2 := hA.below HB1.out (Nat.le_refl _)
  have hlen : (pairs l).length = n * 2 := by rw [pairs_len, HN.out]
  clear hb1 HB0 HE0
  go_upto_region 6 with (at_builtin; refine wp_cat _ rfl (.tmp 18) (.tmp 19) 22 rfl w.heap.size 31 2 16 _ Try.underlying22 info_span rfl (by omega) none 0 0 [] rfl (World.ownsRow_nil _ _ _ _) w.heap.size A n c (pairs l) rfl hlen hA2 (one_pairs _) (by omega) (by omega) HB1.out.size ?_; intro V c1 w3 ho3 hb3 hg3)
  simp only [Nat.zero_add, List.nil_append] at ho3 ⊢
  have HE3 : Hid (Row w3 w.heap.size 31 [.int .i64 sa, .int .i64 sb]) := HE1.out.grown hg3 (by simp [Value.ownBlock])
  have HB3 : Hid (Below w.heap.size w w3) := HB1.out.trans hb3
  have HO3 : Hid (w3.ownsRow w.heap.size 31 2 (.slice V n c1) n (pairs l)) := ho3
  clear ho3 hb3 hg3 HE1 HB1 hA2 hlen hsz1
  have he0 := HE3.out.cell 0
  have he1 := HE3.out.cell 1
  have hnew := (Row.new w3 31 #[.int .i64 sa, .int .i64 sb]).cell
  have hsz3 := HB3.out.size
  have hn2 : (n + 1) * 16 ≤ 140737488355328 := by omega
  go_upto_region 7 with (at_builtin; refine wp_push _ rfl (.tmp 21) (.tmp 23) 22 rfl w.heap.size 31 2 16 _ Try.underlying22 info_span rfl (by omega) V n c1 (pairs l) rfl (HO3.out.alloc _) w3.heap.size 1 [.int .i64 sa, .int .i64 sb] rfl rfl (fun j u hu => (hnew j).trans hu) (by intro u hu; simp at hu; rcases hu with rfl | rfl <;> rfl) hn2 (by omega) (by simp; omega) ?_; intro g5 c5 w5 ho5 hb5 hg5 hgr5 hat5)
  have HB5 : Hid (Below w.heap.size w w5) := (HB3.out.alloc hsz3 _).trans hb5
  have HO5 : Hid (w5.ownsRow w.heap.size 31 2 (.slice (some ⟨g5, 0, none⟩) (n + 1) c5) (n + 1) (pairs (l ++ [(sa, sb)]))) := by
    show World.ownsRow _ _ _ _ _ _ _
    rw [pairs_snoc]; exact ho5
  have HL1 : Hid ((l ++ [(sa, sb)]).length = n + 1) := by show _ = _; rw [List.length_append, HN.out]; rfl
  have hA5 := (hA.below HB5.out (Nat.le_refl _)).more HB5.out.size
  have hW5 : Cells w5 w5.heap.size (some ⟨g5, 0, none⟩) (pairs (l ++ [(sa, sb)])) := HO5.out.own (by omega)
  clear ho5 hb5 hg5 hgr5 hat5 he0 he1 hnew hsz3 HE3 HB3 HO3 hA hn2 HO5
  have hm8 : n ≤ 9223372036854775807 := by omega
  have hm9 : n + 1 ≤ 9223372036854775807 := by omega
  by_cases he2 : spansErr (l ++ [(sa, sb)]) = 0
  · have he1 := spansErr_less he2
    have hn24 : n + 1 ≤ 24 := by have := (spansErr_ok he2).1; have := HL1.out; omega
    have HDL : Hid (deepV l ≤ deepV (l ++ [(sa, sb)]) ∧ deepV (l ++ [(sa, sb)]) ≤ deepV l + 1 ∧ 0 ≤ deepV l ∧ deepV l ≤ 24) := by
      have h1 := deepUp_more l (sa, sb) 1001
      have h2 := deepUp_le l 1001
      have h3 := HN.out
      refine ⟨h1.1, h1.2, h2.1, ?_⟩
      show deepUp l 1001 ≤ 24
      omega
    have HE1 := Lib.hid he1
    have HE2 := Lib.hid he2
    have C1 := Lib.hid (slotsPick_ok A n c l w5 hA5 HN.out he1)
    clear he1 he2
    go_wp2_with fail
    refine C1.out.mono ?_
    rintro e w6 ⟨V6, c6, xs, rfl, hp6, hpw6, ho6, hb6⟩
    clear hpw6 ho6 C1
    have HP6 := Lib.hid hp6
    have HB6 : Hid (Below w.heap.size w w6) := HB5.out.trans (hb6.mono HB5.out.size)
    have hA6 := hA5.step hb6
    have hW6 := hW5.step hb6
    have C2 := Lib.hid (slotsPick_ok (some ⟨g5, 0, none⟩) (n + 1) c5 (l ++ [(sa, sb)]) w6 hW6 HL1.out HE2.out)
    clear hb6 hA5 hW5 HB5 hp6
    go_wp2_with fail
    refine C2.out.mono ?_
    rintro e w7 ⟨V7, c7, ys, rfl, hp7, hpw7, ho7, hb7⟩
    have HML := Lib.hid (more_len HP6.out hp7)
    clear hpw7 ho7 C2 hp7
    have HB7 : Hid (Below w.heap.size w w7) := HB6.out.trans (hb7.mono HB6.out.size)
    have hA7 := hA6.step hb7
    have hW7 := hW6.step hb7
    have C3 := Lib.hid (slotsDeep_ok A n c l w7 hA7 HN.out HE1.out)
    clear hb7 hA6 hW6 HB6
    go_wp2_with fail
    refine C3.out.mono ?_
    rintro e w8 ⟨rfl, hb8⟩
    have HB8 : Hid (Below w.heap.size w w8) := HB7.out.trans (hb8.mono HB7.out.size)
    have hW8 := hW7.step hb8
    have C4 := Lib.hid (slotsDeep_ok (some ⟨g5, 0, none⟩) (n + 1) c5 (l ++ [(sa, sb)]) w8 hW8 HL1.out HE2.out)
    clear hb8 hA7 hW7 HB7 C3
    go_wp2_with fail
    refine C4.out.mono ?_
    rintro e w9 ⟨rfl, hb9⟩
    have HB9 : Hid (Below w.heap.size w w9) := HB8.out.trans (hb9.mono HB8.out.size)
    have hxl : xs.length ≤ 24 := by
      have h1 := len_le_of_sub xs (upto l.length) (List.nodup_iff_pairwise_ne.2 (HP6.out.apart.2.imp fun h => h.1)) (fun x hx => (mem_upto _ _).2 (HP6.out.apart.1 x hx))
      rw [upto_len] at h1
      have := HN.out
      omega
    clear hb9 C4 hW8 HB8
    obtain ⟨d1, d2, d3, d4⟩ := HDL.out
    obtain ⟨l1, l2⟩ := HML.out
    generalize deepV l = D1 at d1 d2 d3 d4 ⊢
    generalize deepV (l ++ [(sa, sb)]) = D2 at d1 d2 ⊢
    generalize xs.length = X1 at l1 l2 hxl ⊢
    generalize ys.length = X2 at l1 l2 ⊢
    have q1 : ¬ (X2 : Int) < X1 := by omega
    have q2 : (X2 : Int) ≤ X1 + 1 := by omega
    have q3 : (X1 : Int) ≤ X2 := by omega
    clear HDL HML
    go_wp2
    go_ret
    exact ⟨rfl, HB9.out⟩
  · have C2 := fun W h => Lib.hid (slotsPick_bad (some ⟨g5, 0, none⟩) (n + 1) c5 (l ++ [(sa, sb)]) W h HL1.out hm9 he2)
    have C4 := fun W h => Lib.hid (slotsDeep_bad (some ⟨g5, 0, none⟩) (n + 1) c5 (l ++ [(sa, sb)]) W h HL1.out hm9 he2)
    clear he2
    by_cases he1 : spansErr l = 0
    · have HE1 := Lib.hid he1
      have C1 := Lib.hid (slotsPick_ok A n c l w5 hA5 HN.out he1)
      clear he1
      go_wp2_with fail
      refine C1.out.mono ?_
      rintro e w6 ⟨V6, c6, xs, rfl, hp6, hpw6, ho6, hb6⟩
      clear hpw6 ho6 C1 hp6
      have HB6 : Hid (Below w.heap.size w w6) := HB5.out.trans (hb6.mono HB5.out.size)
      have hA6 := hA5.step hb6
      have hW6 := hW5.step hb6
      clear hb6 hA5 hW5 HB5
      go_wp2_with fail
      refine (C2 _ hW6).out.mono ?_
      rintro e w7 ⟨rfl, hb7⟩
      have HB7 : Hid (Below w.heap.size w w7) := HB6.out.trans (hb7.mono HB6.out.size)
      have hA7 := hA6.step hb7
      have hW7 := hW6.step hb7
      have C3 := Lib.hid (slotsDeep_ok A n c l w7 hA7 HN.out HE1.out)
      clear hb7 hA6 hW6 HB6
      go_wp2_with fail
      refine C3.out.mono ?_
      rintro e w8 ⟨rfl, hb8⟩
      have HB8 : Hid (Below w.heap.size w w8) := HB7.out.trans (hb8.mono HB7.out.size)
      have hW8 := hW7.step hb8
      clear hb8 hA7 hW7 HB7 C3
      go_wp2_with fail
      refine (C4 _ hW8).out.mono ?_
      rintro e w9 ⟨rfl, hb9⟩
      have HB9 : Hid (Below w.heap.size w w9) := HB8.out.trans (hb9.mono HB8.out.size)
      clear hb9 hW8 HB8 C2 C4
      go_wp2
      go_ret
      exact ⟨rfl, HB9.out⟩
    · have C1 := Lib.hid (slotsPick_bad A n c l w5 hA5 HN.out hm8 he1)
      have C3 := fun W h => Lib.hid (slotsDeep_bad A n c l W h HN.out hm8 he1)
      clear he1
      go_wp2_with fail
      refine C1.out.mono ?_
      rintro e w6 ⟨rfl, hb6⟩
      clear C1
      have HB6 : Hid (Below w.heap.size w w6) := HB5.out.trans (hb6.mono HB5.out.size)
      have hA6 := hA5.step hb6
      have hW6 := hW5.step hb6
      clear hb6 hA5 hW5 HB5
      go_wp2_with fail
      refine (C2 _ hW6).out.mono ?_
      rintro e w7 ⟨rfl, hb7⟩
      have HB7 : Hid (Below w.heap.size w w7) := HB6.out.trans (hb7.mono HB6.out.size)
      have hA7 := hA6.step hb7
      have hW7 := hW6.step hb7
      clear hb7 hA6 hW6 HB6
      go_wp2_with fail
      refine (C3 _ hA7).out.mono ?_
      rintro e w8 ⟨rfl, hb8⟩
      have HB8 : Hid (Below w.heap.size w w8) := HB7.out.trans (hb8.mono HB7.out.size)
      have hW8 := hW7.step hb8
      clear hb8 hA7 hW7 HB7
      go_wp2_with fail
      refine (C4 _ hW8).out.mono ?_
      rintro e w9 ⟨rfl, hb9⟩
      have HB9 : Hid (Below w.heap.size w w9) := HB8.out.trans (hb9.mono HB8.out.size)
      clear hb9 hW8 HB8 C2 C3 C4
      go_wp2
      go_ret
      exact ⟨rfl, HB9.out⟩
end Go.Proofs.Ytakcgbjgdcicgaa
