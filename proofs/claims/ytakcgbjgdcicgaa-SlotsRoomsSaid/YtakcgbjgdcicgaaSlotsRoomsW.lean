/- The walk of SlotsRooms. Conditions: lengths are such that slices can have. -/
import Derived.Test.YtakcgbjgdcicgaaSlotsApart
import Derived.Test.YtakcgbjgdcicgaaSlotsRoomsA
namespace Go.Proofs.Ytakcgbjgdcicgaa
open Go.RowKit Go.Sort
def mostUp (o : List Int) : Nat → Int
  | 0 => 0
  | k + 1 => if mostUp o k < o[k]! + 1 then o[k]! + 1 else mostUp o k
theorem mostUp_le (o : List Int) (R : Int) (hR : 0 ≤ R) : ∀ k, (∀ i, i < k → o[i]! < R) → mostUp o k ≤ R := by
  intro k
  induction k with
  | zero => intro _; exact hR
  | succ k ih =>
    intro h
    have h1 := ih fun i hi => h i (by omega)
    have h2 := h k (by omega)
    simp only [mostUp]; split <;> omega
theorem mostUp_ge (o : List Int) : ∀ k i, i < k → o[i]! + 1 ≤ mostUp o k := by
  intro k
  induction k with
  | zero => intro i h; omega
  | succ k ih =>
    intro i h
    simp only [mostUp]
    by_cases e : i = k
    · subst e; split <;> omega
    · have := ih i (by omega); split <;> omega
theorem news_set (o : List Int) : ∀ k, k ≤ o.length → ∃ s : List Int, s.Nodup ∧ (∀ x ∈ s, x ∈ o.take k) ∧ (s.length : Int) = news o k := by
  intro k
  induction k with
  | zero => intro _; exact ⟨[], List.nodup_nil, by simp, rfl⟩
  | succ k ih =>
    intro hk
    obtain ⟨s, h1, h2, h3⟩ := ih (by omega)
    have ht : o.take (k + 1) = o.take k ++ [o[k]!] := take_at (oget o (by omega))
    rw [ht]
    simp only [news]
    generalize hy : o[k]! = y
    cases hN : isNew o k with
    | false => exact ⟨s, h1, fun x hx => List.mem_append.2 (Or.inl (h2 x hx)), by simpa using h3⟩
    | true =>
      have hc : y ∉ o.take k := by
        unfold isNew at hN; rw [hy] at hN; simpa using hN
      exact ⟨y :: s, List.nodup_cons.2 ⟨fun hm => hc (h2 y hm), h1⟩, fun x hx => by
        rcases List.mem_cons.1 hx with rfl | hx
        · simp
        · exact List.mem_append.2 (Or.inl (h2 x hx)), by rw [if_pos rfl, ← h3]; simp⟩
theorem cnt_out (l : List Sp) (t : Int) (h : ∀ x ∈ l, 0 ≤ x.1 ∧ x.2 ≤ 1000) (ht : t < 0 ∨ 1000 ≤ t) : cnt l t = 0 := by
  induction l with
  | nil => simp [cnt]
  | cons x l ih =>
    have h0 := h x (by simp)
    rw [cnt_cons, ih fun y hy => h y (by simp [hy]), if_neg (by omega)]; rfl
theorem cnt_deep (l : List Sp) (t : Int) (h : ∀ x ∈ l, 0 ≤ x.1 ∧ x.2 ≤ 1000) : cnt l t ≤ deepV l := by
  by_cases ht : t < 0 ∨ 1000 ≤ t
  · rw [cnt_out l t h ht]; exact (deepUp_le l 1001).1
  · have := deep_of_cnt l t.toNat (by omega)
    rwa [show ((t.toNat : Nat) : Int) = t by omega] at this
structure RoomsAll (l : List Sp) (o : List Int) : Prop where
  len : o.length = l.length
  inr : ∀ i : Nat, i < l.length → 0 ≤ o[i]! ∧ o[i]! < deepV l
  apart : ∀ i j : Nat, i < l.length → j < l.length → i ≠ j → o[i]! = o[j]! → ¬ meetP (spAt l i) (spAt l j)
  most : mostUp o l.length = deepV l
theorem rooms_all {l : List Sp} {ys o fr : List Int} (hi : IsOrd l.length ys) (h : RoomsTo l ys o fr) : RoomsAll l o := by
  have full : ∀ i : Nat, i < l.length → (i : Int) ∈ ys := fun i hl => hi.full i (by omega) (by omega)
  have rng : ∀ i : Nat, i < l.length → 0 ≤ o[i]! ∧ o[i]! < fr.length := fun i hl => by
    obtain ⟨_, r, h1, h2, _⟩ := h.inr i (full i hl)
    omega
  have ap : ∀ i j : Nat, i < l.length → j < l.length → i ≠ j → o[i]! = o[j]! → ¬ meetP (spAt l i) (spAt l j) := fun i j hil hjl hne he => h.apart i j (full i hil) (full j hjl) hne he
  have h1 : deepV l ≤ news o l.length := other_le h.len fun i j hji hil he => ap i j hil (by omega) (by omega) he
  have h2 : news o l.length ≤ fr.length := by
    obtain ⟨s, hs, hm, hl⟩ := news_set o l.length (by rw [h.len]; exact Nat.le_refl _)
    have h3 := len_le_of_sub s (upto fr.length) hs (fun x hx => by
      obtain ⟨i, hi', he⟩ := List.mem_take_iff_getElem.1 (hm x hx)
      have hil : i < l.length := by omega
      have := rng i hil
      rw [oget' o (by rw [h.len]; exact hil), he] at this
      exact (mem_upto _ _).2 this)
    rw [upto_len] at h3
    omega
  have h4 := h.deep
  have hd : deepV l = fr.length := by omega
  refine ⟨h.len, fun i hl => by rw [hd]; exact rng i hl, ap, ?_⟩
  rw [hd]
  have h5 := mostUp_le o fr.length (by omega) l.length fun i hl => (rng i hl).2
  by_cases hz : fr.length = 0
  · have h6 : 0 ≤ mostUp o l.length := by
      by_cases hl0 : l.length = 0
      · rw [hl0]; exact Int.le_refl _
      · have := mostUp_ge o l.length 0 (by omega)
        have := (rng 0 (by omega)).1
        omega
    omega
  · obtain ⟨p, hp, h6, _⟩ := h.last (fr.length - 1) (by omega)
    have := mostUp_ge o l.length p (h.inr p hp).1
    omega
set_option maxHeartbeats 8000000 in
set_option maxRecDepth 100000 in
theorem slotsRoomsW (A : Option Addr) (n c : Nat) (t : Int) (l : List Sp) (w : World) (hA : Cells w w.heap.size A (pairs l)) (hn : l.length = n) (hm : n * 16 ≤ 140737488351232)
    (_ : ∀ x ∈ l, (-9223372036854775808 ≤ x.1 ∧ x.1 ≤ 9223372036854775807) ∧ (-9223372036854775808 ≤ x.2 ∧ x.2 ≤ 9223372036854775807)) (_ : -9223372036854775808 ≤ t ∧ t ≤ 9223372036854775807) :
    Calls Try.prog 7 #[.slice A n c, .int .i64 t] w fun e w' => e = .returned (.bool true) ∧ Below w.heap.size w w' := by
  have mixed : Try.prog.follows .mixedOrders = true := by kernel_rfl
  have HN := Lib.hid hn
  have c0 := Lib.hid (slotsFact w)
  clear hn
  go_enter Try.func7, Try.ntmps7
  go_wp2_with fail
  refine c0.out.mono ?_
  rintro e w1 ⟨rfl, hb1⟩
  have HB1 := Lib.hid hb1
  have hA1 := hA.step hb1
  clear c0 hb1 hA
  by_cases he : spansErr l = 0
  · have HE := Lib.hid he
    have c1 := Lib.hid (slotsRooms_ok A n c l w1 hA1 HN.out he)
    obtain ⟨hl24, hsp⟩ := spansErr_ok he
    have HNOW : Hid (cnt l t ≤ deepV l) := cnt_deep l t fun x hx => ⟨(hsp x hx).1.1, (hsp x hx).2⟩
    have HD : Hid (0 ≤ deepV l ∧ deepV l ≤ 24) := by have := deepUp_le l 1001; have := HN.out; show 0 ≤ deepV l ∧ deepV l ≤ 24; unfold deepV; omega
    have hn24 : n ≤ 24 := by have := HN.out; omega
    clear he hl24 hsp
    go_wp2_with fail
    refine c1.out.mono ?_
    rintro e w2 ⟨g, ys, o, fr, rfl, hio, hr, hrow, hg, hb2⟩
    have HRA : Hid (RoomsAll l o) := rooms_all (by rw [HN.out]; exact hio) hr
    have HB2 : Hid (Below w.heap.size w w2) := HB1.out.trans (hb2.mono HB1.out.size)
    have hA2 := hA1.step hb2
    have c2 := Lib.hid (slotsDeep_ok A n c l w2 hA2 HN.out HE.out)
    clear c1 hb2 hA1 HB1 hio hr hg
    go_wp2_with fail
    refine c2.out.mono ?_
    rintro e w3 ⟨rfl, hb3⟩
    have HB3 : Hid (Below w.heap.size w w3) := HB2.out.trans (hb3.mono HB2.out.size)
    have hA3 := hA2.step hb3
    have HX3 := Lib.hid (hrow.step hb3)
    have hgl : g < w3.heap.size := HX3.out.lt
    have HM : Hid (o.length = n) := HRA.out.len.trans HN.out
    clear c2 hb3 hA2 HB2 hrow
    go_wp2
    go_loopw [12, 10, 11] (fun i mv nv wr => ∃ k : Nat, i = .int .i64 (k : Int) ∧ k ≤ n ∧ mv = .int .i64 (mostUp o k) ∧ nv = .int .i64 (cnt (l.take k) t) ∧ Hid (Below w3.heap.size w3 wr)) (fun i _ _ _ => n - (intOf i).toNat)
    case atStart => exact ⟨0, rfl, by omega, rfl, by simp [cnt], Below.refl _ _⟩
    case round =>
      obtain ⟨k, rfl, hk, rfl, rfl, HB⟩ := hrel
      by_cases hlt : k < n
      · have hlz : (k : Int) < n := by omega
        obtain ⟨x, hxe⟩ : ∃ x, o[k]! = x := ⟨_, rfl⟩
        have hcx0 := HX3.out.cell k
        rw [ints, List.getElem?_map, oget o (show k < o.length by rw [HM.out]; exact hlt), hxe, Option.map_some] at hcx0
        obtain ⟨ab, aoff, f1, t1, hAA, hab, hs1, hc1, hd1⟩ := pairs_at hA3 (show k < l.length by rw [HN.out]; exact hlt)
        have HXE := Lib.hid hxe
        obtain ⟨r0, r1⟩ := HRA.out.inr k (by rw [HN.out]; exact hlt)
        rw [hxe] at r0 r1
        have hx24 : x ≤ 24 := by have := HD.out; omega
        have hx0 : ¬ x < 0 := by omega
        have hcx := (HB.out.cell (p := ⟨g, k, none⟩) hgl).trans hcx0
        have e1 := (HB.out.cell (p := ⟨ab, aoff + k * 2, none⟩) hab).trans hc1
        have e2 := (HB.out.cell (p := ⟨ab, aoff + k * 2 + 1, none⟩) hab).trans hd1
        have HMa : Hid (mostUp o k < x + 1 → mostUp o (k + 1) = x + 1) := fun h => by rw [mostUp, hxe, if_pos h]
        have HMb : Hid (¬ mostUp o k < x + 1 → mostUp o (k + 1) = mostUp o k) := fun h => by rw [mostUp, hxe, if_neg h]
        have HNa : Hid (f1 ≤ t → t < t1 → cnt (l.take (k + 1)) t = cnt (l.take k) t + 1) := fun h1 h2 => by rw [take_at hs1, cnt_snoc, if_pos ⟨h1, h2⟩]
        have HNb : Hid (¬ (f1 ≤ t ∧ t < t1) → cnt (l.take (k + 1)) t = cnt (l.take k) t) := fun h => by rw [take_at hs1, cnt_snoc, if_neg h]; simp
        have hcl := cnt_le (l.take k) t
        have hcl2 : cnt (l.take k) t ≤ 24 := by rw [List.length_take] at hcl; have := HN.out; omega
        have hcl1 := hcl.1
        have HS1 := Lib.hid (spAt_nat hs1)
        have E1 := Lib.hid hc1
        have E2 := Lib.hid hd1
        have EX := Lib.hid hcx0
        subst hAA
        clear hxe hs1 hcl r1 hc1 hd1 hcx0
        have hcs : (mostUp o k < x + 1 ∨ ¬ mostUp o k < x + 1) := Classical.em _
        have hcs2 : ((f1 ≤ t ∧ t < t1) ∨ (f1 ≤ t ∧ ¬ t < t1) ∨ ¬ f1 ≤ t) := by omega
        rcases hcs with hm1 | hm1 <;> rcases hcs2 with ⟨h1, h2⟩ | ⟨h1, h2⟩ | h1
        all_goals
          first | have HMM := Lib.hid (HMa.out hm1) | have HMM := Lib.hid (HMb.out hm1)
          first | have HWW := Lib.hid (HNa.out h1 h2) | have HWW := Lib.hid (HNb.out (fun h => h2 h.2)) | have HWW := Lib.hid (HNb.out (fun h => h1 h.1))
          go_wp2
          go_loopw [13] (fun i wr2 => ∃ j : Nat, i = .int .i64 (j : Int) ∧ j ≤ k ∧ Hid (Below w3.heap.size w3 wr2)) (fun i _ => k - (intOf i).toNat)
          case atStart => exact ⟨0, rfl, by omega, HB.out⟩
          case round =>
            clear hcx e1 e2
            obtain ⟨j, rfl, hj, HBj⟩ := hrel
            by_cases hjk : j < k
            · have hjz : (j : Int) < k := by omega
              have hjm : (j : Int) < n := by omega
              have hkm : (k : Int) < n := by omega
              have hbs := HBj.out.size
              obtain ⟨y, hy⟩ : ∃ y, o[j]! = y := ⟨_, rfl⟩
              have hcy0 := HX3.out.cell j
              rw [ints, List.getElem?_map, oget o (show j < o.length by rw [HM.out]; omega), hy, Option.map_some] at hcy0
              have hcy2 := (HBj.out.cell (p := ⟨g, j, none⟩) hgl).trans hcy0
              have hcx2 := (HBj.out.cell (p := ⟨g, k, none⟩) hgl).trans EX.out
              have HY := Lib.hid hy
              clear hcy0 hy
              by_cases heq : x = y
              · have hd : ((x : Int) == (y : Int)) = true := by rw [beq_iff_eq]; exact heq
                obtain ⟨ab2, aoff2, f2, t2, hA2, _, hs2, hc2, hd2⟩ := pairs_at hA3 (show j < l.length by rw [HN.out]; omega)
                simp only [Option.some.injEq, Addr.mk.injEq, and_true] at hA2
                obtain ⟨rfl, rfl⟩ := hA2
                have q1 := (HBj.out.cell (p := ⟨ab, aoff + k * 2, none⟩) hab).trans E1.out
                have q2 := (HBj.out.cell (p := ⟨ab, aoff + k * 2 + 1, none⟩) hab).trans E2.out
                have q3 := (HBj.out.cell (p := ⟨ab, aoff + j * 2, none⟩) hab).trans hc2
                have q4 := (HBj.out.cell (p := ⟨ab, aoff + j * 2 + 1, none⟩) hab).trans hd2
                have g1 := fun q os => cell_grown (w := wr) (a := ⟨ab, aoff + k * 2, none⟩) (by show ab < _; omega) q1 q os
                have g2 := fun q os => cell_grown (w := wr) (a := ⟨ab, aoff + k * 2 + 1, none⟩) (by show ab < _; omega) q2 q os
                have g3 := fun q os => cell_grown (w := wr) (a := ⟨ab, aoff + j * 2, none⟩) (by show ab < _; omega) q3 q os
                have g4 := fun q os => cell_grown (w := wr) (a := ⟨ab, aoff + j * 2 + 1, none⟩) (by show ab < _; omega) q4 q os
                have g5 := fun q os => cell_grown (w := wr) (a := ⟨g, j, none⟩) (by show g < _; omega) hcy2 q os
                have g6 := fun q os => cell_grown (w := wr) (a := ⟨g, k, none⟩) (by show g < _; omega) hcx2 q os
                have hnm : meetB (f1, t1) (f2, t2) = false := by
                  have := HRA.out.apart k j (by rw [HN.out]; exact hlt) (by rw [HN.out]; omega) (by omega) (by rw [HXE.out, HY.out]; exact heq)
                  rw [HS1.out, spAt_nat hs2] at this
                  exact meetB_false this
                have hmt := fun W => meet_ f1 t1 f2 t2 W
                rw [hnm] at hmt
                have HMT := Lib.hid hmt
                clear hs2 q1 q2 q3 q4 hc2 hd2 hcy2 hcx2 hmt hnm heq hA3
                go_wp2_with fail
                go_quiet_grown (first | (go_at_call 15; exact Calls.grown_of (HMT.out _)))
                have HB6 := Lib.hid (below_grow HBj.out nq osq)
                clear g1 g2 g3 g4 g5 g6
                generalize grow (wr.drewN nq) osq = w6 at HB6 ⊢
                go_wp2
                go_roundw
                case rel => exact ⟨j + 1, by go_num, by omega, HB6.out⟩
                case measure => simp [intOf]; omega
              · have hd : ((x : Int) == (y : Int)) = false := beq_eq_false_iff_ne.2 heq
                clear hA3 heq
                go_wp2_with fail
                go_quiet (fail)
                have HB6 := Lib.hid (below_drewN HBj.out nq)
                clear hcy2 hcx2 hbs
                generalize wr.drewN nq = w6 at HB6 ⊢
                go_wp2
                go_roundw
                case rel => exact ⟨j + 1, by go_num, by omega, HB6.out⟩
                case measure => simp [intOf]; omega
            · have hjz : ¬ (j : Int) < k := by omega
              clear hA3
              go_wp2
              go_roundw
              case rel => exact ⟨k + 1, by go_num, by omega, by rw [HMM.out], by rw [HWW.out], HBj.out⟩
              case measure => simp [intOf]; omega
      · have hlz : ¬ (k : Int) < n := by omega
        have hkn : k = l.length := by have := HN.out; omega
        have HB6 : Hid (Below w.heap.size w wr) := HB3.out.trans (HB.out.mono HB3.out.size)
        have hle := HNOW.out
        subst hkn
        rw [HRA.out.most, List.take_length]
        generalize deepV l = D at hle ⊢
        generalize cnt l t = C at hle ⊢
        have hbe : ((D : Int) == D) = true := by simp
        clear hA3
        go_wp2
        go_ret
        exact ⟨rfl, HB6.out⟩
  · have HF := Lib.hid he
    have c1 := Lib.hid (slotsRooms_bad A n c l w1 hA1 HN.out (by omega) he)
    clear he
    go_wp2_with fail
    refine c1.out.mono ?_
    rintro e w2 ⟨rfl, hb2⟩
    have HB2 : Hid (Below w.heap.size w w2) := HB1.out.trans (hb2.mono HB1.out.size)
    have c2 := Lib.hid (slotsDeep_bad A n c l w2 (hA1.step hb2) HN.out (by omega) HF.out)
    clear c1 hb2 hA1
    go_wp2_with fail
    refine c2.out.mono ?_
    rintro e w3 ⟨rfl, hb3⟩
    have HB3 : Hid (Below w.heap.size w w3) := HB2.out.trans (hb3.mono HB2.out.size)
    clear c2 hb3
    go_wp2
    go_ret
    exact ⟨rfl, HB3.out⟩
end Go.Proofs.Ytakcgbjgdcicgaa
