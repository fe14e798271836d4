/- slices.SortStableFunc over a row of the call's own that holds rising numbers below a bound: it leaves the same numbers, each ahead of those that come later in the order, equals by number. Conditions: at most 40 numbers; the comparison is one by a weak order and only reads. -/
import Derived.Test.YtejbilcofbjpiaaSymAll
import Derived.Test.YtejbilcofbjpiaaSortStable
namespace Go.Proofs.Ytejbilcofbjpiaa
open Go.Shelf Go.RowKit Go.Lib Go.Sort Go.Proofs
section
variable {α : Type} [Inhabited α]
/-- how a row stands behind the sort of its two parts -/
theorem two_parts {cf : α → α → Int} {v : α → Int} (hw : Weak cf) {d : Array α} {n : Nat} (hn : 20 ≤ n) (hs : n ≤ d.size) (hv : ∀ p q, 0 ≤ p → p < q → q < n → v d[p]! < v d[q]!) :
    ∃ d2, d2 = Sort.insertionSort (ltOf cf) (Sort.insertionSort (ltOf cf) d 0 20) 20 n ∧ PermIn 0 n d d2 ∧ Sorted cf v d2 0 20 ∧ Sorted cf v d2 20 n ∧ (∀ x y, 0 ≤ x → x < 20 → 20 ≤ y → y < n → v d2[x]! < v d2[y]!) ∧ (Sort.insertionSort (ltOf cf) d 0 20).size = d.size ∧ d2.size = d.size := by
  obtain ⟨p1, s1⟩ := insertionSort_ok (v := v) hw 0 20 d (by omega) (by omega) (fun p q h1 h2 h3 => hv p q h1 h2 (by omega))
  generalize Sort.insertionSort (ltOf cf) d 0 20 = d1 at p1 s1
  have z1 := p1.1
  have hk : ∀ k, 20 ≤ k → d1[k]! = d[k]! := fun k h => p1.2.1 k (Or.inr h)
  obtain ⟨p2, s2⟩ := insertionSort_ok (v := v) hw 20 n d1 hn (by omega) (fun p q h1 h2 h3 => by rw [hk p h1, hk q (by omega)]; exact hv p q (by omega) h2 h3)
  refine ⟨_, rfl, permIn_trans _ _ _ _ _ (permIn_mono _ _ 0 20 0 n (Nat.le_refl _) hn hs p1) (permIn_mono _ _ 20 n 0 n (by omega) (Nat.le_refl _) (by omega) p2), ?_, s2, fun x y h1 h2 h3 h4 => ?_, z1, by rw [p2.1, z1]⟩
  · intro p q h1 h2 h3
    rw [p2.2.1 p (Or.inl (by omega)), p2.2.1 q (Or.inl (by omega))]
    exact s1 p q h1 h2 h3
  · rw [p2.2.1 x (Or.inl h2)]
    refine permIn_all d1 _ 20 n (fun z => v d1[x]! < v z) (by omega) p2 (fun k hk1 hk2 => ?_) y h3 h4
    rw [hk k hk1]
    exact permIn_all d d1 0 20 (fun z => v z < v d[k]!) (by omega) p1 (fun l hl1 hl2 => hv l k hl1 (by omega) hk2) x h1 h2

set_option maxHeartbeats 4000000 in
theorem stable_40 (enc : α → Value) (cf : α → α → Int) (v : α → Int) (g : Nat) (cb : Array Value) (blk off cap : Nat) (d : Array α) (w : World) (hw : Weak cf)
    (eg : ∀ args w, (callFunc g args).run Try.prog w = .ok (.enter g args) w) (hcmp : CmpLays1 Try.prog g cb enc cf blk off d.size w) (R : Row1 enc w blk off d) (hsz : d.size ≤ 40)
    (hv : ∀ p q, 0 ≤ p → p < q → q < d.size → v d[p]! < v d[q]!) :
    Calls Try.prog 22 #[.slice (some ⟨blk, off, none⟩) d.size cap, .int .i64 d.size, .func (.func g) #[] cb] w fun e w' => e = .returned (.tuple #[]) ∧ ∃ d', PermIn 0 d.size d d' ∧ Sorted cf v d' 0 d.size ∧ SW enc w blk off d' w' := by
  by_cases hlt : d.size < 20
  · have hok := insertionSort_ok (v := v) hw 0 d.size d (by omega) (Nat.le_refl _) hv
    exact (stable_small enc cf g cb blk off cap d w eg hcmp R hlt).mono fun e w' ⟨he, hS⟩ => ⟨he, _, hok.1, hok.2, hS⟩
  obtain ⟨d2, hd2, hp2, hs1, hs2, hvv, hz1, hz2⟩ := two_parts (v := v) hw (d := d) (n := d.size) (by omega) (Nat.le_refl _) hv
  have S0 : SW enc w blk off d w := SW.start R.hH
  have c0 := Lib.hid (insertionSort_s enc cf g cb blk off cap 0 20 d d w w eg hcmp R rfl S0 (by omega) (by omega) (by omega))
  have c1 : ∀ w1, SW enc w blk off (Sort.insertionSort (ltOf cf) d 0 20) w1 → Calls Try.prog 27 #[.slice (some ⟨blk, off, none⟩) d.size cap, .int .i64 (20 : Nat), .int .i64 d.size, .func (.func g) #[] cb] w1 fun e w' => e = .returned (.tuple #[]) ∧ SW enc w blk off d2 w' := fun w1 S1 => by
    have h := insertionSort_s enc cf g cb blk off cap 20 d.size d (Sort.insertionSort (ltOf cf) d 0 20) w w1 eg hcmp R hz1.symm S1 (by omega) (by omega) (by omega)
    rw [hz1, ← hd2] at h; exact h
  have c2 : 20 < d.size → ∀ w1, SW enc w blk off d2 w1 → Calls Try.prog 28 #[.slice (some ⟨blk, off, none⟩) d.size cap, .int .i64 0, .int .i64 20, .int .i64 d.size, .func (.func g) #[] cb] w1 fun e w' => e = .returned (.tuple #[]) ∧ ∃ d', PermIn 0 d.size d2 d' ∧ Sorted cf v d' 0 d.size ∧ SW enc w blk off d' w' := fun hlt w1 S1 =>
    symMerge_s enc cf v g cb blk off cap d w hw eg hcmp R (by omega) d.size 0 20 d.size d2 w1 0 20 d.size rfl rfl rfl (by omega) hz2.symm S1 (by omega) hlt (by omega) hs1 hs2 hvv
  have c3 : ∀ w1, SW enc w blk off d2 w1 → Calls Try.prog 27 #[.slice (some ⟨blk, off, none⟩) d.size cap, .int .i64 d.size, .int .i64 d.size, .func (.func g) #[] cb] w1 fun e w' => e = .returned (.tuple #[]) ∧ SW enc w blk off d2 w' := fun w1 S1 => by
    have h := insertionSort_s enc cf g cb blk off cap d.size d.size d d2 w w1 eg hcmp R hz2.symm S1 (Nat.le_refl _) (by omega) (by omega)
    have e : Sort.insertionSort (ltOf cf) d2 d.size d.size = d2 := by
      unfold Sort.insertionSort
      rw [insOuter_stop _ _ _ _ _ (by omega)]
    rw [hz2, e] at h; exact h
  have C1 := Lib.hid c1
  have C2 := Lib.hid c2
  have C3 := Lib.hid c3
  have HP2 := Lib.hid hp2
  have HS1 := Lib.hid hs1
  have HS2 := Lib.hid hs2
  obtain ⟨n, hn⟩ : ∃ n, n = d.size := ⟨_, rfl⟩
  rw [← hn] at c0 C1 C2 C3 HP2 HS2 hlt hsz ⊢
  clear hcmp S0 R eg hd2 hp2 hs1 hs2 hvv hz1 hz2 hv c1 c2 c3 hn
  by_cases h40 : n = 40
  · subst h40
    go_enter Try.func22, Try.ntmps22
    go_wp2
    refine wp_loop_rounds 3 ?_
    rw [rounds_succ]
    go_wp2_with fail
    refine c0.out.mono ?_
    rintro e w1 ⟨rfl, hS1⟩
    go_wp2
    rw [rounds_succ]
    go_wp2_with fail
    refine (C1.out w1 hS1).mono ?_
    rintro e w2 ⟨rfl, hS2⟩
    go_wp2
    rw [rounds_succ]
    go_wp2_with fail
    refine (C3.out w2 hS2).mono ?_
    rintro e w3 ⟨rfl, hS3⟩
    go_wp2
    refine wp_loop_rounds 2 ?_
    rw [rounds_succ]
    go_wp2
    refine wp_loop_rounds 2 ?_
    rw [rounds_succ]
    go_wp2_with fail
    refine (C2.out (by omega) w3 hS3).mono ?_
    rintro e w4 ⟨rfl, d', h1, h2, h3⟩
    have H1 := Lib.hid (permIn_trans _ _ _ _ _ HP2.out h1)
    have H2 := Lib.hid h2
    have H3 := Lib.hid h3
    clear h1 h2 h3
    go_wp2
    rw [rounds_succ]
    go_wp2
    rw [rounds_succ]
    go_wp2
    go_end0
    exact ⟨rfl, d', H1.out, H2.out, H3.out⟩
  · have hz : ¬ (n : Int) < 20 := by omega
    have hz1 : (20 : Int) ≤ n := by omega
    have hz2 : ¬ (40 : Int) ≤ n := by omega
    have hz3 : ¬ (40 : Int) < n := by omega
    have hm1 : 20 ≤ n := by omega
    have hm2 : ¬ 40 ≤ n := by omega
    by_cases h20 : n = 20
    · subst h20
      go_enter Try.func22, Try.ntmps22
      go_wp2
      refine wp_loop_rounds 2 ?_
      rw [rounds_succ]
      go_wp2_with fail
      refine c0.out.mono ?_
      rintro e w1 ⟨rfl, hS1⟩
      go_wp2
      rw [rounds_succ]
      go_wp2_with fail
      refine (C1.out w1 hS1).mono ?_
      rintro e w2 ⟨rfl, hS2⟩
      go_wp2
      refine wp_loop_rounds 1 ?_
      rw [rounds_succ]
      go_wp2
      go_end0
      exact ⟨rfl, d2, HP2.out, HS1.out, hS2⟩
    · have hz4 : (20 : Int) < n := by omega
      go_enter Try.func22, Try.ntmps22
      go_wp2
      refine wp_loop_rounds 2 ?_
      rw [rounds_succ]
      go_wp2_with fail
      refine c0.out.mono ?_
      rintro e w1 ⟨rfl, hS1⟩
      go_wp2
      rw [rounds_succ]
      go_wp2_with fail
      refine (C1.out w1 hS1).mono ?_
      rintro e w2 ⟨rfl, hS2⟩
      go_wp2
      refine wp_loop_rounds 2 ?_
      rw [rounds_succ]
      go_wp2
      refine wp_loop_rounds 1 ?_
      rw [rounds_succ]
      go_wp2_with fail
      refine (C2.out (by omega) w2 hS2).mono ?_
      rintro e w4 ⟨rfl, d', h1, h2, h3⟩
      have H1 := Lib.hid (permIn_trans _ _ _ _ _ HP2.out h1)
      have H2 := Lib.hid h2
      have H3 := Lib.hid h3
      clear h1 h2 h3
      go_wp2
      rw [rounds_succ]
      go_wp2
      go_end0
      exact ⟨rfl, d', H1.out, H2.out, H3.out⟩
end
set_option maxHeartbeats 1000000 in
/-- slices.SortStableFunc over rising numbers of a row of the call's own -/
theorem sortStableF {base g n cap M f : Nat} {cb : Array Value} {xs : List Int} {c : Int → Int → Int} {w : World}
    (hown : w.ownsRow base 3 1 (.slice (some ⟨g, 0, none⟩) n cap) n (ints xs)) (hn : 0 < n) (hn40 : n ≤ 40) (hx : ∀ x ∈ xs, 0 ≤ x ∧ x ≤ M) (hr : xs.Pairwise (· < ·))
    (hc : Weak (fun i j : Fin (M + 1) => c i.val j.val)) (ef : ∀ args w, (callFunc f args).run Try.prog w = .ok (.enter f args) w)
    (hcmp : ∀ W : World, w.grownBy W (some g) → ∀ x y : Int, 0 ≤ x → x ≤ M → 0 ≤ y → y ≤ M → Calls Try.prog f (#[.int .i64 x, .int .i64 y] ++ cb) W fun e W' => e = .returned (.int .i64 (c x y)) ∧ ∃ q os, W' = grow (W.drewN q) os) :
    Calls Try.prog 11 #[.slice (some ⟨g, 0, none⟩) n cap, .func (.func f) #[] cb] w fun e w' => e = .returned (.tuple #[]) ∧
      ∃ ys : List Int, ys.Perm xs ∧ ys.Pairwise (Ahead c id) ∧ w'.ownsRow base 3 1 (.slice (some ⟨g, 0, none⟩) n cap) n (ints ys) ∧ w.grownBy w' (some g) := by
  have hl : xs.length = n := by have := hown.1; simpa [ints] using this
  have R := own_row1 (M := M) hown hn hx
  have hds : (toFin M xs).size = n := by rw [toFin_size, hl]
  have hv : ∀ p q, 0 ≤ p → p < q → q < n → (((toFin M xs)[p]!).val : Int) < ((toFin M xs)[q]!).val := fun p q _ hpq hq => by
    rw [toFin_get hx (List.getElem?_eq_getElem (show p < xs.length by omega)), toFin_get hx (List.getElem?_eq_getElem (show q < xs.length by omega))]
    exact List.pairwise_iff_getElem.1 hr p q _ _ hpq
  have c0 := stable_40 finV (fun i j : Fin (M + 1) => c i.val j.val) (fun i : Fin (M + 1) => (i.val : Int)) f cb g 0 cap (toFin M xs) w hc ef (fun m os dk _ x y => by
    have := hcmp _ (sortWorld_grown finV w g 0 m dk os R.hblk) (x.val : Int) (y.val : Int) (by omega) (by omega) (by omega) (by omega)
    exact this.mono fun e W' ⟨he, q, os, hq⟩ => ⟨he, q, os, hq⟩) R (by omega) (by rw [hds]; exact hv)
  rw [hds] at c0
  have C0 := Lib.hid c0
  have HOWN := Lib.hid hown
  have HDS := Lib.hid hds
  have HX := Lib.hid hx
  clear c0 hown hds R hv hcmp hc ef hr hx hl
  go_enter Try.func11, Try.ntmps11
  go_wp2_with fail
  refine C0.out.mono ?_
  rintro e w1 ⟨rfl, dF, hp, hs, hS⟩
  have HP := Lib.hid hp
  have HS := Lib.hid hs
  have HSW := Lib.hid hS
  clear hp hs hS
  go_wp2
  go_end0
  have hp := HP.out
  have hs := HS.out
  have hS := HSW.out
  have hsz : dF.size = n := by rw [hp.1, HDS.out]
  obtain ⟨ho, hg⟩ := sw_own HOWN.out hn hsz hS
  refine ⟨rfl, _, ?_, ?_, ho, hg⟩
  · have hpp := hp.2.2
    have e1 : dF.extract 0 n = dF := by
      conv => lhs; arg 3; rw [← hsz]
      exact Array.extract_size
    have e2 : (toFin M xs).extract 0 n = toFin M xs := by
      conv => lhs; arg 3; rw [← HDS.out]
      exact Array.extract_size
    rw [e1, e2] at hpp
    have := hpp.map fun i : Fin (M + 1) => (i.val : Int)
    refine this.trans (List.Perm.of_eq ?_)
    apply List.ext_getElem
    · simp [toFin]
    · intro i h1 h2
      have h2' : i < xs.length := h2
      have := toFin_get HX.out (List.getElem?_eq_getElem h2')
      rw [getElem!_pos _ i (by rw [toFin_size]; exact h2')] at this
      simpa using this
  · rw [List.pairwise_map, List.pairwise_iff_getElem]
    intro p q h1 h2 hpq
    have h1' : p < dF.size := by simpa using h1
    have h2' : q < dF.size := by simpa using h2
    have := hs p q (Nat.zero_le _) hpq (by omega)
    rw [getElem!_pos _ p h1', getElem!_pos _ q h2'] at this
    exact this
end Go.Proofs.Ytejbilcofbjpiaa

