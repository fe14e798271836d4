/- slices.SortStableFunc over a row of the call's own that holds items whose second numbers rise: the same items, each ahead of those that come later in the order of the first numbers, equals by the second. Conditions: at most 40 items. -/
import Derived.Test.YtejbilcofbjpiaaAllK
import Derived.Test.YtejbilcofbjpiaaStableF
namespace Go.Proofs.Ytejbilcofbjpiaa
open Go.Shelf Go.RowKit Go.Lib Go.Sort Go.Proofs
set_option maxHeartbeats 1000000 in
theorem stable_smallK (cf : It → It → Int) (g : Nat) (cb : Array Value) (blk off cap : Nat) (d : Array It) (w : World)
    (eg : ∀ args w, (callFunc g args).run Try.prog w = .ok (.enter g args) w) (hcmp : CmpLays Try.prog g cb itV 2 cf blk off d.size w) (R : RI w blk off d) (hsz : d.size < 20) :
    Calls Try.prog 26 #[.slice (some ⟨blk, off, none⟩) d.size cap, .int .i64 d.size, .func (.func g) #[] cb] w fun e w' => e = .returned (.tuple #[]) ∧ SI w blk off (Sort.insertionSort (ltOf cf) d 0 d.size) w' := by
  have S0 : SI w blk off d w := SWK.start R.hH
  have c0 := Lib.hid (insertionSort_sK cf g cb blk off cap 0 d.size d d w w eg hcmp R rfl S0 (Nat.zero_le _) (Nat.le_refl _) (by omega))
  clear hcmp S0 R eg
  obtain ⟨n, hn⟩ : ∃ n, n = d.size := ⟨_, rfl⟩
  have hz : (n : Int) < 20 := by omega
  rw [← hn] at c0 ⊢
  have HN := Lib.hid hn
  clear hn hsz
  go_enter Try.func26, Try.ntmps26
  go_wp2
  refine wp_loop_rounds 1 ?_
  rw [rounds_succ]
  go_wp2_with fail
  refine c0.out.mono ?_
  rintro e w1 ⟨rfl, hS⟩
  go_wp2
  refine wp_loop_rounds 1 ?_
  rw [rounds_succ]
  go_wp2
  go_end0
  exact ⟨rfl, hS⟩
set_option maxHeartbeats 4000000 in
theorem stable_40K (cf : It → It → Int) (v : It → Int) (g : Nat) (cb : Array Value) (blk off cap : Nat) (d : Array It) (w : World) (hw : Weak cf)
    (eg : ∀ args w, (callFunc g args).run Try.prog w = .ok (.enter g args) w) (hcmp : CmpLays Try.prog g cb itV 2 cf blk off d.size w) (R : RI w blk off d) (hsz : d.size ≤ 40)
    (hv : ∀ p q, 0 ≤ p → p < q → q < d.size → v d[p]! < v d[q]!) :
    Calls Try.prog 26 #[.slice (some ⟨blk, off, none⟩) d.size cap, .int .i64 d.size, .func (.func g) #[] cb] w fun e w' => e = .returned (.tuple #[]) ∧ ∃ d', PermIn 0 d.size d d' ∧ Sorted cf v d' 0 d.size ∧ SI w blk off d' w' := by
  by_cases hlt : d.size < 20
  · have hok := insertionSort_ok (v := v) hw 0 d.size d (by omega) (Nat.le_refl _) hv
    exact (stable_smallK cf g cb blk off cap d w eg hcmp R hlt).mono fun e w' ⟨he, hS⟩ => ⟨he, _, hok.1, hok.2, hS⟩
  obtain ⟨d2, hd2, hp2, hs1, hs2, hvv, hz1, hz2⟩ := two_parts (v := v) hw (d := d) (n := d.size) (by omega) (Nat.le_refl _) hv
  have S0 : SI w blk off d w := SWK.start R.hH
  have c0 := Lib.hid (insertionSort_sK cf g cb blk off cap 0 20 d d w w eg hcmp R rfl S0 (by omega) (by omega) (by omega))
  have c1 : ∀ w1, SI w blk off (Sort.insertionSort (ltOf cf) d 0 20) w1 → Calls Try.prog 40 #[.slice (some ⟨blk, off, none⟩) d.size cap, .int .i64 (20 : Nat), .int .i64 d.size, .func (.func g) #[] cb] w1 fun e w' => e = .returned (.tuple #[]) ∧ SI w blk off d2 w' := fun w1 S1 => by
    have h := insertionSort_sK cf g cb blk off cap 20 d.size d (Sort.insertionSort (ltOf cf) d 0 20) w w1 eg hcmp R hz1.symm S1 (by omega) (by omega) (by omega)
    rw [hz1, ← hd2] at h; exact h
  have c2 : 20 < d.size → ∀ w1, SI w blk off d2 w1 → Calls Try.prog 41 #[.slice (some ⟨blk, off, none⟩) d.size cap, .int .i64 0, .int .i64 20, .int .i64 d.size, .func (.func g) #[] cb] w1 fun e w' => e = .returned (.tuple #[]) ∧ ∃ d', PermIn 0 d.size d2 d' ∧ Sorted cf v d' 0 d.size ∧ SI w blk off d' w' := fun hlt w1 S1 =>
    symMerge_sK cf v g cb blk off cap d w hw eg hcmp R (by omega) d.size 0 20 d.size d2 w1 0 20 d.size rfl rfl rfl (by omega) hz2.symm S1 (by omega) hlt (by omega) hs1 hs2 hvv
  have c3 : ∀ w1, SI w blk off d2 w1 → Calls Try.prog 40 #[.slice (some ⟨blk, off, none⟩) d.size cap, .int .i64 d.size, .int .i64 d.size, .func (.func g) #[] cb] w1 fun e w' => e = .returned (.tuple #[]) ∧ SI w blk off d2 w' := fun w1 S1 => by
    have h := insertionSort_sK cf g cb blk off cap d.size d.size d d2 w w1 eg hcmp R hz2.symm S1 (Nat.le_refl _) (by omega) (by omega)
    have e : Sort.insertionSort (ltOf cf) d2 d.size d.size = d2 := by
      unfold Sort.insertionSort
      rw [insOuter_stop _ _ _ _ _ (by omega)]
    rw [hz2, e] at h; exact h
  have C1 := Lib.hid c1
  have C2 := Lib.hid c2
  have C3 := Lib.hid c3
  have HP2 := Lib.hid hp2
  have HS1 := Lib.hid hs1
  have HS2 := Lib.hid hs2
  obtain ⟨n, hn⟩ : ∃ n, n = d.size := ⟨_, rfl⟩
  rw [← hn] at c0 C1 C2 C3 HP2 HS2 hlt hsz ⊢
  clear hcmp S0 R eg hd2 hp2 hs1 hs2 hvv hz1 hz2 hv c1 c2 c3 hn
  by_cases h40 : n = 40
  · subst h40
    go_enter Try.func26, Try.ntmps26
    go_wp2
    refine wp_loop_rounds 3 ?_
    rw [rounds_succ]
    go_wp2_with fail
    refine c0.out.mono ?_
    rintro e w1 ⟨rfl, hS1⟩
    go_wp2
    rw [rounds_succ]
    go_wp2_with fail
    refine (C1.out w1 hS1).mono ?_
    rintro e w2 ⟨rfl, hS2⟩
    go_wp2
    rw [rounds_succ]
    go_wp2_with fail
    refine (C3.out w2 hS2).mono ?_
    rintro e w3 ⟨rfl, hS3⟩
    go_wp2
    refine wp_loop_rounds 2 ?_
    rw [rounds_succ]
    go_wp2
    refine wp_loop_rounds 2 ?_
    rw [rounds_succ]
    go_wp2_with fail
    refine (C2.out (by omega) w3 hS3).mono ?_
    rintro e w4 ⟨rfl, d', h1, h2, h3⟩
    have H1 := Lib.hid (permIn_trans _ _ _ _ _ HP2.out h1)
    have H2 := Lib.hid h2
    have H3 := Lib.hid h3
    clear h1 h2 h3
    go_wp2
    rw [rounds_succ]
    go_wp2
    rw [rounds_succ]
    go_wp2
    go_end0
    exact ⟨rfl, d', H1.out, H2.out, H3.out⟩
  · have hz : ¬ (n : Int) < 20 := by omega
    have hz1 : (20 : Int) ≤ n := by omega
    have hz2 : ¬ (40 : Int) ≤ n := by omega
    have hz3 : ¬ (40 : Int) < n := by omega
    have hm1 : 20 ≤ n := by omega
    have hm2 : ¬ 40 ≤ n := by omega
    by_cases h20 : n = 20
    · subst h20
      go_enter Try.func26, Try.ntmps26
      go_wp2
      refine wp_loop_rounds 2 ?_
      rw [rounds_succ]
      go_wp2_with fail
      refine c0.out.mono ?_
      rintro e w1 ⟨rfl, hS1⟩
      go_wp2
      rw [rounds_succ]
      go_wp2_with fail
      refine (C1.out w1 hS1).mono ?_
      rintro e w2 ⟨rfl, hS2⟩
      go_wp2
      refine wp_loop_rounds 1 ?_
      rw [rounds_succ]
      go_wp2
      go_end0
      exact ⟨rfl, d2, HP2.out, HS1.out, hS2⟩
    · have hz4 : (20 : Int) < n := by omega
      go_enter Try.func26, Try.ntmps26
      go_wp2
      refine wp_loop_rounds 2 ?_
      rw [rounds_succ]
      go_wp2_with fail
      refine c0.out.mono ?_
      rintro e w1 ⟨rfl, hS1⟩
      go_wp2
      rw [rounds_succ]
      go_wp2_with fail
      refine (C1.out w1 hS1).mono ?_
      rintro e w2 ⟨rfl, hS2⟩
      go_wp2
      refine wp_loop_rounds 2 ?_
      rw [rounds_succ]
      go_wp2
      refine wp_loop_rounds 1 ?_
      rw [rounds_succ]
      go_wp2_with fail
      refine (C2.out (by omega) w2 hS2).mono ?_
      rintro e w4 ⟨rfl, d', h1, h2, h3⟩
      have H1 := Lib.hid (permIn_trans _ _ _ _ _ HP2.out h1)
      have H2 := Lib.hid h2
      have H3 := Lib.hid h3
      clear h1 h2 h3
      go_wp2
      rw [rounds_succ]
      go_wp2
      go_end0
      exact ⟨rfl, d', H1.out, H2.out, H3.out⟩

/-! ## In words of the call's own row -/
theorem flat_pairs (d : Array It) : (flatK itV 2 d).toList = pairs d.toList := by
  apply List.ext_getElem?
  intro i
  rcases Nat.lt_or_ge i (d.size * 2) with h | h
  · have h2 : i / 2 < d.size := by omega
    have h3 := pairs_get d.toList (i / 2) (d[i / 2]) (by simp [h2])
    rw [List.getElem?_eq_getElem (by simpa using h)]
    simp only [Array.getElem_toList, flatK, Array.getElem_map, Array.getElem_range]
    rw [getElem!_pos d (i / 2) h2]
    rcases (show i % 2 = 0 ∨ i % 2 = 1 by omega) with e | e
    · rw [e]
      have h4 : i = i / 2 * 2 := by omega
      conv => rhs; rw [h4]
      rw [h3.1]; rfl
    · rw [e]
      have h4 : i = i / 2 * 2 + 1 := by omega
      conv => rhs; rw [h4]
      rw [h3.2]; rfl
  · rw [List.getElem?_eq_none (by simpa using h), List.getElem?_eq_none (by rw [pairs_len]; simpa using h)]
theorem own_rowK {w : World} {base g n cap e : Nat} {xs : List It} (hown : w.ownsRow base e 2 (.slice (some ⟨g, 0, none⟩) n cap) n (pairs xs)) : RI w g 0 xs.toArray := by
  refine ⟨fun x => rfl, itV_one, fun j hj => ?_, (hown.lt g rfl).2⟩
  have hl : xs.length = n := by have := hown.1; rw [pairs_len] at this; omega
  rw [size_flatK] at hj
  have hj2 : j < n * 2 := by simpa [hl] using hj
  refine ⟨?_, by rw [Nat.zero_add]; exact hown.frozenAt j⟩
  rw [Nat.zero_add, hown.cellAt j hj2]
  have h1 := flat_pairs xs.toArray
  simp only at h1
  rw [← h1]
  have h2 : j < (flatK itV 2 xs.toArray).toList.length := by simpa using hj
  rw [List.getElem?_eq_getElem h2]
  simp only [id, Array.getElem_toList]
  rw [getElem!_pos _ j (by simpa using hj)]
theorem sortWorldK_block (w : World) (blk m : Nat) (dk : Array It) (os : Array Obj) (k : Nat) (hk : k < w.heap.size) :
    (sortWorldK itV 2 w blk 0 m dk os).heap[k]? = if k = blk then (w.heap[k]?).map (onCells (putCells id 0 (flatK itV 2 dk))) else w.heap[k]? := by
  unfold sortWorldK
  rw [heap_grow_old _ _ (by unfold putRowK; rw [Go.Proofs.size_putRow]; exact hk)]
  show ((w.heap).modify blk _)[k]? = _
  rw [Array.getElem?_modify]
  split
  · next e => subst e; rw [if_pos rfl]
  · next e => rw [if_neg (fun h => e h.symm)]
theorem sortWorldK_grown (w : World) (blk m : Nat) (dk : Array It) (os : Array Obj) : w.grownBy (sortWorldK itV 2 w blk 0 m dk os) (some blk) :=
  ⟨rfl, rfl, rfl, by unfold sortWorldK putRowK; rw [size_grow, Go.Proofs.size_putRow]; exact Nat.le_add_right _ _, fun k hk hne => by
    rw [sortWorldK_block w blk m dk os k hk, if_neg (fun e => hne (by rw [e]))]⟩
theorem sw_ownK {w W : World} {base g n cap e : Nat} {xs : List It} {d' : Array It} (hown : w.ownsRow base e 2 (.slice (some ⟨g, 0, none⟩) n cap) n (pairs xs)) (hn : 0 < n)
    (hd : d'.size = n) (h : SI w g 0 d' W) : W.ownsRow base e 2 (.slice (some ⟨g, 0, none⟩) n cap) n (pairs d'.toList) ∧ w.grownBy W (some g) := by
  obtain ⟨m, os, rfl⟩ := h
  obtain ⟨hl, hf⟩ := hown
  rcases hf with ⟨_, h0⟩ | ⟨g', cap', cur, hv, hg, hh, hnc, hcm, hcs, htk⟩
  · omega
  · simp only [Value.slice.injEq, Option.some.injEq, Addr.mk.injEq, true_and, and_true] at hv
    obtain ⟨rfl, rfl⟩ := hv
    have hlt : g < w.heap.size := lt_of_block hh
    refine ⟨⟨by rw [pairs_len]; simp [hd], Or.inr ⟨g, cap, putCells id 0 (flatK itV 2 d') cur, rfl, hg, ?_, hnc, hcm, by simp [putCells, hcs], ?_⟩⟩, sortWorldK_grown _ _ _ _ _⟩
    · rw [sortWorldK_block _ _ _ _ _ g hlt, if_pos rfl, hh]; rfl
    · rw [← flat_pairs]
      apply List.ext_getElem
      · simp [putCells, hcs, hd]; omega
      · intro i h1 h2
        have hi : i < (flatK itV 2 d').size := by simpa using h2
        simp only [putCells, List.getElem_take, Array.getElem_toList, Array.getElem_mapIdx]
        rw [if_pos ⟨Nat.zero_le _, by omega⟩, Nat.sub_zero, getElem!_pos _ i hi]
        rfl
def cK (x y : It) : Int := cmpI x.1 y.1
theorem byKeyG (x y : It) (w : World) : Calls Try.prog 18 #[.agg #[.int .i64 x.1, .int .i64 x.2], .agg #[.int .i64 y.1, .int .i64 y.2]] w fun e w' => e = .returned (.int .i64 (cK x y)) ∧ ∃ q os, w' = grow (w.drewN q) os := by
  obtain ⟨a, b⟩ := x
  obtain ⟨c, d⟩ := y
  have HE : Hid (cK (a, b) (c, d) = cmpI a c) := rfl
  have HB : Hid (((w.alloc (.cells #[.int .i64 a, .int .i64 b] 35)).alloc (.cells #[.int .i64 c, .int .i64 d] 35)) = grow (w.drewN 0) #[.cells #[.int .i64 a, .int .i64 b] 35, .cells #[.int .i64 c, .int .i64 d] 35]) := by
    show _ = _
    rw [alloc_eq_grow, alloc_eq_grow, grow_grow]; rfl
  go_enter Try.func18, Try.ntmps18
  go_wp2_with (go_at_call 13; refine (compare_ _ _ _).mono ?_; rintro e w' ⟨rfl, rfl⟩)
  go_ret
  exact ⟨ret_int HE.out.symm, 0, _, HB.out⟩
set_option maxHeartbeats 1000000 in
theorem sortStableK {base g n cap : Nat} {xs : List It} {w : World}
    (hown : w.ownsRow base 35 2 (.slice (some ⟨g, 0, none⟩) n cap) n (pairs xs)) (hn : 0 < n) (hn40 : n ≤ 40) (hr : xs.Pairwise (fun x y => x.2 < y.2)) :
    Calls Try.prog 17 #[.slice (some ⟨g, 0, none⟩) n cap, .func (.func 18) #[] #[]] w fun e w' => e = .returned (.tuple #[]) ∧
      ∃ ys : List It, ys.Perm xs ∧ ys.Pairwise (Ahead cK Prod.snd) ∧ w'.ownsRow base 35 2 (.slice (some ⟨g, 0, none⟩) n cap) n (pairs ys) ∧ w.grownBy w' (some g) := by
  have hl : xs.length = n := by have := hown.1; rw [pairs_len] at this; omega
  have R := own_rowK hown
  have hds : xs.toArray.size = n := by simpa using hl
  have hv : ∀ p q, 0 ≤ p → p < q → q < n → (xs.toArray[p]!).2 < (xs.toArray[q]!).2 := fun p q _ hpq hq => by
    rw [getElem!_pos xs.toArray p (by simp; omega), getElem!_pos xs.toArray q (by simp; omega)]
    exact List.pairwise_iff_getElem.1 hr p q _ _ hpq
  have c0 := stable_40K cK (Prod.snd : It → Int) 18 #[] g 0 cap xs.toArray w (weak_key Prod.fst) (fun _ _ => rfl) (fun m os dk _ x y => byKeyG x y _) R (by omega) (by rw [hds]; exact hv)
  rw [hds] at c0
  have C0 := Lib.hid c0
  have HOWN := Lib.hid hown
  have HDS := Lib.hid hds
  clear c0 hown hds R hv hr hl
  go_enter Try.func17, Try.ntmps17
  go_wp2_with fail
  refine C0.out.mono ?_
  rintro e w1 ⟨rfl, dF, hp, hs, hS⟩
  have HP := Lib.hid hp
  have HS := Lib.hid hs
  have HSW := Lib.hid hS
  clear hp hs hS
  go_wp2
  go_end0
  have hp := HP.out
  have hs := HS.out
  have hS := HSW.out
  have hsz : dF.size = n := by rw [hp.1, HDS.out]
  obtain ⟨ho, hg⟩ := sw_ownK HOWN.out hn hsz hS
  refine ⟨rfl, dF.toList, ?_, ?_, ho, hg⟩
  · have hpp := hp.2.2
    have e1 : dF.extract 0 n = dF := by
      conv => lhs; arg 3; rw [← hsz]
      exact Array.extract_size
    have e2 : xs.toArray.extract 0 n = xs.toArray := by
      conv => lhs; arg 3; rw [← HDS.out]
      exact Array.extract_size
    rw [e1, e2] at hpp
    simpa using hpp
  · rw [List.pairwise_iff_getElem]
    intro p q h1 h2 hpq
    have h1' : p < dF.size := by simpa using h1
    have h2' : q < dF.size := by simpa using h2
    have := hs p q (Nat.zero_le _) hpq (by omega)
    rw [getElem!_pos _ p h1', getElem!_pos _ q h2'] at this
    simpa using this
end Go.Proofs.Ytejbilcofbjpiaa
