/- The walk of DueSwap. Conditions: lengths are such that slices can have. -/
import Derived.Test.YtbpggecholgdkaaSmithSwapW
namespace Go.Proofs.Ytbpggecholgdkaa
open Go.RowKit

set_option maxHeartbeats 4000000 in
set_option maxRecDepth 100000 in
theorem dueSwapW (A : Option Addr) (n c : Nat) (A' : Option Addr) (m c' : Nat) (i : Int) (l : List Job) (o : List Int) (w : World) (hA : Cells w w.heap.size A (jobs l)) (hn : l.length = n) (hm : n * 24 ≤ 140737488351232)
    (_ : ∀ x ∈ l, InJob x) (hA' : Cells w w.heap.size A' (ints o)) (hn' : o.length = m) (hm' : m * 8 ≤ 140737488351232) (_ : ∀ x ∈ o, -9223372036854775808 ≤ x ∧ x ≤ 9223372036854775807) (hi : -9223372036854775808 ≤ i ∧ i ≤ 9223372036854775807) :
    Calls Try.prog 9 #[.slice A n c, .slice A' m c', .int .i64 i] w fun e w' => e = .returned (.bool true) ∧ Below w.heap.size w w' := by
  clear hi
  have c0 := Lib.hid (dueFact w)
  by_cases he : ordErr l o = 0
  · have HE := Lib.hid he
    have HO := Lib.hid (ordErr_ok he)
    have HL := Lib.hid (jobErr_ok HO.out.1)
    have HN := Lib.hid hn
    have HN' := Lib.hid hn'
    have hnm : n = m := by have := HO.out.2.1; omega
    subst hnm
    have hl16 : n ≤ 16 := by have := HL.out.1; omega
    clear he hn hn'
    go_enter Try.func9, Try.ntmps9
    go_wp2_with fail
    refine c0.out.mono ?_
    rintro e w1 ⟨rfl, hb1⟩
    have c1 := Lib.hid (dueLate_ok A n c A' n c' l o w1 (hA.step hb1) HN.out (by omega) (hA'.step hb1) HN'.out (by omega) HE.out)
    clear c0
    go_wp2_with fail
    refine c1.out.mono ?_
    rintro e w2 ⟨rfl, hb2⟩
    have hb12 := hb1.trans (hb2.mono hb1.size)
    have hA2 := hA.below hb12 (Nat.le_refl _)
    have hA2' := hA'.below hb12 (Nat.le_refl _)
    have hsz2 := hb12.size
    have HB12 := Lib.hid hb12
    clear hb1 hb2 hb12 c1
    obtain ⟨v, HV⟩ : ∃ v, Hid (lateVal l o = v) := ⟨_, rfl⟩
    rw [HV.out]
    by_cases hi1 : i < 1
    · go_wp2
      go_ret
      exact ⟨rfl, HB12.out⟩
    · by_cases hi2 : (n : Int) ≤ i
      · go_wp2
        go_ret
        exact ⟨rfl, HB12.out⟩
      · obtain ⟨j, rfl⟩ : ∃ j : Nat, i = (j : Int) + 1 := ⟨(i - 1).toNat, by omega⟩
        have hj : j + 1 < n := by omega
        obtain ⟨b, off, x, rfl, hbb, hx, hcx⟩ := ints_at hA2' (show j < o.length by rw [HN'.out]; omega)
        obtain ⟨b', off', y, hbe, _, hy, hcy⟩ := ints_at hA2' (show j + 1 < o.length by rw [HN'.out]; omega)
        simp only [Option.some.injEq, Addr.mk.injEq, and_true] at hbe
        obtain ⟨rfl, rfl⟩ := hbe
        have hox := HO.out.2.2.1 x (List.mem_of_getElem? hx)
        have hoy := HO.out.2.2.1 y (List.mem_of_getElem? hy)
        rw [HN.out] at hox hoy
        obtain ⟨p, rfl⟩ : ∃ p : Nat, x = p := ⟨x.toNat, by omega⟩
        obtain ⟨q, rfl⟩ : ∃ q : Nat, y = q := ⟨y.toNat, by omega⟩
        have hpn : p < n := by omega
        have hqn : q < n := by omega
        obtain ⟨ba, offa, t1, d1, v1, rfl, hba, hp, ht1, hd1, hv1⟩ := jobs_at hA2 (show p < l.length by rw [HN.out]; exact hpn)
        obtain ⟨ba', offa', t2, d2, v2, hbe, _, hq, ht2, hd2, hv2⟩ := jobs_at hA2 (show q < l.length by rw [HN.out]; exact hqn)
        simp only [Option.some.injEq, Addr.mk.injEq, and_true] at hbe
        obtain ⟨rfl, rfl⟩ := hbe
        have HXY := Lib.hid (And.intro hx hy)
        have hjx : jobAt l (p : Int) = ⟨t1, d1, v1⟩ := by simp [jobAt, hp]
        have hjy : jobAt l (q : Int) = ⟨t2, d2, v2⟩ := by simp [jobAt, hq]
        obtain ⟨⟨a1, a2⟩, ⟨a3, a4⟩, a5, a6⟩ := HL.out.2 _ (List.mem_of_getElem? hp)
        obtain ⟨⟨b1, b2⟩, ⟨b3, b4⟩, b5, b6⟩ := HL.out.2 _ (List.mem_of_getElem? hq)
        simp only at a1 a2 a3 a4 a5 a6 b1 b2 b3 b4 b5 b6
        have HJ := Lib.hid (And.intro hjx hjy)
        clear hx hy hp hq hjx hjy hox hoy
        have hordT := Lib.hid (swap_ord HXY.out.1 HXY.out.2 HO.out.2)
        have hsp := Lib.hid (swap2 HXY.out.1 HXY.out.2)
        have HP : Hid (¬ d1 < d2 → lateVal l ((o.set (j + 1) (p : Int)).set j (q : Int)) ≤ v) := fun h12 => by
          have hlen : ¬ l.length = 0 := by rw [HN.out]; omega
          have h := HV.out
          unfold lateVal at h ⊢
          rw [if_neg hlen] at h ⊢
          rw [← h, hsp.out.2]
          conv => rhs; arg 3; rw [hsp.out.1]
          simp only [jat, List.map_append, List.map_cons, HJ.out.1, HJ.out.2]
          exact late_swap _ _ ⟨t2, d2, v2⟩ ⟨t1, d1, v1⟩ 0 _ (by simp only; omega) (by simp only; omega) (by simp only; omega)
        have hpz : (p : Int) < n := by omega
        have hqz : (q : Int) < n := by omega
        have hjz : (j : Int) < n := by omega
        have hjz1 : (j : Int) + 1 < n := by omega
        by_cases h12 : d1 < d2
        · have hw1 : IntKind.i64.wrap ((j : Int) + 1 - 1) = (j : Int) := by rw [IntKind.wrap_i64]; omega
          go_wp2
          go_quiet (fail)
          go_wp2
          go_ret
          exact ⟨rfl, below_drewN HB12.out _⟩
        have hw1 : IntKind.i64.wrap ((j : Int) + 1 - 1) = (j : Int) := by rw [IntKind.wrap_i64]; omega
        go_wp2
        go_quiet (fail)
        clear hw1
        go_wp2_with (at_builtin; refine wp_cat _ rfl _ _ 23 rfl w2.heap.size 3 1 8 _ Try.underlying23 info_int rfl (by omega) none 0 0 [] rfl (World.ownsRow_nil _ _ _ _) w.heap.size (some ⟨b, off, none⟩) n c' (ints o) rfl (by rw [ints_len, HN'.out]; omega) (hA2'.keep fun _ _ => rfl) (one_ints _) (by omega) (by omega) (Nat.le_refl _) ?_; intro V c1 w4 ho4 hb4 hg4; obtain ⟨g, c2, hV, hgb, hglt⟩ := ho4.form (by omega); simp only [Value.slice.injEq, true_and, Nat.zero_add] at hV; obtain ⟨rfl, rfl⟩ := hV; simp only [List.nil_append, Nat.zero_add] at ho4; obtain ⟨q1, q2, q3, q4, q5⟩ := own_swap ho4 HXY.out.1 HXY.out.2; have e0 : ∀ (W W' : World) (bb oo : Nat) (u : Value), Below w2.heap.size W W' → bb < w.heap.size → W.cell? ⟨bb, oo, none⟩ = some u → W'.cell? ⟨bb, oo, none⟩ = some u := fun W W' bb oo u h1 h2 h3 => (h1.cell (p := ⟨bb, oo, none⟩) (by simp only; omega)).trans h3; have E0 := Lib.hid e0; clear e0; have kx := E0.out _ w4 _ _ _ ⟨hb4.os, hb4.tape, hb4.output, hb4.size, hb4.block⟩ hbb hcx; have ky := E0.out _ w4 _ _ _ ⟨hb4.os, hb4.tape, hb4.output, hb4.size, hb4.block⟩ hbb hcy; have gne : ∀ (oo : Nat) (u u' : Value) (k : Nat), w4.cell? ⟨b, oo, none⟩ = some u → (w4.setCell ⟨g, k, none⟩ u').cell? ⟨b, oo, none⟩ = some u := fun oo u u' k h => (World.cell?_setCell_other _ _ _ _ (by intro e; simp only [Addr.mk.injEq] at e; omega)).trans h; have hx4 := gne _ _ (.int .i64 (p : Int)) (j + 1) kx; have hy4 := gne _ _ (.int .i64 (p : Int)) (j + 1) ky; have HK1 := Lib.hid q5; have HB4 := Lib.hid hb4; clear q5 gne ho4 hb4 hg4)
        have HB4W : Below w2.heap.size w2 w4 := ⟨HB4.out.os, HB4.out.tape, HB4.out.output, HB4.out.size, HB4.out.block⟩
        have hb26 : Below w2.heap.size w2 ((w4.setCell ⟨g, j + 1, none⟩ (.int .i64 (p : Int))).setCell ⟨g, j, none⟩ (.int .i64 (q : Int))) := (HB4W.setCell (p := ⟨g, j + 1, none⟩) hgb _).setCell (p := ⟨g, j, none⟩) hgb _
        clear q1 q2 q3 q4 hx4 hy4 kx ky
        generalize ((w4.setCell ⟨g, j + 1, none⟩ (.int .i64 (p : Int))).setCell ⟨g, j, none⟩ (.int .i64 (q : Int))) = w6 at HK1 hb26 ⊢
        have hb06 := HB12.out.trans (hb26.mono hsz2)
        have c2 := Lib.hid (dueLate_ok (some ⟨ba, offa, none⟩) n c (some ⟨g, 0, none⟩) n c1 l _ w6 (hA.step hb06) HN.out (by omega) (HK1.out.own (by omega)) (by rw [hordT.out.1, HN.out]) (by omega) (ordErr_of HO.out.1 hordT.out))
        clear hA hA'
        go_wp2_with fail
        refine c2.out.mono ?_
        rintro e w7 ⟨rfl, hb7⟩
        have hb27 := hb26.trans (hb7.mono hb26.size)
        have hb07 := hb06.trans (hb7.mono hb06.size)
        rw [← hb27.cell (p := ⟨b, off + j, none⟩) (by simp only; omega)] at hcx
        rw [← hb27.cell (p := ⟨b, off + (j + 1), none⟩) (by simp only; omega)] at hcy
        rw [← hb27.cell (p := ⟨ba, _, none⟩) (by simp only; omega)] at ht1 hd1 hv1 ht2 hd2 hv2
        obtain ⟨m', HM⟩ : ∃ m', Hid (lateVal l ((o.set (j + 1) (p : Int)).set j (q : Int)) = m') := ⟨_, rfl⟩
        rw [HM.out]
        have hm' : m' ≤ v := by rw [← HM.out]; exact HP.out h12
        go_wp2
        go_ret
        exact ⟨rfl, hb07⟩
  · have HE := Lib.hid he
    clear he
    go_enter Try.func9, Try.ntmps9
    go_wp2_with fail
    refine c0.out.mono ?_
    rintro e w1 ⟨rfl, hb1⟩
    have c1 := Lib.hid (dueLate_bad A n c A' m c' l o w1 (hA.step hb1) hn (by omega) (hA'.step hb1) hn' (by omega) HE.out)
    clear c0 hn hn'
    go_wp2_with fail
    refine c1.out.mono ?_
    rintro e w2 ⟨rfl, hb2⟩
    go_wp2
    go_ret
    exact ⟨rfl, hb1.trans (hb2.mono hb1.size)⟩
end Go.Proofs.Ytbpggecholgdkaa
