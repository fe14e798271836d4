/- The walk of SmithTurned. Conditions: lengths are such that slices can have. -/
import Derived.Test.YtbpggecholgdkaaJobFact
namespace Go.Proofs.Ytbpggecholgdkaa
open Go.RowKit

theorem sumT_perm {l m : List Job} (h : l.Perm m) : sumT l = sumT m := by
  induction h with
  | nil => rfl
  | cons x _ ih => simp only [sumT, ih]
  | swap x y l => simp only [sumT]; omega
  | trans _ _ a b => exact a.trans b
theorem sumW_perm {l m : List Job} (h : l.Perm m) : sumW l = sumW m := by
  induction h with
  | nil => rfl
  | cons x _ ih => simp only [sumW, ih]
  | swap x y l => simp only [sumW]; omega
  | trans _ _ a b => exact a.trans b
theorem alone_perm {l m : List Job} (h : l.Perm m) : alone l = alone m := by
  induction h with
  | nil => rfl
  | cons x _ ih => simp only [alone, ih]
  | swap x y l => simp only [alone]; omega
  | trans _ _ a b => exact a.trans b
theorem turned_cost {l : List Job} {o : List Int} (ho : IsOrd l.length o) : costFrom 0 (jat l o) + costFrom 0 (jat l o.reverse) = alone l + sumT l * sumW l := by
  have e : jat l o.reverse = (jat l o).reverse := by simp [jat]
  rw [e, cost_reverse, alone_perm (jat_perm ho), sumT_perm (jat_perm ho), sumW_perm (jat_perm ho)]

set_option maxHeartbeats 4000000 in
set_option maxRecDepth 100000 in
theorem smithTurnedW (A : Option Addr) (n c : Nat) (A' : Option Addr) (m c' : Nat) (l : List Job) (o : List Int) (w : World) (hA : Cells w w.heap.size A (jobs l)) (hn : l.length = n) (hm : n * 24 ≤ 140737488351232)
    (_ : ∀ x ∈ l, InJob x) (hA' : Cells w w.heap.size A' (ints o)) (hn' : o.length = m) (hm' : m * 8 ≤ 140737488351232) (_ : ∀ x ∈ o, -9223372036854775808 ≤ x ∧ x ≤ 9223372036854775807) :
    Calls Try.prog 7 #[.slice A n c, .slice A' m c'] w fun e w' => e = .returned (.bool true) ∧ Below w.heap.size w w' := by
  have c0 := Lib.hid (smithFact w)
  by_cases he : ordErr l o = 0
  · have HE := Lib.hid he
    have HO := Lib.hid (ordErr_ok he)
    have HL := Lib.hid (jobErr_ok HO.out.1)
    have HN := Lib.hid hn
    have HN' := Lib.hid hn'
    have hnm : n = m := by have := HO.out.2.1; omega
    subst hnm
    have hl16 : n ≤ 16 := by have := HL.out.1; omega
    clear he hn hn'
    go_enter Try.func7, Try.ntmps7
    go_wp2_with fail
    refine c0.out.mono ?_
    rintro e w1 ⟨rfl, hb1⟩
    have c1 := Lib.hid (smithCost_ok A n c A' n c' l o w1 (hA.step hb1) HN.out (by omega) (hA'.step hb1) HN'.out (by omega) HE.out)
    clear c0
    go_wp2_with fail
    refine c1.out.mono ?_
    rintro e w3 ⟨rfl, hb2⟩
    have hb3 := hb1.trans (hb2.mono hb1.size)
    have hA3' := hA'.below hb3 (Nat.le_refl _)
    have hsz2 := hb3.size
    clear hb1 hb2 c1
    obtain ⟨v, HV⟩ : ∃ v, Hid (costFrom 0 (jat l o) = v) := ⟨_, rfl⟩
    rw [HV.out]
    go_wp2
    go_loopw [8, 9] (fun v i wr => ∃ (j : Nat) (x : Int) (V : Option Addr) (cv : Nat), -1 ≤ x ∧ x + j ≤ (n : Int) - 1 ∧ (n : Int) - 1 ≤ x + j ∧ i = .int .i64 x ∧ v = .slice V j cv ∧ wr.ownsRow w3.heap.size 3 1 (.slice V j cv) j (ints (o.reverse.take j)) ∧ Below w3.heap.size w3 wr) (fun _ i _ => (intOf i + 1).toNat)
    case atStart => exact ⟨0, (n : Int) - 1, none, 0, by omega, by omega, by omega, by go_num, rfl, World.ownsRow_nil _ _ _ _, Below.refl _ _⟩
    case round =>
      obtain ⟨j, x, V2, cv2, hx1, hx2, hx3, rfl, rfl, hown2, hb4⟩ := hrel
      by_cases hlx : 0 ≤ x
      · obtain ⟨y, rfl⟩ : ∃ y : Nat, x = y := ⟨x.toNat, by omega⟩
        have hym : (y : Int) < n := by omega
        have hym' : y < n := by omega
        obtain ⟨b', off', z, rfl, hbb', hp, hc1⟩ := ints_at hA3' (show y < o.length by rw [HN'.out]; omega)
        rw [← hb4.cell (p := ⟨b', off' + y, none⟩) (by simp only; omega)] at hc1
        have hT : Hid (o.reverse.take (j + 1) = o.reverse.take j ++ [z]) := take_at (by
          rw [List.getElem?_reverse (by rw [HN'.out]; omega), show o.length - 1 - j = y by rw [HN'.out]; omega]; exact hp)
        have hnew := fun W : World => (Row.new W 3 #[.int .i64 z]).cell
        have hsz := hb4.size
        clear hp
        go_wp2_with (at_builtin; refine wp_push _ rfl (.tmp 36) (.tmp 41) 23 rfl w3.heap.size 3 1 8 _ Try.underlying23 info_int rfl (by omega) V2 j cv2 _ rfl (hown2.alloc _) wr.heap.size 1 [.int .i64 z] rfl rfl (fun j u hu => (hnew _ j).trans hu) (by intro u hu; simp at hu; subst hu; rfl) (by omega) (by omega) (by simp; omega) ?_; intro g2 c2 w4 hown4 hb5 hg4 hgr4 hat4)
        rw [show ints (o.reverse.take j) ++ [.int .i64 z] = ints (o.reverse.take (j + 1)) by rw [hT.out, ints_append]; rfl] at hown4
        have hb6 : Below w3.heap.size w3 w4 := (hb4.alloc hsz _).trans hb5
        clear hown2 hnew hc1 hb5 hgr4 hb4 hat4
        go_roundw
        case rel => exact ⟨j + 1, (y : Int) - 1, some ⟨g2, 0, none⟩, c2, by omega, by omega, by omega, by go_num, rfl, hown4, hb6⟩
        case measure => simp [intOf] <;> omega
      · have hjm : j = n := by omega
        subst hjm
        rw [List.take_of_length_le (by rw [List.length_reverse, HN'.out]; omega)] at hown2
        have hb04 := hb3.trans (hb4.mono hsz2)
        have c2 := Lib.hid (smithCost_ok A j c V2 j cv2 l o.reverse wr (hA.step hb04) HN.out (by omega) (hown2.own (by omega)) (by rw [List.length_reverse]; exact HN'.out) (by omega) (ordErr_of HO.out.1 HO.out.2.reverse))
        clear hA3' hown2
        go_wp2_with fail
        refine c2.out.mono ?_
        rintro e w5 ⟨rfl, hb5⟩
        have hb05 := hb04.trans (hb5.mono hb04.size)
        have hA5 := hA.below hb05 (Nat.le_refl _)
        obtain ⟨v2, HV2⟩ : ∃ v2, Hid (costFrom 0 (jat l o.reverse) = v2) := ⟨_, rfl⟩
        rw [HV2.out]
        have HB := Lib.hid hb05
        have hsum : Hid (v + v2 = alone l + sumT l * sumW l) := by
          show _ = _
          rw [← HV.out, ← HV2.out]; exact turned_cost HO.out.2
        clear hb05 hb04 hb4 hb5 c2 hA hA'
        go_wp2
        go_loopw [12, 13, 14, 15] (fun a b d i wr => ∃ (k q : Nat) (x y z : Int), k ≤ j ∧ i = .int .i64 k ∧ a = .int .i64 x ∧ b = .int .i64 y ∧ d = .int .i64 z ∧ 0 ≤ x ∧ x ≤ 1000 * k ∧ 0 ≤ y ∧ y ≤ 1000 * k ∧ 0 ≤ z ∧ z ≤ 1000000 * k ∧ wr = w5.drewN q ∧ Hid (x + sumT (l.drop k) = sumT l ∧ y + sumW (l.drop k) = sumW l ∧ z + alone (l.drop k) = alone l)) (fun _ _ _ i _ => j - (intOf i).toNat)
        case atStart => exact ⟨0, 0, 0, 0, 0, Nat.zero_le _, rfl, rfl, rfl, rfl, by omega, by omega, by omega, by omega, by omega, by omega, rfl, by show _ ∧ _; simp⟩
        case round =>
          obtain ⟨k, q, x, y, z, hk, rfl, rfl, rfl, rfl, hx0, hx1, hy0, hy1, hz0, hz1, rfl, HI⟩ := hrel
          by_cases hlt : k < j
          · have hlz : (k : Int) < j := by omega
            obtain ⟨b', off', t, d, u, rfl, hbb', hp, hc1, hc2, hc3⟩ := jobs_at hA5 (show k < l.length by rw [HN.out]; exact hlt)
            obtain ⟨⟨a1, a2⟩, ⟨a3, a4⟩, a5, a6⟩ := HL.out.2 _ (List.mem_of_getElem? hp)
            simp only at a1 a2 a3 a4 a5 a6
            have p1 : 0 ≤ t * u := Int.mul_nonneg (by omega) (by omega)
            have p3 : t * u ≤ 1000 * 1000 := Int.mul_le_mul (by omega) (by omega) (by omega) (by omega)
            have k1 : IntKind.i64.wrap (t * u) = t * u := by rw [IntKind.wrap_i64]; omega
            have k2 : IntKind.i64.wrap (z + t * u) = z + t * u := by rw [IntKind.wrap_i64]; omega
            have HS : Hid (x + t + sumT (l.drop (k + 1)) = sumT l ∧ y + u + sumW (l.drop (k + 1)) = sumW l ∧ z + t * u + alone (l.drop (k + 1)) = alone l) := by
              have := HI.out
              rw [drop_at hp] at this
              show _ ∧ _ ∧ _
              simp only [sumT, sumW, alone] at this; omega
            clear hp HI hA5
            go_wp2
            go_quiet (fail)
            clear k1 k2
            go_wp2
            go_roundw
            case rel => exact ⟨k + 1, _, x + t, y + u, z + t * u, by omega, by go_num, rfl, rfl, rfl, by omega, by omega, by omega, by omega, by omega, by omega, rfl, HS⟩
            case measure => simp [intOf]; omega
          · have hkj : k = j := by omega
            subst hkj
            have hlz : ¬ (k : Int) < k := by omega
            have h := HI.out
            rw [drop_end (by rw [HN.out]; omega)] at h
            simp only [sumT, sumW, alone, Int.add_zero] at h
            obtain ⟨e1, e2, e3⟩ := h
            have hs := hsum.out
            rw [← e1, ← e2, ← e3] at hs
            have p1 : 0 ≤ x * y := Int.mul_nonneg hx0 hy0
            have p3 : x * y ≤ 16000 * 16000 := Int.mul_le_mul (by omega) (by omega) (by omega) (by omega)
            have g1 : v + v2 ≤ 400000000 := by omega
            have g2 : 0 ≤ v + v2 := by omega
            have hd : ((v + v2) == (z + x * y)) = true := beq_iff_eq.2 hs
            clear e1 e2 e3 hs
            go_wp2
            go_ret
            exact ⟨rfl, below_drewN HB.out q⟩
  · have HE := Lib.hid he
    clear he
    go_enter Try.func7, Try.ntmps7
    go_wp2_with fail
    refine c0.out.mono ?_
    rintro e w1 ⟨rfl, hb1⟩
    have c1 := Lib.hid (smithCost_bad A n c A' m c' l o w1 (hA.step hb1) hn (by omega) (hA'.step hb1) hn' (by omega) HE.out)
    clear c0 hn hn'
    go_wp2_with fail
    refine c1.out.mono ?_
    rintro e w2 ⟨rfl, hb2⟩
    go_wp2
    go_ret
    exact ⟨rfl, hb1.trans (hb2.mono hb1.size)⟩
end Go.Proofs.Ytbpggecholgdkaa
