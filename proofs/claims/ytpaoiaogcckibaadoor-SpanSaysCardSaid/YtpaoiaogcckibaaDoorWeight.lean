/- What span.Weight answers. Conditions: lengths are such that slices can have. -/
import Derived.Test.YtpaoiaogcckibaaDoorKruskalP
import Derived.Deep.DeepCutAuto
namespace Go.Proofs.YtpaoiaogcckibaaDoor
open Go.RowKit
/-- what is wrong with edges behind p, of n -/
def riseErr (n p : Int) : List Int → Int
  | [] => 0
  | i :: L => if inB i 0 (n - 1) = true then (if i ≤ p then 3 else riseErr n i L) else 1
def weightErr (N : Int) (l : List Edge) (L : List Int) : Int := if graphErr N l = 0 then riseErr l.length (-1) L else graphErr N l
theorem riseErr_ok (n : Int) : ∀ (L : List Int) (p : Int), riseErr n p L = 0 → (∀ i ∈ L, p < i ∧ 0 ≤ i ∧ i < n) ∧ L.Pairwise (· < ·) := by
  intro L
  induction L with
  | nil => intro p _; exact ⟨fun i hi => by simp at hi, List.Pairwise.nil⟩
  | cons i L ih =>
    intro p h
    simp only [riseErr] at h
    split at h
    · next h0 =>
      have hr := of_inB h0
      split at h
      · cases h
      · next h1 =>
        obtain ⟨h2, h3⟩ := ih i h
        refine ⟨fun j hj => ?_, List.pairwise_cons.2 ⟨fun j hj => (h2 j hj).1, h3⟩⟩
        rcases List.mem_cons.1 hj with rfl | hj
        · omega
        · have := h2 j hj; omega
    · cases h
theorem riseErr_of (n : Int) : ∀ (L : List Int) (p : Int), (∀ i ∈ L, p < i ∧ 0 ≤ i ∧ i < n) → L.Pairwise (· < ·) → riseErr n p L = 0 := by
  intro L
  induction L with
  | nil => intro p _ _; rfl
  | cons i L ih =>
    intro p h hp
    have h0 := h i (by simp)
    have h1 := List.pairwise_cons.1 hp
    simp only [riseErr]
    rw [if_pos (inB_true (by omega)), if_neg (by omega)]
    exact ih i (fun j hj => ⟨h1.1 j hj, (h j (by simp [hj])).2⟩) h1.2
def weightVal (N : Int) (l : List Edge) (L : List Int) : Int := if weightErr N l L = 0 then sumB (wOf l) L else 0
def WeightOK (w : World) (N : Int) (l : List Edge) (L : List Int) (e : Ending) (w' : World) : Prop := e = .returned (.tuple #[.int .i64 (weightVal N l L), errV (weightErr N l L)]) ∧ Below w.heap.size w w'
set_option maxHeartbeats 4000000 in
set_option maxRecDepth 100000 in
theorem weight_ (N : Int) (A : Option Addr) (n c : Nat) (l : List Edge) (A' : Option Addr) (m c' : Nat) (L : List Int) (w : World) (hA : Cells w w.heap.size A (edges l)) (hn : l.length = n) (hm : n ≤ 9223372036854775807)
    (hA' : Cells w w.heap.size A' (ints L)) (hn' : L.length = m) (hm' : m ≤ 9223372036854775806) :
    Calls Tryd.prog 67 #[graphV N A n c, .slice A' m c'] w (WeightOK w N l L) := by
  have HN := Lib.hid hn
  have HN' := Lib.hid hn'
  have HR0 : Hid (Row (w.alloc (.cells #[.int .i64 N, .slice A n c] 40)) w.heap.size 40 [.int .i64 N, .slice A n c]) := Row.new _ _ _
  have hb0 : Below w.heap.size w (w.alloc (.cells #[.int .i64 N, .slice A n c] 40)) := (Below.refl _ _).alloc (Nat.le_refl _) _
  have c1 := spanCheck N A n c l _ (hA.step hb0) hn hm
  have HB0 := Lib.hid hb0
  unfold graphV at c1 ⊢
  have C1 := Lib.hid c1
  clear hn hn' c1 hb0
  by_cases hg : graphErr N l = 0
  · rw [hg, errV_zero] at C1
    obtain ⟨_, hl40, hed⟩ := graphErr_ok hg
    have hn40 : n ≤ 40 := by have := HN.out; omega
    have HED := Lib.hid hed
    have HW : Hid (weightErr N l L = riseErr n (-1) L) := by show _ = _; unfold weightErr; rw [if_pos hg, HN.out]
    have hbad : ∀ w', Below w.heap.size w w' → ∀ k : Int, riseErr n (-1) L = k → k ≠ 0 → WeightOK w N l L (.returned (.tuple #[.int .i64 0, .iface 91 (.int .i64 k)])) w' := fun w' hb k hk h0 => by
      refine ⟨?_, hb⟩
      unfold weightVal
      rw [HW.out, hk, if_neg h0, errV_bad h0]
    have HBAD := Lib.hid hbad
    have hgood : ∀ w', Below w.heap.size w w' → riseErr n (-1) L = 0 → WeightOK w N l L (.returned (.tuple #[.int .i64 (sumB (wOf l) L), .nilIface])) w' := fun w' hb hk => by
      refine ⟨?_, hb⟩
      unfold weightVal
      rw [HW.out, hk, if_pos rfl, errV_zero]
    have HGOOD := Lib.hid hgood
    clear hg hl40 hed hbad hgood
    go_enter Tryd.func67, Tryd.ntmps67
    go_wp2_with fail
    refine C1.out.mono ?_
    rintro e w1 ⟨rfl, hb1⟩
    have HB1 : Hid (Below w.heap.size w w1) := HB0.out.trans (hb1.mono (by simp))
    have HR1 := Lib.hid (HR0.out.step hb1)
    clear hb1 C1 HB0 HR0
    go_wp2
    go_loopw [17, 7] (fun i v wr => ∃ (k : Nat) (p : Int), i = .int .i64 (k : Int) ∧ k ≤ m ∧ v = .int .i64 (sumB (wOf l) (L.take k)) ∧ -1 ≤ p ∧ p ≤ (n : Int) - 1 ∧ (k : Int) ≤ p + 1 ∧ (0 < k ∨ p = -1) ∧ Hid (0 < k → L[k - 1]? = some p) ∧ Hid (0 ≤ sumB (wOf l) (L.take k) ∧ sumB (wOf l) (L.take k) ≤ 1000 * k) ∧ Hid (riseErr n p (L.drop k) = riseErr n (-1) L) ∧ Hid (Row wr w.heap.size 40 [.int .i64 N, .slice A n c]) ∧ Hid (Below w.heap.size w wr)) (fun i _ _ => m - (intOf i).toNat)
    case atStart => exact ⟨0, -1, rfl, by omega, rfl, by omega, by omega, by omega, Or.inr rfl, fun h => by omega, by show (0 : Int) ≤ 0 ∧ (0 : Int) ≤ _; omega, rfl, HR1.out, HB1.out⟩
    case round =>
      clear HR1 HB1
      obtain ⟨k, p, rfl, hk, rfl, hp0, hp1, hkp, hkp2, HP, HS, HI, HR, HB⟩ := hrel
      by_cases hkm : k < m
      · have hkz : (k : Int) < m := by omega
        obtain ⟨b', off', y, rfl, hbb', hy, hcy⟩ := ints_at hA' (show k < L.length by rw [HN'.out]; exact hkm)
        rw [← HB.out.cell hbb'] at hcy
        have HX := Lib.hid (drop_at hy)
        have HY := Lib.hid hy
        have hq1 := HR.out.cell 1
        have hwn : IntKind.i64.wrap ((n : Int) - 1) = (n : Int) - 1 := by rw [IntKind.wrap_i64]; omega
        cases h1 : inB y 0 ((n : Int) - 1) with
        | false =>
          have HT : Hid (riseErr n (-1) L = 1) := by
            show _ = _
            rw [← HI.out, HX.out]; simp only [riseErr]; rw [if_neg (by simp [h1])]
          clear hy hA hA'
          go_wp2_with (go_at_call 73; refine (within _ _ _ _).mono ?_; rintro e w' ⟨rfl, rfl⟩)
          go_ret2
          exact HBAD.out _ HB.out 1 HT.out (by omega)
        | true =>
          have hyr := of_inB h1
          by_cases hyp : y ≤ p
          · have HT : Hid (riseErr n (-1) L = 3) := by
              show _ = _
              rw [← HI.out, HX.out]; simp only [riseErr]; rw [if_pos h1, if_pos hyp]
            have hk0 : 0 < k := by omega
            have hk0z : (0 : Int) < k := by omega
            obtain ⟨j, rfl⟩ : ∃ j, k = j + 1 := ⟨k - 1, by omega⟩
            have hpj := HP.out (by omega)
            simp only [Nat.add_sub_cancel] at hpj
            obtain ⟨b2, off2, y2, hb2, hbb2, hy2, hcp⟩ := ints_at hA' (show j < L.length by rw [HN'.out]; omega)
            simp only [Option.some.injEq, Addr.mk.injEq, and_true] at hb2
            obtain ⟨rfl, rfl⟩ := hb2
            rw [hpj] at hy2
            injection hy2 with hy2
            subst hy2
            rw [← HB.out.cell hbb2] at hcp
            have hw0 : IntKind.i64.wrap ((j : Int) + 1 - 1) = (j : Int) := by rw [IntKind.wrap_i64]; omega
            have hw00 : IntKind.i64.wrap (j : Int) = (j : Int) := by rw [IntKind.wrap_i64]; omega
            have hj0 : (0 : Int) ≤ (j : Int) := by omega
            have hjm : (j : Int) < m := by omega
            clear hy hA hA' hpj
            go_wp2_with (go_at_call 73; refine (within _ _ _ _).mono ?_; rintro e w' ⟨rfl, rfl⟩)
            go_ret2
            exact HBAD.out _ HB.out 3 HT.out (by omega)
          · have HT : Hid (riseErr n y (L.drop (k + 1)) = riseErr n (-1) L) := by
              show _ = _
              rw [← HI.out, HX.out]; simp only [riseErr]; rw [if_pos h1, if_neg hyp]
            obtain ⟨q, rfl⟩ : ∃ q : Nat, y = q := ⟨y.toNat, by omega⟩
            have hqn : q < n := by omega
            have hqz : (q : Int) < n := by omega
            obtain ⟨b, off, ea, eb, et, rfl, hbb, hx, _, _, hc2⟩ := edges_at hA (show q < l.length by rw [HN.out]; exact hqn)
            obtain ⟨_, _, ht0, ht1⟩ := HED.out _ (List.mem_of_getElem? hx)
            simp only at ht0 ht1
            rw [← HB.out.cell hbb] at hc2
            have HTK : Hid (sumB (wOf l) (L.take (k + 1)) = sumB (wOf l) (L.take k) + et) := by
              show _ = _
              rw [take_at HY.out]
              unfold sumB
              rw [List.map_append, List.sum_append]
              simp [wOf, eAt_of hx]
            obtain ⟨sk, hsk⟩ : ∃ z, z = sumB (wOf l) (L.take k) := ⟨_, rfl⟩
            have hsb := HS.out
            rw [← hsk] at hsb
            have HSK := Lib.hid hsk
            rw [← hsk]
            have HTK2 : Hid (sumB (wOf l) (L.take (k + 1)) = sk + et) := by show _ = _; rw [HTK.out, hsk]
            have hws : IntKind.i64.wrap (sk + et) = sk + et := by rw [IntKind.wrap_i64]; omega
            have HNEW : Hid (0 ≤ sk + et ∧ sk + et ≤ 1000 * ((k + 1 : Nat) : Int)) := by show _ ∧ _; omega
            have HP2 : Hid (0 < k + 1 → L[k + 1 - 1]? = some (q : Int)) := fun _ => by rw [Nat.add_sub_cancel]; exact HY.out
            have hrel2 : ∀ W, Row W w.heap.size 40 [.int .i64 N, .slice (some ⟨b, off, none⟩) n c] → Below w.heap.size w W → ∃ (k' : Nat) (p' : Int), (Value.int .i64 ((k : Int) + 1)) = .int .i64 (k' : Int) ∧ k' ≤ m ∧ (Value.int .i64 (sk + et)) = .int .i64 (sumB (wOf l) (L.take k')) ∧ -1 ≤ p' ∧ p' ≤ (n : Int) - 1 ∧ (k' : Int) ≤ p' + 1 ∧ (0 < k' ∨ p' = -1) ∧ Hid (0 < k' → L[k' - 1]? = some p') ∧ Hid (0 ≤ sumB (wOf l) (L.take k') ∧ sumB (wOf l) (L.take k') ≤ 1000 * k') ∧ Hid (riseErr n p' (L.drop k') = riseErr n (-1) L) ∧ Hid (Row W w.heap.size 40 [.int .i64 N, .slice (some ⟨b, off, none⟩) n c]) ∧ Hid (Below w.heap.size w W) := fun W h1 h2 =>
              ⟨k + 1, q, rfl, by omega, by rw [HTK2.out], by omega, by omega, by omega, Or.inl (by omega), HP2, by show _ ∧ _; rw [HTK2.out]; exact HNEW.out, HT, h1, h2⟩
            have HREL := Lib.hid hrel2
            by_cases hk0 : 0 < k
            · have hk0z : (0 : Int) < k := by omega
              obtain ⟨j, rfl⟩ : ∃ j, k = j + 1 := ⟨k - 1, by omega⟩
              have hpj := HP.out (by omega)
              simp only [Nat.add_sub_cancel] at hpj
              obtain ⟨b2, off2, y2, hb2, hbb2, hy2, hcp⟩ := ints_at hA' (show j < L.length by rw [HN'.out]; omega)
              simp only [Option.some.injEq, Addr.mk.injEq, and_true] at hb2
              obtain ⟨rfl, rfl⟩ := hb2
              rw [hpj] at hy2
              injection hy2 with hy2
              subst hy2
              rw [← HB.out.cell hbb2] at hcp
              have hw0 : IntKind.i64.wrap ((j : Int) + 1 - 1) = (j : Int) := by rw [IntKind.wrap_i64]; omega
              have hw00 : IntKind.i64.wrap (j : Int) = (j : Int) := by rw [IntKind.wrap_i64]; omega
              have hj0 : (0 : Int) ≤ (j : Int) := by omega
              have hjm : (j : Int) < m := by omega
              clear hy hx hA hA' hpj hrel2 hsb hsk
              go_wp2_with (go_at_call 73; refine (within _ _ _ _).mono ?_; rintro e w' ⟨rfl, rfl⟩)
              go_roundw
              case rel => exact HREL.out _ HR.out HB.out
              case measure => simp [intOf]; omega
            · have hk0z : ¬ (0 : Int) < k := by omega
              clear hy hx hA hA' hrel2 hsb hsk
              go_wp2_with (go_at_call 73; refine (within _ _ _ _).mono ?_; rintro e w' ⟨rfl, rfl⟩)
              go_roundw
              case rel => exact HREL.out _ HR.out HB.out
              case measure => simp [intOf]; omega
      · have hkz : ¬ (k : Int) < m := by omega
        have hkm2 : k = m := by omega
        subst hkm2
        have HF : Hid (WeightOK w N l L (.returned (.tuple #[.int .i64 (sumB (wOf l) (L.take k)), .nilIface])) wr) := by
          have h1 := HI.out
          rw [drop_end (by rw [HN'.out]; omega)] at h1
          show WeightOK _ _ _ _ _ _
          rw [List.take_of_length_le (by rw [HN'.out]; omega)]
          exact HGOOD.out _ HB.out h1.symm
        go_wp2
        go_ret2
        exact HF.out
  · have HF := Lib.hid (errV_bad hg)
    have HFIN : Hid (∀ w', Below w.heap.size w w' → WeightOK w N l L (.returned (.tuple #[.int .i64 0, .iface 91 (.int .i64 (graphErr N l))])) w') := fun w' hb => by
      have e : weightErr N l L = graphErr N l := if_neg hg
      refine ⟨?_, hb⟩
      unfold weightVal
      rw [e, if_neg hg, errV_bad hg]
    clear hg hA hA'
    go_enter Tryd.func67, Tryd.ntmps67
    go_wp2_with fail
    refine C1.out.mono ?_
    rintro e w1 ⟨rfl, hb1⟩
    rw [HF.out]
    have HB1 : Hid (Below w.heap.size w w1) := HB0.out.trans (hb1.mono (by simp))
    clear hb1 C1 HB0 HR0
    go_wp2
    go_ret2
    exact HFIN.out _ HB1.out
end Go.Proofs.YtpaoiaogcckibaaDoor
