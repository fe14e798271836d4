/- The walk of MooreFewer. Conditions: lengths are such that slices can have. -/
import Derived.Test.YtdiinphojjpadaaMooreFact
namespace Go.Proofs.Ytdiinphojjpadaa
open Go.RowKit
theorem cells_take {w : World} {B : Nat} {A : Option Addr} {xs : List Value} (h : Cells w B A xs) (k : Nat) : Cells w B A (xs.take k) := fun hn => by
  obtain ⟨b, off, e, hb, hc⟩ := h (by rw [List.length_take] at hn; omega)
  refine ⟨b, off, e, hb, fun j u hu => hc j u ?_⟩
  rw [List.getElem?_take] at hu
  split at hu
  · exact hu
  · cases hu
theorem cells_drop {w : World} {B b off : Nat} {xs : List Value} (h : Cells w B (some ⟨b, off, none⟩) xs) (k : Nat) : Cells w B (some ⟨b, off + k, none⟩) (xs.drop k) := fun hn => by
  obtain ⟨b', off', e, hb, hc⟩ := h (by rw [List.length_drop] at hn; omega)
  simp only [Option.some.injEq, Addr.mk.injEq, and_true] at e
  obtain ⟨rfl, rfl⟩ := e
  refine ⟨b, off + k, rfl, hb, fun j u hu => ?_⟩
  rw [List.getElem?_drop] at hu
  rw [Nat.add_assoc]; exact hc _ u hu
set_option maxHeartbeats 4000000 in
set_option maxRecDepth 100000 in
theorem mooreFewerW (A : Option Addr) (n c : Nat) (A' : Option Addr) (m c' : Nat) (i : Int) (l : List Job) (o : List Int) (w : World) (hA : Cells w w.heap.size A (jobs l)) (hn : l.length = n) (hm : n * 24 ≤ 140737488351232)
    (_ : ∀ x ∈ l, InJob x) (hA' : Cells w w.heap.size A' (ints o)) (hn' : o.length = m) (hm' : m * 8 ≤ 140737488351232) (hcc : m ≤ c') (_ : ∀ x ∈ o, -9223372036854775808 ≤ x ∧ x ≤ 9223372036854775807) (hi : -9223372036854775808 ≤ i ∧ i ≤ 9223372036854775807) :
    Calls Try.prog 10 #[.slice A n c, .slice A' m c', .int .i64 i] w fun e w' => e = .returned (.bool true) ∧ Below w.heap.size w w' := by
  clear hi
  have HN := Lib.hid hn
  have HN' := Lib.hid hn'
  have c0 := Lib.hid (mooreFact w)
  clear hn hn'
  go_enter Try.func10, Try.ntmps10
  go_wp2_with fail
  refine c0.out.mono ?_
  rintro e w1 ⟨rfl, hb1⟩
  have HB1 := Lib.hid hb1
  have hsz1 := hb1.size
  have c2 := Lib.hid (inTime_ A n c A' m c' l o w1 (hA.step hb1) HN.out (by omega) (hA'.step hb1) HN'.out (by omega))
  clear hb1 c0
  go_wp2_with fail
  refine c2.out.mono ?_
  rintro e w2 ⟨⟨h4, rfl⟩ | ⟨h4, b4, hb4', rfl⟩, hb2⟩
  · have HB2 : Hid (Below w.heap.size w w2) := HB1.out.trans (hb2.mono hsz1)
    clear h4 hb2 c2
    go_wp2
    go_ret
    exact ⟨rfl, HB2.out⟩
  · have HB2 : Hid (Below w.heap.size w w2) := HB1.out.trans (hb2.mono hsz1)
    have hsz2 := HB2.out.size
    cases b4 with
    | false =>
      clear h4 hb4' hb2 c2
      go_wp2
      go_ret
      exact ⟨rfl, HB2.out⟩
    | true =>
      have HF := Lib.hid (hb4'.1 rfl)
      have H4 := Lib.hid h4
      clear h4 hb4' hb2 c2
      by_cases h0 : i < 0
      · go_wp2
        go_ret
        exact ⟨rfl, HB2.out⟩
      · by_cases h1 : (m : Int) ≤ i
        · go_wp2
          go_ret
          exact ⟨rfl, HB2.out⟩
        · obtain ⟨k, rfl⟩ : ∃ k : Nat, i = k := ⟨i.toNat, by omega⟩
          have hkm : k < m := by omega
          obtain ⟨b', off', _, rfl, hbb', _, _⟩ := ints_at hA' (show k < o.length by rw [HN'.out]; exact hkm)
          have hcx0 := cells_take (hA'.below HB2.out (Nat.le_refl _)) k
          have HO2 : Hid (w2.ownsRow w2.heap.size 3 1 (.slice none 0 0) 0 []) := World.ownsRow_nil _ _ _ _
          have hk1 : (k : Int) ≤ (c' : Int) := by omega
          have hk0 : (0 : Int) ≤ (k : Int) := by omega
          have hk2 : IntKind.i64.wrap ((k : Int) + 1) = ((k + 1 : Nat) : Int) := by rw [IntKind.wrap_i64]; omega
          go_upto_region 11 with (at_builtin; refine wp_cat _ rfl (.tmp 38) (.tmp 41) 31 rfl w2.heap.size 3 1 8 _ Try.underlying31 info_int rfl (by omega) none 0 0 [] rfl HO2.out w.heap.size (some ⟨b', off', none⟩) k c' ((ints o).take k) rfl (by rw [List.length_take, ints_len, HN'.out]; omega) hcx0 (fun u hu => one_ints _ u (List.mem_of_mem_take hu)) (by omega) (by omega) (Nat.le_refl _) ?_; intro V1 c1 w3 ho3 hb3 hg3)
          have HO3 := Lib.hid ho3
          have HB3 : Hid (Below w.heap.size w w3) := HB2.out.trans (hb3.mono hsz2)
          have hsz23 := hb3.size
          have hcx1 := cells_drop (hA'.below HB3.out (Nat.le_refl _)) (k + 1)
          have hle1 : ((k + 1 : Nat) : Int) ≤ (m : Int) := by omega
          have hlen2 : ((o.take k) : List Int).length = k := by rw [List.length_take, HN'.out]; omega
          simp only [List.nil_append, Nat.zero_add] at HO3
          clear ho3 hb3 hg3 hcx0
          have HFIN := Lib.hid (moore_fewer (k := k) H4.out HF.out)
          have hlr : (o.take k ++ o.drop (k + 1)).length = k + (m - (k + 1)) := by rw [List.length_append, hlen2, List.length_drop, HN'.out]
          have HLR := Lib.hid hlr
          clear hlr hlen2
          by_cases hce : c' = k + 1
          · have hmk : m = k + 1 := by omega
            subst hce hmk
            have hE : Hid (o.drop (k + 1) = []) := List.drop_of_length_le (by rw [HN'.out]; omega)
            go_upto_region 12 with (at_builtin; refine wp_cat _ rfl (.tmp 43) (.tmp 47) 31 rfl w2.heap.size 3 1 8 _ Try.underlying31 info_int rfl (by omega) V1 k c1 _ rfl HO3.out w.heap.size _ 0 0 [] rfl rfl Cells.nil (fun u hu => by simp at hu) (by omega) (by omega) hsz23 ?_; intro V2 c2 w4 ho4 hb4 hg4)
            have HB4 : Hid (Below w.heap.size w w4) := HB3.out.trans (hb4.mono hsz2)
            have hrow : w4.ownsRow w2.heap.size 3 1 (.slice V2 (k + 0) c2) (k + 0) (ints (o.take k ++ o.drop (k + 1))) := by
              rw [hE.out, List.append_nil]; simpa [ints] using ho4
            have hsz4 := HB4.out.size
            have c5 := Lib.hid (inTime_ A n c V2 (k + 0) c2 l (o.take k ++ o.drop (k + 1)) w4 ((hA.below HB4.out (Nat.le_refl _)).more hsz4) HN.out (by omega) (hrow.own (by omega)) (by have := HLR.out; omega) (by omega))
            clear ho4 hb4 hg4 hrow
            go_wp2_with fail
            refine c5.out.mono ?_
            rintro e w5 ⟨h | ⟨_, b, hb, rfl⟩, hb5⟩
            · exact absurd HFIN.out.1 h.1
            · have hbt : b = true := hb.2 HFIN.out.2
              subst hbt
              have HB5 : Hid (Below w.heap.size w w5) := HB4.out.trans (hb5.mono hsz4)
              clear hb hb5 c5
              go_wp2
              go_ret
              exact ⟨rfl, HB5.out⟩
          · have hce2 : ¬ (c' : Int) = ((k + 1 : Nat) : Int) := by omega
            go_upto_region 12 with (at_builtin; refine wp_cat _ rfl (.tmp 43) (.tmp 47) 31 rfl w2.heap.size 3 1 8 _ Try.underlying31 info_int rfl (by omega) V1 k c1 _ rfl HO3.out w.heap.size (some ⟨b', off' + (k + 1), none⟩) (m - (k + 1)) (c' - (k + 1)) ((ints o).drop (k + 1)) rfl (by rw [List.length_drop, ints_len, HN'.out]; omega) hcx1 (fun u hu => one_ints _ u (List.mem_of_mem_drop hu)) (by omega) (by omega) hsz23 ?_; intro V2 c2 w4 ho4 hb4 hg4)
            have HB4 : Hid (Below w.heap.size w w4) := HB3.out.trans (hb4.mono hsz2)
            have hrow : w4.ownsRow w2.heap.size 3 1 (.slice V2 (k + (m - (k + 1))) c2) (k + (m - (k + 1))) (ints (o.take k ++ o.drop (k + 1))) := by
              simpa [ints] using ho4
            have hsz4 := HB4.out.size
            have c5 := Lib.hid (inTime_ A n c V2 (k + (m - (k + 1))) c2 l (o.take k ++ o.drop (k + 1)) w4 ((hA.below HB4.out (Nat.le_refl _)).more hsz4) HN.out (by omega) (hrow.own (by omega)) (by have := HLR.out; omega) (by omega))
            clear ho4 hb4 hg4 hrow
            go_wp2_with fail
            refine c5.out.mono ?_
            rintro e w5 ⟨h | ⟨_, b, hb, rfl⟩, hb5⟩
            · exact absurd HFIN.out.1 h.1
            · have hbt : b = true := hb.2 HFIN.out.2
              subst hbt
              have HB5 : Hid (Below w.heap.size w w5) := HB4.out.trans (hb5.mono hsz4)
              clear hb hb5 c5
              go_wp2
              go_ret
              exact ⟨rfl, HB5.out⟩
end Go.Proofs.Ytdiinphojjpadaa
