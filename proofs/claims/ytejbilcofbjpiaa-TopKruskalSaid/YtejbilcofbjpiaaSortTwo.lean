/- Two items: checked, cloned, sorted by insertion. Conditions: small items. -/
import Derived.Test.YtejbilcofbjpiaaWithin
import Derived.Test.YtejbilcofbjpiaaCompare
import Derived.Test.YtejbilcofbjpiaaKeeps
import Derived.Deep.RegionHeld3
import Derived.BigRegion
namespace Go.Proofs.Ytejbilcofbjpiaa
open Go.RowKit
theorem info_item : (Try.prog.info? 35).map (fun i => (i.zero, i.size, i.bytes)) = some (some (.agg #[.int .i64 0, .int .i64 0]), 2, 16) := by kernel_rfl
theorem byKey_ (a b c d : Int) (w : World) : Calls Try.prog 18 #[.agg #[.int .i64 a, .int .i64 b], .agg #[.int .i64 c, .int .i64 d]] w fun e w' => e = .returned (.int .i64 (cmpI a c)) ∧ Below w.heap.size w w' := by
  have HB : Hid (Below w.heap.size w ((w.alloc (.cells #[.int .i64 a, .int .i64 b] 35)).alloc (.cells #[.int .i64 c, .int .i64 d] 35))) :=
    ((Below.refl _ _).alloc (Nat.le_refl _) _).alloc (by simp) _
  go_enter Try.func18, Try.ntmps18
  go_wp2_with (go_at_call 13; refine (compare_ _ _ _).mono ?_; rintro e w' ⟨rfl, rfl⟩)
  go_ret
  exact ⟨rfl, HB.out⟩
set_option maxHeartbeats 1000000 in
set_option maxRecDepth 100000 in
/-- what is wrong with items: nothing, of two small ones -/
theorem itemCheck2 (A : Option Addr) (c : Nat) (a b d e : Int) (w : World) (hA : Cells w w.heap.size A (pairs [(a, b), (d, e)])) (ha : -1000000 ≤ a ∧ a ≤ 1000000) (hb : 0 ≤ b ∧ b ≤ 1000000) (hd : -1000000 ≤ d ∧ d ≤ 1000000) (he : 0 ≤ e ∧ e ≤ 1000000) :
    Calls Try.prog 15 #[.slice A 2 c] w fun e w' => e = .returned .nilIface ∧ Below w.heap.size w w' := by
  have HA := Lib.hid hA
  have HT : Hid (∀ p ∈ [(a, b), (d, e)], inB p.1 (-1000000) 1000000 = true ∧ inB p.2 0 1000000 = true) := fun p hp => by
    simp only [List.mem_cons, List.not_mem_nil, or_false] at hp
    rcases hp with rfl | rfl
    · exact ⟨inB_true ha, inB_true hb⟩
    · exact ⟨inB_true hd, inB_true he⟩
  clear hA ha hb hd he
  go_enter Try.func15, Try.ntmps15
  go_wp2
  go_loopw [11] (fun i wr => ∃ k : Nat, k ≤ 2 ∧ i = .int .i64 (k : Int) ∧ Hid (Below w.heap.size w wr)) (fun i _ => 2 - (intOf i).toNat)
  case atStart => exact ⟨0, by omega, rfl, Below.refl _ _⟩
  case round =>
    obtain ⟨k, hk, rfl, HB⟩ := hrel
    by_cases hlt : k < 2
    · have hlz : (k : Int) < 2 := by omega
      obtain ⟨b2, off, x, y, rfl, hbb, hx, hc0, hc1⟩ := pairs_at HA.out (show k < [(a, b), (d, e)].length by simpa using hlt)
      obtain ⟨h1, h2⟩ := HT.out (x, y) (List.mem_of_getElem? hx)
      simp only at h1 h2
      rw [← HB.out.cell hbb] at hc0 hc1
      have hsz := HB.out.size
      clear hx
      go_wp2_with (go_at_call 21; refine (within _ _ _ _).mono ?_; rintro e w' ⟨rfl, rfl⟩)
      go_roundw
      case rel => exact ⟨k + 1, by omega, by go_num, HB.out.alloc hsz _⟩
      case measure => simp [intOf]; omega
    · have hlz : ¬ (k : Int) < 2 := by omega
      go_wp2
      go_ret
      exact ⟨rfl, HB.out⟩
set_option maxHeartbeats 1000000 in
set_option maxRecDepth 100000 in
/-- slices.Clone of two items: a row of the call's own -/
theorem clone2 (X : Addr) (c : Nat) (a b d e : Int) (w : World) (hA : Cells w w.heap.size (some X) (pairs [(a, b), (d, e)])) :
    Calls Try.prog 16 #[.slice (some X) 2 c] w fun ev w' => ∃ g c', ev = .returned (.slice (some ⟨g, 0, none⟩) 2 c') ∧ w'.ownsRow w.heap.size 35 2 (.slice (some ⟨g, 0, none⟩) 2 c') 2 (pairs [(a, b), (d, e)]) ∧ Below w.heap.size w w' := by
  have HB0 : Hid (Below w.heap.size w (w.alloc (.cells #[] 35))) := (Below.refl _ _).alloc (Nat.le_refl _) _
  have HO0 : Hid ((w.alloc (.cells #[] 35)).ownsRow w.heap.size 35 2 (.slice (some ⟨w.heap.size, 0, none⟩) 0 0) 0 []) :=
    ⟨rfl, Or.inr ⟨_, 0, #[], rfl, Nat.le_refl _, heap_alloc_new w _, by omega, by simp [maxLen], rfl, rfl⟩⟩
  have HA := Lib.hid (hA.step HB0.out)
  have h1 : ∀ u ∈ pairs [(a, b), (d, e)], u.oneCell' = true := by intro u hu; simp [pairs] at hu; rcases hu with rfl | rfl | rfl | rfl <;> rfl
  have heq : ∀ w : World, (binOp BinOp.eql 31 (.slice (some X) 2 c) (.slice none 0 0)).run Try.prog w = .ok (.bool false) w := fun w => by kernel_rfl
  clear hA
  go_enter Try.func16, Try.ntmps16
  go_wp2_with (at_builtin; refine wp_cat _ rfl (.tmp 5) (.tmp 6) 31 rfl w.heap.size 35 2 16 _ Try.underlying31 info_item rfl (by omega) (some ⟨w.heap.size, 0, none⟩) 0 0 [] rfl HO0.out (w.alloc (.cells #[] 35)).heap.size (some X) 2 c (pairs [(a, b), (d, e)]) rfl rfl HA.out h1 (by omega) (by omega) (by simp) ?_; intro V c1 w3 ho3 hb3 hg3)
  obtain ⟨g, c2, hV, _, _⟩ := ho3.form (by omega)
  simp only [Value.slice.injEq, Nat.zero_add, true_and] at hV
  obtain ⟨rfl, rfl⟩ := hV
  simp only [Nat.zero_add, List.nil_append] at ho3 ⊢
  have HO3 := Lib.hid ho3
  have HB3 : Hid (Below w.heap.size w w3) := HB0.out.trans hb3
  clear ho3 hb3 hg3
  go_wp2
  go_ret
  exact ⟨g, _, rfl, HO3.out, HB3.out⟩
set_option maxHeartbeats 4000000 in
set_option maxRecDepth 100000 in
theorem ins2 (base D c m : Nat) (hm : m = 2) (a b d e : Int) (w : World) (hlt : d < a) (ho : w.ownsRow base 35 2 (.slice (some ⟨D, 0, none⟩) m c) m (pairs [(a, b), (d, e)])) :
    Calls Try.prog 40 #[.slice (some ⟨D, 0, none⟩) m c, .int .i64 0, .int .i64 (m : Int), .func (.func 18) #[] #[]] w fun ev w' => ev = .returned (.tuple #[]) ∧ w'.ownsRow base 35 2 (.slice (some ⟨D, 0, none⟩) m c) m (pairs [(d, e), (a, b)]) ∧ Keeps [D] w w' := by
  have HO := Lib.hid ho
  have hc0 := ho.cellAt 0 (by omega)
  have hc1 := ho.cellAt 1 (by omega)
  have hc2 := ho.cellAt 2 (by omega)
  have hc3 := ho.cellAt 3 (by omega)
  simp [pairs] at hc0 hc1 hc2 hc3
  have hcmp : cmpI d a = -1 := if_pos hlt
  have hcb := byKey_ d e a b w.drew
  rw [hcmp] at hcb
  have HCB := Lib.hid hcb
  have HM := Lib.hid hm
  have h0m : 0 < m := by omega
  have h0z : (0 : Int) < m := by omega
  have hne0 : ¬ m = 0 := by omega
  have hw0 : IntKind.i64.wrap ((1 : Int) - 1) = 0 := by decide
  have hw00 : IntKind.i64.wrap (0 : Int) = 0 := by decide
  have h1m : (1 : Int) < m := by omega
  have h2m : ¬ (2 : Int) < m := by omega
  clear ho hcb hcmp hm
  go_enter Try.func40, Try.ntmps40
  go_wp2
  refine wp_loop_rounds 2 ?_
  rw [rounds_succ]
  go_wp2
  refine wp_loop_rounds 2 ?_
  rw [rounds_succ]
  go_wp2
  go_region_held3 (fun W => W.cell? ⟨D, 0, none⟩ = some (.int .i64 a) ∧ W.cell? ⟨D, 1, none⟩ = some (.int .i64 b) ∧ W.cell? ⟨D, 2, none⟩ = some (.int .i64 d) ∧ W.cell? ⟨D, 3, none⟩ = some (.int .i64 e)) (first | go_keep | (go_split_ands; refine ⟨?_, ?_, ?_, ?_⟩ <;> assumption))
    (first | (go_at_call 18; refine HCB.out.mono ?_; rintro ev w5 ⟨rfl, hb5⟩; have HO5 : Hid (w5.ownsRow base 35 2 (.slice (some ⟨D, 0, none⟩) m c) m (pairs [(a, b), (d, e)])) := (Keeps.ofBelow hb5 : Keeps [] _ w5).own (show w.drew.ownsRow base 35 2 (.slice (some ⟨D, 0, none⟩) m c) m (pairs [(a, b), (d, e)]) from HO.out) (fun _ _ hm => by simp at hm); have HK5 : Hid (Keeps [D] w w5) := ((Keeps.refl _ _).drew).trans (Keeps.ofBelow hb5); have z0 := HO5.out.cellAt 0 (by have := HM.out; omega); have z1 := HO5.out.cellAt 1 (by have := HM.out; omega); have z2 := HO5.out.cellAt 2 (by have := HM.out; omega); have z3 := HO5.out.cellAt 3 (by have := HM.out; omega); simp [pairs] at z0 z1 z2 z3; clear hb5))
  have f0 := HO5.out.frozenAt 0
  have f1 := HO5.out.frozenAt 1
  have f2 := HO5.out.frozenAt 2
  have f3 := HO5.out.frozenAt 3
  clear hc0 hc1 hc2 hc3 HCB HO
  have h1 := (HO5.out.stored 2 (.int .i64 a)).1
  have h2 := (h1.stored 3 (.int .i64 b)).1
  have h3 := (h2.stored 0 (.int .i64 d)).1
  have h4 := (h3.stored 1 (.int .i64 e)).1
  have HO6 : Hid (((((w5.setCell ⟨D, 2, none⟩ (.int .i64 a)).setCell ⟨D, 3, none⟩ (.int .i64 b)).setCell ⟨D, 0, none⟩ (.int .i64 d)).setCell ⟨D, 1, none⟩ (.int .i64 e)).drew.ownsRow base 35 2 (.slice (some ⟨D, 0, none⟩) m c) m (pairs [(d, e), (a, b)])) := h4
  have HK6 : Hid (Keeps [D] w ((((w5.setCell ⟨D, 2, none⟩ (.int .i64 a)).setCell ⟨D, 3, none⟩ (.int .i64 b)).setCell ⟨D, 0, none⟩ (.int .i64 d)).setCell ⟨D, 1, none⟩ (.int .i64 e)).drew) := ((((HK5.out.setCell (Or.inl (by simp)) _).setCell (Or.inl (by simp)) _).setCell (Or.inl (by simp)) _).setCell (Or.inl (by simp)) _).drew
  clear h1 h2 h3 h4
  go_wp2
  go_big_region
  generalize ((((w5.setCell ⟨D, 2, none⟩ (.int .i64 a)).setCell ⟨D, 3, none⟩ (.int .i64 b)).setCell ⟨D, 0, none⟩ (.int .i64 d)).setCell ⟨D, 1, none⟩ (.int .i64 e)).drew = w6 at HO6 HK6 ⊢
  clear f0 f1 f2 f3 z0 z1 z2 z3 HO5 HK5
  go_wp2
  rw [rounds_succ]
  go_wp2
  go_quiet (fail)
  go_wp2
  rw [rounds_succ]
  go_wp2
  go_end0
  exact ⟨rfl, HO6.out, HK6.out.drewN _⟩
end Go.Proofs.Ytejbilcofbjpiaa
