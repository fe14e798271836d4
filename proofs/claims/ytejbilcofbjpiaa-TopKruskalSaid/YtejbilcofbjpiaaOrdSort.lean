/- What order.Sort answers of items whose second numbers rise: the same items by their first numbers, equals by the second. Conditions: at most 40 items, of small numbers. -/
import Derived.Test.YtejbilcofbjpiaaStabK
import Derived.Test.YtejbilcofbjpiaaSortTwo
namespace Go.Proofs.Ytejbilcofbjpiaa
open Go.RowKit
theorem insertNoneK (A : Option Addr) (n c : Nat) (F : Value) (w : World) :
    Calls Try.prog 40 #[.slice A n c, .int .i64 0, .int .i64 0, F] w fun e w' => e = .returned (.tuple #[]) ∧ w = w' := by
  go_enter Try.func40, Try.ntmps40
  go_wp2
  refine wp_loop_rounds 1 ?_
  rw [rounds_succ]
  go_wp2
  go_end0
  exact ⟨rfl, rfl⟩
theorem stableNoneK (A : Option Addr) (c : Nat) (F : Value) (w : World) :
    Calls Try.prog 26 #[.slice A 0 c, .int .i64 0, F] w fun e w' => e = .returned (.tuple #[]) ∧ w = w' := by
  go_enter Try.func26, Try.ntmps26
  go_wp2
  refine wp_loop_rounds 1 ?_
  rw [rounds_succ]
  go_wp2_with fail
  refine (insertNoneK A 0 c F w).mono ?_
  rintro e w1 ⟨rfl, rfl⟩
  go_wp2
  refine wp_loop_rounds 1 ?_
  rw [rounds_succ]
  go_wp2
  go_end0
  exact ⟨rfl, rfl⟩
theorem sortNoneK (A : Option Addr) (c : Nat) (F : Value) (w : World) :
    Calls Try.prog 17 #[.slice A 0 c, F] w fun e w' => e = .returned (.tuple #[]) ∧ w = w' := by
  go_enter Try.func17, Try.ntmps17
  go_wp2_with fail
  refine (stableNoneK A c F w).mono ?_
  rintro e w1 ⟨rfl, rfl⟩
  go_wp2
  go_end0
  exact ⟨rfl, rfl⟩
set_option maxHeartbeats 1000000 in
set_option maxRecDepth 100000 in
/-- what is wrong with items: nothing, of few small ones -/
theorem itemCheckN (A : Option Addr) (n c : Nat) (xs : List It) (w : World) (hA : Cells w w.heap.size A (pairs xs)) (hn : xs.length = n) (hn40 : n ≤ 40) (hk : ∀ p ∈ xs, (-1000000 ≤ p.1 ∧ p.1 ≤ 1000000) ∧ (0 ≤ p.2 ∧ p.2 ≤ 1000000)) :
    Calls Try.prog 15 #[.slice A n c] w fun e w' => e = .returned .nilIface ∧ Below w.heap.size w w' := by
  have HA := Lib.hid hA
  have HN := Lib.hid hn
  have HT : Hid (∀ p ∈ xs, inB p.1 (-1000000) 1000000 = true ∧ inB p.2 0 1000000 = true) := fun p hp => ⟨inB_true (hk p hp).1, inB_true (hk p hp).2⟩
  have hz : ¬ (60 : Int) < n := by omega
  clear hA hk hn
  go_enter Try.func15, Try.ntmps15
  go_wp2
  go_loopw [11] (fun i wr => ∃ k : Nat, k ≤ n ∧ i = .int .i64 (k : Int) ∧ Hid (Below w.heap.size w wr)) (fun i _ => n - (intOf i).toNat)
  case atStart => exact ⟨0, by omega, rfl, Below.refl _ _⟩
  case round =>
    obtain ⟨k, hk, rfl, HB⟩ := hrel
    by_cases hlt : k < n
    · have hlz : (k : Int) < n := by omega
      obtain ⟨b2, off, x, y, rfl, hbb, hx, hc0, hc1⟩ := pairs_at HA.out (show k < xs.length by rw [HN.out]; exact hlt)
      obtain ⟨h1, h2⟩ := HT.out (x, y) (List.mem_of_getElem? hx)
      simp only at h1 h2
      rw [← HB.out.cell hbb] at hc0 hc1
      have hsz := HB.out.size
      clear hx
      go_wp2_with (go_at_call 21; refine (within _ _ _ _).mono ?_; rintro e w' ⟨rfl, rfl⟩)
      go_roundw
      case rel => exact ⟨k + 1, by omega, by go_num, HB.out.alloc hsz _⟩
      case measure => simp [intOf]; omega
    · have hlz : ¬ (k : Int) < n := by omega
      go_wp2
      go_ret
      exact ⟨rfl, HB.out⟩
set_option maxHeartbeats 1000000 in
set_option maxRecDepth 100000 in
/-- slices.Clone of items: a row of the call's own -/
theorem cloneN (X : Addr) (n c : Nat) (xs : List It) (w : World) (hA : Cells w w.heap.size (some X) (pairs xs)) (hn : xs.length = n) (hn0 : 0 < n) (hn40 : n ≤ 40) :
    Calls Try.prog 16 #[.slice (some X) n c] w fun ev w' => ∃ g c', ev = .returned (.slice (some ⟨g, 0, none⟩) n c') ∧ w'.ownsRow w.heap.size 35 2 (.slice (some ⟨g, 0, none⟩) n c') n (pairs xs) ∧ Below w.heap.size w w' := by
  have HB0 : Hid (Below w.heap.size w (w.alloc (.cells #[] 35))) := (Below.refl _ _).alloc (Nat.le_refl _) _
  have HO0 : Hid ((w.alloc (.cells #[] 35)).ownsRow w.heap.size 35 2 (.slice (some ⟨w.heap.size, 0, none⟩) 0 0) 0 []) :=
    ⟨rfl, Or.inr ⟨_, 0, #[], rfl, Nat.le_refl _, heap_alloc_new w _, by omega, by simp [maxLen], rfl, rfl⟩⟩
  have HA := Lib.hid (hA.step HB0.out)
  have HL : Hid ((pairs xs).length = n * 2) := by show _ = _; rw [pairs_len, hn]
  have heq : ∀ w : World, (binOp BinOp.eql 31 (.slice (some X) n c) (.slice none 0 0)).run Try.prog w = .ok (.bool false) w := fun w => by kernel_rfl
  clear hA hn
  go_enter Try.func16, Try.ntmps16
  go_wp2_with (at_builtin; refine wp_cat _ rfl (.tmp 5) (.tmp 6) 31 rfl w.heap.size 35 2 16 _ Try.underlying31 info_item rfl (by omega) (some ⟨w.heap.size, 0, none⟩) 0 0 [] rfl HO0.out (w.alloc (.cells #[] 35)).heap.size (some X) n c (pairs xs) rfl HL.out HA.out (one_pairs _) (by omega) (by omega) (by simp) ?_; intro V c1 w3 ho3 hb3 hg3)
  obtain ⟨g, c2, hV, _, _⟩ := ho3.form (by omega)
  simp only [Value.slice.injEq, Nat.zero_add, true_and] at hV
  obtain ⟨rfl, rfl⟩ := hV
  simp only [Nat.zero_add, List.nil_append] at ho3 ⊢
  have HO3 := Lib.hid ho3
  have HB3 : Hid (Below w.heap.size w w3) := HB0.out.trans hb3
  clear ho3 hb3 hg3
  go_wp2
  go_ret
  exact ⟨g, _, rfl, HO3.out, HB3.out⟩
theorem cloneNil (w : World) :
    Calls Try.prog 16 #[.slice none 0 0] w fun ev w' => ev = .returned (.slice none 0 0) ∧ w = w' := by
  have heq : ∀ w : World, (binOp BinOp.eql 31 (.slice none 0 0) (.slice none 0 0)).run Try.prog w = .ok (.bool true) w := fun w => by kernel_rfl
  go_enter Try.func16, Try.ntmps16
  go_wp2
  go_ret
  exact ⟨rfl, rfl⟩
def OrdSortOK (w : World) (n : Nat) (xs : List It) (e : Ending) (w' : World) : Prop :=
  ∃ V c' ys, e = .returned (.tuple #[.slice V n c', .nilIface]) ∧ Cells w' w'.heap.size V (pairs ys) ∧ ys.Perm xs ∧ ys.Pairwise (Ahead cK Prod.snd) ∧ Below w.heap.size w w'
set_option maxHeartbeats 2000000 in
set_option maxRecDepth 100000 in
theorem orderSort (A : Option Addr) (n c : Nat) (xs : List It) (w : World) (hA : Cells w w.heap.size A (pairs xs)) (hn : xs.length = n) (hn40 : n ≤ 40) (hk : ∀ p ∈ xs, (-1000000 ≤ p.1 ∧ p.1 ≤ 1000000) ∧ (0 ≤ p.2 ∧ p.2 ≤ 1000000)) (hr : xs.Pairwise (fun x y => x.2 < y.2)) (h0 : n = 0 → A = none ∧ c = 0) :
    Calls Try.prog 6 #[.slice A n c] w (OrdSortOK w n xs) := by
  have HA := Lib.hid hA
  have HN := Lib.hid hn
  have c0 := Lib.hid (itemCheckN A n c xs w hA hn hn40 hk)
  by_cases hz : n = 0
  · obtain ⟨rfl, rfl⟩ := h0 hz
    subst hz
    have HX : Hid (xs = []) := List.eq_nil_of_length_eq_zero hn
    clear hA hn hk hr h0
    go_enter Try.func6, Try.ntmps6
    go_wp2_with fail
    refine c0.out.mono ?_
    rintro ev w1 ⟨rfl, hb1⟩
    have HB1 := Lib.hid hb1
    have c1 := Lib.hid (cloneNil w1)
    clear hb1 c0
    go_wp2_with fail
    refine c1.out.mono ?_
    rintro ev w2 ⟨rfl, rfl⟩
    have c3 := Lib.hid (sortNoneK none 0 (.func (.func 18) #[] #[]) w1)
    clear c1
    go_wp2_with fail
    refine c3.out.mono ?_
    rintro ev w3 ⟨rfl, rfl⟩
    have HF : Hid (OrdSortOK w 0 xs (.returned (.tuple #[.slice none 0 0, .nilIface])) w1) := ⟨none, 0, [], rfl, Cells.nil, by rw [HX.out], by simp, HB1.out⟩
    clear c3
    go_wp2
    go_ret2
    exact HF.out
  · obtain ⟨b, off, rfl, _, _⟩ := hA (by rw [pairs_len]; omega)
    have HR := Lib.hid hr
    clear hA hn hk hr h0
    go_enter Try.func6, Try.ntmps6
    go_wp2_with fail
    refine c0.out.mono ?_
    rintro ev w1 ⟨rfl, hb1⟩
    have HB1 := Lib.hid hb1
    have c1 := Lib.hid (cloneN ⟨b, off, none⟩ n c xs w1 (HA.out.step hb1) HN.out (by omega) hn40)
    clear hb1 c0
    go_wp2_with fail
    refine c1.out.mono ?_
    rintro ev w2 ⟨g, c2, rfl, ho2, hb2⟩
    have HB2 : Hid (Below w.heap.size w w2) := HB1.out.trans (hb2.mono HB1.out.size)
    have HG : Hid (w1.heap.size ≤ g) := (ho2.lt g rfl).1
    have c3 := Lib.hid (sortStableK ho2 (by omega) hn40 HR.out)
    clear ho2 hb2 c1
    go_wp2_with fail
    refine c3.out.mono ?_
    rintro ev w3 ⟨rfl, ys, hp, hs, ho, hgw⟩
    have HF : Hid (OrdSortOK w n xs (.returned (.tuple #[.slice (some ⟨g, 0, none⟩) n c2, .nilIface])) w3) :=
      ⟨some ⟨g, 0, none⟩, c2, ys, rfl, ho.own (by omega), hp, hs, HB2.out.grown hgw HB2.out.size (fun q hq => by injection hq with hq; subst hq; have := HG.out; have := HB1.out.size; omega)⟩
    clear hp hs ho hgw c3
    go_wp2
    go_ret2
    exact HF.out
end Go.Proofs.Ytejbilcofbjpiaa
