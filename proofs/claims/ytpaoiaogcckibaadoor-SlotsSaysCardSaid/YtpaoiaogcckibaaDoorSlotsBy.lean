/- What slots.by answers: the places of spans in the order of something. Conditions: at most 40 spans. -/
import Derived.Test.YtpaoiaogcckibaaDoorSlotsCheck
import Derived.Test.YtpaoiaogcckibaaDoorStableF
import Derived.Test.YtpaoiaogcckibaaDoorSortNone
import Derived.Test.YtpaoiaogcckibaaDoorCompare
namespace Go.Proofs.YtpaoiaogcckibaaDoor
open Go.RowKit Go.Sort
def byC (key : Sp → Int) (l : List Sp) (i j : Int) : Int := cmpI (key (spAt l i)) (key (spAt l j))
theorem pickKey (x y : Int) (W : World) : Calls Tryd.prog 90 #[.agg #[.int .i64 x, .int .i64 y]] W fun e w' => e = .returned (.int .i64 y) ∧ ∃ q os, w' = grow (W.drewN q) os := by
  go_enter Tryd.func90, Tryd.ntmps90
  go_wp2
  go_ret
  exact ⟨rfl, 0, #[.cells #[.int .i64 x, .int .i64 y] 127], rfl⟩
theorem roomsKey (x y : Int) (W : World) : Calls Tryd.prog 91 #[.agg #[.int .i64 x, .int .i64 y]] W fun e w' => e = .returned (.int .i64 x) ∧ ∃ q os, w' = grow (W.drewN q) os := by
  go_enter Tryd.func91, Tryd.ntmps91
  go_wp2
  go_ret
  exact ⟨rfl, 0, #[.cells #[.int .i64 x, .int .i64 y] 127], rfl⟩
theorem compareG (a b : Int) (W : World) : Calls Tryd.prog 84 #[.int .i64 a, .int .i64 b] W fun e w' => e = .returned (.int .i64 (cmpI a b)) ∧ ∃ q os, w' = grow (W.drewN q) os :=
  (compare_ a b W).mono fun _ _ ⟨he, hw⟩ => ⟨he, 0, #[], by rw [← hw, grow_empty]; rfl⟩
set_option maxRecDepth 100000 in
set_option maxHeartbeats 2000000 in
theorem byLess (fW : Nat) (key : Sp → Int) (eW : ∀ args w, (callFunc fW args).run Tryd.prog w = .ok (.enter fW args) w)
    (hW : ∀ (x y : Int) (W : World), Calls Tryd.prog fW #[.agg #[.int .i64 x, .int .i64 y]] W fun e w' => e = .returned (.int .i64 (key (x, y))) ∧ ∃ q os, w' = grow (W.drewN q) os)
    (A : Option Addr) (n c bw bl : Nat) (l : List Sp) (x y : Int) (w : World) (hA : Cells w w.heap.size A (pairs l)) (hn : l.length = n) (hbw : w.cell? ⟨bw, 0, none⟩ = some (.func (.func fW) #[] #[])) (hbl : w.cell? ⟨bl, 0, none⟩ = some (.slice A n c))
    (hx0 : 0 ≤ x) (hx1 : x < n) (hy0 : 0 ≤ y) (hy1 : y < n) (hm : n ≤ 9223372036854775807) :
    Calls Tryd.prog 117 #[.int .i64 x, .int .i64 y, .pointer (some ⟨bw, 0, none⟩), .pointer (some ⟨bl, 0, none⟩)] w fun e w' => e = .returned (.int .i64 (byC key l x y)) ∧ ∃ q os, w' = grow (w.drewN q) os := by
  have mixed : Tryd.prog.follows .mixedOrders = true := by kernel_rfl
  obtain ⟨i, rfl⟩ : ∃ i : Nat, x = i := ⟨x.toNat, by omega⟩
  obtain ⟨j, rfl⟩ : ∃ j : Nat, y = j := ⟨y.toNat, by omega⟩
  obtain ⟨b, off, f1, t1, rfl, hb1, h1, hc1, hd1⟩ := pairs_at hA (show i < l.length by omega)
  obtain ⟨b', off', f2, t2, hbb, _, h2, hc2, hd2⟩ := pairs_at hA (show j < l.length by omega)
  simp only [Option.some.injEq, Addr.mk.injEq, and_true] at hbb
  obtain ⟨rfl, rfl⟩ := hbb
  have HC : Hid (byC key l i j = cmpI (key (f1, t1)) (key (f2, t2))) := by
    show _ = _
    unfold byC
    rw [spAt_nat h1, spAt_nat h2]
  have lbw : bw < w.heap.size := block_lt_of_cell hbw
  have lbl : bl < w.heap.size := block_lt_of_cell hbl
  have gbw := fun q os => cell_grown (w := w) (a := ⟨bw, 0, none⟩) lbw hbw q os
  have gbl := fun q os => cell_grown (w := w) (a := ⟨bl, 0, none⟩) lbl hbl q os
  have g1 := fun q os => cell_grown (w := w) (a := ⟨b, off + i * 2, none⟩) hb1 hc1 q os
  have g2 := fun q os => cell_grown (w := w) (a := ⟨b, off + i * 2 + 1, none⟩) hb1 hd1 q os
  have g3 := fun q os => cell_grown (w := w) (a := ⟨b, off + j * 2, none⟩) hb1 hc2 q os
  have g4 := fun q os => cell_grown (w := w) (a := ⟨b, off + j * 2 + 1, none⟩) hb1 hd2 q os
  have HW := Lib.hid hW
  clear h1 h2 hA hn hc1 hd1 hc2 hd2 hbw hbl hW
  go_enter Tryd.func117, Tryd.ntmps117
  go_wp2_with fail
  go_quiet_grown (first | (go_at_fn fW; exact Calls.grown_of (HW.out _ _ _)) | (go_at_call 84; exact Calls.grown_of (compareG _ _ _)))
  go_wp2
  go_ret
  exact ⟨ret_int HC.out.symm, nq, osq, rfl⟩
set_option maxRecDepth 100000 in
set_option maxHeartbeats 2000000 in
theorem by_ (fW : Nat) (key : Sp → Int) (eW : ∀ args w, (callFunc fW args).run Tryd.prog w = .ok (.enter fW args) w)
    (hW : ∀ (x y : Int) (W : World), Calls Tryd.prog fW #[.agg #[.int .i64 x, .int .i64 y]] W fun e w' => e = .returned (.int .i64 (key (x, y))) ∧ ∃ q os, w' = grow (W.drewN q) os)
    (A : Option Addr) (n c : Nat) (l : List Sp) (w : World) (hA : Cells w w.heap.size A (pairs l)) (hn : l.length = n) (hm : n ≤ 40) :
    Calls Tryd.prog 89 #[.slice A n c, .func (.func fW) #[] #[]] w fun e w' => ∃ (g : Nat) (ys : List Int), e = .returned (.slice (some ⟨g, 0, none⟩) n n) ∧ IsOrd n ys ∧ ys.Pairwise (Ahead (byC key l) id) ∧
      w'.ownsRow w.heap.size 3 1 (.slice (some ⟨g, 0, none⟩) n n) n (ints ys) ∧ Below w.heap.size w w' := by
  have HN := Lib.hid hn
  have hmk := make_row 29 3 (.int .i64 0) 8 Tryd.underlying29 info_int rfl n (by omega) (by omega)
  have HB0 : Hid (Below w.heap.size w ((w.alloc (.cells #[.slice A n c] 74)).alloc (.cells #[.func (.func fW) #[] #[]] 130))) := ((Below.refl _ _).alloc (Nat.le_refl _) _).alloc (by simp) _
  have hb0 : ((w.alloc (.cells #[.slice A n c] 74)).alloc (.cells #[.func (.func fW) #[] #[]] 130)).cell? ⟨w.heap.size, 0, none⟩ = some (.slice A n c) := ((Row.new w _ #[.slice A n c]).alloc _).cell 0
  have hb1 : ((w.alloc (.cells #[.slice A n c] 74)).alloc (.cells #[.func (.func fW) #[] #[]] 130)).cell? ⟨w.heap.size + 1, 0, none⟩ = some (.func (.func fW) #[] #[]) := by
    have := (Row.new (w.alloc (.cells #[.slice A n c] 74)) 130 #[.func (.func fW) #[] #[]]).cell 0
    rw [World.size_alloc] at this; exact this
  have HBL := Lib.hid hb0
  have HBW := Lib.hid hb1
  have HW := Lib.hid hW
  have HEW := Lib.hid eW
  clear hn hb0 hb1 hW eW
  go_enter Tryd.func89, Tryd.ntmps89
  go_upto_region 2 with fail
  clear hmk
  have hs1 : ((w.alloc (.cells #[.slice A n c] 74)).alloc (.cells #[.func (.func fW) #[] #[]] 130)).heap.size = w.heap.size + 1 + 1 := by simp
  generalize (w.alloc (.cells #[.slice A n c] 74)).alloc (.cells #[.func (.func fW) #[] #[]] 130) = w1 at HB0 HBL HBW hs1 ⊢
  have HR : Row (w1.alloc (.cells (madeCells #[.int .i64 0] n) 3)) w1.heap.size 3 (fillRow n 0) := by rw [← fillRow_zero]; exact Row.made _ _ _ _
  rw [hs1] at HR
  have HS1 := Lib.hid hs1
  clear hs1
  go_wp2
  go_loopw [12] (fun i wr => ∃ k : Nat, k ≤ n ∧ i = .int .i64 k ∧ Row wr (w.heap.size + 1 + 1) 3 (fillRow n k) ∧ Below w1.heap.size w1 wr) (fun i _ => n - (intOf i).toNat)
  case atStart => exact ⟨0, Nat.zero_le _, rfl, HR, (Below.refl _ _).alloc (Nat.le_refl _) _⟩
  case round =>
    clear HR
    obtain ⟨k, hk, rfl, hr, hb⟩ := hrel
    by_cases hlt : k < n
    · have hlz : (k : Int) < n := by omega
      have hc := hr.cell k
      rw [fillRow_at hlt] at hc
      have hf := hr.frozen k
      go_wp2
      go_roundw
      case rel => exact ⟨k + 1, by omega, by go_num, by rw [← fillRow_set]; exact hr.set_ _ _, hb.setCell (by have := HS1.out; show w1.heap.size ≤ w.heap.size + 1 + 1; omega) _⟩
      case measure => simp [intOf]; omega
    · have hkn : k = n := by omega
      subst hkn
      have hlz : ¬ (k : Int) < k := by omega
      rw [fillRow_full] at hr
      have hbo := HB0.out.trans (hb.mono (by have := HS1.out; omega))
      by_cases hz : k = 0
      · subst hz
        have c2 := Lib.hid (sortNone (some ⟨w.heap.size + 1 + 1, 0, none⟩) 0 (.func (.func 117) #[] #[.pointer (some ⟨w.heap.size + 1, 0, none⟩), .pointer (some ⟨w.heap.size, 0, none⟩)]) wr)
        have HR := Lib.hid (hr.owns (base := w.heap.size) (upto_len 0) (by have := HS1.out; omega) (by simp [maxLen]))
        clear hr
        go_wp2_with fail
        refine c2.out.mono ?_
        rintro e w2 ⟨rfl, rfl⟩
        go_wp2
        go_ret
        exact ⟨w.heap.size + 1 + 1, _, rfl, isOrd_of_perm (List.Perm.refl _), by simp [upto], HR.out, hbo⟩
      · have hs1 := HS1.out
        have hbl2 : wr.cell? ⟨w.heap.size, 0, none⟩ = some (.slice A k c) := by rw [hb.cell (by simp; omega)]; exact HBL.out
        have hbw2 : wr.cell? ⟨w.heap.size + 1, 0, none⟩ = some (.func (.func fW) #[] #[]) := by rw [hb.cell (by simp; omega)]; exact HBW.out
        have hA2 := hA.below hbo (Nat.le_refl _)
        have c2 := Lib.hid (sortStableF (M := k - 1) (f := 117) (cb := #[.pointer (some ⟨w.heap.size + 1, 0, none⟩), .pointer (some ⟨w.heap.size, 0, none⟩)]) (c := byC key l) (hr.owns (base := w.heap.size) (upto_len k) (by omega) (by simp only [maxLen]; omega)) (by omega) (by omega)
          (fun x hx => by have := (mem_upto k x).1 hx; omega) (upto_rising k) (weak_key fun i : Fin (k - 1 + 1) => key (spAt l i.val)) (fun _ _ => rfl)
          (fun W hg x y hx0 hx1 hy0 hy1 => by
            have hAW : Cells W W.heap.size A (pairs l) := (hA2.keep fun p hp => World.cell?_of_block (hg.block p.block (by have := hb.size; omega) (by intro e; injection e with e; omega))).more (by have := hg.size; have := hb.size; omega)
            exact byLess fW key HEW.out HW.out A k c (w.heap.size + 1) w.heap.size l x y W hAW HN.out
              (by rw [World.cell?_of_block (hg.block (w.heap.size + 1) (by have := hb.size; omega) (by intro e; injection e with e; omega))]; exact hbw2)
              (by rw [World.cell?_of_block (hg.block w.heap.size (by have := hb.size; omega) (by intro e; injection e with e; omega))]; exact hbl2) hx0 (by omega) hy0 (by omega) (by omega)))
        clear hr hbl2 hbw2 hA2 hs1
        go_wp2_with fail
        refine c2.out.mono ?_
        rintro e w2 ⟨rfl, ys, hp, hs, ho, hg⟩
        go_wp2
        go_ret
        exact ⟨w.heap.size + 1 + 1, ys, rfl, isOrd_of_perm hp, hs, ho, hbo.grown hg (by have := hbo.size; omega) (fun q hq => by injection hq with hq; have := HS1.out; omega)⟩
end Go.Proofs.YtpaoiaogcckibaaDoor
