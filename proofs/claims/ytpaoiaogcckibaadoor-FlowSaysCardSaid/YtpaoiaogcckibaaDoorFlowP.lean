/- flow.Order walked. Conditions: lengths are such that slices can have. -/
import Derived.Test.YtpaoiaogcckibaaDoorFlowO
namespace Go.Proofs.YtpaoiaogcckibaaDoor
open Go.RowKit
set_option maxRecDepth 100000 in
set_option maxHeartbeats 1000000 in
theorem flowOrder_bad (A : Option Addr) (n c : Nat) (l : List (Int × Int)) (w : World) (hA : Cells w w.heap.size A (pairs l)) (hn : l.length = n) (hm : n ≤ 9223372036854775807) (he : pairErr l ≠ 0) :
    Calls Tryd.prog 46 #[.slice A n c] w fun e w' => e = .returned (.tuple #[.slice none 0 0, .iface 91 (.int .i64 (pairErr l))]) ∧ Below w.heap.size w w' := by
  have HF := Lib.hid (errV_bad he)
  have hb0 : Below w.heap.size w (w.alloc (.cells #[.slice A n c] 66)) := (Below.refl _ _).alloc (Nat.le_refl _) _
  have c1 := Lib.hid (flowCheck A n c l (w.alloc (.cells #[.slice A n c] 66)) (hA.step hb0) hn hm)
  clear he hn
  go_enter Tryd.func46, Tryd.ntmps46
  go_wp2_with fail
  refine c1.out.mono ?_
  rintro e w1 ⟨rfl, hb1⟩
  rw [HF.out]
  go_wp2
  go_ret2
  exact ⟨rfl, hb0.trans (hb1.mono (by simp))⟩

/-- Johnson's order of the jobs -/
def FlowOrdOK (l : List (Int × Int)) (n : Nat) (w : World) (e : Ending) (w' : World) : Prop :=
  ∃ (V : Option Addr) (m c : Nat) (o : List Int), e = .returned (.tuple #[.slice V m c, .nilIface]) ∧ m = n ∧ IsOrd n o ∧ (pat l o).Pairwise ahead ∧ JOrd l o ∧ Cells w' w'.heap.size V (ints o) ∧ Below w.heap.size w w'

set_option maxRecDepth 100000 in
set_option maxHeartbeats 4000000 in
theorem flowOrder_ok (A : Option Addr) (n c : Nat) (l : List (Int × Int)) (w : World) (hA : Cells w w.heap.size A (pairs l)) (hn : l.length = n) (hm : n ≤ 9223372036854775807) (he : pairErr l = 0) :
    Calls Tryd.prog 46 #[.slice A n c] w (FlowOrdOK l n w) := by
  have HE := Lib.hid he
  have HN := Lib.hid hn
  have hl16 : n ≤ 16 := by have := (pairErr_ok he).1; omega
  have hb0 : Below w.heap.size w (w.alloc (.cells #[.slice A n c] 66)) := (Below.refl _ _).alloc (Nat.le_refl _) _
  have hbx0 : (w.alloc (.cells #[.slice A n c] 66)).cell? ⟨w.heap.size, 0, none⟩ = some (.slice A n c) := by
    simp
  have c1 := Lib.hid (flowCheck A n c l (w.alloc (.cells #[.slice A n c] 66)) (hA.step hb0) hn hm)
  have HB0 := Lib.hid hb0
  clear he hn hb0 hm
  go_enter Tryd.func46, Tryd.ntmps46
  go_wp2_with fail
  refine c1.out.mono ?_
  rintro e w1 ⟨rfl, hb1⟩
  rw [HE.out, errV_zero]
  have hsz : w.heap.size + 1 ≤ w1.heap.size := by have := hb1.size; simpa using this
  have hbx : w1.cell? ⟨w.heap.size, 0, none⟩ = some (.slice A n c) := by rw [hb1.cell (by simp)]; exact hbx0
  have HBW := Lib.hid (HB0.out.trans (hb1.mono (by simp)))
  clear hbx0 c1 hb1
  go_wp2
  go_loopw [5, 6, 16] (fun h t i wr => ∃ (k a b : Nat) (U : Option Addr) (cu : Nat) (V : Option Addr) (cv : Nat), k ≤ n ∧ h = .slice U a cu ∧ t = .slice V b cv ∧ i = .int .i64 (k : Int) ∧ Hid (wr.ownsRow w1.heap.size 3 1 (.slice U a cu) a (ints (hds l k))) ∧ Hid (wr.ownsRow w1.heap.size 3 1 (.slice V b cv) b (ints (tls l k))) ∧
    Hid (∀ g, (Value.slice V b cv).ownBlock = some g → (Value.slice U a cu).ownBlock ≠ some g) ∧ Hid (Below w1.heap.size w1 wr)) (fun _ _ i _ => n - (intOf i).toNat)
  case atStart => exact ⟨0, 0, 0, none, 0, none, 0, Nat.zero_le _, rfl, rfl, rfl, World.ownsRow_nil _ _ _ _, World.ownsRow_nil _ _ _ _, fun g hg => by simp [Value.ownBlock] at hg, Below.refl _ _⟩
  case round =>
    obtain ⟨k, a, b, U, cu, V, cv, hk, rfl, rfl, rfl, HU, HV, HAP, HB⟩ := hrel
    have hak : a ≤ k := by have h1 := HU.out.1; have h2 := hds_le l k; simp only [ints_len] at h1; omega
    have hbk : b ≤ k := by have h1 := HV.out.1; have h2 := tls_le l k; simp only [ints_len] at h1; omega
    by_cases hlt : k < n
    · have hlz : (k : Int) < n := by omega
      obtain ⟨b0, off, x, y, rfl, hbb, hx, hc0, hc1⟩ := pairs_at hA (show k < l.length by rw [HN.out]; exact hlt)
      have HX : Hid (isHd l (k : Int) = decide (x ≤ y)) := by
        show _ = _
        simp [isHd, pairAt, hx]
      have hcell : ∀ oo : Nat, wr.cell? ⟨b0, oo, none⟩ = w.cell? ⟨b0, oo, none⟩ := fun oo => by
        rw [HB.out.cell (p := ⟨b0, oo, none⟩) (by simp only; omega), HBW.out.cell (p := ⟨b0, oo, none⟩) hbb]
      rw [← hcell] at hc0 hc1
      have hnew : ∀ j : Nat, ((wr.alloc (.cells #[.int .i64 x, .int .i64 y] 125)).alloc (.cells #[.int .i64 (k : Int)] 3)).cell? ⟨wr.heap.size + 1, j, none⟩ = ([.int .i64 (k : Int)] : List Value)[j]? := fun j => by
        have := (Row.new (wr.alloc (.cells #[.int .i64 x, .int .i64 y] 125)) 3 #[.int .i64 (k : Int)]).cell j
        rw [World.size_alloc] at this
        exact this
      have HNEW := Lib.hid hnew
      have hsz2 := HB.out.size
      clear hA hx hcell hnew hbx
      by_cases hxy : x ≤ y
      · have HXT : Hid (isHd l (k : Int) = true) := HX.out.trans (decide_eq_true hxy)
        go_wp2_with (at_builtin; refine wp_push _ rfl (.tmp 26) (.tmp 28) 29 rfl w1.heap.size 3 1 8 _ Tryd.underlying29 info_int rfl (by omega) U a cu _ rfl ((HU.out.alloc _).alloc _) (wr.heap.size + 1) 1 [.int .i64 (k : Int)] rfl rfl (fun j u hu => (HNEW.out j).trans hu) (by intro u hu; simp at hu; subst hu; rfl) (by omega) (by omega) (by simp; omega) ?_; intro g1 c1 w4 ho4 hb4 hg4 hgr4 hat4; have HO4 := Lib.hid ho4; have HB4 := Lib.hid hb4; have HGR4 := Lib.hid hgr4; have HAT4 := Lib.hid hat4; clear ho4 hb4 hgr4 hat4)
        go_roundw
        case rel =>
          refine ⟨k + 1, a + 1, b, _, _, V, cv, by omega, rfl, rfl, by go_num, ?_, ?_, ?_, ?_⟩
          · show World.ownsRow _ _ _ _ _ _ _
            rw [hds_snoc, if_pos HXT.out, ints_append]; exact HO4.out
          · show World.ownsRow _ _ _ _ _ _ _
            rw [tls_snoc, if_pos HXT.out, List.append_nil]
            exact own_far ((HV.out.alloc _).alloc _) HGR4.out (HAP.out)
          · intro g hg e
            simp only [Value.ownBlock, Option.some.injEq] at e
            subst e
            rcases HAT4.out with h | h
            · exact HAP.out _ hg h.symm
            · have := (HV.out.lt _ hg).2
              simp only [World.size_alloc] at h; omega
          · exact ((HB.out.alloc hsz2 _).alloc (by simp; omega) _).trans HB4.out
        case measure => simp [intOf]; omega
      · have HXT : Hid (¬ isHd l (k : Int) = true) := by show ¬ _; rw [HX.out, decide_eq_false hxy]; simp
        go_wp2_with (at_builtin; refine wp_push _ rfl (.tmp 30) (.tmp 32) 29 rfl w1.heap.size 3 1 8 _ Tryd.underlying29 info_int rfl (by omega) V b cv _ rfl ((HV.out.alloc _).alloc _) (wr.heap.size + 1) 1 [.int .i64 (k : Int)] rfl rfl (fun j u hu => (HNEW.out j).trans hu) (by intro u hu; simp at hu; subst hu; rfl) (by omega) (by omega) (by simp; omega) ?_; intro g1 c1 w4 ho4 hb4 hg4 hgr4 hat4; have HO4 := Lib.hid ho4; have HB4 := Lib.hid hb4; have HGR4 := Lib.hid hgr4; have HAT4 := Lib.hid hat4; clear ho4 hb4 hgr4 hat4)
        go_roundw
        case rel =>
          refine ⟨k + 1, a, b + 1, U, cu, _, _, by omega, rfl, rfl, by go_num, ?_, ?_, ?_, ?_⟩
          · show World.ownsRow _ _ _ _ _ _ _
            rw [hds_snoc, if_neg HXT.out, List.append_nil]
            exact own_far ((HU.out.alloc _).alloc _) HGR4.out (fun g hg e => HAP.out g e hg)
          · show World.ownsRow _ _ _ _ _ _ _
            rw [tls_snoc, if_neg HXT.out, ints_append]; exact HO4.out
          · intro g hg e
            simp only [Value.ownBlock, Option.some.injEq] at hg
            subst hg
            rcases HAT4.out with h | h
            · exact HAP.out _ h.symm e
            · have := (HU.out.lt _ e).2
              simp only [World.size_alloc] at h; omega
          · exact ((HB.out.alloc hsz2 _).alloc (by simp; omega) _).trans HB4.out
        case measure => simp [intOf]; omega
    · have hkn : k = n := by omega
      subst hkn
      have hlz : ¬ (k : Int) < k := by omega
      have hkeep : ∀ W : World, Below w1.heap.size wr W → Cells W W.heap.size A (pairs l) ∧ W.cell? ⟨w.heap.size, 0, none⟩ = some (.slice A k c) := fun W hW => by
        have h1 := HB.out.trans hW
        refine ⟨(hA.below (HBW.out.trans (h1.mono (by omega))) (Nat.le_refl _)).more ?_, ?_⟩
        · have := HBW.out.size; have := h1.size; omega
        · rw [h1.cell (p := ⟨w.heap.size, 0, none⟩) (by simp only; omega)]; exact hbx
      have HKEEP := Lib.hid hkeep
      have hgb : ∀ (W : World) (W' : World) (row : Option Nat), Below w1.heap.size wr W → W.grownBy W' row → (∀ g, row = some g → w1.heap.size ≤ g) → Below w1.heap.size wr W' := fun W W' row h1 h2 h3 => h1.grown h2 (by have := h1.size; have := HB.out.size; omega) h3
      have HGB := Lib.hid hgb
      have hsub : ∀ x ∈ hds l k, 0 ≤ x ∧ x ≤ ((k - 1 : Nat) : Int) := fun x hx => by
        have := (mem_upto k x).1 (List.mem_filter.1 hx).1; omega
      have hsub2 : ∀ x ∈ tls l k, 0 ≤ x ∧ x ≤ ((k - 1 : Nat) : Int) := fun x hx => by
        have := (mem_upto k x).1 (List.mem_filter.1 hx).1; omega
      have HUL : Hid (∀ g, (Value.slice U a cu).ownBlock = some g → w1.heap.size ≤ g) := fun g hg => (HU.out.lt g hg).1
      have HVL : Hid (∀ g, (Value.slice V b cv).ownBlock = some g → w1.heap.size ≤ g) := fun g hg => (HV.out.lt g hg).1
      have c1 := Lib.hid (sortAny (M := k - 1) (f := 86) (cb := #[.pointer (some ⟨w.heap.size, 0, none⟩)]) (c := flow1 l) HU.out (by omega) hsub
          ((upto_rising k).filter _) (weak_key fun i : Fin (k - 1 + 1) => (pairAt l i.val).1) (fun _ _ => rfl)
          (fun h0 W hg x y hx0 hx1 hy0 hy1 => by
            obtain ⟨q1, q2⟩ := HKEEP.out W (HGB.out wr W _ (Below.refl _ _) hg HUL.out)
            exact flowLess1 A k c w.heap.size l x y W q1 HN.out q2 hx0 (by omega) hy0 (by omega) (by omega)))
      have HS2 := Lib.hid hsub2
      clear hA hbx hkeep hgb hsub hsub2
      go_wp2_with fail
      refine c1.out.mono ?_
      rintro e w2 ⟨rfl, ys, hp, hs, ho, hg⟩
      have HV2 := Lib.hid (own_far HV.out hg HAP.out)
      have HB2 := Lib.hid (HGB.out wr w2 _ (Below.refl _ _) hg HUL.out)
      have c2 := Lib.hid (sortAny (M := k - 1) (f := 87) (cb := #[.pointer (some ⟨w.heap.size, 0, none⟩)]) (c := flow2 l) HV2.out (by omega) HS2.out
          ((upto_rising k).filter _) (weak_rev (weak_key fun i : Fin (k - 1 + 1) => (pairAt l i.val).2)) (fun _ _ => rfl)
          (fun h0 W hg x y hx0 hx1 hy0 hy1 => by
            obtain ⟨q1, q2⟩ := HKEEP.out W (HGB.out w2 W _ HB2.out hg HVL.out)
            exact flowLess2 A k c w.heap.size l x y W q1 HN.out q2 hx0 (by omega) hy0 (by omega) (by omega)))
      have HO := Lib.hid ho
      have HP := Lib.hid hp
      have HS := Lib.hid hs
      clear c1 hp hs ho hg
      go_wp2_with fail
      refine c2.out.mono ?_
      rintro e w3 ⟨rfl, zs, hp2, hs2, ho2, hg2⟩
      have HO3 := Lib.hid (own_far HO.out hg2 (fun g hg e => HAP.out g e hg))
      have HB3 := Lib.hid (HGB.out w2 w3 _ HB2.out hg2 HVL.out)
      have HF : Hid ((IsOrd k (ys ++ zs) ∧ (pat l (ys ++ zs)).Pairwise ahead) ∧ JOrd l (ys ++ zs)) := by
        have := HN.out; subst this
        exact ⟨flow_order HP.out hp2 HS.out hs2, ys, zs, rfl, HP.out, hp2, HS.out, hs2⟩
      have HO2 := Lib.hid ho2
      have hlb : (ints zs).length = b * 1 := ho2.1
      have hla : (ints ys).length = a * 1 := HO3.out.1
      have hab : a + b = k := by
        have h1 := HP.out.length_eq; have h2 := hp2.length_eq
        have h3 := (parts_perm l k).length_eq
        rw [upto_len, List.length_append] at h3
        rw [ints_len] at hla hlb
        omega
      have hw3 : w1.heap.size ≤ w3.heap.size := by have := HB.out.size; have := HB3.out.size; omega
      clear c2 hp2 hs2 ho2 hg2
      go_wp2_with (at_builtin; refine wp_cat _ rfl (.tmp 41) (.tmp 42) 29 rfl w1.heap.size 3 1 8 _ Tryd.underlying29 info_int rfl (by omega) U a cu (ints ys) rfl HO3.out w3.heap.size V b cv (ints zs) rfl hlb (HO2.out.own (by omega)) (one_ints _) (by omega) (by omega) hw3 ?_; intro V4 c4 w4 ho4 hb4 hg4; have HO4 := Lib.hid ho4; have HB4 := Lib.hid hb4; clear ho4 hb4 hg4)
      go_wp2
      go_ret2
      refine ⟨V4, k, c4, ys ++ zs, rfl, rfl, HF.out.1.1, HF.out.1.2, HF.out.2, ?_, ?_⟩
      · rw [ints_append]; exact HO4.out.own (by omega)
      · exact HBW.out.trans ((HB.out.trans (HB3.out.trans HB4.out)).mono (by omega))
end Go.Proofs.YtpaoiaogcckibaaDoor
