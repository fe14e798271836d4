/- What slots.Pick answers: those that are picked. Conditions: lengths are such that slices can have. -/
import Derived.Test.YtpaoiaogcckibaaDoorSlotsBy
namespace Go.Proofs.YtpaoiaogcckibaaDoor
open Go.RowKit
set_option maxRecDepth 100000 in
set_option maxHeartbeats 1000000 in
theorem slotsPick_bad (A : Option Addr) (n c : Nat) (l : List Sp) (w : World) (hA : Cells w w.heap.size A (pairs l)) (hn : l.length = n) (hm : n ≤ 9223372036854775807) (he : spansErr l ≠ 0) :
    Calls Tryd.prog 54 #[.slice A n c] w fun e w' => e = .returned (.tuple #[.slice none 0 0, .iface 91 (.int .i64 (spansErr l))]) ∧ Below w.heap.size w w' := by
  have HF := Lib.hid (errV_bad he)
  have c1 := Lib.hid (slotsCheck A n c l w hA hn hm)
  clear he hn hA
  go_enter Tryd.func54, Tryd.ntmps54
  go_wp2_with fail
  refine c1.out.mono ?_
  rintro e w1 ⟨rfl, hb1⟩
  rw [HF.out]
  go_wp2
  go_ret2
  exact ⟨rfl, hb1⟩
/-- the same, with the order by the ends -/
def PickF (w : World) (l : List Sp) (e : Ending) (w' : World) : Prop :=
  ∃ (V : Option Addr) (c : Nat) (xs ys : List Int), e = .returned (.tuple #[.slice V xs.length c, .nilIface]) ∧ (IsOrd l.length ys ∧ ys.Pairwise (Ahead (byC (fun x => x.2) l) id) ∧ xs = pickL l ys 0) ∧ Picked l xs ∧ (xs.Pairwise fun a b => (spAt l a).2 ≤ (spAt l b).1) ∧ w'.ownsRow w.heap.size 3 1 (.slice V xs.length c) xs.length (ints xs) ∧ Below w.heap.size w w'
def PickOK (w : World) (l : List Sp) (e : Ending) (w' : World) : Prop :=
  ∃ (V : Option Addr) (c : Nat) (xs : List Int), e = .returned (.tuple #[.slice V xs.length c, .nilIface]) ∧ Picked l xs ∧ (xs.Pairwise fun a b => (spAt l a).2 ≤ (spAt l b).1) ∧ w'.ownsRow w.heap.size 3 1 (.slice V xs.length c) xs.length (ints xs) ∧ Below w.heap.size w w'
theorem cmpI_le0 {a b : Int} : cmpI a b ≤ 0 ↔ a ≤ b := by
  unfold cmpI
  repeat' split
  all_goals omega
theorem ahead_le0 {c : Int → Int → Int} {x y : Int} (h : Ahead c id x y) : c x y ≤ 0 := by unfold Ahead at h; omega
set_option maxRecDepth 100000 in
set_option maxHeartbeats 2000000 in
theorem slotsPick_okF (A : Option Addr) (n c : Nat) (l : List Sp) (w : World) (hA : Cells w w.heap.size A (pairs l)) (hn : l.length = n) (he : spansErr l = 0) :
    Calls Tryd.prog 54 #[.slice A n c] w (PickF w l) := by
  obtain ⟨hl24, hsp⟩ := spansErr_ok he
  have HSP := Lib.hid hsp
  have HN := Lib.hid hn
  have c1 := slotsCheck A n c l w hA hn (by omega)
  rw [he, errV_zero] at c1
  have C1 := Lib.hid c1
  have hn24 : n ≤ 24 := by omega
  clear hsp he c1 hl24
  go_enter Tryd.func54, Tryd.ntmps54
  go_wp2_with fail
  refine C1.out.mono ?_
  rintro e w1 ⟨rfl, hb1⟩
  have HB1 := Lib.hid hb1
  have hsz := hb1.size
  have c2 := by_ 90 (fun x => x.2) (fun _ _ => rfl) (fun x y W => pickKey x y W) A n c l w1 (hA.step hb1) hn (by omega)
  have C2 := Lib.hid c2
  clear c2 hb1 C1 hn
  go_wp2_with fail
  refine C2.out.mono ?_
  rintro e w2 ⟨g, ys, rfl, hio, hpw, hown, hb2⟩
  have HB2 : Hid (Below w.heap.size w w2) := HB1.out.trans (hb2.mono hsz)
  have HIO := Lib.hid hio
  have HGL := Lib.hid (hown.lt g rfl)
  have HOC : Hid (∀ i, i < n → w2.cell? ⟨g, i, none⟩ = (ints ys)[i]?) := fun i hi => hown.cellAt i (by omega)
  have HPW := Lib.hid hpw
  have HSO : Hid (ys.Pairwise fun a b => (spAt l a).2 ≤ (spAt l b).2) := hpw.imp fun {a b} hab => cmpI_le0.1 (show byC (fun x => x.2) l a b ≤ 0 from ahead_le0 hab)
  have hA2 := hA.below HB2.out (Nat.le_refl _)
  clear hio hpw hown hb2 C2 HB1 hA
  go_wp2
  go_loopw [17, 5, 6] (fun i v fr wr => ∃ (k : Nat) (V : Option Addr) (cv : Nat) (xs : List Int) (free : Int), i = .int .i64 (k : Int) ∧ k ≤ n ∧ v = .slice V xs.length cv ∧ fr = .int .i64 free ∧ xs.length ≤ k ∧ Hid (xs ++ pickL l (ys.drop k) free = pickL l ys 0) ∧ Hid (wr.ownsRow w.heap.size 3 1 (.slice V xs.length cv) xs.length (ints xs)) ∧ Hid (∀ i, i < n → wr.cell? ⟨g, i, none⟩ = (ints ys)[i]?) ∧ Hid (∀ h, (Value.slice V xs.length cv).ownBlock = some h → h ≠ g) ∧ Hid (w2.heap.size ≤ wr.heap.size) ∧ Hid (Below w.heap.size w wr)) (fun i _ _ _ => n - (intOf i).toNat)
  case atStart => exact ⟨0, none, 0, [], 0, rfl, by omega, rfl, rfl, by simp, by show _ = _; simp, World.ownsRow_nil _ _ _ _, HOC.out, fun h hh => by simp [Value.ownBlock] at hh, Nat.le_refl _, HB2.out⟩
  case round =>
    clear HOC
    obtain ⟨k, V, cv, xs, free, rfl, hk, rfl, rfl, hxk, HI, HO, HC, HNE, HSZ, HB⟩ := hrel
    by_cases hlt : k < n
    · have hlz : (k : Int) < n := by omega
      have hky : k < ys.length := by have := HIO.out.1; omega
      have hyk : ys[k]? = some ys[k] := List.getElem?_eq_getElem hky
      obtain ⟨y, hy⟩ : ∃ y, y = ys[k] := ⟨_, rfl⟩
      rw [← hy] at hyk
      have hin := HIO.out.2.1 y (List.mem_of_getElem? hyk)
      obtain ⟨z, rfl⟩ : ∃ z : Nat, y = z := ⟨y.toNat, by omega⟩
      have hcy := HC.out k hlt
      simp only [ints, List.getElem?_map, hyk, Option.map_some] at hcy
      have hzn : z < n := by omega
      obtain ⟨b, off, x0, x1, rfl, hbb, hx, hc0, hc1⟩ := pairs_at hA2 (show z < l.length by rw [HN.out]; exact hzn)
      rw [← show wr.cell? _ = w2.cell? _ from (HB.out.cell (p := ⟨b, off + z * 2, none⟩) hbb).trans (HB2.out.cell (p := ⟨b, off + z * 2, none⟩) hbb).symm] at hc0
      rw [← show wr.cell? _ = w2.cell? _ from (HB.out.cell (p := ⟨b, off + z * 2 + 1, none⟩) hbb).trans (HB2.out.cell (p := ⟨b, off + z * 2 + 1, none⟩) hbb).symm] at hc1
      have hs := spAt_nat hx
      have HD := Lib.hid (drop_at hyk)
      have HS := Lib.hid hs
      have hsz2 := HB.out.size
      have hgl : g < wr.heap.size := by have := HGL.out; have := HSZ.out; omega
      clear hy hx hs hyk hA2 hky
      by_cases hfree : free ≤ x0
      · have HI2 : Hid ((xs ++ [(z : Int)]) ++ pickL l (ys.drop (k + 1)) x1 = pickL l ys 0) := by
          show _ = _
          rw [← HI.out, HD.out, pickL, HS.out, if_pos hfree, List.append_assoc]; rfl
        have hnew : ∀ j : Nat, (wr.alloc (.cells #[.int .i64 (z : Int)] 3)).cell? ⟨wr.heap.size, j, none⟩ = ([.int .i64 (z : Int)] : List Value)[j]? := fun j => (Row.new wr 3 #[.int .i64 (z : Int)]).cell j
        have HNEW := Lib.hid hnew
        have hlw : b < wr.heap.size := by have := HB.out.size; omega
        have hkeep : ∀ (W : World), (wr.alloc (.cells #[.int .i64 (z : Int)] 3)).grownBy W (Value.slice V xs.length cv).ownBlock → Below w.heap.size (wr.alloc (.cells #[.int .i64 (z : Int)] 3)) W → W.cell? ⟨b, off + z * 2 + 1, none⟩ = some (.int .i64 x1) := fun W _ hW => by
          rw [hW.cell (p := ⟨b, off + z * 2 + 1, none⟩) hbb, World.cell?_alloc_lt _ _ ⟨b, off + z * 2 + 1, none⟩ hlw]; exact hc1
        have HKEEP := Lib.hid hkeep
        clear hnew hkeep
        go_wp2_with (at_builtin; refine wp_push _ rfl (.tmp 28) (.tmp 30) 29 rfl w.heap.size 3 1 8 _ Tryd.underlying29 info_int rfl (by omega) V xs.length cv _ rfl (HO.out.alloc _) wr.heap.size 1 [.int .i64 (z : Int)] rfl rfl (fun j u hu => (HNEW.out j).trans hu) (by intro u hu; simp at hu; subst hu; rfl) (by omega) (by omega) (by simp; omega) ?_; intro g1 c1 w4 ho4 hb4 hg4 hgr4 hat4; have hk4 := HKEEP.out w4 hgr4 hb4)
        have HO4 := Lib.hid ho4
        have HB4 : Hid (Below w.heap.size w w4) := (HB.out.alloc hsz2 _).trans hb4
        have HC4 : Hid (∀ i, i < n → w4.cell? ⟨g, i, none⟩ = (ints ys)[i]?) := fun i hi => by
          rw [hgr4.cell_far ⟨g, i, none⟩ (by simp; omega) (fun e => HNE.out g e.symm rfl), World.cell?_alloc_lt _ _ ⟨g, i, none⟩ hgl]; exact HC.out i hi
        have HN4 : Hid (g1 ≠ g) := by
          rcases hat4 with h | h
          · exact HNE.out g1 h.symm
          · intro e; simp at h; omega
        have HS4 : Hid (w2.heap.size ≤ w4.heap.size) := by have := hgr4.size; simp at this; have := HSZ.out; show w2.heap.size ≤ w4.heap.size; omega
        clear ho4 hb4 hg4 hgr4 hat4 hk4
        go_roundw
        case rel =>
          refine ⟨k + 1, some ⟨g1, 0, none⟩, c1, xs ++ [(z : Int)], x1, by go_num, by omega, by simp, rfl, by simp; omega, HI2, ?_, HC4, fun h hh => ?_, HS4, HB4⟩
          · show World.ownsRow _ _ _ _ _ _ _
            rw [ints_append, List.length_append]; exact HO4.out
          · simp only [Value.ownBlock, Option.some.injEq] at hh; rw [← hh]; exact HN4.out
        case measure => simp [intOf]; omega
      · have HI2 : Hid (xs ++ pickL l (ys.drop (k + 1)) free = pickL l ys 0) := by
          show _ = _
          rw [← HI.out, HD.out, pickL, HS.out, if_neg hfree]
        go_wp2
        go_roundw
        case rel => exact ⟨k + 1, V, cv, xs, free, by go_num, by omega, rfl, rfl, by omega, HI2, HO.out, HC.out, HNE.out, HSZ.out, HB.out⟩
        case measure => simp [intOf]; omega
    · have hlz : ¬ (k : Int) < n := by omega
      have HX : Hid (xs = pickL l ys 0) := by
        show _ = _
        rw [← HI.out, drop_end (by have := HIO.out.1; omega)]; simp [pickL]
      go_wp2
      go_ret2
      refine ⟨V, cv, xs, ys, rfl, ⟨by rw [HN.out]; exact HIO.out, HPW.out, HX.out⟩, ?_, ?_, HO.out, HB.out⟩
      · rw [HX.out]
        exact picked_of (fun x hx => (HSP.out x hx).1) (by rw [HN.out]; exact HIO.out) HSO.out
      · rw [HX.out]
        refine pickL_apart l ys 0 fun i hi => ?_
        have h1 := HIO.out.2.1 i hi
        have hlt : i.toNat < l.length := by have := HN.out; omega
        have e : spAt l i = l[i.toNat] := by simp [spAt, List.getD, hlt]
        rw [e]; exact (HSP.out _ (List.getElem_mem hlt)).1.2
theorem slotsPick_ok (A : Option Addr) (n c : Nat) (l : List Sp) (w : World) (hA : Cells w w.heap.size A (pairs l)) (hn : l.length = n) (he : spansErr l = 0) :
    Calls Tryd.prog 54 #[.slice A n c] w (PickOK w l) :=
  (slotsPick_okF A n c l w hA hn he).mono fun _ _ ⟨V, c, xs, _, h1, _, h2, h3, h4, h5⟩ => ⟨V, c, xs, h1, h2, h3, h4, h5⟩
end Go.Proofs.YtpaoiaogcckibaaDoor
