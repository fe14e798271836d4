/- What slots.Rooms answers. Conditions: lengths are such that slices can have. -/
import Derived.Test.YtpaoiaogcckibaaDoorSlotsPick
import Derived.Test.YtpaoiaogcckibaaDoorSlotsRoomsP
import Derived.Deep.DeepCutAuto
import Derived.Deep.LoopGhost
import Derived.WalkMore
namespace Go.Proofs.YtpaoiaogcckibaaDoor
open Go.RowKit
set_option maxHeartbeats 1000000 in
theorem slotsRooms_bad (A : Option Addr) (n c : Nat) (l : List Sp) (w : World) (hA : Cells w w.heap.size A (pairs l)) (hn : l.length = n) (hm : n ≤ 9223372036854775807) (he : spansErr l ≠ 0) :
    Calls Tryd.prog 55 #[.slice A n c] w fun e w' => e = .returned (.tuple #[.slice none 0 0, .iface 91 (.int .i64 (spansErr l))]) ∧ Below w.heap.size w w' := by
  have HF := Lib.hid (errV_bad he)
  have c1 := Lib.hid (slotsCheck A n c l w hA hn hm)
  clear he hn hA
  go_enter Tryd.func55, Tryd.ntmps55
  go_wp2_with fail
  go_step3
  go_wp2_with fail
  refine c1.out.mono ?_
  rintro e w1 ⟨rfl, hb1⟩
  rw [HF.out]
  go_wp2
  try rw [Exit.noGoto_ret]
  go_ret2
  exact ⟨rfl, hb1⟩
/-- the same, with the order by the beginnings -/
def RoomsF (w : World) (l : List Sp) (n : Nat) (e : Ending) (w' : World) : Prop :=
  ∃ (g : Nat) (ys o fr : List Int), e = .returned (.tuple #[.slice (some ⟨g, 0, none⟩) n n, .nilIface]) ∧ (IsOrd n ys ∧ ys.Pairwise (Ahead (byC (fun x => x.1) l) id)) ∧ RoomsTo l ys o fr ∧ Row w' g 3 (ints o) ∧ w.heap.size ≤ g ∧ Below w.heap.size w w'
def RoomsOK (w : World) (l : List Sp) (n : Nat) (e : Ending) (w' : World) : Prop :=
  ∃ (g : Nat) (ys o fr : List Int), e = .returned (.tuple #[.slice (some ⟨g, 0, none⟩) n n, .nilIface]) ∧ IsOrd n ys ∧ RoomsTo l ys o fr ∧ Row w' g 3 (ints o) ∧ w.heap.size ≤ g ∧ Below w.heap.size w w'
theorem rooms_none (l : List Sp) (n : Nat) (h : l.length = n) : RoomsTo l [] (List.replicate n 0) [] :=
  ⟨by simp [h], fun i hi => by simp at hi, fun i j hi => by simp at hi, fun r hr => by simp at hr, (deepUp_le l 1001).1, by rw [← h]; rfl⟩
set_option maxHeartbeats 4000000 in
set_option maxRecDepth 100000 in
theorem slotsRooms_okF (A : Option Addr) (n c : Nat) (l : List Sp) (w : World) (hA : Cells w w.heap.size A (pairs l)) (hn : l.length = n) (he : spansErr l = 0) :
    Calls Tryd.prog 55 #[.slice A n c] w (RoomsF w l n) := by
  obtain ⟨hl24, hsp⟩ := spansErr_ok he
  have HSP := Lib.hid hsp
  have HN := Lib.hid hn
  have c1 := slotsCheck A n c l w hA hn (by omega)
  rw [he, errV_zero] at c1
  have C1 := Lib.hid c1
  have hn24 : n ≤ 24 := by omega
  clear hsp he c1 hl24
  have hmk := make_row 29 3 (.int .i64 0) 8 Tryd.underlying29 info_int rfl n (by omega) (by omega)
  go_enter Tryd.func55, Tryd.ntmps55
  go_wp2_with fail
  go_step3
  go_wp2_with fail
  refine C1.out.mono ?_
  rintro e w1 ⟨rfl, hb1⟩
  have HB1 := Lib.hid hb1
  clear hb1 C1 hn
  go_upto_region 5 with fail
  have HR2 : Hid (Row (w1.alloc (.cells (madeCells #[.int .i64 0] n) 3)) w1.heap.size 3 (ints (List.replicate n 0))) := by
    have h := Row.made w1 3 (.int .i64 0) n
    show Row _ _ _ _
    rw [ints, List.map_replicate]; exact h
  have HB2 : Hid (Below w.heap.size w (w1.alloc (.cells (madeCells #[.int .i64 0] n) 3))) := HB1.out.alloc HB1.out.size _
  have HG0 : Hid (w.heap.size ≤ w1.heap.size) := HB1.out.size
  clear hmk
  generalize w1.alloc (.cells (madeCells #[.int .i64 0] n) 3) = w2 at HR2 HB2 ⊢
  generalize w1.heap.size = g0 at HR2 HG0 ⊢
  clear HB1
  have c2 := by_ 91 (fun x => x.1) (fun _ _ => rfl) (fun x y W => roomsKey x y W) A n c l w2 ((hA.below HB2.out (Nat.le_refl _)).more HB2.out.size) HN.out (by omega)
  have C2 := Lib.hid c2
  clear c2
  go_wp2_with fail
  go_step3
  go_wp2_with fail
  refine C2.out.mono ?_
  rintro e w3 ⟨g, ys, rfl, hio, hpw, hown, hb3⟩
  have HB3 : Hid (Below w.heap.size w w3) := HB2.out.trans (hb3.mono HB2.out.size)
  have HIO := Lib.hid hio
  have HGL := Lib.hid (hown.lt g rfl)
  have HOC : Hid (∀ i, i < n → w3.cell? ⟨g, i, none⟩ = (ints ys)[i]?) := fun i hi => hown.cellAt i (by omega)
  have HPW := Lib.hid hpw
  have HSO : Hid (ys.Pairwise fun a b => (spAt l a).1 ≤ (spAt l b).1) := hpw.imp fun {a b} hab => cmpI_le0.1 (show byC (fun x => x.1) l a b ≤ 0 from ahead_le0 hab)
  have HR3 : Hid (Row w3 g0 3 (ints (List.replicate n 0))) := HR2.out.step hb3
  have HGG : Hid (g0 < g) := by have := HR2.out.lt; have := HGL.out.1; show g0 < g; omega
  clear hio hpw hown hb3 C2 HR2 HB2
  go_wp2
  go_loopg [22, 6] n (fun gh i v wr => ∃ (k : Nat) (V : Option Addr) (cv : Nat) (o fr : List Int), k + gh = n ∧ i = .int .i64 (k : Int) ∧ k ≤ n ∧ v = .slice V fr.length cv ∧ fr.length ≤ k ∧ Hid (RoomsTo l (ys.take k) o fr) ∧ Hid (Row wr g0 3 (ints o)) ∧ Hid (wr.ownsRow w.heap.size 3 1 (.slice V fr.length cv) fr.length (ints fr)) ∧ Hid (∀ i, i < n → wr.cell? ⟨g, i, none⟩ = (ints ys)[i]?) ∧ Hid (fr.length = 0 ∨ ∃ g1, V = some ⟨g1, 0, none⟩) ∧ Hid (∀ h, (Value.slice V fr.length cv).ownBlock = some h → h ≠ g ∧ h ≠ g0) ∧ Hid (w3.heap.size ≤ wr.heap.size) ∧ Hid (Below w.heap.size w wr))
  case atStart => exact ⟨0, none, 0, List.replicate n 0, [], by omega, rfl, by omega, rfl, by simp, rooms_none l n HN.out, HR3.out, World.ownsRow_nil _ _ _ _, HOC.out, Or.inl rfl, fun h hh => by simp [Value.ownBlock] at hh, Nat.le_refl _, HB3.out⟩
  case round =>
    clear HOC HR3
    obtain ⟨k, V, cv, o, fr, hkg, rfl, hk, rfl, hfk, HI, HR, HO, HC, HV, HNE, HSZ, HB⟩ := hrel
    by_cases hlt : k < n
    · have hlz : (k : Int) < n := by omega
      have hky : k < ys.length := by have := HIO.out.1; omega
      have hyk : ys[k]? = some ys[k] := List.getElem?_eq_getElem hky
      obtain ⟨y, hy⟩ : ∃ y, y = ys[k] := ⟨_, rfl⟩
      rw [← hy] at hyk
      have hin := HIO.out.2.1 y (List.mem_of_getElem? hyk)
      obtain ⟨z, rfl⟩ : ∃ z : Nat, y = z := ⟨y.toNat, by omega⟩
      have hcy := HC.out k hlt
      simp only [ints, List.getElem?_map, hyk, Option.map_some] at hcy
      have hzn : z < n := by omega
      have hzl : z < l.length := by rw [HN.out]; exact hzn
      obtain ⟨b, off, x0, x1, rfl, hbb, hx, hc0, hc1⟩ := pairs_at hA hzl
      rw [← HB.out.cell (p := ⟨b, off + z * 2, none⟩) hbb] at hc0
      rw [← HB.out.cell (p := ⟨b, off + z * 2 + 1, none⟩) hbb] at hc1
      have hs := spAt_nat hx
      have hwx := HSP.out _ (List.mem_of_getElem? hx)
      have HT := Lib.hid (take_at hyk)
      have hny : (z : Int) ∉ ys.take k := fun hm => by
        have hnd := HIO.out.2.2
        obtain ⟨j, hj, he⟩ := List.mem_take_iff_getElem.1 hm
        have := (List.getElem_inj hnd).1 (he.trans hy)
        omega
      have hord : ∀ j : Nat, (j : Int) ∈ ys.take k → (spAt l j).1 ≤ (spAt l z).1 := fun j hm => by
        obtain ⟨i, hi, he⟩ := List.mem_take_iff_getElem.1 hm
        have := (List.pairwise_iff_getElem.1 HSO.out) i k (by omega) hky (by omega)
        rw [he, ← hy] at this; exact this
      have HOLD : Hid (∀ r, r < fr.length → fr[r]! ≤ x0 → (∀ t, t < r → x0 < fr[t]!) → RoomsTo l (ys.take (k + 1)) (o.set z r) (fr.set r x1)) := fun r hr hle hfs => by
        rw [HT.out]
        have := HI.out.old hzl hny hr (by rw [hs]; exact hle) (by rw [hs]; exact hfs) (by rw [hs]; exact hwx.1.2)
        rw [hs] at this; exact this
      have HNEWR : Hid ((∀ r, r < fr.length → x0 < fr[r]!) → RoomsTo l (ys.take (k + 1)) (o.set z fr.length) (fr ++ [x1])) := fun h => by
        rw [HT.out]
        have := HI.out.new hzl hny (by rw [hs]; exact h) hord (by rw [hs]; exact ⟨hwx.1.1, hwx.1.2, hwx.2⟩)
        rw [hs] at this; exact this
      have hfz := HR.out.frozen z
      have hoz := HR.out.cell z
      rw [ints, List.getElem?_map, oget o (show z < o.length by rw [HI.out.len]; exact hzl), Option.map_some] at hoz
      have hgl := HR.out.lt
      have hsz2 := HB.out.size
      have hbg : b ≠ g0 := by have := HG0.out; omega
      clear hy hyk hin hx hs hwx hny hord hky
      go_wp2
      go_loopg [28, 9, 10] fr.length (fun g2 i _ _ wy => ∃ j : Nat, j + g2 = fr.length ∧ i = .int .i64 (j : Int) ∧ j ≤ fr.length ∧ Hid (∀ t, t < j → x0 < fr[t]!) ∧ wr = wy)
      case atStart => exact ⟨0, by omega, rfl, by omega, fun t h => by omega, rfl⟩
      case round =>
        obtain ⟨j, hjg, rfl, hj, HJ, rfl⟩ := hrel
        by_cases hjl : j < fr.length
        · have hjz : (j : Int) < fr.length := by omega
          obtain ⟨g1, rfl⟩ : ∃ g1, V = some ⟨g1, 0, none⟩ := HV.out.resolve_left (by omega)
          have hfj := HO.out.cellAt j (by omega)
          have hff := HO.out.frozenAt j
          have hne1 := HNE.out g1 rfl
          have hne2 : g1 ≠ g0 := hne1.2
          have hne3 : g0 ≠ g1 := fun e => hne1.2 e.symm
          obtain ⟨v, hv⟩ : ∃ v, v = fr[j]! := ⟨_, rfl⟩
          rw [ints, List.getElem?_map, oget fr hjl, ← hv, Option.map_some] at hfj
          by_cases hfit : v ≤ x0
          · have HN2 := Lib.hid (HOLD.out j hjl (by rw [← hv]; exact hfit) HJ.out)
            have hb1 : w.heap.size ≤ g1 := (HO.out.lt g1 rfl).1
            clear hv hA
            go_wp2
            go_roundg (n - (k + 1))
            case measure => omega
            case rel =>
              have e1 : g ≠ g1 := fun e => hne1.1 e.symm
              have e2 : g0 ≠ g1 := fun e => hne1.2 e.symm
              have e3 : g ≠ g0 := by have := HGG.out; omega
              refine ⟨k + 1, some ⟨g1, 0, none⟩, cv, o.set z j, fr.set j x1, by omega, by go_num, by omega, by rw [List.length_set], by rw [List.length_set]; omega, HN2, ?_, ?_, fun i hi => ?_, Or.inr ⟨g1, rfl⟩, fun h hh => ?_, ?_, ?_⟩
              · show Row _ _ _ _
                rw [← ints_set]
                exact (HR.out.far (p := ⟨g1, j, none⟩) e2 _).set_ z _
              · show World.ownsRow _ _ _ _ _ _ _
                rw [← ints_set, List.length_set]
                exact ownsRow_setCell_other (a := ⟨g0, z, none⟩) (HO.out.stored j (.int .i64 x1)).1 (fun e => (HNE.out g0 e).2 rfl) _
              · exact ((World.cell?_of_block (a := ⟨g, i, none⟩) (Below.heap_setCell _ _ _ g e3)).trans (World.cell?_of_block (a := ⟨g, i, none⟩) (Below.heap_setCell _ _ _ g e1))).trans (HC.out i hi)
              · rw [List.length_set] at hh; exact HNE.out h hh
              · show _ ≤ _
                have := HSZ.out
                simp; omega
              · exact (HB.out.setCell hb1 _).setCell HG0.out _
          · have HJ2 : Hid (∀ t, t < j + 1 → x0 < fr[t]!) := fun t ht => by
              by_cases e : t = j
              · subst e; rw [← hv]; omega
              · exact HJ.out t (by omega)
            clear hv hA
            go_wp2
            go_roundg (fr.length - (j + 1))
            case measure => omega
            case rel => exact ⟨j + 1, by omega, by go_num, by omega, HJ2, rfl⟩
        · have hjz : ¬ (j : Int) < fr.length := by omega
          have HN2 := Lib.hid (HNEWR.out fun r hr => HJ.out r (by omega))
          have e3 : g ≠ g0 := by have := HGG.out; omega
          go_upto_region 17 with fail
          have HO5 : Hid ((wr.setCell ⟨g0, z, none⟩ (.int .i64 fr.length)).ownsRow w.heap.size 3 1 (.slice V fr.length cv) fr.length (ints fr)) := ownsRow_setCell_other (a := ⟨g0, z, none⟩) HO.out (fun e => (HNE.out g0 e).2 rfl) _
          have HR5 : Hid (Row (wr.setCell ⟨g0, z, none⟩ (.int .i64 fr.length)) g0 3 (ints (o.set z fr.length))) := by
            show Row _ _ _ _
            rw [← ints_set]; exact HR.out.set_ z _
          have HC5 : Hid (∀ i, i < n → (wr.setCell ⟨g0, z, none⟩ (.int .i64 fr.length)).cell? ⟨g, i, none⟩ = (ints ys)[i]?) := fun i hi => (World.cell?_of_block (a := ⟨g, i, none⟩) (Below.heap_setCell _ _ _ g e3)).trans (HC.out i hi)
          have HB5 : Hid (Below w.heap.size w (wr.setCell ⟨g0, z, none⟩ (.int .i64 fr.length))) := HB.out.setCell HG0.out _
          have HSZ5 : Hid (w3.heap.size ≤ (wr.setCell ⟨g0, z, none⟩ (.int .i64 fr.length)).heap.size) := by
            have := HSZ.out
            show _ ≤ _
            simp; exact this
          have hc5 : (wr.setCell ⟨g0, z, none⟩ (.int .i64 fr.length)).cell? ⟨b, off + z * 2 + 1, none⟩ = some (.int .i64 x1) := (World.cell?_of_block (a := ⟨b, off + z * 2 + 1, none⟩) (Below.heap_setCell _ _ _ b hbg)).trans hc1
          clear hc0 hc1 hfz hoz hgl hsz2 HO HR HC HB HSZ hcy hA
          generalize wr.setCell ⟨g0, z, none⟩ (.int .i64 fr.length) = w5 at HO5 HR5 HC5 HB5 HSZ5 hc5 ⊢
          have HNEW := Lib.hid (Row.new w5 3 #[.int .i64 x1]).cell
          have hsz5 := HB5.out.size
          have hg5 : g < w5.heap.size := by have := HGL.out.2; have := HSZ5.out; omega
          have hg05 : g0 < w5.heap.size := HR5.out.lt
          go_wp2_with (at_builtin; refine wp_push _ rfl (.tmp 58) (.tmp 64) 29 rfl w.heap.size 3 1 8 _ Tryd.underlying29 info_int rfl (by omega) V fr.length cv _ rfl (HO5.out.alloc _) w5.heap.size 1 [.int .i64 x1] rfl rfl (fun j u hu => (HNEW.out j).trans hu) (by intro u hu; simp at hu; subst hu; rfl) (by omega) (by omega) (by simp; omega) ?_; intro g1 c1 w6 ho6 hb6 hg6 hgr6 hat6)
          have HO6 := Lib.hid ho6
          have HB6 : Hid (Below w.heap.size w w6) := (HB5.out.alloc hsz5 _).trans hb6
          have HC6 : Hid (∀ i, i < n → w6.cell? ⟨g, i, none⟩ = (ints ys)[i]?) := fun i hi => by
            rw [hgr6.cell_far ⟨g, i, none⟩ (by simp; omega) (fun e => (HNE.out g e.symm).1 rfl), World.cell?_alloc_lt _ _ ⟨g, i, none⟩ hg5]; exact HC5.out i hi
          have HR6 : Hid (Row w6 g0 3 (ints (o.set z fr.length))) := (HR5.out.alloc _).grown hgr6 (fun e => (HNE.out g0 e.symm).2 rfl)
          have HN6 : Hid (g1 ≠ g ∧ g1 ≠ g0) := by
            rcases hat6 with h | h
            · exact HNE.out g1 h.symm
            · simp at h
              exact ⟨by omega, by omega⟩
          have HS6 : Hid (w3.heap.size ≤ w6.heap.size) := by have := hgr6.size; simp at this; have := HSZ5.out; show w3.heap.size ≤ w6.heap.size; omega
          clear ho6 hb6 hg6 hgr6 hat6
          go_roundg (n - (k + 1))
          case measure => omega
          case rel =>
            refine ⟨k + 1, some ⟨g1, 0, none⟩, c1, o.set z fr.length, fr ++ [x1], by omega, by go_num, by omega, by simp, by simp; omega, HN2, HR6.out, ?_, HC6.out, Or.inr ⟨g1, rfl⟩, fun h hh => ?_, HS6.out, HB6.out⟩
            · show World.ownsRow _ _ _ _ _ _ _
              rw [ints_append, List.length_append]; exact HO6.out
            · simp only [Value.ownBlock, Option.some.injEq] at hh; rw [← hh]; exact HN6.out
    · have hlz : ¬ (k : Int) < n := by omega
      go_wp2
      try rw [Exit.noGoto_ret]
      go_ret2
      have hkn : k = n := by omega
      have hI := HI.out
      rw [List.take_of_length_le (by have := HIO.out.1; omega)] at hI
      exact ⟨g0, ys, o, fr, rfl, ⟨HIO.out, HPW.out⟩, hI, HR.out, HG0.out, HB.out⟩
theorem slotsRooms_ok (A : Option Addr) (n c : Nat) (l : List Sp) (w : World) (hA : Cells w w.heap.size A (pairs l)) (hn : l.length = n) (he : spansErr l = 0) :
    Calls Tryd.prog 55 #[.slice A n c] w (RoomsOK w l n) :=
  (slotsRooms_okF A n c l w hA hn he).mono fun _ _ ⟨g, ys, o, fr, h1, h2, h3, h4, h5, h6⟩ => ⟨g, ys, o, fr, h1, h2.1, h3, h4, h5, h6⟩
end Go.Proofs.YtpaoiaogcckibaaDoor
