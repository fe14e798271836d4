/- The walk of TopKruskal. Conditions: lengths are such that slices can have. -/
import Derived.Test.YtejbilcofbjpiaaTopKruskalP
import Derived.Test.YtejbilcofbjpiaaSortFact
namespace Go.Proofs.Ytejbilcofbjpiaa
open Go.RowKit
set_option maxHeartbeats 8000000 in
set_option maxRecDepth 100000 in
theorem topKruskalW (x : Int) (A : Option Addr) (n c : Nat) (l : List Edge) (w : World) (_ : -9223372036854775808 ≤ x ∧ x ≤ 9223372036854775807) (hA : Cells w w.heap.size A (edges l)) (hn : l.length = n) (hm : n * 24 ≤ 140737488351232) (_ : ∀ e ∈ l, InEdge e) :
    Calls Try.prog 3 #[graphV x A n c] w fun e w' => e = .returned (.bool true) ∧ Below w.heap.size w w' := by
  have HN := Lib.hid hn
  have HA := Lib.hid hA
  have hn8 : n ≤ 9223372036854775807 := by omega
  have HB0 : Hid (Below w.heap.size w (w.alloc (.cells #[.int .i64 x, .slice A n c] 24))) := (Below.refl _ _).alloc (Nat.le_refl _) _
  have HR0 : Hid (Row (w.alloc (.cells #[.int .i64 x, .slice A n c] 24)) w.heap.size 24 [.int .i64 x, .slice A n c]) := Row.new _ _ _
  clear hn hm hA
  unfold graphV
  go_enter Try.func3, Try.ntmps3
  go_wp2_with fail
  refine (sortFact _).mono ?_
  rintro e w1 ⟨rfl, hb1⟩
  have HB1 : Hid (Below w.heap.size w w1) := HB0.out.trans (hb1.mono (by simp))
  have HR1 := Lib.hid (HR0.out.step hb1)
  have hsz1 := HB1.out.size
  have hA1 := (HA.out.below HB1.out (Nat.le_refl _)).more hsz1
  have hq0 := HR1.out.cell 0
  have hq1 := HR1.out.cell 1
  clear hb1 HB0 HR0
  by_cases hg : graphErr x l = 0
  · obtain ⟨⟨hx0, hx1⟩, hl40, hed⟩ := graphErr_ok hg
    obtain ⟨N, rfl⟩ : ∃ N : Nat, x = N := ⟨x.toNat, by omega⟩
    have hN : N ≤ 16 := by omega
    have hn40 : n ≤ 40 := by have := HN.out; omega
    have HG := Lib.hid hg
    have HED := Lib.hid hed
    have HWT : Hid (∀ e ∈ l, 0 ≤ e.weight ∧ e.weight ≤ 1000) := fun e he => (hed e he).2.2
    have HKL : Hid ((kord l).length = n) := by show _ = _; rw [(kord_ord l).1]; exact HN.out
    have hmb := Lib.hid (make_row 41 4 (.bool false) 1 Try.underlying41 info_bool rfl n (by omega) (by omega))
    have c2 := kruskal_ok N A n c l w1 hA1 HN.out hg
    unfold graphV at c2
    have C2 := Lib.hid c2
    clear c2 hg hx0 hx1 hl40 hed hA1
    go_wp2_with fail
    refine C2.out.mono ?_
    rintro e w2 ⟨VF, cF, rfl, hown2, hb2⟩
    have HB2 : Hid (Below w.heap.size w w2) := HB1.out.trans (hb2.mono hsz1)
    have HR2 := Lib.hid (HR1.out.step hb2)
    have HF2 := Lib.hid (hown2.own (by omega))
    obtain ⟨nf, hnf⟩ : ∃ z, z = (forest N l).length := ⟨_, rfl⟩
    rw [← hnf]
    have HNF := Lib.hid hnf
    have hnf40 : nf ≤ 40 := by
      have h1 := forest_len N l
      have h2 := keptK_le N l l.length
      have h3 := HN.out
      omega
    have hsz2 := HB2.out.size
    clear hown2 hb2 C2 hsz1 HB1 HR1 hnf hq0 hq1
    go_wp2
    go_loopw [7, 6] (fun i v wr => ∃ (k : Nat) (I : Option Addr) (ci : Nat), i = .int .i64 (k : Int) ∧ k ≤ n ∧ v = .slice I k ci ∧ Hid (k = 0 → I = none ∧ ci = 0) ∧ Hid (wr.ownsRow w2.heap.size 35 2 (.slice I k ci) k (pairs (itemsK l k))) ∧ Hid (Row wr w.heap.size 24 [.int .i64 (N : Int), .slice A n c]) ∧ Hid (Below w2.heap.size w2 wr)) (fun i _ _ => n - (intOf i).toNat)
    case atStart => exact ⟨0, none, 0, rfl, by omega, rfl, fun _ => ⟨rfl, rfl⟩, by show World.ownsRow _ _ _ _ _ _ _; simpa [itemsK, pairs] using World.ownsRow_nil _ _ _ _, HR2.out, Below.refl _ _⟩
    case round =>
      obtain ⟨k, I, ci, rfl, hk, rfl, HI0, HO, HR, HK⟩ := hrel
      have hq1 := HR.out.cell 1
      by_cases hkn : k < n
      · have hkz : (k : Int) < n := by omega
        have hk0 : (0 : Int) ≤ k := by omega
        obtain ⟨b, off, ea, eb, et, rfl, hbb, he, _, _, hc2⟩ := edges_at HA.out (show k < l.length by rw [HN.out]; exact hkn)
        have hbw := HB2.out.trans (HK.out.mono hsz2)
        rw [← hbw.cell hbb] at hc2
        have HW : Hid (wOf l (k : Int) = et) := by show _ = _; unfold wOf; rw [eAt_of he]
        have hnew : ∀ j : Nat, (wr.alloc (.cells #[.int .i64 et, .int .i64 (k : Int)] 35)).cell? ⟨wr.heap.size, j, none⟩ = ([.int .i64 et, .int .i64 (k : Int)] : List Value)[j]? := fun j => (Row.new wr 35 #[.int .i64 et, .int .i64 (k : Int)]).cell j
        have HNEW := Lib.hid hnew
        have hsk := HK.out.size
        have hrl := HR2.out.lt
        clear hnew hbw he HI0
        go_wp2_with (at_builtin; refine wp_push _ rfl (.tmp 39) (.tmp 48) 31 rfl w2.heap.size 35 2 16 _ Try.underlying31 info_item rfl (by omega) I k ci _ rfl (HO.out.alloc _) wr.heap.size 1 [.int .i64 et, .int .i64 (k : Int)] rfl rfl (fun j u hu => (HNEW.out j).trans hu) (by intro u hu; simp at hu; rcases hu with rfl | rfl <;> rfl) (by omega) (by omega) (by simp; omega) ?_; intro g3 c3 w3 ho3 hb3 hg3 hgr3 hat3; have HO3 := Lib.hid ho3; have HB3 := Lib.hid hb3; clear ho3 hb3 hg3 hgr3 hat3)
        have HK3 : Hid (Below w2.heap.size w2 w3) := (HK.out.alloc hsk _).trans HB3.out
        have HR3 : Hid (Row w3 w.heap.size 24 [.int .i64 (N : Int), .slice (some ⟨b, off, none⟩) n c]) := (HR.out.alloc _).below HB3.out hrl
        have HO4 : Hid (w3.ownsRow w2.heap.size 35 2 (.slice (some ⟨g3, 0, none⟩) (k + 1) c3) (k + 1) (pairs (itemsK l (k + 1)))) := by
          show World.ownsRow _ _ _ _ _ _ _
          rw [itemsK_succ, HW.out, pairs_append]
          exact HO3.out
        clear HO3 HB3 HNEW HW hsk hrl
        go_roundw
        case rel => exact ⟨k + 1, _, c3, by go_num, by omega, rfl, fun h => by omega, HO4.out, HR3.out, HK3.out⟩
        case measure => simp [intOf]; omega
      · have hkz : ¬ (k : Int) < n := by omega
        obtain rfl : k = n := by omega
        have HB3 : Hid (Below w.heap.size w wr) := HB2.out.trans (HK.out.mono hsz2)
        have hsz3 := HB3.out.size
        have HF3 := Lib.hid (HF2.out.step HK.out)
        have C3 := Lib.hid (orderSort I k ci (itemsK l k) wr (HO.out.own (by omega)) (itemsK_len l k) hn40 (itemsK_in (by rw [HN.out]; omega) hn40 HWT.out) (itemsK_rise l k) HI0.out)
        clear HF2 HR2 HB2 HO HI0 hsz2 HK
        go_wp2_with fail
        refine C3.out.mono ?_
        rintro e w4 ⟨V4, c4, ys, rfl, hcy, hpy, hsy, hb4⟩
        have hye := items_order HN.out hpy hsy
        rw [hye] at hcy
        have HY4 := Lib.hid hcy
        have HB4 : Hid (Below w.heap.size w w4) := HB3.out.trans (hb4.mono hsz3)
        have HR4 := Lib.hid (HR.out.step hb4)
        have HF4 := Lib.hid (HF3.out.step hb4)
        have hq0 := HR4.out.cell 0
        have c5 := Lib.hid (new_ok N w4 (by omega))
        clear hcy hpy hsy hb4 hye C3 HB3 HR HF3 hsz3 hq1
        go_wp2_with fail
        refine c5.out.mono ?_
        rintro e w5 ⟨p, U, cu, S, cs, rfl, hu, hb5⟩
        have HU5 := Lib.hid hu
        have HK5 := Lib.hid hb5
        have HUB := Lib.hid hu.base_le
        have hsz4 := HB4.out.size
        have hrl4 := HR4.out.lt
        have HR5 := Lib.hid (HR4.out.step hb5)
        have hq1 := HR5.out.cell 1
        have hmk := hmb.out
        clear hu hb5 c5 hq0
        go_upto_region 17 with fail
        have HU6 : Hid (UG (w5.alloc (.cells (madeCells #[.bool false] k) 4)) w4.heap.size p N U cu S cs id) := HU5.out.keeps ((Keeps.refl [] w5).alloc _) (fun _ _ hm => by simp at hm)
        have HH6 : Hid (Row (w5.alloc (.cells (madeCells #[.bool false] k) 4)) w5.heap.size 4 (bRow k (inK N l 0))) := by show Row _ _ _ _; rw [inK_zero, ← bRow_none]; exact Row.made _ _ _ _
        have HK6 : Hid (Below w4.heap.size w4 (w5.alloc (.cells (madeCells #[.bool false] k) 4))) := HK5.out.alloc HK5.out.size _
        have HH4 : Hid (w4.heap.size ≤ w5.heap.size) := HK5.out.size
        have hUH : ∀ x ∈ ugs p U S, x ≠ w5.heap.size := fun x hx => by have := (HUB.out x hx).2; omega
        have HUH := Lib.hid hUH
        obtain ⟨H, hHe⟩ : ∃ z, z = w5.heap.size := ⟨_, rfl⟩
        rw [← hHe] at HH6 HH4 HUH ⊢
        clear hUH hHe hmk hmb hq1 HR5 HK5 HU5
        generalize w5.alloc (.cells (madeCells #[.bool false] k) 4) = w6 at HU6 HH6 HK6 ⊢
        go_wp2
        go_loopw [14, 13] (fun i v wr => ∃ (j m : Nat) (R : Nat → Nat), i = .int .i64 (j : Int) ∧ j ≤ k ∧ v = .int .i64 (m : Int) ∧ m ≤ j ∧ Hid (m = (keptK N l j).length) ∧ Hid (UG wr w4.heap.size p N U cu S cs R) ∧ Hid (Gen N (((kord l).take j).map (eOf l)) R) ∧ Hid (roots N R + m = N) ∧ Hid (Row wr H 4 (bRow k (inK N l j))) ∧ Hid (Below w4.heap.size w4 wr)) (fun i _ _ => k - (intOf i).toNat)
        case atStart => exact ⟨0, 0, id, rfl, by omega, rfl, by omega, by show _ = _; simp [keptK], HU6.out, by show Gen _ _ _; simpa using Gen.start N, by show _ = _; rw [roots_id]; rfl, HH6.out, HK6.out⟩
        case round =>
          clear HU6 HH6 HK6
          obtain ⟨j, m, R, rfl, hj, rfl, hmj, HM, HU, HGEN, HRT, HH, HK⟩ := hrel
          have hwr4 : w4.heap.size ≤ wr.heap.size := HK.out.size
          by_cases hjk : j < k
          · have hjz : (j : Int) < k := by omega
            have hj0 : (0 : Int) ≤ j := by omega
            obtain ⟨y, hy⟩ : ∃ y, (kord l)[j]? = some y := ⟨(kord l)[j]'(by rw [HKL.out]; exact hjk), List.getElem?_eq_getElem _⟩
            have hyr := (kord_ord l).2.1 y (List.mem_of_getElem? hy)
            rw [HN.out] at hyr
            obtain ⟨q, rfl⟩ : ∃ q : Nat, y = q := ⟨y.toNat, by omega⟩
            have hqk : q < k := by omega
            have hqz : (q : Int) < k := by omega
            have hq0 : (0 : Int) ≤ q := by omega
            have hqn0 : ¬ (q : Int) < 0 := by omega
            have hqn1 : ¬ (k : Int) ≤ q := by omega
            obtain ⟨by_, offy, wy, yy, rfl, hbby, hyy, _, hcy⟩ := pairs_at (HY4.out.below HK.out (Nat.le_refl _)) (show j < ((kord l).map fun i => (wOf l i, i)).length by rw [List.length_map, HKL.out]; exact hjk)
            rw [items_at hy] at hyy
            simp only [Option.some.injEq, Prod.mk.injEq] at hyy
            obtain ⟨rfl, rfl⟩ := hyy
            obtain ⟨b, off, ea, eb, et, rfl, hbb, hx, hc0, hc1, _⟩ := edges_at HA.out (show q < l.length by rw [HN.out]; exact hqk)
            obtain ⟨⟨ha0, ha1⟩, ⟨hb0, hb1⟩, _⟩ := HED.out _ (List.mem_of_getElem? hx)
            simp only at ha0 ha1 hb0 hb1
            have hin : inG N ea eb = true := inG_true (by omega)
            have heo : eOf l (q : Int) = (ea, eb) := by unfold eOf; rw [eAt_of hx]
            have hji := join_is HG.out hy HGEN.out
            have hks := keptK_step (N := N) hy
            have htk : ((kord l).take (j + 1)).map (eOf l) = ((kord l).take j).map (eOf l) ++ [(ea, eb)] := by rw [take_at hy, List.map_append, ← heo]; rfl
            rw [heo] at hji
            have HJI := Lib.hid hji
            have HKS := Lib.hid hks
            have HTK := Lib.hid htk
            have HC0 := Lib.hid hc0
            have HC1 := Lib.hid hc1
            have hbw := HB4.out.trans (HK.out.mono hsz4)
            rw [← hbw.cell hbb] at hc0 hc1
            have hq1 := (HR4.out.step HK.out).cell 1
            have hud : UG wr.drew w4.heap.size p N U cu S cs R := HU.out.keeps (Keeps.drew (Keeps.refl [] _)) (fun _ _ => by simp)
            have cj := Lib.hid (joinG ea eb hud HGEN.out)
            have HIN := Lib.hid hin
            have HEV : Hid (errV (if inG N ea eb = true then 0 else 1) = .nilIface) := by show _ = _; rw [hin]; rfl
            clear hud hx hy hyr heo hji hks htk hin hbw
            go_wp2_with fail
            go_region_held3 (fun W => W.cell? ⟨w.heap.size, 1, none⟩ = some (.slice (some ⟨b, off, none⟩) k c) ∧ W.cell? ⟨b, off + q * 3, none⟩ = some (.int .i64 ea) ∧ W.cell? ⟨b, off + q * 3 + 1, none⟩ = some (.int .i64 eb)) (first | go_keep | (go_split_ands; refine ⟨?_, ?_, ?_⟩ <;> assumption))
              (first | (go_at_call 8; refine cj.out.mono ?_; rintro e w8 ⟨t, R', rfl, hu', hg', hk', hroots, hiff⟩; rw [HEV.out]; have HIFF := Lib.hid hiff; have HU' := Lib.hid hu'; have HG' := Lib.hid hg'; have HK' := Lib.hid hk'; have HRO := Lib.hid hroots; clear hu' hg' hk' hroots hiff; have HK8 := Lib.hid (HK.out.trans ((Below.refl _ _).drew.trans (HK'.out.below (B := w4.heap.size) (fun x hx => (HUB.out x hx).1) hwr4))); have HB8 := Lib.hid (HB4.out.trans (HK8.out.mono hsz4)); have z1 := (HR4.out.step HK8.out).cell 1; have z2 := (HB8.out.cell (p := ⟨b, off + q * 3, none⟩) hbb).trans HC0.out; have z3 := (HB8.out.cell (p := ⟨b, off + q * 3 + 1, none⟩) hbb).trans HC1.out))
            have HH8 : Hid (Row w8 H 4 (bRow k (inK N l j))) := HK'.out.row (show Row wr.drew H 4 (bRow k (inK N l j)) from HH.out) (fun hm' => HUH.out _ hm' rfl)
            have HGEN' : Hid (Gen N (((kord l).take (j + 1)).map (eOf l)) R') := by show Gen _ _ _; rw [HTK.out]; exact HG'.out
            have HT : Hid (t = true ↔ inF N l (q : Int) = true) := by
              show _ ↔ _
              rw [HIFF.out, HJI.out]
              exact ⟨fun h => h.2, fun h => ⟨HIN.out, h⟩⟩
            clear z1 z2 z3 hc0 hc1 hq1 hcy cj HK' HU HGEN HH HK HG' HB8
            cases t with
            | true =>
              have HKS2 : Hid (keptK N l (j + 1) = keptK N l j ++ [(q : Int)]) := by show _ = _; rw [HKS.out, if_pos (HT.out.1 rfl)]
              have hcH := HH8.out.cell q
              rw [bRow_at hqk] at hcH
              have hfH := HH8.out.frozen q
              have HH9 : Hid (Row (w8.setCell ⟨H, q, none⟩ (.bool true)) H 4 (bRow k (inK N l (j + 1)))) := by
                show Row _ _ _ _
                rw [← inK_put HKS2.out, ← bRow_set]
                exact HH8.out.set_ q (.bool true)
              have HU9 : Hid (UG (w8.setCell ⟨H, q, none⟩ (.bool true)) w4.heap.size p N U cu S cs R') := HU'.out.keeps (Keeps.setCell (Keeps.refl [H] w8) (Or.inl (by simp)) _) (fun x hx hm' => by simp at hm'; exact HUH.out x hx hm')
              have HK9 : Hid (Below w4.heap.size w4 (w8.setCell ⟨H, q, none⟩ (.bool true))) := HK8.out.setCell HH4.out _
              have HRT9 : Hid (roots N R' + (m + 1) = N) := by show _ = _; have h1 := HRO.out; have h2 := HRT.out; simp at h1; omega
              have HM9 : Hid (m + 1 = (keptK N l (j + 1)).length) := by show _ = _; rw [HKS2.out, List.length_append, ← HM.out]; rfl
              clear HRT HRO HT HM HKS HKS2 HIFF HH8 HU' HK8
              go_wp2
              go_roundw
              case rel => exact ⟨j + 1, m + 1, R', by go_num, by omega, by go_num, by omega, HM9.out, HU9.out, HGEN'.out, HRT9.out, HH9.out, HK9.out⟩
              case measure => simp [intOf]; omega
            | false =>
              have HKS2 : Hid (keptK N l (j + 1) = keptK N l j) := by show _ = _; rw [HKS.out, if_neg (fun h => by have := HT.out.2 h; cases this), List.append_nil]
              have HH9 : Hid (Row w8 H 4 (bRow k (inK N l (j + 1)))) := by show Row _ _ _ _; rw [← inK_keep HKS2.out]; exact HH8.out
              have HRT9 : Hid (roots N R' + m = N) := by show _ = _; have h1 := HRO.out; have h2 := HRT.out; simp at h1; omega
              have HM9 : Hid (m = (keptK N l (j + 1)).length) := by show _ = _; rw [HKS2.out]; exact HM.out
              clear HRT HRO HT HM HKS HKS2 HIFF HH8
              go_wp2
              go_roundw
              case rel => exact ⟨j + 1, m, R', by go_num, by omega, rfl, by omega, HM9.out, HU'.out, HGEN'.out, HRT9.out, HH9.out, HK8.out⟩
              case measure => simp [intOf]; omega
          · have hjz : ¬ (j : Int) < k := by omega
            obtain rfl : j = k := by omega
            have hnm : nf = m := by rw [HNF.out, forest_len, HN.out]; exact HM.out.symm
            have zz : ((nf : Int) == (m : Int)) = true := by rw [hnm]; simp
            clear hnm
            go_wp2
            go_loopw [18] (fun i wz => ∃ a : Nat, i = .int .i64 (a : Int) ∧ a ≤ nf ∧ wr = wz) (fun i _ => nf - (intOf i).toNat)
            case atStart => exact ⟨0, rfl, by omega, rfl⟩
            case round =>
              obtain ⟨a, rfl, ha, rfl⟩ := hrel
              by_cases hanf : a < nf
              · have haz : (a : Int) < nf := by omega
                have ha0 : (0 : Int) ≤ a := by omega
                obtain ⟨bf, offf, fx, rfl, hbbf, hfx, hcf⟩ := ints_at (HF4.out.below HK.out (Nat.le_refl _)) (show a < (forest N l).length by rw [← HNF.out]; exact hanf)
                have hfm := List.mem_of_getElem? hfx
                have hfr := (mem_forest.1 hfm).1
                rw [HN.out] at hfr
                obtain ⟨f, rfl⟩ : ∃ f : Nat, fx = f := ⟨fx.toNat, by omega⟩
                have hfk : f < j := by omega
                have hfz : (f : Int) < j := by omega
                have hf0 : (0 : Int) ≤ f := by omega
                have d0 : ¬ (f : Int) < 0 := by omega
                have d1 : ¬ (j : Int) ≤ f := by omega
                have hcH := HH.out.cell f
                rw [bRow_at hfk, show inK N l j f = true by have := inK_all hfm; rw [HN.out] at this; exact this] at hcH
                clear hfx hfm
                go_wp2
                go_roundw
                case rel => exact ⟨a + 1, by go_num, by omega, trivial⟩
                case measure => simp [intOf]; omega
              · have haz : ¬ (a : Int) < nf := by omega
                have HUD : Hid (∀ q, UG (wr.drewN q) w4.heap.size p N U cu S cs R) := fun q => HU.out.keeps (Keeps.drewN (Keeps.refl [] _) q) (fun _ _ => by simp)
                have hq0 := (HR4.out.step HK.out).cell 0
                obtain ⟨rt, hrt⟩ : ∃ z, z = roots N R := ⟨_, rfl⟩
                have hrm := HRT.out
                rw [← hrt] at hrm
                have hMany : ∀ q, Calls Try.prog 9 #[.pointer (some ⟨p, 0, none⟩)] (wr.drewN q) fun e w' => e = .returned (.int .i64 (rt : Int)) ∧ wr.drewN q = w' := fun q => by rw [hrt]; exact many_ (HUD.out q)
                have HMANY := Lib.hid hMany
                have hw : IntKind.i64.wrap ((N : Int) - m) = (N : Int) - m := by rw [IntKind.wrap_i64]; omega
                have he : ((rt : Int) == (N : Int) - m) = true := beq_iff_eq.2 (by omega)
                have HB9 : Hid (Below w.heap.size w wr) := HB4.out.trans (HK.out.mono hsz4)
                clear hrt hMany HUD HRT hrm HU HGEN HM HH HK
                go_wp2_with fail
                go_quiet ((go_at_call 9; exact quiet_l (HMANY.out _)))
                go_wp2
                go_ret
                exact ⟨rfl, below_drewN HB9.out _⟩
  · have c2 := kruskal_bad x A n c l w1 hA1 HN.out hn8 hg
    unfold graphV at c2
    have C2 := Lib.hid c2
    clear c2 hg
    go_wp2_with fail
    refine C2.out.mono ?_
    rintro e w2 ⟨rfl, hb2⟩
    have HB2 : Hid (Below w.heap.size w w2) := HB1.out.trans (hb2.mono hsz1)
    clear hb2 C2
    go_wp2
    go_ret
    exact ⟨rfl, HB2.out⟩
end Go.Proofs.Ytejbilcofbjpiaa
