/- What path.search leaves: of each node the shortest way. Conditions: the graph is one that may be, and the node is one of it. -/
import Derived.Test.YtmcfhiddhifdcaaDoorHeapFarQ
import Derived.Test.YtmcfhiddhifdcaaDoorSearchP
import Derived.Deep.LoopGhost
import Derived.Laws.MakeOwn
namespace Go.Proofs.YtmcfhiddhifdcaaDoor
open Go.RowKit
theorem make_far (n : Nat) (hn : n ≤ 100) (w : World) :
    (Instr.makeSlice 49 (.int .i64 (n : Int)) (.int .i64 (n : Int))).run Tryd.prog w = .ok (.slice (some ⟨w.heap.size, 0, none⟩) n n) (w.alloc (.cells (madeCells #[.int .i64 0, .int .i64 0, .int .i64 0] (n * 3)) 52)) := by
  obtain ⟨i, hi, hzz⟩ := Option.map_eq_some_iff.1 info_fr
  simp only [Prod.mk.injEq] at hzz
  obtain ⟨hz, h2, h3⟩ := hzz
  have hb : (i.bytes : Int) * (n : Int) ≤ 281474976710656 := by rw [h3]; omega
  have hr := run_make (P := Tryd.prog) w 49 52 i _ Tryd.underlying49 hi hz .i64 .i64 (n : Int) (n : Int) (by omega) (by omega) hb (by omega)
  simp only [Int.toNat_natCast, h2] at hr
  exact hr
set_option maxHeartbeats 8000000 in
set_option maxRecDepth 100000 in
theorem search_ (N : Nat) (A : Option Addr) (n c : Nat) (l : List Edge) (s : Nat) (ag : Bool) (w : World) (hA : Cells w w.heap.size A (edges l)) (hn : l.length = n) (hg : graphErr N l = 0) (hs : s < N) :
    Calls Tryd.prog 16 #[graphV N A n c, .int .i64 (s : Int), .bool ag] w (SearchOK w N (arcs ag l) s) := by
  obtain ⟨⟨hN0, hN1⟩, hl40, hed⟩ := graphErr_ok hg
  have HARC := Lib.hid (arcs_ok (N := N) ag hed)
  have HED := Lib.hid hed
  have HN := Lib.hid hn
  have hn40 : n ≤ 40 := by omega
  have hN : N ≤ 16 := by omega
  have hmk := make_far N (by omega)
  have HR0 : Row (w.alloc (.cells #[.int .i64 (N : Int), .slice A n c] 24)) w.heap.size 24 [.int .i64 (N : Int), .slice A n c] := Row.new _ _ _
  have hg0 := HR0.cell 0
  clear hed hn hg hl40 hN0 hN1
  unfold graphV
  go_enter Tryd.func16, Tryd.ntmps16
  go_wp2
  have HRO : Row ((w.alloc (.cells #[.int .i64 (N : Int), .slice A n c] 24)).alloc (.cells (madeCells #[.int .i64 0, .int .i64 0, .int .i64 0] (N * 3)) 52)) (w.heap.size + 1) 52 (frRow (farFill N 0)) := by
    have h := heap_alloc_new (w.alloc (.cells #[.int .i64 (N : Int), .slice A n c] 24)) (.cells (madeCells #[.int .i64 0, .int .i64 0, .int .i64 0] (N * 3)) 52)
    have e : madeCells #[.int .i64 0, .int .i64 0, .int .i64 0] (N * 3) = (frRow (farFill N 0)).toArray := by
      apply Array.toList_inj.1
      rw [farFill_zero]
    unfold Row
    rw [e] at h ⊢
    simpa using h
  have HRB : Row ((w.alloc (.cells #[.int .i64 (N : Int), .slice A n c] 24)).alloc (.cells (madeCells #[.int .i64 0, .int .i64 0, .int .i64 0] (N * 3)) 52)) w.heap.size 24 [.int .i64 (N : Int), .slice A n c] := HR0.alloc _
  have HBB : Below w.heap.size w ((w.alloc (.cells #[.int .i64 (N : Int), .slice A n c] 24)).alloc (.cells (madeCells #[.int .i64 0, .int .i64 0, .int .i64 0] (N * 3)) 52)) := ((Below.refl _ _).alloc (Nat.le_refl _) _).alloc (by simp) _
  clear hmk HR0 hg0
  generalize (w.alloc (.cells #[.int .i64 (N : Int), .slice A n c] 24)).alloc (.cells (madeCells #[.int .i64 0, .int .i64 0, .int .i64 0] (N * 3)) 52) = w1 at HRO HRB HBB ⊢
  go_loopw [20] (fun i wr => ∃ k : Nat, i = .int .i64 (k : Int) ∧ k ≤ N ∧ Hid (Row wr (w.heap.size + 1) 52 (frRow (farFill N k))) ∧ Hid (Row wr w.heap.size 24 [.int .i64 (N : Int), .slice A n c]) ∧ Hid (Below w.heap.size w wr)) (fun i _ => N - (intOf i).toNat)
  case atStart => exact ⟨0, rfl, by omega, HRO, HRB, HBB⟩
  case round =>
    clear HRO HRB HBB
    obtain ⟨k, rfl, hk, HO, HG, HB⟩ := hrel
    by_cases hlt : k < N
    · have hlz : (k : Int) < N := by omega
      have hc := HO.out.cell (k * 3)
      rw [(fr_get (farFill_at hlt)).1] at hc
      have hf := HO.out.frozen (k * 3)
      have hO1 : Row (wr.setCell ⟨w.heap.size + 1, k * 3, none⟩ (.int .i64 (-1))) (w.heap.size + 1) 52 (frRow (farFill N (k + 1))) := by rw [← farFill_set hlt]; exact HO.out.set_ _ _
      have HO1 := Lib.hid hO1
      clear hO1
      go_wp2
      go_roundw
      case rel => exact ⟨k + 1, by go_num, by omega, HO1.out, HG.out.far (by show w.heap.size ≠ w.heap.size + 1; omega) _, HB.out.setCell (by show w.heap.size ≤ w.heap.size + 1; omega) _⟩
      case measure => simp [intOf]; omega
    · have hlz : ¬ (k : Int) < N := by omega
      have hkN : k = N := by omega
      subst hkN
      have hsz := HO.out.lt
      have hb1 : Below w.heap.size w (wr.alloc (.cells #[.int .i64 0, .int .i64 0, .int .i64 (s : Int)] 52)) := HB.out.alloc HB.out.size _
      have c1 := fr_new (w := wr.alloc (.cells #[.int .i64 0, .int .i64 0, .int .i64 (s : Int)] 52)) (X := some ⟨wr.heap.size, 0, none⟩) (m := 1) (cx := 1) (l := [⟨0, 0, s⟩])
        (Row.new wr 52 #[.int .i64 0, .int .i64 0, .int .i64 (s : Int)]).cells rfl (by omega) (fun W _ x y => nearer_ x y W)
      have C1 := Lib.hid c1
      have HB1 := Lib.hid hb1
      have HO1 : Hid (Row (wr.alloc (.cells #[.int .i64 0, .int .i64 0, .int .i64 (s : Int)] 52)) (w.heap.size + 1) 52 (frRow (farFill k k))) := HO.out.alloc _
      have HG1 : Hid (Row (wr.alloc (.cells #[.int .i64 0, .int .i64 0, .int .i64 (s : Int)] 52)) w.heap.size 24 [.int .i64 (k : Int), .slice A n c]) := HG.out.alloc _
      clear c1 hb1 HO HG HB
      go_wp2_with fail
      refine C1.out.mono ?_
      rintro e w2 ⟨p, V, ch, zs, rfl, hh, ho, hp, hb⟩
      obtain ⟨Bs, hBs⟩ : ∃ Bs, Bs = (wr.alloc (.cells #[.int .i64 0, .int .i64 0, .int .i64 (s : Int)] 52)).heap.size := ⟨_, rfl⟩
      have hB0 : w.heap.size + 2 ≤ Bs := by rw [hBs]; simp; omega
      have HB2 : Hid (Below w.heap.size w w2) := HB1.out.trans (hb.mono (by omega))
      have HO2 := Lib.hid (HO1.out.step hb)
      have HG2 := Lib.hid (HG1.out.step hb)
      rw [← hBs] at hh
      have HH := Lib.hid hh
      have HO := Lib.hid ho
      have HDI : Hid (DI (arcs ag l) (s : Int) k (outF (farFill k k)) zs) := by
        show DI _ _ _ _ _
        rw [outF_none]
        exact (DI.start (by omega) (by omega)).perm hp.symm
      clear hBs hh ho hp hb C1 HB1 HO1 HG1 hsz hlz
      go_wp2
      go_loopg [10] (k * 41 + 1) (fun gh _ wr => ∃ (nh : Nat) (V : Option Addr) (ch : Nat) (zs outs : List Fr), (k - settled k (outF outs)) * 41 + nh ≤ gh ∧ outs.length = k ∧ nh ≤ 1 + 40 * settled k (outF outs) ∧
        Hid (frHeap wr Bs p nh V ch zs (.func (.func 23) #[] #[])) ∧ Hid (HeapOrd nearerB zs) ∧ Hid (DI (arcs ag l) (s : Int) k (outF outs) zs) ∧ Hid (∀ i, i < k → outs[i]!.weight = -1 ∨ 0 ≤ outs[i]!.weight) ∧
        Hid (Row wr (w.heap.size + 1) 52 (frRow outs)) ∧ Hid (Row wr w.heap.size 24 [.int .i64 (k : Int), .slice A n c]) ∧ Hid (Below w.heap.size w wr))
      case atStart =>
        refine ⟨1, V, ch, zs, farFill k k, ?_, farFill_len _ _, by omega, HH.out, HO.out, HDI.out, fun i hi => ?_, HO2.out, HG2.out, HB2.out⟩
        · have : (k - settled k (outF (farFill k k))) * 41 ≤ k * 41 := Nat.mul_le_mul_right _ (Nat.sub_le _ _)
          omega
        · rw [gfill hi]; exact Or.inl rfl
      case round =>
        clear HH HO HDI HO2 HG2 HB2
        obtain ⟨nh, V, ch, zs, outs, hgh, hol, hnh, HH, HO, HDI, HW, HR, HG, HB⟩ := hrel
        have hsk := settled_le k (outF outs)
        by_cases hz : nh = 0
        · subst hz
          have c2 := Lib.hid (fr_lenOf HH.out)
          have HZ : Hid (zs = []) := List.eq_nil_of_length_eq_zero HH.out.len
          have HOL := Lib.hid hol
          clear hol
          go_wp2_with fail
          refine c2.out.mono ?_
          rintro e w3 ⟨rfl, rfl⟩
          go_wp2
          go_ret
          exact ⟨_, outs, rfl, HOL.out, HR.out, DI.ends (by have := HDI.out; rw [HZ.out] at this; exact this), HW.out, HB.out, by omega⟩
        · obtain ⟨m, rfl⟩ : ∃ m, nh = m + 1 := ⟨nh - 1, by omega⟩
          obtain ⟨g, c_g, hgg, _, _⟩ := HH.out.own.form (by omega)
          simp only [Value.slice.injEq, true_and] at hgg
          obtain ⟨rfl, rfl⟩ := hgg
          have hmm : (0 : Int) < ((m + 1 : Nat) : Int) := by omega
          have hmm2 : (0 : Int) < (m : Int) + 1 := by omega
          have c2 := Lib.hid (fr_lenOf HH.out)
          have c3 := Lib.hid (fr_pop HH.out HO.out (by omega) (fun W _ x y => nearer_ x y W))
          obtain ⟨ex, hex⟩ : ∃ x, x = zs[0]! := ⟨_, rfl⟩
          rw [← hex] at c3
          have hlen := HH.out.len
          have hxm : ex ∈ zs := by rw [hex]; exact List.mem_of_getElem? (gget zs (by omega))
          have HLEAST := Lib.hid (HO.out.least nearerB_first)
          rw [← hex] at HLEAST
          obtain ⟨_, ⟨hv0, hv1⟩, ⟨he0, he1⟩, hw0, hw1⟩ := HDI.out.soundH ex hxm
          obtain ⟨xw, xe, xv⟩ := ex
          simp only at hv0 hv1 he0 he1 hw0 hw1
          obtain ⟨v, rfl⟩ : ∃ v : Nat, xv = v := ⟨xv.toNat, by omega⟩
          have hvk : v < k := by omega
          have HHL := Lib.hid hlen
          have HOL := Lib.hid hol
          clear hex hlen hxm hol
          go_wp2_with fail
          refine c2.out.mono ?_
          rintro e w3 ⟨rfl, rfl⟩
          go_wp2_with fail
          refine c3.out.mono ?_
          rintro e w3 ⟨he, zs', hh3, ho3, hp3, hk3⟩
          unfold Fr.val at he
          subst he
          have hbl := fr_blk HH.out
          have hB3 : Below w.heap.size w w3 := HB.out.trans (hk3.below (fun b hb => by have := (hbl b hb).1; omega) HB.out.size)
          have hR3 : Row w3 (w.heap.size + 1) 52 (frRow outs) := hk3.row HR.out (fun hm => by have := (hbl _ hm).1; omega)
          have hG3 : Row w3 w.heap.size 24 [.int .i64 (k : Int), .slice A n c] := hk3.row HG.out (fun hm => by have := (hbl _ hm).1; omega)
          have HH3 : Hid (frHeap (w3.alloc (.cells #[.int .i64 xw, .int .i64 xe, .int .i64 (v : Int)] 52)) Bs p m (some ⟨g, 0, none⟩) ch zs' (.func (.func 23) #[] #[])) := hh3.keeps (bs := []) ((Keeps.refl _ _).alloc _) (by simp) (fun _ _ => by simp)
          have HB3 : Hid (Below w.heap.size w (w3.alloc (.cells #[.int .i64 xw, .int .i64 xe, .int .i64 (v : Int)] 52))) := hB3.alloc hB3.size _
          have HR3 : Hid (Row (w3.alloc (.cells #[.int .i64 xw, .int .i64 xe, .int .i64 (v : Int)] 52)) (w.heap.size + 1) 52 (frRow outs)) := hR3.alloc _
          have HG3 : Hid (Row (w3.alloc (.cells #[.int .i64 xw, .int .i64 xe, .int .i64 (v : Int)] 52)) w.heap.size 24 [.int .i64 (k : Int), .slice A n c]) := hG3.alloc _
          have HX3 : Hid (Row (w3.alloc (.cells #[.int .i64 xw, .int .i64 xe, .int .i64 (v : Int)] 52)) w3.heap.size 52 [.int .i64 xw, .int .i64 xe, .int .i64 (v : Int)]) := Row.new _ _ _
          have HXF : Hid (w3.heap.size ∉ frBl p (some ⟨g, 0, none⟩)) := fun hm => by have := (fr_blk hh3 _ hm).2; omega
          have HP3 := Lib.hid hp3
          have HO3 := Lib.hid ho3
          have hco := HR3.out.cell (v * 3)
          rw [(fr_get (gget outs (show v < outs.length by rw [HOL.out]; exact hvk))).1] at hco
          have hxb : w.heap.size + 2 ≤ w3.heap.size := by have := hR3.lt; omega
          have HDP := Lib.hid (HDI.out.perm HP3.out.symm)
          have HLE : Hid (∀ y ∈ zs', nearerB y ⟨xw, xe, v⟩ = false) := fun y hy => by
            have hm : y ∈ zs := HP3.out.mem_iff.1 (by simp [hy])
            obtain ⟨j, hj, rfl⟩ := List.getElem_of_mem hm
            have := HLEAST.out j hj
            rw [List.getElem!_eq_getElem?_getD, List.getElem?_eq_getElem hj] at this
            exact this
          obtain ⟨ow, how⟩ : ∃ z, z = outs[v]!.weight := ⟨_, rfl⟩
          rw [← how] at hco
          have HOW := Lib.hid how
          clear hbl hB3 hR3 hG3 hh3 hp3 ho3 hk3 c2 c3 how HH HO HR HG HB
          by_cases hold : 0 ≤ ow
          · have hset : outF outs (v : Int) = some (ow, outs[v]!.edges) := by
              unfold outF
              rw [Int.toNat_natCast, if_pos ⟨by omega, by rw [HOL.out]; exact hvk, by rw [← HOW.out]; exact hold⟩, ← HOW.out]
            have HSET := Lib.hid hset
            clear hset
            go_wp2
            go_roundg ((k - settled k (outF outs)) * 41 + m)
            case measure => omega
            case rel => exact ⟨m, _, ch, zs', outs, Nat.le_refl _, HOL.out, by omega, HH3.out, HO3.out, HDP.out.old HSET.out, HW.out, HR3.out, HG3.out, HB3.out⟩
          · have hnone : outF outs (v : Int) = none := by
              unfold outF
              rw [Int.toNat_natCast, if_neg (fun h => hold (by rw [HOW.out]; exact h.2.2))]
            have hset := outF_set (outs := outs) (x := ⟨xw, xe, v⟩) (by show (0 : Int) ≤ v; omega) (by show (v : Int).toNat < _; rw [Int.toNat_natCast, HOL.out]; exact hvk) hw0
            have hsm := settled_more (n := k) (out := outF outs) (x := ⟨xw, xe, v⟩) (by show (0 : Int) ≤ v; omega) (by show (v : Int) < k; omega) hnone
            have HDN := Lib.hid (DI.new HARC.out HDP.out HLE.out hnone)
            rw [← hset] at hsm HDN
            simp only [Int.toNat_natCast] at hsm HDN
            have HSM := Lib.hid hsm
            have hco1 := HR3.out.cell (v * 3 + 1)
            rw [(fr_get (gget outs (show v < outs.length by rw [HOL.out]; exact hvk))).2.1] at hco1
            have hco2 := HR3.out.cell (v * 3 + 2)
            rw [(fr_get (gget outs (show v < outs.length by rw [HOL.out]; exact hvk))).2.2] at hco2
            have hcf0 := HR3.out.frozen (v * 3)
            have hcf1 := HR3.out.frozen (v * 3 + 1)
            have hcf2 := HR3.out.frozen (v * 3 + 2)
            have hcg := HG3.out.cell 1
            have HR4 : Hid (Row ((((w3.alloc (.cells #[.int .i64 xw, .int .i64 xe, .int .i64 (v : Int)] 52)).setCell ⟨w.heap.size + 1, v * 3, none⟩ (.int .i64 xw)).setCell ⟨w.heap.size + 1, v * 3 + 1, none⟩ (.int .i64 xe)).setCell ⟨w.heap.size + 1, v * 3 + 2, none⟩ (.int .i64 (v : Int))) (w.heap.size + 1) 52 (frRow (outs.set v ⟨xw, xe, v⟩))) := by
              have := ((HR3.out.set_ (v * 3) (.int .i64 xw)).set_ (v * 3 + 1) (.int .i64 xe)).set_ (v * 3 + 2) (.int .i64 (v : Int))
              show Row _ _ _ _
              rw [← fr_set]; exact this
            have HG4 : Hid (Row ((((w3.alloc (.cells #[.int .i64 xw, .int .i64 xe, .int .i64 (v : Int)] 52)).setCell ⟨w.heap.size + 1, v * 3, none⟩ (.int .i64 xw)).setCell ⟨w.heap.size + 1, v * 3 + 1, none⟩ (.int .i64 xe)).setCell ⟨w.heap.size + 1, v * 3 + 2, none⟩ (.int .i64 (v : Int))) w.heap.size 24 [.int .i64 (k : Int), .slice A n c]) := ((HG3.out.far (p := ⟨w.heap.size + 1, v * 3, none⟩) (by show w.heap.size ≠ w.heap.size + 1; omega) _).far (p := ⟨w.heap.size + 1, v * 3 + 1, none⟩) (by show w.heap.size ≠ w.heap.size + 1; omega) _).far (p := ⟨w.heap.size + 1, v * 3 + 2, none⟩) (by show w.heap.size ≠ w.heap.size + 1; omega) _
            have HX4 : Hid (Row ((((w3.alloc (.cells #[.int .i64 xw, .int .i64 xe, .int .i64 (v : Int)] 52)).setCell ⟨w.heap.size + 1, v * 3, none⟩ (.int .i64 xw)).setCell ⟨w.heap.size + 1, v * 3 + 1, none⟩ (.int .i64 xe)).setCell ⟨w.heap.size + 1, v * 3 + 2, none⟩ (.int .i64 (v : Int))) w3.heap.size 52 [.int .i64 xw, .int .i64 xe, .int .i64 (v : Int)]) := ((HX3.out.far (p := ⟨w.heap.size + 1, v * 3, none⟩) (by show w3.heap.size ≠ w.heap.size + 1; omega) _).far (p := ⟨w.heap.size + 1, v * 3 + 1, none⟩) (by show w3.heap.size ≠ w.heap.size + 1; omega) _).far (p := ⟨w.heap.size + 1, v * 3 + 2, none⟩) (by show w3.heap.size ≠ w.heap.size + 1; omega) _
            have HB4 : Hid (Below w.heap.size w ((((w3.alloc (.cells #[.int .i64 xw, .int .i64 xe, .int .i64 (v : Int)] 52)).setCell ⟨w.heap.size + 1, v * 3, none⟩ (.int .i64 xw)).setCell ⟨w.heap.size + 1, v * 3 + 1, none⟩ (.int .i64 xe)).setCell ⟨w.heap.size + 1, v * 3 + 2, none⟩ (.int .i64 (v : Int)))) := ((HB3.out.setCell (p := ⟨w.heap.size + 1, v * 3, none⟩) (by show w.heap.size ≤ w.heap.size + 1; omega) _).setCell (p := ⟨w.heap.size + 1, v * 3 + 1, none⟩) (by show w.heap.size ≤ w.heap.size + 1; omega) _).setCell (p := ⟨w.heap.size + 1, v * 3 + 2, none⟩) (by show w.heap.size ≤ w.heap.size + 1; omega) _
            have HBL3 := Lib.hid (fr_blk HH3.out)
            have HH4 : Hid (frHeap ((((w3.alloc (.cells #[.int .i64 xw, .int .i64 xe, .int .i64 (v : Int)] 52)).setCell ⟨w.heap.size + 1, v * 3, none⟩ (.int .i64 xw)).setCell ⟨w.heap.size + 1, v * 3 + 1, none⟩ (.int .i64 xe)).setCell ⟨w.heap.size + 1, v * 3 + 2, none⟩ (.int .i64 (v : Int))) Bs p m (some ⟨g, 0, none⟩) ch zs' (.func (.func 23) #[] #[])) := by
              refine HH3.out.keeps (bs := [w.heap.size + 1]) ((((Keeps.refl _ _).setCell (Or.inl (by simp)) _).setCell (Or.inl (by simp)) _).setCell (Or.inl (by simp)) _) ?_ (fun q hq => ?_)
              · have := HH3.out.at_; simp; omega
              · have := HH3.out.gl.1; simp only [Value.ownBlock, Option.some.injEq] at hq; simp; omega
            have hcg4 : ((((w3.alloc (.cells #[.int .i64 xw, .int .i64 xe, .int .i64 (v : Int)] 52)).setCell ⟨w.heap.size + 1, v * 3, none⟩ (.int .i64 xw)).setCell ⟨w.heap.size + 1, v * 3 + 1, none⟩ (.int .i64 xe)).setCell ⟨w.heap.size + 1, v * 3 + 2, none⟩ (.int .i64 (v : Int))).cell? ⟨w.heap.size, 1, none⟩ = some (.slice A n c) := HG4.out.cell 1
            have hxe3 : (0 : Int) ≤ xe := by omega
            have hxw3 : xw ≤ 16000 := by omega
            have hxe4 : xe ≤ 16 := by omega
            have hnone' := Lib.hid hnone
            clear hnone hset hsm hcg
            go_wp2
            generalize ((((w3.alloc (.cells #[.int .i64 xw, .int .i64 xe, .int .i64 (v : Int)] 52)).setCell ⟨w.heap.size + 1, v * 3, none⟩ (.int .i64 xw)).setCell ⟨w.heap.size + 1, v * 3 + 1, none⟩ (.int .i64 xe)).setCell ⟨w.heap.size + 1, v * 3 + 2, none⟩ (.int .i64 (v : Int))) = w4 at HR4 HG4 HX4 HB4 HH4 hcg4 ⊢
            clear hco hco1 hco2 hcf0 hcf1 hcf2 hcg4 HH3 HB3 HR3 HG3 HX3
            go_loopw [52] (fun i wr => ∃ (j nh5 : Nat) (V5 : Option Addr) (c5 : Nat) (zs5 : List Fr), i = .int .i64 (j : Int) ∧ j ≤ n ∧ nh5 ≤ m + j ∧ Hid (frHeap wr Bs p nh5 V5 c5 zs5 (.func (.func 23) #[] #[])) ∧ Hid (HeapOrd nearerB zs5) ∧ Hid (zs5.Perm (zs' ++ pushes (arcs ag (l.take j)) ⟨xw, xe, v⟩)) ∧
              Hid (Row wr (w.heap.size + 1) 52 (frRow (outs.set v ⟨xw, xe, v⟩))) ∧ Hid (Row wr w.heap.size 24 [.int .i64 (k : Int), .slice A n c]) ∧ Hid (Row wr w3.heap.size 52 [.int .i64 xw, .int .i64 xe, .int .i64 (v : Int)]) ∧ Hid (w3.heap.size ∉ frBl p V5) ∧ Hid (Below w.heap.size w wr)) (fun i _ => n - (intOf i).toNat)
            case atStart => exact ⟨0, m, _, ch, zs', rfl, by omega, by omega, HH4.out, HO3.out, by show List.Perm _ _; simp [arcs, pushes], HR4.out, HG4.out, HX4.out, HXF.out, HB4.out⟩
            case round =>
              clear HH4 HR4 HG4 HX4 HXF HB4 HO3
              obtain ⟨j, nh5, V5, c5, zs5, rfl, hj, hnh5, HH5, HO5, HP5, HR5, HG5, HX5, HXF5, HB5⟩ := hrel
              by_cases hjn : j < n
              · have hjz : (j : Int) < n := by omega
                obtain ⟨b, off, ea, eb, et, rfl, hbb, hx, hc0, hc1, hc2⟩ := edges_at hA (show j < l.length by rw [HN.out]; exact hjn)
                obtain ⟨⟨ha0, ha1⟩, ⟨hb0, hb1⟩, ht0, ht1⟩ := HED.out _ (List.mem_of_getElem? hx)
                simp only at ha0 ha1 hb0 hb1 ht0 ht1
                rw [← HB5.out.cell hbb] at hc0 hc1 hc2
                have HEX := Lib.hid hx
                have hX2 : ∀ O, (wr.alloc O).cell? ⟨w3.heap.size, 2, none⟩ = some (.int .i64 (v : Int)) := fun O => (HX5.out.alloc O).cell 2
                clear hx hA
                cases ag with
              | true =>
                go_wp2
                go_quiet (fail)
                have HH6 : Hid (frHeap ((wr.alloc (.cells #[.int .i64 ea, .int .i64 eb, .int .i64 et] 43)).drewN nq) Bs p nh5 V5 c5 zs5 (.func (.func 23) #[] #[])) := (HH5.out.keeps (bs := []) ((Keeps.refl _ _).alloc _) (by simp) (fun _ _ => by simp)).drewN _
                have HB6 : Hid (Below w.heap.size w ((wr.alloc (.cells #[.int .i64 ea, .int .i64 eb, .int .i64 et] 43)).drewN nq)) := below_drewN (HB5.out.alloc HB5.out.size _) _
                have HR6 : Hid (Row ((wr.alloc (.cells #[.int .i64 ea, .int .i64 eb, .int .i64 et] 43)).drewN nq) (w.heap.size + 1) 52 (frRow (outs.set v ⟨xw, xe, v⟩))) := (HR5.out.alloc _).drewN _
                have HG6 : Hid (Row ((wr.alloc (.cells #[.int .i64 ea, .int .i64 eb, .int .i64 et] 43)).drewN nq) w.heap.size 24 [.int .i64 (k : Int), .slice (some ⟨b, off, none⟩) n c]) := (HG5.out.alloc _).drewN _
                have HX6 : Hid (Row ((wr.alloc (.cells #[.int .i64 ea, .int .i64 eb, .int .i64 et] 43)).drewN nq) w3.heap.size 52 [.int .i64 xw, .int .i64 xe, .int .i64 (v : Int)]) := (HX5.out.alloc _).drewN _
                have hE0 : Row ((wr.alloc (.cells #[.int .i64 ea, .int .i64 eb, .int .i64 et] 43)).drewN nq) wr.heap.size 43 [.int .i64 ea, .int .i64 eb, .int .i64 et] := (Row.new wr _ #[.int .i64 ea, .int .i64 eb, .int .i64 et]).drewN _
                generalize (wr.alloc (.cells #[.int .i64 ea, .int .i64 eb, .int .i64 et] 43)).drewN nq = w6 at HH6 HB6 HR6 HG6 HX6 hE0 ⊢
                have hx0 := HX6.out.cell 0
                have hx1 := HX6.out.cell 1
                have hx2 := HX6.out.cell 2
                have he2 := hE0.cell 2
                clear hE0 hc0 hc1 hc2 HH5 HB5 HR5 HG5 HX5 hX2
                by_cases he : eb = (v : Int)
                · have heq : (eb == (v : Int)) = true := beq_iff_eq.2 he
                  subst he
                  have HC4 := Lib.hid (fr_push (w := w6) ⟨xw + et, xe + 1, ea⟩ HH6.out HO5.out (by omega) (fun W _ x y => nearer_ x y W))
                  have HBK := Lib.hid (fr_blk HH6.out)
                  unfold Fr.val at HC4
                  go_wp2_with fail
                  refine HC4.out.mono ?_
                  rintro e w7 ⟨rfl, g7, c7, zs7, hh7, ho7, hp7, hk7, hg7⟩
                  have HH7 := Lib.hid hh7
                  have HO7 := Lib.hid ho7
                  have HP7 : Hid (zs7.Perm (zs' ++ pushes (arcs true (l.take (j + 1))) ⟨xw, xe, v⟩)) := by
                    show List.Perm _ _
                    rw [arcs_take _ l HEX.out, pushes_snoc, if_pos (by rfl)]
                    exact hp7.trans ((HP5.out.cons _).trans (by rw [← List.append_assoc]; exact (List.perm_append_singleton _ _).symm))
                  have HB7 : Hid (Below w.heap.size w w7) := HB6.out.trans (hk7.below (fun b hb => by have := (HBK.out b hb).1; omega) HB6.out.size)
                  have HR7 : Hid (Row w7 (w.heap.size + 1) 52 (frRow (outs.set v ⟨xw, xe, v⟩))) := hk7.row HR6.out (fun hm => by have := (HBK.out _ hm).1; omega)
                  have HG7 : Hid (Row w7 w.heap.size 24 [.int .i64 (k : Int), .slice (some ⟨b, off, none⟩) n c]) := hk7.row HG6.out (fun hm => by have := (HBK.out _ hm).1; omega)
                  have HX7 : Hid (Row w7 w3.heap.size 52 [.int .i64 xw, .int .i64 xe, .int .i64 (v : Int)]) := hk7.row HX6.out HXF5.out
                  have HXF7 : Hid (w3.heap.size ∉ frBl p (some ⟨g7, 0, none⟩)) := frBl_new HXF5.out HX6.out.lt hg7
                  clear hh7 ho7 hp7 hk7 hg7 HC4 HBK HH6 HO5 HP5 HB6 HR6 HG6 HX6 HXF5 hx0 hx1 hx2
                  go_wp2
                  go_roundw
                  case rel => exact ⟨j + 1, nh5 + 1, _, c7, zs7, by go_num, by omega, by omega, HH7.out, HO7.out, HP7.out, HR7.out, HG7.out, HX7.out, HXF7.out, HB7.out⟩
                  case measure => simp [intOf]; omega
                · skip
                  have HP7 : Hid (zs5.Perm (zs' ++ pushes (arcs true (l.take (j + 1))) ⟨xw, xe, v⟩)) := by
                    show List.Perm _ _
                    rw [arcs_take _ l HEX.out, pushes_snoc, if_neg (by exact he), List.append_nil]
                    exact HP5.out
                  have hne : (eb == (v : Int)) = false := beq_eq_false_iff_ne.2 he
                  clear hx0 hx1 he
                  go_wp2
                  go_roundw
                  case rel => exact ⟨j + 1, nh5, _, c5, zs5, by go_num, by omega, by omega, HH6.out, HO5.out, HP7.out, HR6.out, HG6.out, HX6.out, HXF5.out, HB6.out⟩
                  case measure => simp [intOf]; omega
              | false =>
                go_wp2
                go_quiet (fail)
                have HH6 : Hid (frHeap ((wr.alloc (.cells #[.int .i64 ea, .int .i64 eb, .int .i64 et] 43)).drewN nq) Bs p nh5 V5 c5 zs5 (.func (.func 23) #[] #[])) := (HH5.out.keeps (bs := []) ((Keeps.refl _ _).alloc _) (by simp) (fun _ _ => by simp)).drewN _
                have HB6 : Hid (Below w.heap.size w ((wr.alloc (.cells #[.int .i64 ea, .int .i64 eb, .int .i64 et] 43)).drewN nq)) := below_drewN (HB5.out.alloc HB5.out.size _) _
                have HR6 : Hid (Row ((wr.alloc (.cells #[.int .i64 ea, .int .i64 eb, .int .i64 et] 43)).drewN nq) (w.heap.size + 1) 52 (frRow (outs.set v ⟨xw, xe, v⟩))) := (HR5.out.alloc _).drewN _
                have HG6 : Hid (Row ((wr.alloc (.cells #[.int .i64 ea, .int .i64 eb, .int .i64 et] 43)).drewN nq) w.heap.size 24 [.int .i64 (k : Int), .slice (some ⟨b, off, none⟩) n c]) := (HG5.out.alloc _).drewN _
                have HX6 : Hid (Row ((wr.alloc (.cells #[.int .i64 ea, .int .i64 eb, .int .i64 et] 43)).drewN nq) w3.heap.size 52 [.int .i64 xw, .int .i64 xe, .int .i64 (v : Int)]) := (HX5.out.alloc _).drewN _
                have hE0 : Row ((wr.alloc (.cells #[.int .i64 ea, .int .i64 eb, .int .i64 et] 43)).drewN nq) wr.heap.size 43 [.int .i64 ea, .int .i64 eb, .int .i64 et] := (Row.new wr _ #[.int .i64 ea, .int .i64 eb, .int .i64 et]).drewN _
                generalize (wr.alloc (.cells #[.int .i64 ea, .int .i64 eb, .int .i64 et] 43)).drewN nq = w6 at HH6 HB6 HR6 HG6 HX6 hE0 ⊢
                have hx0 := HX6.out.cell 0
                have hx1 := HX6.out.cell 1
                have hx2 := HX6.out.cell 2
                have he2 := hE0.cell 2
                clear hE0 hc0 hc1 hc2 HH5 HB5 HR5 HG5 HX5 hX2
                by_cases he : ea = (v : Int)
                · have heq : (ea == (v : Int)) = true := beq_iff_eq.2 he
                  subst he
                  have HC4 := Lib.hid (fr_push (w := w6) ⟨xw + et, xe + 1, eb⟩ HH6.out HO5.out (by omega) (fun W _ x y => nearer_ x y W))
                  have HBK := Lib.hid (fr_blk HH6.out)
                  unfold Fr.val at HC4
                  go_wp2_with fail
                  refine HC4.out.mono ?_
                  rintro e w7 ⟨rfl, g7, c7, zs7, hh7, ho7, hp7, hk7, hg7⟩
                  have HH7 := Lib.hid hh7
                  have HO7 := Lib.hid ho7
                  have HP7 : Hid (zs7.Perm (zs' ++ pushes (arcs false (l.take (j + 1))) ⟨xw, xe, v⟩)) := by
                    show List.Perm _ _
                    rw [arcs_take _ l HEX.out, pushes_snoc, if_pos (by rfl)]
                    exact hp7.trans ((HP5.out.cons _).trans (by rw [← List.append_assoc]; exact (List.perm_append_singleton _ _).symm))
                  have HB7 : Hid (Below w.heap.size w w7) := HB6.out.trans (hk7.below (fun b hb => by have := (HBK.out b hb).1; omega) HB6.out.size)
                  have HR7 : Hid (Row w7 (w.heap.size + 1) 52 (frRow (outs.set v ⟨xw, xe, v⟩))) := hk7.row HR6.out (fun hm => by have := (HBK.out _ hm).1; omega)
                  have HG7 : Hid (Row w7 w.heap.size 24 [.int .i64 (k : Int), .slice (some ⟨b, off, none⟩) n c]) := hk7.row HG6.out (fun hm => by have := (HBK.out _ hm).1; omega)
                  have HX7 : Hid (Row w7 w3.heap.size 52 [.int .i64 xw, .int .i64 xe, .int .i64 (v : Int)]) := hk7.row HX6.out HXF5.out
                  have HXF7 : Hid (w3.heap.size ∉ frBl p (some ⟨g7, 0, none⟩)) := frBl_new HXF5.out HX6.out.lt hg7
                  clear hh7 ho7 hp7 hk7 hg7 HC4 HBK HH6 HO5 HP5 HB6 HR6 HG6 HX6 HXF5 hx0 hx1 hx2
                  go_wp2
                  go_roundw
                  case rel => exact ⟨j + 1, nh5 + 1, _, c7, zs7, by go_num, by omega, by omega, HH7.out, HO7.out, HP7.out, HR7.out, HG7.out, HX7.out, HXF7.out, HB7.out⟩
                  case measure => simp [intOf]; omega
                · skip
                  have HP7 : Hid (zs5.Perm (zs' ++ pushes (arcs false (l.take (j + 1))) ⟨xw, xe, v⟩)) := by
                    show List.Perm _ _
                    rw [arcs_take _ l HEX.out, pushes_snoc, if_neg (by exact he), List.append_nil]
                    exact HP5.out
                  have hne : (ea == (v : Int)) = false := beq_eq_false_iff_ne.2 he
                  clear hx0 hx1 he
                  go_wp2
                  go_roundw
                  case rel => exact ⟨j + 1, nh5, _, c5, zs5, by go_num, by omega, by omega, HH6.out, HO5.out, HP7.out, HR6.out, HG6.out, HX6.out, HXF5.out, HB6.out⟩
                  case measure => simp [intOf]; omega
              · have hjz : ¬ (j : Int) < n := by omega
                have hjn2 : j = n := by omega
                have HDF : Hid (DI (arcs ag l) (s : Int) k (outF (outs.set v ⟨xw, xe, v⟩)) zs5) := by
                  have h1 := HP5.out
                  rw [List.take_of_length_le (by rw [HN.out]; omega)] at h1
                  exact HDN.out.perm h1.symm
                have hs2 := settled_le k (outF (outs.set v ⟨xw, xe, v⟩))
                have HWN : Hid (∀ i, i < k → (outs.set v ⟨xw, xe, v⟩)[i]!.weight = -1 ∨ 0 ≤ (outs.set v ⟨xw, xe, v⟩)[i]!.weight) := fun i hi => by
                  rw [gset _ _ _ _ (by rw [HOL.out]; exact hvk)]
                  by_cases e : i = v
                  · rw [if_pos e]; exact Or.inr hw0
                  · rw [if_neg e]; exact HW.out i hi
                have hgoal2 : nh5 ≤ 1 + 40 * settled k (outF (outs.set v ⟨xw, xe, v⟩)) := by
                  have := HSM.out
                  omega
                have HGO := Lib.hid hgoal2
                have HS2 := Lib.hid hs2
                have HOL2 : Hid ((outs.set v ⟨xw, xe, v⟩).length = k) := by show _ = _; rw [List.length_set]; exact HOL.out
                clear hgoal2 hjn2 hs2
                go_wp2
                go_roundg ((k - settled k (outF (outs.set v ⟨xw, xe, v⟩))) * 41 + nh5)
                case measure => have := HSM.out; have := HS2.out; omega
                case rel => exact ⟨nh5, V5, c5, zs5, outs.set v ⟨xw, xe, v⟩, Nat.le_refl _, HOL2.out, HGO.out, HH5.out, HO5.out, HDF.out, HWN.out, HR5.out, HG5.out, HB5.out⟩
end Go.Proofs.YtmcfhiddhifdcaaDoor
