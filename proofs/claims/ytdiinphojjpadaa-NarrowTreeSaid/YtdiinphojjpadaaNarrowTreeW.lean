/- The walk of NarrowTree. Conditions: lengths are such that slices can have. -/
import Derived.Test.YtdiinphojjpadaaNarrowFact
import Derived.Test.YtdiinphojjpadaaTreeQ
import Derived.Test.YtdiinphojjpadaaKruskal
import Derived.Test.YtdiinphojjpadaaEdgeRow
namespace Go.Proofs.Ytdiinphojjpadaa
open Go.RowKit
set_option maxHeartbeats 8000000 in
set_option maxRecDepth 100000 in
theorem narrowTreeW (x : Int) (A : Option Addr) (n c : Nat) (a b : Int) (l : List Edge) (w : World) (_ : -9223372036854775808 ≤ x ∧ x ≤ 9223372036854775807) (hA : Cells w w.heap.size A (edges l)) (hn : l.length = n) (hm : n * 24 ≤ 140737488351232) (_ : ∀ e ∈ l, InEdge e) (_ : -9223372036854775808 ≤ a ∧ a ≤ 9223372036854775807) (_ : -9223372036854775808 ≤ b ∧ b ≤ 9223372036854775807) :
    Calls Try.prog 11 #[graphV x A n c, .int .i64 a, .int .i64 b] w fun e w' => e = .returned (.bool true) ∧ Below w.heap.size w w' := by
  have HN := Lib.hid hn
  have hn8 : n ≤ 9223372036854775807 := by omega
  have HB0 : Hid (Below w.heap.size w (w.alloc (.cells #[.int .i64 x, .slice A n c] 24))) := (Below.refl _ _).alloc (Nat.le_refl _) _
  have HR0 : Hid (Row (w.alloc (.cells #[.int .i64 x, .slice A n c] 24)) w.heap.size 24 [.int .i64 x, .slice A n c]) := Row.new _ _ _
  clear hn
  unfold graphV
  go_enter Try.func11, Try.ntmps11
  go_wp2_with fail
  refine (narrowFact _).mono ?_
  rintro e w1 ⟨rfl, hb1⟩
  have HB1 : Hid (Below w.heap.size w w1) := HB0.out.trans (hb1.mono (by simp))
  have HR1 := Lib.hid (HR0.out.step hb1)
  have hsz1 := HB1.out.size
  clear hb1 HB0 HR0 hm
  have hA1 := (hA.below HB1.out (Nat.le_refl _)).more hsz1
  have hq0 := HR1.out.cell 0
  have hq1 := HR1.out.cell 1
  have c2 := least_ x A n c a b l w1 hA1 HN.out hn8
  unfold graphV at c2
  have C2 := Lib.hid c2
  clear c2 hA1
  go_wp2_with fail
  refine C2.out.mono ?_
  rintro e w2 ⟨v2, er2, rfl, hs2, hb2⟩
  have HB2 : Hid (Below w.heap.size w w2) := HB1.out.trans (hb2.mono hsz1)
  have HR2 := Lib.hid (HR1.out.step hb2)
  have hsz2 := HB2.out.size
  have HS2 := Lib.hid hs2
  clear hb2 C2 hsz1 HB1 HR1 hs2 hq0 hq1
  have hA2 := (hA.below HB2.out (Nat.le_refl _)).more hsz2
  have hq0 := HR2.out.cell 0
  have hq1 := HR2.out.cell 1
  by_cases hg : graphErr x l = 0
  · obtain ⟨⟨hx0, hx1⟩, hl40, hed⟩ := graphErr_ok hg
    obtain ⟨N, rfl⟩ : ∃ N : Nat, x = N := ⟨x.toNat, by omega⟩
    have hN : N ≤ 16 := by omega
    have hn40 : n ≤ 40 := by have := HN.out; omega
    have HG := Lib.hid hg
    have c3 := kruskal_ok N A n c l w2 hA2 HN.out hg
    unfold graphV at c3
    have C3 := Lib.hid c3
    clear c3 hg hx0 hx1 hl40 hed hA2
    go_wp2_with fail
    refine C3.out.mono ?_
    rintro e w3 ⟨V3, k3, rfl, hown3, hb3⟩
    have HB3 : Hid (Below w.heap.size w w3) := HB2.out.trans (hb3.mono hsz2)
    have HR3 := Lib.hid (HR2.out.step hb3)
    have hfl0 := forest_len N l
    obtain ⟨fl, hfl⟩ : ∃ z, z = (forest N l).length := ⟨_, rfl⟩
    rw [← hfl] at hown3 hfl0 ⊢
    have HFL := Lib.hid hfl
    have HCF := Lib.hid (hown3.own (by omega))
    have hfn : fl ≤ n := by have := HN.out; omega
    have HOWN0 : Hid (w3.ownsRow w3.heap.size 38 3 (.slice none 0 0) 0 []) := World.ownsRow_nil _ _ _ _
    have hsz3 := HB3.out.size
    have hlt3 := HR3.out.lt
    clear hown3 hb3 C3 HB2 HR2 hfl hq0 hq1 hfl0 hsz2
    have hq0 := HR3.out.cell 0
    go_upto_region 9 with fail
    have HF4 : Hid (Row (w3.alloc (.cells #[.int .i64 (N : Int), .slice none 0 0] 24)) w3.heap.size 24 [.int .i64 (N : Int), .slice none 0 0]) := Row.new _ _ _
    have HB4 : Hid (Below w3.heap.size w3 (w3.alloc (.cells #[.int .i64 (N : Int), .slice none 0 0] 24))) := (Below.refl _ _).alloc (Nat.le_refl _) _
    generalize w3.alloc (.cells #[.int .i64 (N : Int), .slice none 0 0] 24) = w4 at HF4 HB4 ⊢
    clear hq0
    have HO4 : Hid (w4.ownsRow w3.heap.size 38 3 (.slice none 0 0) 0 []) := World.ownsRow_nil _ _ _ _
    clear HOWN0
    go_wp2
    go_loopw [13] (fun i wr => ∃ (k : Nat) (Vf : Option Addr) (cf : Nat), i = .int .i64 (k : Int) ∧ k ≤ fl ∧ Hid (Row wr w3.heap.size 24 [.int .i64 (N : Int), .slice Vf k cf]) ∧ Hid (wr.ownsRow w3.heap.size 38 3 (.slice Vf k cf) k (edges ((treeE N l).take k))) ∧ Hid (Below w3.heap.size w3 wr)) (fun i _ => fl - (intOf i).toNat)
    case atStart => exact ⟨0, none, 0, rfl, by omega, HF4.out, by show World.ownsRow _ _ _ _ _ _ _; simpa [edges, threes] using HO4.out, HB4.out⟩
    case round =>
      clear HF4 HB4 HO4
      obtain ⟨k, Vf, cf, rfl, hk, HF, HO, HB⟩ := hrel
      by_cases hkf : k < fl
      · have hkz : (k : Int) < fl := by omega
        obtain ⟨bf, offf, y, rfl, hbf, hy, hcy⟩ := ints_at HCF.out (show k < (forest N l).length by rw [← HFL.out]; exact hkf)
        obtain ⟨⟨hy0, hyn⟩, _⟩ := mem_forest.1 (List.mem_of_getElem? hy)
        obtain ⟨q, rfl⟩ : ∃ q : Nat, y = q := ⟨y.toNat, by omega⟩
        have hqn : q < n := by have := HN.out; omega
        obtain ⟨be, off, ea, eb, et, rfl, hbb, hx, hc0, hc1, hc2⟩ := edges_at hA (show q < l.length by rw [HN.out]; exact hqn)
        have HTK : Hid ((treeE N l).take (k + 1) = (treeE N l).take k ++ [⟨ea, eb, et⟩]) := take_at (by
          unfold treeE
          rw [List.getElem?_map, hy, Option.map_some, eAt_of hx])
        have HBW : Hid (Below w.heap.size w wr) := HB3.out.trans (HB.out.mono hsz3)
        have HCY := Lib.hid hcy
        have HC0 := Lib.hid hc0
        have HC1 := Lib.hid hc1
        have HC2 := Lib.hid hc2
        have HBB := Lib.hid hbb
        have HBF := Lib.hid hbf
        rw [← HBW.out.cell (p := ⟨be, off + q * 3, none⟩) hbb] at hc0
        rw [← HBW.out.cell (p := ⟨be, off + q * 3 + 1, none⟩) hbb] at hc1
        rw [← HBW.out.cell (p := ⟨be, off + q * 3 + 2, none⟩) hbb] at hc2
        rw [← HB.out.cell (p := ⟨bf, offf + k, none⟩) hbf] at hcy
        have HG2 := Lib.hid (HR3.out.below HB.out hlt3)
        have hg1 := HG2.out.cell 1
        have hf1 := HF.out.cell 1
        have hqz : ¬ (q : Int) < 0 := by omega
        have hqz2 : (q : Int) < n := by omega
        have hqz3 : ¬ (n : Int) ≤ q := by omega
        have hszr := HB.out.size
        have hnoP := own_ne_row HO.out HF.out (by decide)
        have HNOP := Lib.hid hnoP
        have HOd : Hid (∀ q, ((wr.drewN q).drew).ownsRow w3.heap.size 38 3 (.slice Vf k cf) k (edges ((treeE N l).take k))) := fun q => HO.out
        have HF1 : Hid (∀ (q : Nat) (O : Obj), ((wr.drewN q).alloc O).cell? ⟨w3.heap.size, 1, none⟩ = some (.slice Vf k cf)) := fun q O => ((HF.out : Row (wr.drewN q) _ _ _).alloc O).cell 1
        have HBd : Hid (∀ q, Below w3.heap.size w3 ((wr.drewN q).drew)) := fun q => below_drewN HB.out (q + 1)
        have HFd : Hid (∀ q, Row ((wr.drewN q).drew) w3.heap.size 24 [.int .i64 (N : Int), .slice Vf k cf]) := fun q => HF.out
        clear hx hy hy0 hyn hnoP
        go_wp2
        go_quiet (fail)
        go_wp2
        have hfa : ∀ (q : Nat) (O : Obj), ((wr.drewN q).alloc O).cell? ⟨w3.heap.size, 1, none⟩ = some (.slice Vf k cf) := fun q O => HF1.out q O
        go_region_law (go_must (refine step_push _ rfl (.tmp 60) (.tmp 69) 22 rfl w3.heap.size 38 3 24 _ Try.underlying22 info_edgeT rfl (by omega) Vf k cf _ rfl ((HOd.out _).alloc _) wr.heap.size 1 [.int .i64 ea, .int .i64 eb, .int .i64 et] rfl rfl (fun j u hu => ((Row.new _ _ _).cell j).trans hu) (by intro u hu; simp at hu; rcases hu with rfl | rfl | rfl <;> rfl) (by omega) (by omega) (by simp; omega) ?_); intro g5 c5 w5 ho5 hb5 hg5 hgr5 hat5; have HB5 : Hid (Below w3.heap.size w3 w5) := ((HBd.out _).alloc hszr _).trans hb5; have HR5 : Hid (Row w5 w3.heap.size 24 [.int .i64 (N : Int), .slice Vf k cf]) := ((HFd.out _).alloc _).grown hgr5 (fun e => HNOP.out e.symm); have HO5 := Lib.hid ho5; have x1 := HR5.out.cell 1; have x2 := HR5.out.frozen 1; clear ho5 hb5 hg5 hgr5 hat5)
        all_goals (
          go_wp2
          go_roundw
          case rel =>
            refine ⟨k + 1, some ⟨g5, 0, none⟩, c5, by go_num, by omega, HR5.out.set_ 1 _, ?_, HB5.out.setCell (Nat.le_refl _) _⟩
            show World.ownsRow _ _ _ _ _ _ _
            rw [HTK.out, edges_snocT]
            exact ownsRow_setCell_other (a := ⟨w3.heap.size, 1, none⟩) HO5.out (own_ne_row HO5.out HR5.out (by decide)) _
          case measure => simp [intOf]; omega)
      · have hkf2 : k = fl := by omega
        subst hkf2
        have hkz : ¬ (k : Int) < k := by omega
        have HT2 : Hid ((treeE N l).take k = treeE N l) := List.take_of_length_le (by unfold treeE; rw [List.length_map, ← HFL.out]; omega)
        rw [HT2.out] at HO
        have hf0 := HF.out.cell 0
        have hf1 := HF.out.cell 1
        have hAf : Cells wr wr.heap.size Vf (edges (treeE N l)) := HO.out.own (by omega)
        have c6 := least_ N Vf k cf a b (treeE N l) wr hAf (by unfold treeE; rw [List.length_map, ← HFL.out]) (by omega)
        unfold graphV at c6
        have C6 := Lib.hid c6
        clear c6 hAf hA HT2 HCF
        go_wp2_with fail
        refine C6.out.mono ?_
        rintro e w6 ⟨v6, er6, rfl, hs6, hb6⟩
        have HB6 : Hid (Below w.heap.size w w6) := (HB3.out.trans (HB.out.mono hsz3)).trans (hb6.mono (by have := HB.out.size; omega))
        obtain ⟨rfl, rfl⟩ := tree_ans HG.out HS2.out hs6
        clear hs6 hb6 C6 HB HO HF hf0 hf1
        by_cases he : er2 = 0
        · subst he
          rw [errV_zero]
          go_wp2
          go_quiet (fail)
          go_wp2
          go_ret
          exact ⟨rfl, below_drewN HB6.out _⟩
        · rw [errV_bad he]
          go_wp2
          go_quiet (fail)
          go_wp2
          go_ret
          exact ⟨rfl, below_drewN HB6.out _⟩
  · have c3 := kruskal_bad x A n c l w2 hA2 HN.out hn8 hg
    unfold graphV at c3
    have C3 := Lib.hid c3
    have HE : Hid (er2 ≠ 0) := fun h => hg ((leastErr_ok (HS2.out.ok h).1).1)
    clear c3 hg
    go_wp2_with fail
    refine C3.out.mono ?_
    rintro e w3 ⟨rfl, hb3⟩
    have HB3 : Hid (Below w.heap.size w w3) := HB2.out.trans (hb3.mono hsz2)
    clear hb3 C3
    rw [errV_bad HE.out]
    go_wp2
    go_ret
    exact ⟨rfl, HB3.out⟩
end Go.Proofs.Ytdiinphojjpadaa
