/- What the document's ways answers: the best label of each node. Conditions: the graph is one that may be, and the node is one of it. -/
import Derived.Test.YtmcfhiddhifdcaaDoorRefLabs
import Derived.Test.YtmcfhiddhifdcaaDoorSpanCheck
import Derived.Deep.LoopGhost
import Derived.Deep.DeepCutAuto
import Derived.Deep.RegionHeld3
import Derived.Shelf.SlSortCmp.QuietGrown
namespace Go.Proofs.YtmcfhiddhifdcaaDoor
open Go.RowKit Go.Lib Go.Sort
def WaysOK (w : World) (N : Nat) (l : List Edge) (s : Nat) (e : Ending) (w' : World) : Prop :=
  ∃ (g : Nat) (ps : Nat → Option Addr) (cs : Nat → Nat) (L : Nat → Lab), e = .returned (.slice (some ⟨g, 0, none⟩) N N) ∧ Labs w' g N ps cs L ∧ Lbs l N s L ∧ (∀ e ∈ l, closedE L e) ∧ Below w.heap.size w w'
set_option maxHeartbeats 8000000 in
set_option maxRecDepth 100000 in
theorem refWays (N : Nat) (A : Option Addr) (n c : Nat) (l : List Edge) (s : Nat) (w : World) (hA : Cells w w.heap.size A (edges l)) (hn : l.length = n) (hg : graphErr N l = 0) (hs : s < N) :
    Calls Tryd.prog 14 #[graphV N A n c, .int .i64 (s : Int)] w (WaysOK w N l s) := by
  obtain ⟨⟨hN0, hN1⟩, hl40, hed⟩ := graphErr_ok hg
  have HA := Lib.hid hA
  have HED := Lib.hid hed
  have HN := Lib.hid hn
  have HWT : Hid (∀ e ∈ l, 0 ≤ e.weight ∧ e.weight ≤ 1000) := fun e he => (hed e he).2.2
  have hn40 : n ≤ 40 := by omega
  have hN : N ≤ 16 := by omega
  have hmk := make_lab N (by omega)
  have hsz : (s : Int) < N := by omega
  have hs0 : (0 : Int) ≤ s := by omega
  have HR0 : Row (w.alloc (.cells #[.int .i64 (N : Int), .slice A n c] 24)) w.heap.size 24 [.int .i64 (N : Int), .slice A n c] := Row.new _ _ _
  have hq0 := HR0.cell 0
  clear hed hn hg hl40 hN0 hN1 hA
  unfold graphV
  go_enter Tryd.func14, Tryd.ntmps14
  go_upto_region 2 with fail
  have HRO : Row ((w.alloc (.cells #[.int .i64 (N : Int), .slice A n c] 24)).alloc (.cells (madeCells #[.int .i64 0, .slice none 0 0] (N * 2)) 47)) (w.heap.size + 1) 47 (prs (fun _ => (.int .i64 0, .slice none 0 0)) N) := by
    have h := heap_alloc_new (w.alloc (.cells #[.int .i64 (N : Int), .slice A n c] 24)) (.cells (madeCells #[.int .i64 0, .slice none 0 0] (N * 2)) 47)
    have e : madeCells #[.int .i64 0, .slice none 0 0] (N * 2) = (prs (fun _ => (.int .i64 0, .slice none 0 0)) N).toArray := by
      apply Array.toList_inj.1
      rw [prs_made]
    unfold Row
    rw [e] at h ⊢
    simpa using h
  have hRB : Row ((w.alloc (.cells #[.int .i64 (N : Int), .slice A n c] 24)).alloc (.cells (madeCells #[.int .i64 0, .slice none 0 0] (N * 2)) 47)) w.heap.size 24 [.int .i64 (N : Int), .slice A n c] := HR0.alloc _
  have hBB : Below w.heap.size w ((w.alloc (.cells #[.int .i64 (N : Int), .slice A n c] 24)).alloc (.cells (madeCells #[.int .i64 0, .slice none 0 0] (N * 2)) 47)) := ((Below.refl _ _).alloc (Nat.le_refl _) _).alloc (by simp) _
  have HLB := Lib.hid (Labs.start HRO)
  have HRB := Lib.hid hRB
  have HBB := Lib.hid hBB
  clear hmk HR0 hq0 HRO hRB hBB
  generalize (w.alloc (.cells #[.int .i64 (N : Int), .slice A n c] 24)).alloc (.cells (madeCells #[.int .i64 0, .slice none 0 0] (N * 2)) 47) = w1 at HLB HRB HBB ⊢
  have hH1 := HLB.out.row.lt
  have hl2 : Labs (w1.alloc (.cells #[.int .i64 (s : Int)] 3)) (w.heap.size + 1) N (fun _ => none) (fun _ => 0) (fun _ => (0, [])) := HLB.out.step ((Below.refl _ _).alloc (Nat.le_refl _) _)
  have hs2 : Row (w1.alloc (.cells #[.int .i64 (s : Int)] 3)) w1.heap.size 3 [.int .i64 (s : Int)] := Row.new _ _ _
  have hp2 := hl2.put (x := 0) (b := w1.heap.size) (n := 1) (c := 1) (ns := [(s : Int)]) hs rfl (by omega) (by simp) (fun j u hu => by rw [hs2.cell]; exact hu)
  rw [World.setCell_alloc_past _ _ _ _ hH1, World.setCell_alloc_past _ _ _ _ (by simpa using hH1)] at hp2
  have HP3 := Lib.hid hp2
  have HR3 := Lib.hid (((HRB.out.far (p := ⟨w.heap.size + 1, s * 2, none⟩) (by show w.heap.size ≠ w.heap.size + 1; omega) (.int .i64 0)).far (p := ⟨w.heap.size + 1, s * 2 + 1, none⟩) (by show w.heap.size ≠ w.heap.size + 1; omega) (.slice (some ⟨w1.heap.size, 0, none⟩) 1 1)).alloc (.cells #[.int .i64 (s : Int)] 3))
  have HB3 := Lib.hid (((HBB.out.setCell (p := ⟨w.heap.size + 1, s * 2, none⟩) (by show w.heap.size ≤ w.heap.size + 1; omega) (.int .i64 0)).setCell (p := ⟨w.heap.size + 1, s * 2 + 1, none⟩) (by show w.heap.size ≤ w.heap.size + 1; omega) (.slice (some ⟨w1.heap.size, 0, none⟩) 1 1)).alloc (by simp; omega) (.cells #[.int .i64 (s : Int)] 3))
  have HLS : Hid (Lbs l N s (startL s)) := Lbs.start hs
  have k0 := HLB.out.at0 hs
  have k1 := HLB.out.at1 hs
  have f0 := HLB.out.row.frozen (s * 2)
  have f1 := HLB.out.row.frozen (s * 2 + 1)
  clear hl2 hs2 hp2
  go_upto_region 3 with fail
  clear k0 k1 f0 f1 HLB
  generalize ((w1.setCell ⟨w.heap.size + 1, s * 2, none⟩ (.int .i64 0)).setCell ⟨w.heap.size + 1, s * 2 + 1, none⟩ (.slice (some ⟨w1.heap.size, 0, none⟩) 1 1)).alloc (.cells #[.int .i64 (s : Int)] 3) = w3 at HP3 HR3 HB3 ⊢
  go_wp2
  go_loopg [6] (totL (startL s) N + 1) (fun gh bv wr => ∃ (b : Bool) (ps : Nat → Option Addr) (cs : Nat → Nat) (L : Nat → Lab), bv = .bool b ∧ Hid (Labs wr (w.heap.size + 1) N ps cs L) ∧ Hid (Lbs l N s L) ∧ Hid (b = false → ∀ e ∈ l, closedE L e) ∧ Hid (b = true → totL L N + 1 ≤ gh) ∧ Hid (Row wr w.heap.size 24 [.int .i64 (N : Int), .slice A n c]) ∧ Hid (Below w.heap.size w wr))
  case atStart => exact ⟨true, _, _, _, rfl, HP3.out, HLS.out, (fun h => by cases h), (fun _ => Nat.le_refl _), HR3.out, HB3.out⟩
  case round =>
    clear HP3 HR3 HB3 HLS HRB HBB hH1
    obtain ⟨b, ps, cs, L, rfl, HL, HLB, HDONE, HGH, HR, HB⟩ := hrel
    cases b with
    | false =>
      have HDN := Lib.hid (HDONE.out rfl)
      clear HDONE HGH
      go_wp2
      go_ret
      exact ⟨w.heap.size + 1, ps, cs, L, rfl, HL.out, HLB.out, HDN.out, HB.out⟩
    | true =>
      have HG1 := Lib.hid (HGH.out rfl)
      clear HDONE HGH
      generalize wr = wq at HL HR HB ⊢
      go_wp2
      go_loopw [7, 6] (fun iv bv wr => ∃ (i : Nat) (b : Bool) (ps : Nat → Option Addr) (cs : Nat → Nat) (L' : Nat → Lab), iv = .int .i64 (i : Int) ∧ bv = .bool b ∧ i ≤ n ∧ Hid (Labs wr (w.heap.size + 1) N ps cs L') ∧ Hid (Lbs l N s L') ∧ Hid (b = false → ∀ (j : Nat) (e : Edge), j < i → l[j]? = some e → closedE L' e) ∧ Hid (totL L' N ≤ totL L N) ∧ Hid (b = true → totL L' N < totL L N) ∧ Hid (Row wr w.heap.size 24 [.int .i64 (N : Int), .slice A n c]) ∧ Hid (Below w.heap.size w wr)) (fun iv _ _ => n - (intOf iv).toNat)
      case atStart => exact ⟨0, false, ps, cs, L, rfl, rfl, by omega, HL.out, HLB.out, (fun _ j e h => absurd h (by omega)), Nat.le_refl _, (fun h => by cases h), HR.out, HB.out⟩
      case round =>
        clear HL HLB HR HB
        obtain ⟨i, b, ps, cs, L', rfl, rfl, hi, HL, HLB, HCL, HLE, HLT, HR, HB⟩ := hrel
        have hq1 := HR.out.cell 1
        by_cases hin : i < n
        · have hiz : (i : Int) < n := by omega
          have hi0 : (0 : Int) ≤ i := by omega
          obtain ⟨bq, off, x, y, t, rfl, hbb, he, hc0, hc1, hc2⟩ := edges_at HA.out (show i < l.length by rw [HN.out]; exact hin)
          rw [← HB.out.cell hbb] at hc0 hc1 hc2
          obtain ⟨⟨hx0, hx1⟩, ⟨hy0, hy1⟩, ht0, ht1⟩ := HED.out _ (List.mem_of_getElem? he)
          simp only at hx0 hx1 hy0 hy1 ht0 ht1
          obtain ⟨a, rfl⟩ : ∃ k : Nat, x = k := ⟨x.toNat, by omega⟩
          obtain ⟨d, rfl⟩ : ∃ k : Nat, y = k := ⟨y.toNat, by omega⟩
          have ha : a < N := by omega
          have hd : d < N := by omega
          have haz : (a : Int) < N := by omega
          have hdz : (d : Int) < N := by omega
          have HE := Lib.hid he
          have HL4 : Hid (Labs (wr.alloc (.cells #[.int .i64 (a : Int), .int .i64 (d : Int), .int .i64 t] 43)) (w.heap.size + 1) N ps cs L') := HL.out.step ((Below.refl _ _).alloc (Nat.le_refl _) _)
          have HR4 : Hid (Row (wr.alloc (.cells #[.int .i64 (a : Int), .int .i64 (d : Int), .int .i64 t] 43)) w.heap.size 24 [.int .i64 (N : Int), .slice (some ⟨bq, off, none⟩) n c]) := HR.out.alloc _
          have HB4 : Hid (Below w.heap.size w (wr.alloc (.cells #[.int .i64 (a : Int), .int .i64 (d : Int), .int .i64 t] 43))) := HB.out.alloc HB.out.size _
          have HE4 : Hid (Row (wr.alloc (.cells #[.int .i64 (a : Int), .int .i64 (d : Int), .int .i64 t] 43)) wr.heap.size 43 [.int .i64 (a : Int), .int .i64 (d : Int), .int .i64 t]) := Row.new _ _ _
          go_upto_region 10 with fail
          obtain ⟨E0, hE0⟩ : ∃ z, z = wr.heap.size := ⟨_, rfl⟩
          have hHE : w.heap.size + 1 < E0 := by rw [hE0]; exact HL.out.row.lt
          rw [← hE0] at HE4 ⊢
          clear hE0 hc0 hc1 hc2 hq1 he HL HR HB
          generalize wr.alloc (.cells #[.int .i64 (a : Int), .int .i64 (d : Int), .int .i64 t] 43) = w4 at HL4 HR4 HB4 HE4 ⊢
          have e0 := HE4.out.cell 0
          have e1 := HE4.out.cell 1
          have la := HL4.out.at1 ha
          obtain ⟨ml, hml⟩ : ∃ z, z = (L' a).2.length := ⟨_, rfl⟩
          have hml16 : ml ≤ 16 := by have := HLB.out.len ha; omega
          rw [← hml] at la
          have HML := Lib.hid hml.symm
          clear hml
          by_cases h0 : ml = 0
          · have z : ((ml : Int) == 0) = true := by rw [h0]; rfl
            have HCL2 : Hid (b = false → ∀ (j : Nat) (e : Edge), j < i + 1 → l[j]? = some e → closedE L' e) := fun hb j e hj hje => by
              by_cases hji : j < i
              · exact HCL.out hb j e hji hje
              · obtain rfl : j = i := by omega
                have h1 := HE.out
                rw [hje] at h1
                injection h1 with h1
                subst h1
                intro hne
                exact absurd (List.eq_nil_of_length_eq_zero (by rw [Int.toNat_natCast, HML.out, h0])) hne
            clear HCL h0
            go_wp2
            go_roundw
            case rel => exact ⟨i + 1, b, ps, cs, L', by go_num, rfl, by omega, HL4.out, HLB.out, HCL2.out, HLE.out, HLT.out, HR4.out, HB4.out⟩
            case measure => simp [intOf]; omega
          · have z : ((ml : Int) == 0) = false := beq_eq_false_iff_ne.2 (by omega)
            have HNE : Hid ((L' a).2 ≠ []) := fun h => h0 (by rw [← HML.out, h]; rfl)
            have HC4 := Lib.hid (HL4.out.cells ha)
            have hla : (ints (L' a).2).length = ml * 1 := by rw [ints_len, HML.out]; omega
            have HLA := Lib.hid hla
            clear h0 hla
            go_upto_region 13 with (at_builtin; refine wp_cat _ rfl (.tmp 41) (.tmp 47) 25 rfl w4.heap.size 3 1 8 _ Tryd.underlying25 info_int rfl (by omega) none 0 0 [] rfl (World.ownsRow_nil _ _ _ _) w4.heap.size (ps a) ml (cs a) (ints (L' a).2) rfl HLA.out HC4.out (one_ints _) (by omega) (by omega) (Nat.le_refl _) ?_; intro V5 c5 w5 ho5 hb5 hg5)
            have hsz4 := HL4.out.row.lt
            have HE5 := Lib.hid (HE4.out.step hb5)
            simp only [Nat.zero_add, List.nil_append] at ho5
            have HO5 := Lib.hid ho5
            have HK5 := Lib.hid hb5
            have hB45 : w4.heap.size ≤ w5.heap.size := hb5.size
            clear e0 e1 la HC4 ho5 hb5 hg5 HLA z
            have e1 := HE5.out.cell 1
            have hnew : ∀ j : Nat, (w5.alloc (.cells #[.int .i64 (d : Int)] 3)).cell? ⟨w5.heap.size, j, none⟩ = ([.int .i64 (d : Int)] : List Value)[j]? := fun j => (Row.new w5 3 #[.int .i64 (d : Int)]).cell j
            have HNEW := Lib.hid hnew
            clear hnew
            go_upto_region 14 with (at_builtin; refine wp_push _ rfl (.tmp 49) (.tmp 52) 25 rfl w4.heap.size 3 1 8 _ Tryd.underlying25 info_int rfl (by omega) V5 ml c5 _ rfl (HO5.out.alloc _) w5.heap.size 1 [.int .i64 (d : Int)] rfl rfl (fun j u hu => (HNEW.out j).trans hu) (by intro u hu; simp at hu; subst hu; rfl) (by omega) (by omega) (by simp; omega) ?_; intro g7 c7 w7 ho7 hb7 hg7 hgr7 hat7)
            have hb47 : Below w4.heap.size w4 w7 := (HK5.out.alloc hB45 _).trans hb7
            have HB7 : Hid (Below w.heap.size w w7) := HB4.out.trans (hb47.mono HB4.out.size)
            have HL7 := Lib.hid (HL4.out.step hb47)
            have HR7 := Lib.hid (HR4.out.step hb47)
            have HE7 := Lib.hid (HE4.out.step hb47)
            have hgH : g7 ≠ w.heap.size + 1 := by omega
            have hg7s : g7 < w7.heap.size := (ho7.lt g7 rfl).2
            have HC7 : Hid (∀ (j : Nat) (u : Value), (ints ((L' a).2 ++ [(d : Int)]))[j]? = some u → w7.cell? ⟨g7, j, none⟩ = some u) := fun j u hu => by
              have hj := (List.getElem?_eq_some_iff.1 hu).1
              rw [ints_len, List.length_append, HML.out] at hj
              rw [ho7.cellAt j (by simpa using hj), ← hu, ints_append]
              rfl
            obtain ⟨wa, hwa⟩ : ∃ z, z = (L' a).1 := ⟨_, rfl⟩
            have hw0 : 0 ≤ wa ∧ wa ≤ 16000 := by
              have h1 := (HLB.out.ws a ha HNE.out).light HWT.out
              have h2 := HML.out
              rw [hwa]; omega
            have l0 := HL7.out.at0 ha
            rw [← hwa] at l0
            have HWA := Lib.hid hwa
            have e0 := HE7.out.cell 0
            have e2 := HE7.out.cell 2
            have hwt : IntKind.i64.wrap (wa + t) = wa + t := by rw [IntKind.wrap_i64]; omega
            have hE7s : E0 < w7.heap.size := HE7.out.lt
            have hH7s : w.heap.size + 1 < w7.heap.size := HL7.out.row.lt
            clear hb47 HL4 HR4 HE4 HB4 HE5 HO5 HK5 hB45 e1 HNEW ho7 hb7 hg7 hgr7 hat7 hsz4 hwa
            go_region
            have hb8 : Below w7.heap.size w7 ((w7.alloc (.cells #[.int .i64 (wa + t), .slice (some ⟨g7, 0, none⟩) (ml + 1) c7] 47)).drew) := below_drewN ((Below.refl _ _).alloc (Nat.le_refl _) _) 1
            have HB8 : Hid (Below w.heap.size w ((w7.alloc (.cells #[.int .i64 (wa + t), .slice (some ⟨g7, 0, none⟩) (ml + 1) c7] 47)).drew)) := HB7.out.trans (hb8.mono HB7.out.size)
            have HL8 := Lib.hid (HL7.out.step hb8)
            have HR8 := Lib.hid (HR7.out.step hb8)
            have HE8 := Lib.hid (HE7.out.step hb8)
            have HX8 : Hid (Row ((w7.alloc (.cells #[.int .i64 (wa + t), .slice (some ⟨g7, 0, none⟩) (ml + 1) c7] 47)).drew) w7.heap.size 47 [.int .i64 (wa + t), .slice (some ⟨g7, 0, none⟩) (ml + 1) c7]) := (Row.new w7 47 #[.int .i64 (wa + t), .slice (some ⟨g7, 0, none⟩) (ml + 1) c7]).drewN 1
            have HC8 : Hid (∀ (j : Nat) (u : Value), (ints ((L' a).2 ++ [(d : Int)]))[j]? = some u → ((w7.alloc (.cells #[.int .i64 (wa + t), .slice (some ⟨g7, 0, none⟩) (ml + 1) c7] 47)).drew).cell? ⟨g7, j, none⟩ = some u) := fun j u hu => (hb8.cell (p := ⟨g7, j, none⟩) hg7s).trans (HC7.out j u hu)
            have hg8s : g7 < ((w7.alloc (.cells #[.int .i64 (wa + t), .slice (some ⟨g7, 0, none⟩) (ml + 1) c7] 47)).drew).heap.size := Nat.lt_of_lt_of_le hg7s hb8.size
            obtain ⟨X0, hX0⟩ : ∃ z, z = w7.heap.size := ⟨_, rfl⟩
            rw [← hX0] at HX8 ⊢
            have hX0H : w.heap.size + 1 < X0 := by rw [hX0]; exact hH7s
            clear hb8 HL7 HR7 HE7 HB7 HC7 hg7s l0 e0 e2 hwt hE7s hH7s hX0
            generalize (w7.alloc (.cells #[.int .i64 (wa + t), .slice (some ⟨g7, 0, none⟩) (ml + 1) c7] 47)).drew = w8 at HB8 HL8 HR8 HE8 HX8 HC8 hg8s ⊢
            have x0 : ∀ n os, (grow (w8.drewN n) os).cell? ⟨X0, 0, none⟩ = some (.int .i64 (wa + t)) := cell_grown HX8.out.lt (HX8.out.cell 0)
            have x1 : ∀ n os, (grow (w8.drewN n) os).cell? ⟨X0, 1, none⟩ = some (.slice (some ⟨g7, 0, none⟩) (ml + 1) c7) := cell_grown HX8.out.lt (HX8.out.cell 1)
            have e1 : ∀ n os, (grow (w8.drewN n) os).cell? ⟨E0, 1, none⟩ = some (.int .i64 (d : Int)) := cell_grown HE8.out.lt (HE8.out.cell 1)
            have m0 : ∀ n os, (grow (w8.drewN n) os).cell? ⟨w.heap.size + 1, d * 2, none⟩ = some (.int .i64 (L' d).1) := cell_grown HL8.out.row.lt (HL8.out.at0 hd)
            have m1 : ∀ n os, (grow (w8.drewN n) os).cell? ⟨w.heap.size + 1, d * 2 + 1, none⟩ = some (.slice (ps d) (L' d).2.length (cs d)) := cell_grown HL8.out.row.lt (HL8.out.at1 hd)
            obtain ⟨bt, hbt⟩ : ∃ z, z = betterB (extL (L' a) ⟨(a : Int), (d : Int), t⟩) (L' d) := ⟨_, rfl⟩
            have hcG : ∀ n os, Calls Tryd.prog 19 #[.agg #[.int .i64 (wa + t), .slice (some ⟨g7, 0, none⟩) (ml + 1) c7], .agg #[.int .i64 (L' d).1, .slice (ps d) (L' d).2.length (cs d)]] (grow (w8.drewN n) os) fun e w' => e = .returned (.bool bt) ∧ ∃ q os', w' = grow ((grow (w8.drewN n) os).drewN q) os' := fun n os => by
              have hb := grow_lower w8 n os
              have h1 := refBetter (wa + t) (L' d).1 (some ⟨g7, 0, none⟩) (ps d) (ml + 1) (L' d).2.length c7 (cs d) ((L' a).2 ++ [(d : Int)]) (L' d).2 (grow (w8.drewN n) os)
                (fun _ => ⟨g7, 0, rfl, Nat.lt_of_lt_of_le hg8s hb.size, fun j u hu => by rw [Nat.zero_add]; exact (hb.cell (p := ⟨g7, j, none⟩) hg8s).trans (HC8.out j u hu)⟩)
                (by rw [List.length_append, HML.out]; rfl) ((HL8.out.cells hd).step hb) rfl (by omega)
              have h2 : betterB (wa + t, (L' a).2 ++ [(d : Int)]) ((L' d).1, (L' d).2) = bt := by rw [hbt, HWA.out]; rfl
              rw [h2] at h1
              exact h1
            have mixed : Tryd.prog.follows .mixedOrders = true := by kernel_rfl
            have HBT := Lib.hid hbt
            clear hbt
            generalize hwd : (L' d).1 = wd at hcG m0
            generalize hmd : (L' d).2.length = md at hcG m1
            clear hwd hmd
            go_wp2_with fail
            go_quiet_grown (first | (go_at_call 19; refine Calls.grown_of (hcG _ _)))
            have hb9 := grow_lower w8 nq osq
            have HB9 : Hid (Below w.heap.size w (grow (w8.drewN nq) osq)) := HB8.out.trans (hb9.mono HB8.out.size)
            have HL9 := Lib.hid (HL8.out.step hb9)
            have HR9 := Lib.hid (HR8.out.step hb9)
            have HE9 := Lib.hid (HE8.out.step hb9)
            have HX9 := Lib.hid (HX8.out.step hb9)
            have HC9 : Hid (∀ (j : Nat) (u : Value), (ints ((L' a).2 ++ [(d : Int)]))[j]? = some u → (grow (w8.drewN nq) osq).cell? ⟨g7, j, none⟩ = some u) := fun j u hu => (hb9.cell (p := ⟨g7, j, none⟩) hg8s).trans (HC8.out j u hu)
            have hg9s : g7 < (grow (w8.drewN nq) osq).heap.size := Nat.lt_of_lt_of_le hg8s hb9.size
            clear hb9 HL8 HR8 HE8 HX8 HB8 HC8 hg8s x0 x1 e1 m0 m1 hcG mixed
            generalize grow (w8.drewN nq) osq = w9 at HB9 HL9 HR9 HE9 HX9 HC9 hg9s ⊢
            cases bt with
            | true =>
              have e1 := HE9.out.cell 1
              have x0 := HX9.out.cell 0
              have x1 := HX9.out.cell 1
              have l0 := HL9.out.at0 hd
              have l1 := HL9.out.at1 hd
              have f0 := HL9.out.row.frozen (d * 2)
              have f1 := HL9.out.row.frozen (d * 2 + 1)
              have HBT2 : Hid (betterB (extL (L' a) ⟨(a : Int), (d : Int), t⟩) (L' d) = true) := HBT.out.symm
              have HMEM : Hid ((⟨(a : Int), (d : Int), t⟩ : Edge) ∈ l) := List.mem_of_getElem? HE.out
              have hpt := HL9.out.put (k := d) (b := g7) (n := ml + 1) (c := c7) (x := wa + t) (ns := (L' a).2 ++ [(d : Int)]) hd (by rw [List.length_append, HML.out]; rfl) hgH hg9s HC9.out
              have hex : (wa + t, (L' a).2 ++ [(d : Int)]) = extL (L' a) ⟨(a : Int), (d : Int), t⟩ := by rw [HWA.out]; rfl
              rw [hex] at hpt
              have HLN := Lib.hid hpt
              have HLB2 : Hid (Lbs l N s (setL L' d (extL (L' a) ⟨(a : Int), (d : Int), t⟩))) := (HLB.out.put hs hN HWT.out HMEM.out rfl rfl ha hd HNE.out HBT2.out).1
              have HFL : Hid (totL (setL L' d (extL (L' a) ⟨(a : Int), (d : Int), t⟩)) N < totL L N) := Nat.lt_of_lt_of_le (HLB.out.falls hs hN HWT.out HMEM.out rfl rfl ha hd HNE.out HBT2.out) HLE.out
              have HRN := Lib.hid ((HR9.out.far (p := ⟨w.heap.size + 1, d * 2, none⟩) (by show w.heap.size ≠ w.heap.size + 1; omega) (.int .i64 (wa + t))).far (p := ⟨w.heap.size + 1, d * 2 + 1, none⟩) (by show w.heap.size ≠ w.heap.size + 1; omega) (.slice (some ⟨g7, 0, none⟩) (ml + 1) c7))
              have HBN := Lib.hid ((HB9.out.setCell (p := ⟨w.heap.size + 1, d * 2, none⟩) (by show w.heap.size ≤ w.heap.size + 1; omega) (.int .i64 (wa + t))).setCell (p := ⟨w.heap.size + 1, d * 2 + 1, none⟩) (by show w.heap.size ≤ w.heap.size + 1; omega) (.slice (some ⟨g7, 0, none⟩) (ml + 1) c7))
              clear HBT HBT2 hpt hex HCL HLE HLT
              go_wp2
              go_roundw
              case rel => exact ⟨i + 1, true, _, _, _, by go_num, rfl, by omega, HLN.out, HLB2.out, (fun h => by cases h), Nat.le_of_lt HFL.out, (fun _ => HFL.out), HRN.out, HBN.out⟩
              case measure => simp [intOf]; omega
            | false =>
              have HCL2 : Hid (b = false → ∀ (j : Nat) (e : Edge), j < i + 1 → l[j]? = some e → closedE L' e) := fun hb j e hj hje => by
                by_cases hji : j < i
                · exact HCL.out hb j e hji hje
                · obtain rfl : j = i := by omega
                  have h1 := HE.out
                  rw [hje] at h1
                  injection h1 with h1
                  subst h1
                  intro _
                  simp only [Int.toNat_natCast]
                  exact HBT.out.symm
              clear HCL
              go_wp2
              go_roundw
              case rel => exact ⟨i + 1, b, ps, cs, L', by go_num, rfl, by omega, HL9.out, HLB.out, HCL2.out, HLE.out, HLT.out, HR9.out, HB9.out⟩
              case measure => simp [intOf]; omega
        · have hiz : ¬ (i : Int) < n := by omega
          have HDN : Hid (b = false → ∀ e ∈ l, closedE L' e) := fun hb e hm => by
            obtain ⟨j, hj, rfl⟩ := List.getElem_of_mem hm
            exact HCL.out hb j _ (by rw [HN.out] at hj; omega) (List.getElem?_eq_getElem hj)
          have HGN : Hid (b = true → totL L' N + 1 ≤ gk - 1) := fun hb => by have h1 := HLT.out hb; have h2 := HG1.out; omega
          clear HCL HLE HLT
          go_wp2
          go_roundg (gk - 1)
          case rel => exact ⟨b, ps, cs, L', rfl, HL.out, HLB.out, HDN.out, HGN.out, HR.out, HB.out⟩
          case measure => have h2 := HG1.out; omega
end Go.Proofs.YtmcfhiddhifdcaaDoor
