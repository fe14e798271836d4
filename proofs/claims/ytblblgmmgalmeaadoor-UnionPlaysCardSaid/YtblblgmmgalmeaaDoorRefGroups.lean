/- What the document's Groups answers: of each thing the least one in its group. Conditions: at most 60 things and pairs, the pairs are of things. -/
import Derived.Test.YtblblgmmgalmeaaDoorRefGroupsP
import Derived.Test.YtblblgmmgalmeaaDoorMat
namespace Go.Proofs.YtblblgmmgalmeaaDoor
open Go.RowKit
/-- pairs in memory -/
def PairsIn (w : World) (base : Nat) (O : Option Addr) (co : Nat) (rs : List RV) (E : List (Nat × Nat)) : Prop := RowsIn w base O co rs ∧ rs.map RV.xs = E.map fun p => [(p.1 : Int), (p.2 : Int)]
theorem PairsIn.len {w : World} {base co : Nat} {O : Option Addr} {rs : List RV} {E : List (Nat × Nat)} (h : PairsIn w base O co rs E) : rs.length = E.length := by
  have := congrArg List.length h.2
  simpa using this
theorem PairsIn.at_ {w : World} {base co : Nat} {O : Option Addr} {rs : List RV} {E : List (Nat × Nat)} (h : PairsIn w base O co rs E) {k : Nat} {p : Nat × Nat} (hk : E[k]? = some p) :
    ∃ go g c, O = some ⟨go, 0, none⟩ ∧ go < w.heap.size ∧ g < w.heap.size ∧ w.cell? ⟨go, k, none⟩ = some (.slice (some ⟨g, 0, none⟩) 2 c) ∧ w.cell? ⟨g, 0, none⟩ = some (.int .i64 (p.1 : Int)) ∧ w.cell? ⟨g, 1, none⟩ = some (.int .i64 (p.2 : Int)) := by
  have hl := h.len
  have hkl := (List.getElem?_eq_some_iff.1 hk).1
  have hkr : k < rs.length := by omega
  have hx : (rs[k]).xs = [(p.1 : Int), (p.2 : Int)] := by
    have h1 : (rs.map RV.xs)[k]? = some (rs[k]).xs := by simp [hkr]
    rw [h.2, List.getElem?_map, hk] at h1
    simpa using h1.symm
  have hrow := h.1.rows _ (List.getElem_mem hkr)
  have hxl : (rs[k]).xs.length = 2 := by rw [hx]; rfl
  obtain ⟨g, c, h3, _⟩ := hrow.form (by omega)
  have h3' := h3
  simp only [RV.val, Value.slice.injEq] at h3
  obtain ⟨go, cgo, hO, _, _⟩ := h.1.out.form (by omega)
  simp only [Value.slice.injEq, true_and] at hO
  obtain ⟨rfl, rfl⟩ := hO
  have hrow2 := hrow
  rw [h3', hx] at hrow2
  refine ⟨go, g, c, rfl, (h.1.out.lt go rfl).2, (hrow2.lt g rfl).2, ?_, ?_, ?_⟩
  · rw [h.1.out.cellAt k (by omega), List.getElem?_map, List.getElem?_eq_getElem hkr, Option.map_some, h3', hxl]
  · rw [hrow2.cellAt 0 (by simp)]; rfl
  · rw [hrow2.cellAt 1 (by simp)]; rfl
theorem PairsIn.below {w w' : World} {base co : Nat} {O : Option Addr} {rs : List RV} {E : List (Nat × Nat)} (h : PairsIn w base O co rs E) (hb : Below w.heap.size w w') : PairsIn w' base O co rs E := ⟨h.1.below hb, h.2⟩
def LabOK (w : World) (n : Nat) (L : Nat → Nat) (e : Ending) (w' : World) : Prop :=
  ∃ (V : Option Addr) (c : Nat), e = .returned (.slice V n c) ∧ w'.ownsRow w.heap.size 3 1 (.slice V n c) n (intsF n fun x => (L x : Int)) ∧ Below w.heap.size w w'
theorem grp_step {i v : Nat} {J L : Nat → Nat} (hv : J i = v) : (fun z => if z = i then (v : Int) else ((if z < i then J z else L z : Nat) : Int)) = fun z => ((if z < i + 1 then J z else L z : Nat) : Int) := by
  funext z
  by_cases h : z = i
  · subst h
    rw [if_pos rfl, if_pos (by omega), hv]
  · rw [if_neg h]
    by_cases h2 : z < i
    · rw [if_pos h2, if_pos (by omega)]
    · rw [if_neg h2, if_neg (by omega)]
theorem grp_same {i : Nat} {J L : Nat → Nat} (hv : J i = L i) : (fun z => ((if z < i then J z else L z : Nat) : Int)) = fun z => ((if z < i + 1 then J z else L z : Nat) : Int) := by
  funext z
  by_cases h : z = i
  · subst h
    rw [if_neg (by omega), if_pos (by omega), hv]
  · by_cases h2 : z < i
    · rw [if_pos h2, if_pos (by omega)]
    · rw [if_neg h2, if_neg (by omega)]
theorem intsF_snoc (k : Nat) (f : Nat → Int) : intsF (k + 1) f = intsF k f ++ [.int .i64 (f k)] := by simp [intsF, List.range_succ]
set_option maxHeartbeats 8000000 in
set_option maxRecDepth 100000 in
theorem refGroups {base co : Nat} {O : Option Addr} {rs : List RV} {E : List (Nat × Nat)} {w : World} (n m : Nat) (hP : PairsIn w base O co rs E) (hm : E.length = m) (hn : n ≤ 60) (hm6 : m ≤ 60) (hE : ∀ p ∈ E, p.1 < n ∧ p.2 < n) :
    Calls Tryd.prog 6 #[.int .i64 (n : Int), .slice O m co] w (LabOK w n (labels E)) := by
  have HP := Lib.hid hP
  have HM := Lib.hid hm
  have HE := Lib.hid hE
  have HB0 : Hid (Below w.heap.size w w) := Below.refl _ _
  clear hP hm hE
  go_enter Tryd.func6, Tryd.ntmps6
  go_wp2
  go_loopw [6, 5] (fun i v wr => ∃ (k : Nat) (V : Option Addr) (cv : Nat), i = .int .i64 (k : Int) ∧ k ≤ n ∧ v = .slice V k cv ∧ Hid (wr.ownsRow w.heap.size 3 1 (.slice V k cv) k (intsF k fun x => (x : Int))) ∧ Hid (Below w.heap.size w wr)) (fun i _ _ => n - (intOf i).toNat)
  case atStart => exact ⟨0, none, 0, rfl, by omega, rfl, by show World.ownsRow _ _ _ _ _ _ _; simpa [intsF] using World.ownsRow_nil _ _ _ _, HB0.out⟩
  case round =>
    clear HB0
    obtain ⟨k, V, cv, rfl, hk, rfl, HO, HB⟩ := hrel
    by_cases hkn : k < n
    · have hkz : (k : Int) < n := by omega
      have hnew : ∀ i : Nat, (wr.alloc (.cells #[.int .i64 (k : Int)] 3)).cell? ⟨wr.heap.size, i, none⟩ = ([.int .i64 (k : Int)] : List Value)[i]? := fun i => (Row.new wr 3 #[.int .i64 (k : Int)]).cell i
      have HNEW := Lib.hid hnew
      have hsz := HB.out.size
      clear hnew
      go_wp2_with (at_builtin; refine wp_push _ rfl (.tmp 16) (.tmp 18) 29 rfl w.heap.size 3 1 8 _ Tryd.underlying29 info_int rfl (by omega) V k cv (intsF k fun x => (x : Int)) rfl (HO.out.alloc _) wr.heap.size 1 [.int .i64 (k : Int)] rfl rfl (fun i u hu => (HNEW.out i).trans hu) (by intro u hu; simp at hu; subst hu; rfl) (by omega) (by omega) (by rw [World.size_alloc]; omega) ?_; intro g1 c1 w4 ho4 hb4 hg4 hgr4 hat4)
      have HO4 := Lib.hid ho4
      have HB4 : Hid (Below w.heap.size w w4) := (HB.out.alloc (by omega) _).trans hb4
      clear ho4 hb4 hgr4 hat4
      go_roundw
      case rel =>
        refine ⟨k + 1, _, c1, by go_num, by omega, rfl, ?_, HB4.out⟩
        show World.ownsRow _ _ _ _ _ _ _
        rw [intsF_snoc]; exact HO4.out
      case measure => simp [intOf]; omega
    · have hkz : ¬ (k : Int) < n := by omega
      obtain rfl : k = n := by omega
      have HO0 : Hid (wr.ownsRow w.heap.size 3 1 (.slice V k cv) k (intsF k fun x => (labels (E.take 0) x : Int))) := HO.out
      clear HO
      go_wp2
      go_loopw [7] (fun i wr => ∃ j : Nat, i = .int .i64 (j : Int) ∧ j ≤ m ∧ Hid (wr.ownsRow w.heap.size 3 1 (.slice V k cv) k (intsF k fun x => (labels (E.take j) x : Int))) ∧ Hid (Below w.heap.size w wr)) (fun i _ => m - (intOf i).toNat)
      case atStart => exact ⟨0, rfl, by omega, HO0.out, HB.out⟩
      case round =>
        clear HO0 HB
        obtain ⟨j, rfl, hj, HO, HB⟩ := hrel
        by_cases hjm : j < m
        · have hjz : (j : Int) < m := by omega
          have hj0 : (0 : Int) ≤ j := by omega
          obtain ⟨p, hp⟩ : ∃ p, E[j]? = some p := ⟨_, List.getElem?_eq_getElem (show j < E.length by rw [HM.out]; exact hjm)⟩
          obtain ⟨ha, hb⟩ := HE.out p (List.mem_of_getElem? hp)
          obtain ⟨go, gp, cp, hOe, hgo, hgp, f1, f2, f3⟩ := HP.out.at_ hp
          subst hOe
          rw [← HB.out.cell hgo] at f1
          rw [← HB.out.cell hgp] at f2 f3
          have htk : labels (E.take (j + 1)) = joinL (labels (E.take j)) p.1 p.2 := by rw [List.take_add_one, hp, Option.toList_some, labels_snoc]
          have HTK := Lib.hid htk
          obtain ⟨a, b⟩ := p
          simp only at ha hb f2 f3 HTK
          obtain ⟨g, cg, hV, _, _⟩ := HO.out.form (by omega)
          simp only [Value.slice.injEq, true_and] at hV
          obtain ⟨rfl, rfl⟩ := hV
          have haz : (a : Int) < k := by omega
          have hbz : (b : Int) < k := by omega
          have ha0 : (0 : Int) ≤ a := by omega
          have hb0 : (0 : Int) ≤ b := by omega
          have hla : wr.cell? ⟨g, a, none⟩ = some (.int .i64 (labels (E.take j) a : Int)) := by rw [HO.out.cellAt a (by omega)]; exact intsF_at ha
          have hlb : wr.cell? ⟨g, b, none⟩ = some (.int .i64 (labels (E.take j) b : Int)) := by rw [HO.out.cellAt b (by omega)]; exact intsF_at hb
          obtain ⟨L, hL⟩ : ∃ L, L = labels (E.take j) := ⟨_, rfl⟩
          rw [← hL] at HO HTK hla hlb
          clear hp htk hL
          obtain ⟨x, hx⟩ : ∃ x, x = L a := ⟨_, rfl⟩
          obtain ⟨y, hy⟩ : ∃ y, y = L b := ⟨_, rfl⟩
          rw [← hx] at hla
          rw [← hy] at hlb
          have HXY := Lib.hid (And.intro hx hy)
          clear hx hy
          have HO3 : Hid (wr.ownsRow w.heap.size 3 1 (.slice (some ⟨g, 0, none⟩) k cv) k (intsF k fun z => ((if z < 0 then joinL L a b z else L z : Nat) : Int))) := by
            have e : (fun z => ((if z < 0 then joinL L a b z else L z : Nat) : Int)) = fun z => (L z : Int) := by funext z; rw [if_neg (by omega)]
            show World.ownsRow _ _ _ _ _ _ _
            rw [e]; exact HO.out
          clear HO
          have hgB : Hid (w.heap.size ≤ g) := (HO3.out.lt g rfl).1
          go_wp2
          clear f1 f2 f3 hla hlb
          generalize wr = wq at HO3 HB ⊢
          by_cases hc : y < x
          · skip
            have d1 : decide ((y : Int) < (x : Int)) = true := decide_eq_true (by omega)
            have d2 : decide ((x : Int) < (y : Int)) = false := decide_eq_false (by omega)
            have HJ : Hid (∀ z, joinL L a b z = if L z = x then y else L z) := fun z => by unfold joinL; rw [← HXY.out.1, ← HXY.out.2, if_pos hc]; rfl
            go_loopw [10] (fun iv wr => ∃ i : Nat, iv = .int .i64 (i : Int) ∧ i ≤ k ∧ Hid (wr.ownsRow w.heap.size 3 1 (.slice (some ⟨g, 0, none⟩) k cv) k (intsF k fun z => ((if z < i then joinL L a b z else L z : Nat) : Int))) ∧ Hid (Below w.heap.size w wr)) (fun iv _ => k - (intOf iv).toNat)
            case atStart => exact ⟨0, rfl, by omega, HO3.out, HB.out⟩
            case round =>
              clear HO3 HB
              obtain ⟨i, rfl, hi, HO, HB⟩ := hrel
              by_cases hik : i < k
              · have hiz : (i : Int) < k := by omega
                have hi0 : (0 : Int) ≤ i := by omega
                have hci : wr.cell? ⟨g, i, none⟩ = some (.int .i64 (L i : Int)) := by
                  rw [HO.out.cellAt i (by omega), intsF_at hik, if_neg (by omega)]
                have hfz := HO.out.frozenAt i
                have hj := HJ.out i
                obtain ⟨c, hcc⟩ : ∃ c, c = L i := ⟨_, rfl⟩
                rw [← hcc] at hci hj
                have HCC := Lib.hid hcc
                have HJI := Lib.hid hj
                clear hcc hj
                by_cases hcx : c = x
                · have dx : ((c : Int) == (x : Int)) = true := by simp [hcx]
                  have HO2 : Hid ((wr.setCell ⟨g, i, none⟩ (.int .i64 (y : Int))).ownsRow w.heap.size 3 1 (.slice (some ⟨g, 0, none⟩) k cv) k (intsF k fun z => ((if z < i + 1 then joinL L a b z else L z : Nat) : Int))) := by
                    have e := grp_step (J := joinL L a b) (L := L) (i := i) (v := y) (by rw [HJI.out, if_pos hcx])
                    have h1 := (HO.out.stored i (.int .i64 (y : Int))).1
                    rw [intsF_set, e] at h1
                    exact h1
                  have HB2 : Hid (Below w.heap.size w (wr.setCell ⟨g, i, none⟩ (.int .i64 (y : Int)))) := HB.out.setCell hgB.out _
                  have hcs : (wr.setCell ⟨g, i, none⟩ (.int .i64 (y : Int))).cell? ⟨g, i, none⟩ = some (.int .i64 (y : Int)) := World.cell?_setCell_same _ _ _ hci
                  clear hcx
                  skip
                  go_wp2
                  go_roundw
                  case rel => exact ⟨i + 1, by go_num, by omega, HO2.out, HB2.out⟩
                  case measure => simp [intOf]; omega
                · have dx : ((c : Int) == (x : Int)) = false := by simp; omega
                  by_cases hcy : c = y
                  · have dy : ((c : Int) == (y : Int)) = true := by simp [hcy]
                    have HO2 : Hid (wr.ownsRow w.heap.size 3 1 (.slice (some ⟨g, 0, none⟩) k cv) k (intsF k fun z => ((if z < i + 1 then joinL L a b z else L z : Nat) : Int))) := by
                      have e := grp_same (J := joinL L a b) (L := L) (i := i) (by rw [HJI.out, if_neg hcx]; exact HCC.out)
                      show World.ownsRow _ _ _ _ _ _ _
                      rw [← e]; exact HO.out
                    clear hcx
                    clear hcy
                    go_wp2
                    go_roundw
                    case rel => exact ⟨i + 1, by go_num, by omega, HO2.out, HB.out⟩
                    case measure => simp [intOf]; omega
                  · have dy : ((c : Int) == (y : Int)) = false := by simp; omega
                    have HO2 : Hid (wr.ownsRow w.heap.size 3 1 (.slice (some ⟨g, 0, none⟩) k cv) k (intsF k fun z => ((if z < i + 1 then joinL L a b z else L z : Nat) : Int))) := by
                      have e := grp_same (J := joinL L a b) (L := L) (i := i) (by rw [HJI.out, if_neg hcx]; exact HCC.out)
                      show World.ownsRow _ _ _ _ _ _ _
                      rw [← e]; exact HO.out
                    clear hcx
                    clear hcy
                    go_wp2
                    go_roundw
                    case rel => exact ⟨i + 1, by go_num, by omega, HO2.out, HB.out⟩
                    case measure => simp [intOf]; omega
              · have hiz : ¬ (i : Int) < k := by omega
                obtain rfl : i = k := by omega
                have HO2 : Hid (wr.ownsRow w.heap.size 3 1 (.slice (some ⟨g, 0, none⟩) i cv) i (intsF i fun x => (labels (E.take (j + 1)) x : Int))) := by
                  have e : intsF i (fun x => (labels (E.take (j + 1)) x : Int)) = intsF i fun z => ((if z < i then joinL L a b z else L z : Nat) : Int) := by
                    unfold intsF
                    refine List.map_congr_left fun z hz => ?_
                    rw [HTK.out]
                    show Value.int .i64 ((joinL L a b z : Nat) : Int) = Value.int .i64 ((if z < i then joinL L a b z else L z : Nat) : Int)
                    rw [if_pos (List.mem_range.1 hz)]
                  show World.ownsRow _ _ _ _ _ _ _
                  rw [e]; exact HO.out
                go_wp2
                go_roundw
                case rel => exact ⟨j + 1, by go_num, by omega, HO2.out, HB.out⟩
                case measure => simp [intOf]; omega
          · by_cases hc2 : x < y
            · skip
              have d1 : decide ((y : Int) < (x : Int)) = false := decide_eq_false (by omega)
              have d2 : decide ((x : Int) < (y : Int)) = true := decide_eq_true (by omega)
              have HJ : Hid (∀ z, joinL L a b z = if L z = y then x else L z) := fun z => by unfold joinL; rw [← HXY.out.1, ← HXY.out.2, if_neg (by omega), if_pos hc2]; rfl
              go_loopw [10] (fun iv wr => ∃ i : Nat, iv = .int .i64 (i : Int) ∧ i ≤ k ∧ Hid (wr.ownsRow w.heap.size 3 1 (.slice (some ⟨g, 0, none⟩) k cv) k (intsF k fun z => ((if z < i then joinL L a b z else L z : Nat) : Int))) ∧ Hid (Below w.heap.size w wr)) (fun iv _ => k - (intOf iv).toNat)
              case atStart => exact ⟨0, rfl, by omega, HO3.out, HB.out⟩
              case round =>
                clear HO3 HB
                obtain ⟨i, rfl, hi, HO, HB⟩ := hrel
                by_cases hik : i < k
                · have hiz : (i : Int) < k := by omega
                  have hi0 : (0 : Int) ≤ i := by omega
                  have hci : wr.cell? ⟨g, i, none⟩ = some (.int .i64 (L i : Int)) := by
                    rw [HO.out.cellAt i (by omega), intsF_at hik, if_neg (by omega)]
                  have hfz := HO.out.frozenAt i
                  have hj := HJ.out i
                  obtain ⟨c, hcc⟩ : ∃ c, c = L i := ⟨_, rfl⟩
                  rw [← hcc] at hci hj
                  have HCC := Lib.hid hcc
                  have HJI := Lib.hid hj
                  clear hcc hj
                  by_cases hcx : c = x
                  · have dx : ((c : Int) == (x : Int)) = true := by simp [hcx]
                    have dy : ((c : Int) == (y : Int)) = false := by simp; omega
                    have HO2 : Hid (wr.ownsRow w.heap.size 3 1 (.slice (some ⟨g, 0, none⟩) k cv) k (intsF k fun z => ((if z < i + 1 then joinL L a b z else L z : Nat) : Int))) := by
                      have e := grp_same (J := joinL L a b) (L := L) (i := i) (by rw [HJI.out, if_neg (by omega)]; exact HCC.out)
                      show World.ownsRow _ _ _ _ _ _ _
                      rw [← e]; exact HO.out
                    clear hcx
                    skip
                    go_wp2
                    go_roundw
                    case rel => exact ⟨i + 1, by go_num, by omega, HO2.out, HB.out⟩
                    case measure => simp [intOf]; omega
                  · have dx : ((c : Int) == (x : Int)) = false := by simp; omega
                    by_cases hcy : c = y
                    · have dy : ((c : Int) == (y : Int)) = true := by simp [hcy]
                      have HO2 : Hid ((wr.setCell ⟨g, i, none⟩ (.int .i64 (x : Int))).ownsRow w.heap.size 3 1 (.slice (some ⟨g, 0, none⟩) k cv) k (intsF k fun z => ((if z < i + 1 then joinL L a b z else L z : Nat) : Int))) := by
                        have e := grp_step (J := joinL L a b) (L := L) (i := i) (v := x) (by rw [HJI.out, if_pos hcy])
                        have h1 := (HO.out.stored i (.int .i64 (x : Int))).1
                        rw [intsF_set, e] at h1
                        exact h1
                      have HB2 : Hid (Below w.heap.size w (wr.setCell ⟨g, i, none⟩ (.int .i64 (x : Int)))) := HB.out.setCell hgB.out _
                      have hcs : (wr.setCell ⟨g, i, none⟩ (.int .i64 (x : Int))).cell? ⟨g, i, none⟩ = some (.int .i64 (x : Int)) := World.cell?_setCell_same _ _ _ hci
                      clear hcx
                      clear hcy
                      go_wp2
                      go_roundw
                      case rel => exact ⟨i + 1, by go_num, by omega, HO2.out, HB2.out⟩
                      case measure => simp [intOf]; omega
                    · have dy : ((c : Int) == (y : Int)) = false := by simp; omega
                      have HO2 : Hid (wr.ownsRow w.heap.size 3 1 (.slice (some ⟨g, 0, none⟩) k cv) k (intsF k fun z => ((if z < i + 1 then joinL L a b z else L z : Nat) : Int))) := by
                        have e := grp_same (J := joinL L a b) (L := L) (i := i) (by rw [HJI.out, if_neg hcy]; exact HCC.out)
                        show World.ownsRow _ _ _ _ _ _ _
                        rw [← e]; exact HO.out
                      clear hcx
                      clear hcy
                      go_wp2
                      go_roundw
                      case rel => exact ⟨i + 1, by go_num, by omega, HO2.out, HB.out⟩
                      case measure => simp [intOf]; omega
                · have hiz : ¬ (i : Int) < k := by omega
                  obtain rfl : i = k := by omega
                  have HO2 : Hid (wr.ownsRow w.heap.size 3 1 (.slice (some ⟨g, 0, none⟩) i cv) i (intsF i fun x => (labels (E.take (j + 1)) x : Int))) := by
                    have e : intsF i (fun x => (labels (E.take (j + 1)) x : Int)) = intsF i fun z => ((if z < i then joinL L a b z else L z : Nat) : Int) := by
                      unfold intsF
                      refine List.map_congr_left fun z hz => ?_
                      rw [HTK.out]
                      show Value.int .i64 ((joinL L a b z : Nat) : Int) = Value.int .i64 ((if z < i then joinL L a b z else L z : Nat) : Int)
                      rw [if_pos (List.mem_range.1 hz)]
                    show World.ownsRow _ _ _ _ _ _ _
                    rw [e]; exact HO.out
                  go_wp2
                  go_roundw
                  case rel => exact ⟨j + 1, by go_num, by omega, HO2.out, HB.out⟩
                  case measure => simp [intOf]; omega
            · skip
              have d1 : decide ((y : Int) < (x : Int)) = false := decide_eq_false (by omega)
              have d2 : decide ((x : Int) < (y : Int)) = false := decide_eq_false (by omega)
              have HJ : Hid (∀ z, joinL L a b z = L z) := fun z => by unfold joinL; rw [← HXY.out.1, ← HXY.out.2, if_neg (by omega), if_neg (by omega)]
              go_loopw [10] (fun iv wr => ∃ i : Nat, iv = .int .i64 (i : Int) ∧ i ≤ k ∧ Hid (wr.ownsRow w.heap.size 3 1 (.slice (some ⟨g, 0, none⟩) k cv) k (intsF k fun z => ((if z < i then joinL L a b z else L z : Nat) : Int))) ∧ Hid (Below w.heap.size w wr)) (fun iv _ => k - (intOf iv).toNat)
              case atStart => exact ⟨0, rfl, by omega, HO3.out, HB.out⟩
              case round =>
                clear HO3 HB
                obtain ⟨i, rfl, hi, HO, HB⟩ := hrel
                by_cases hik : i < k
                · have hiz : (i : Int) < k := by omega
                  have hi0 : (0 : Int) ≤ i := by omega
                  have hci : wr.cell? ⟨g, i, none⟩ = some (.int .i64 (L i : Int)) := by
                    rw [HO.out.cellAt i (by omega), intsF_at hik, if_neg (by omega)]
                  have hfz := HO.out.frozenAt i
                  have hj := HJ.out i
                  obtain ⟨c, hcc⟩ : ∃ c, c = L i := ⟨_, rfl⟩
                  rw [← hcc] at hci hj
                  have HCC := Lib.hid hcc
                  have HJI := Lib.hid hj
                  clear hcc hj
                  by_cases hcx : c = x
                  · have dx : ((c : Int) == (x : Int)) = true := by simp [hcx]
                    have dy : ((c : Int) == (y : Int)) = true := by simp; omega
                    have HO2 : Hid (wr.ownsRow w.heap.size 3 1 (.slice (some ⟨g, 0, none⟩) k cv) k (intsF k fun z => ((if z < i + 1 then joinL L a b z else L z : Nat) : Int))) := by
                      have e := grp_same (J := joinL L a b) (L := L) (i := i) (by rw [HJI.out]; exact HCC.out)
                      show World.ownsRow _ _ _ _ _ _ _
                      rw [← e]; exact HO.out
                    clear hcx
                    skip
                    go_wp2
                    go_roundw
                    case rel => exact ⟨i + 1, by go_num, by omega, HO2.out, HB.out⟩
                    case measure => simp [intOf]; omega
                  · have dx : ((c : Int) == (x : Int)) = false := by simp; omega
                    by_cases hcy : c = y
                    · have dy : ((c : Int) == (y : Int)) = true := by simp [hcy]
                      have HO2 : Hid (wr.ownsRow w.heap.size 3 1 (.slice (some ⟨g, 0, none⟩) k cv) k (intsF k fun z => ((if z < i + 1 then joinL L a b z else L z : Nat) : Int))) := by
                        have e := grp_same (J := joinL L a b) (L := L) (i := i) (by rw [HJI.out]; exact HCC.out)
                        show World.ownsRow _ _ _ _ _ _ _
                        rw [← e]; exact HO.out
                      clear hcx
                      clear hcy
                      go_wp2
                      go_roundw
                      case rel => exact ⟨i + 1, by go_num, by omega, HO2.out, HB.out⟩
                      case measure => simp [intOf]; omega
                    · have dy : ((c : Int) == (y : Int)) = false := by simp; omega
                      have HO2 : Hid (wr.ownsRow w.heap.size 3 1 (.slice (some ⟨g, 0, none⟩) k cv) k (intsF k fun z => ((if z < i + 1 then joinL L a b z else L z : Nat) : Int))) := by
                        have e := grp_same (J := joinL L a b) (L := L) (i := i) (by rw [HJI.out]; exact HCC.out)
                        show World.ownsRow _ _ _ _ _ _ _
                        rw [← e]; exact HO.out
                      clear hcx
                      clear hcy
                      go_wp2
                      go_roundw
                      case rel => exact ⟨i + 1, by go_num, by omega, HO2.out, HB.out⟩
                      case measure => simp [intOf]; omega
                · have hiz : ¬ (i : Int) < k := by omega
                  obtain rfl : i = k := by omega
                  have HO2 : Hid (wr.ownsRow w.heap.size 3 1 (.slice (some ⟨g, 0, none⟩) i cv) i (intsF i fun x => (labels (E.take (j + 1)) x : Int))) := by
                    have e : intsF i (fun x => (labels (E.take (j + 1)) x : Int)) = intsF i fun z => ((if z < i then joinL L a b z else L z : Nat) : Int) := by
                      unfold intsF
                      refine List.map_congr_left fun z hz => ?_
                      rw [HTK.out]
                      show Value.int .i64 ((joinL L a b z : Nat) : Int) = Value.int .i64 ((if z < i then joinL L a b z else L z : Nat) : Int)
                      rw [if_pos (List.mem_range.1 hz)]
                    show World.ownsRow _ _ _ _ _ _ _
                    rw [e]; exact HO.out
                  go_wp2
                  go_roundw
                  case rel => exact ⟨j + 1, by go_num, by omega, HO2.out, HB.out⟩
                  case measure => simp [intOf]; omega
        · have hjz : ¬ (j : Int) < m := by omega
          obtain rfl : j = m := by omega
          have HF : Hid (wr.ownsRow w.heap.size 3 1 (.slice V k cv) k (intsF k fun x => (labels E x : Int))) := by
            have h := HO.out
            rw [List.take_of_length_le (by rw [HM.out]; exact Nat.le_refl _)] at h
            exact h
          go_wp2
          go_ret
          exact ⟨V, cv, rfl, HF.out, HB.out⟩
end Go.Proofs.YtblblgmmgalmeaaDoor
