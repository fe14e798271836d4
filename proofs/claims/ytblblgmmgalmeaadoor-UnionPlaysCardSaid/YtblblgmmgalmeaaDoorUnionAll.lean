/- What union.Groups' All answers: the groups, each rising, by their first things. Conditions: at most 60 things. -/
import Derived.Test.YtblblgmmgalmeaaDoorUnionNew
import Derived.Test.YtblblgmmgalmeaaDoorUnionRows
import Derived.Test.YtblblgmmgalmeaaDoorRowsMem
import Derived.Maps.Own
import Derived.Maps.OwnOps
import Derived.Maps.OwnSet
import Derived.Maps.Views
import Derived.Maps.Keyed
namespace Go.Proofs.YtblblgmmgalmeaaDoor
open Go.RowKit Go.Maps

theorem mlaw : Keyed Tryd.prog 3 := int_keyed Tryd.underlying3
theorem mzero (w : World) : (zeroValue 3).run Tryd.prog w = .ok (.int .i64 0) w := by kernel_rfl
theorem small_wf {x : Nat} (h : x ≤ 60) : (Lit.int .i64 (x : Int)).wf = true := by
  simp [Lit.wf, IntKind.min, IntKind.max, IntKind.signed, IntKind.bits]; omega
/-- the map of All: of each one that stands for a group the group's place -/
structure MapIs (D : DataW Unit) (n : Nat) (fs : List Nat) : Prop where
  is : IsMap D
  has : ∀ x, x < n → Maps.has D (.int .i64 (x : Int)) = decide (x ∈ fs)
  at_ : ∀ (x j : Nat), x < n → fs[j]? = some x → D.atKey (.int .i64 (x : Int)) (.lit (.int .i64 0)) = .lit (.int .i64 (j : Int))
theorem own_map_keep {w w' : World} {k : TypeId} {R : Value → Option (DataW Unit × List MemPlace)} {b n : Nat} {D : DataW Unit} (h : w.ownsMap Tryd.prog k R b n D) (e : w'.heap[b]? = w.heap[b]?) : w'.ownsMap Tryd.prog k R b n D := by
  obtain ⟨es, c, h1, h2⟩ := h
  exact ⟨es, c, e.trans h1, h2⟩

theorem info_ints : (Tryd.prog.info? 29).map (fun i => (i.zero, i.size, i.bytes)) = some (some (.slice none 0 0), 1, 24) := by kernel_rfl
theorem MapIs.put {D : DataW Unit} {n x : Nat} {fs : List Nat} (h : MapIs D n fs) (hx : x ∉ fs) : MapIs (D.put (.int .i64 (x : Int)) (.lit (.int .i64 (fs.length : Int)))) n (fs ++ [x]) := by
  have hk : WideAt.IsKeyLit (.int .i64 (x : Int)) := trivial
  have hne : ∀ y : Nat, y ≠ x → (Lit.int .i64 (y : Int)) ≠ .int .i64 (x : Int) := fun y hy e => by injection e with _ e; omega
  refine ⟨?_, fun y hy => ?_, fun y j hy hj => ?_⟩
  · obtain ⟨es, rfl⟩ := h.is
    exact ⟨_, rfl⟩
  · by_cases e : y = x
    · subst e; rw [has_put_same h.is hk]; simp
    · rw [has_put_other (hne y e), h.has y hy, decide_eq_decide]; simp [e]
  · by_cases hjl : j < fs.length
    · rw [List.getElem?_append_left hjl] at hj
      have e : y ≠ x := fun e => hx (by subst e; exact List.mem_of_getElem? hj)
      rw [atKey_put_other (hne y e)]; exact h.at_ y j hy hj
    · rw [List.getElem?_append_right (by omega)] at hj
      have hj0 : j - fs.length = 0 := by
        have := (List.getElem?_eq_some_iff.1 hj).1; simp at this; omega
      rw [hj0] at hj
      simp at hj
      subst hj
      rw [atKey_put_same h.is hk, show j = fs.length by omega]

theorem UG.below {w w' : World} {base p n cu cs B : Nat} {U S : Option Addr} {R : Nat → Nat} (h : UG w base p n U cu S cs R) (hb : Below B w w') (hd : ∀ x ∈ ugs p U S, x < B) (_hB : B ≤ w.heap.size) : UG w' base p n U cu S cs R := by
  have hk : Keeps ((List.range w.heap.size).filter fun x => decide (B ≤ x)) w w' := ⟨hb.os, hb.tape, hb.output, hb.size, fun k hk hn => hb.block k (by
    rcases Nat.lt_or_ge k B with h1 | h1
    · exact h1
    · exact absurd (List.mem_filter.2 ⟨List.mem_range.2 hk, by simpa using h1⟩) hn)⟩
  exact h.keeps hk fun x hx hm => by
    have h1 := hd x hx
    have h2 := (List.mem_filter.1 hm).2
    simp at h2; omega
theorem Keeps.thenBelow {w w1 w' : World} {bs : List Nat} {B : Nat} (h : Keeps bs w w1) (hb : Below B w1 w') (hB : w.heap.size ≤ B) : Keeps bs w w' :=
  ⟨hb.os.trans h.os, hb.tape.trans h.tape, hb.output.trans h.output, Nat.le_trans h.size hb.size, fun k hk hn => (hb.block k (by omega)).trans (h.block k hk hn)⟩
/-- what All leaves -/
def AllOK (w : World) (base p n : Nat) (U : Option Addr) (cu : Nat) (S : Option Addr) (cs : Nat) (R : Nat → Nat) (e : Ending) (w' : World) : Prop :=
  ∃ (O : Option Addr) (co : Nat) (rs : List RV), e = .returned (.slice O rs.length co) ∧ RowsIn w' (w.heap.size + 1) O co rs ∧ rs.map RV.xs = groupsOf R n ∧ UG w' base p n U cu S cs R ∧ Keeps (ugs p U S) w w'

set_option maxHeartbeats 4000000 in
set_option maxRecDepth 100000 in
theorem all_ {w : World} {base p n cu cs : Nat} {U S : Option Addr} {R : Nat → Nat} (h : UG w base p n U cu S cs R) :
    Calls Tryd.prog 11 #[.pointer (some ⟨p, 0, none⟩)] w (AllOK w base p n U cu S cs R) := by
  have hmm := @run_makeMap Tryd.prog
  have HBL := Lib.hid h.base_le
  have HFEW := Lib.hid h.few
  have hn60 := h.few
  have hc0 : (w.alloc (.map #[] 0)).cell? ⟨p, 0, none⟩ = some (.slice U n cu) := by
    rw [World.cell?_alloc_lt w _ ⟨p, 0, none⟩ (by have := (h.base_le p (by simp [ugs])).2; simpa using this)]; exact h.c0
  have HU : Hid (UG (w.alloc (.map #[] 0)) base p n U cu S cs R) := h.keeps (bs := []) ((Keeps.refl [] w).alloc _) (by simp)
  have HK : Hid (Keeps (ugs p U S) w (w.alloc (.map #[] 0))) := (Keeps.refl _ w).alloc _
  have HM : Hid ((w.alloc (.map #[] 0)).ownsMap Tryd.prog 3 (plainElem (H := Unit) Tryd.prog 3) w.heap.size 0 (.map [])) := World.ownsMap_made _ _ _ _
  clear h
  go_enter Tryd.func11, Tryd.ntmps11
  go_wp2
  clear hmm
  go_loopw [3, 15] (fun v i wr => ∃ (k : Nat) (O : Option Addr) (co : Nat) (rs : List RV) (D : DataW Unit), k ≤ n ∧ i = .int .i64 (k : Int) ∧ v = .slice O rs.length co ∧ Hid (RowsIn wr (w.heap.size + 1) O co rs) ∧ Hid (rs.map RV.xs = groupsOf R k) ∧ Hid (UG wr base p n U cu S cs R) ∧ Hid (wr.ownsMap Tryd.prog 3 (plainElem Tryd.prog 3) w.heap.size k D) ∧ Hid (MapIs D n (firsts R k)) ∧ Hid (Keeps (ugs p U S) w wr)) (fun _ i _ => n - (intOf i).toNat)
  case atStart => exact ⟨0, none, 0, [], .map [], Nat.zero_le _, rfl, rfl, RowsIn.start _ _, rfl, HU, HM, ⟨⟨[], rfl⟩, fun x _ => rfl, fun x j _ hj => by simp [firsts] at hj⟩, HK⟩
  case round =>
    clear HU HK HM hc0
    obtain ⟨k, O, co, rs, D, hk, rfl, rfl, HR, HX, HU, HM, HI, HK⟩ := hrel
    by_cases hlt : k < n
    · have hlz : (k : Int) < n := by omega
      have c1 := Lib.hid (findG HU.out hlt)
      have hrk := HU.out.lt hlt
      go_wp2_with fail
      refine c1.out.mono ?_
      rintro e w1 ⟨rfl, hu1, hk1⟩
      have HU1 := Lib.hid hu1
      have HK1 := Lib.hid (HK.out.trans hk1)
      have HR1 := Lib.hid (HR.out.keeps hk1 (fun x hx => by have := (HBL.out x hx).2; omega))
      have HM1 := Lib.hid (own_map_keep HM.out (hk1.block w.heap.size (by have := HK.out.size; obtain ⟨es, c, h1, _⟩ := HM.out; exact lt_of_block h1) (fun hm => by have := (HBL.out _ hm).2; omega)))
      have hsz1 : w.heap.size + 1 ≤ w1.heap.size := by obtain ⟨es, c, h1, _⟩ := HM1.out; exact lt_of_block h1
      have hlen : Hid (rs.length = (firsts R k).length) := by
        have := congrArg List.length HX.out
        show _ = _
        simpa [groupsOf] using this
      have hlen2 := firsts_len R k
      rw [← hlen.out] at hlen2
      have hkey : keyOf Tryd.prog 3 (.int .i64 (R k : Int)) = some (.int .i64 (R k : Int)) := keyOf_int_mk Tryd.underlying3 (small_wf (by omega))
      have HKEY := Lib.hid hkey
      clear hu1 hk1 c1 hkey HU HR HM HK
      have hnewi := fun (W : World) (z : Int) => (Row.new W 3 #[.int .i64 z]).cell
      have HNEWI := Lib.hid hnewi
      have hnewn := fun (W : World) => (Row.new W 29 #[.slice none 0 0]).cell
      have HNEWN := Lib.hid hnewn
      clear hnewi hnewn
      by_cases hm : R k ∈ firsts R k
      · obtain ⟨j, hj⟩ := List.getElem?_of_mem hm
        have hhas : Maps.has D (.int .i64 (R k : Int)) = true := by rw [HI.out.has _ hrk]; exact decide_eq_true hm
        have HAT := Lib.hid (HI.out.at_ _ _ hrk hj)
        have hjl : j < rs.length := by rw [hlen.out]; exact (List.getElem?_eq_some_iff.1 hj).1
        have hjz : (j : Int) < rs.length := by omega
        have HJ := Lib.hid hj
        obtain ⟨r, hr⟩ : ∃ r, rs[j]? = some r := ⟨_, List.getElem?_eq_getElem hjl⟩
        have HRJ := Lib.hid hr
        obtain ⟨go, cgo, hO, _, _⟩ := HR1.out.out.form (by omega)
        simp only [Value.slice.injEq, true_and] at hO
        obtain ⟨rfl, rfl⟩ := hO
        have hcell : w1.cell? ⟨go, j, none⟩ = some (.slice r.at_ r.xs.length r.cap) := by rw [HR1.out.out.cellAt j (by omega)]; simp [hr, RV.val]
        have hrow := Lib.hid (HR1.out.rows r (List.mem_of_getElem? hr))
        have hrl : r.xs.length ≤ 60 := by
          have e : (rs.map RV.xs)[j]? = some r.xs := by simp [hr]
          rw [HX.out] at e
          simp only [groupsOf, List.getElem?_map, hj, Option.map_some, Option.some.injEq] at e
          rw [← e]
          unfold members
          rw [List.length_map]
          have := List.length_filter_le (fun x => R x == R k) (List.range k)
          simp at this; omega
        clear hj hr hm
        go_wp2_with (first | (at_lookup; refine wpList_lookup_own_ok_int _ rfl _ _ 45 rfl 3 3 .i64 mlaw Tryd.underlying45 Tryd.underlying3 (mzero _) w.heap.size k _ rfl HM1.out _ _ rfl HKEY.out ?_; intro c hat hwc; have hcj : c = (j : Int) := (by rw [HAT.out] at hat; injection hat with h1; injection h1 with _ h2; exact h2.symm); subst hcj; clear hat hwc) | (at_builtin; refine wp_push _ rfl (.tmp 42) (.tmp 44) 29 rfl (w.heap.size + 1) 3 1 8 _ Tryd.underlying29 info_int rfl (by omega) r.at_ r.xs.length r.cap (ints r.xs) rfl (hrow.out.alloc _) w1.heap.size 1 [.int .i64 (k : Int)] rfl rfl (fun j u hu => (HNEWI.out _ _ j).trans hu) (by intro u hu; simp at hu; subst hu; rfl) (by omega) (by omega) (by simp; omega) ?_; intro g1 c1 w4 ho4 hb4 hg4 hgr4 hat4; have hgrow := (HR1.out.alloc (.cells #[.int .i64 (k : Int)] 3)).grow HRJ.out ho4 hgr4 (hat4.imp id (fun e => by rw [e]; exact Nat.le_refl _)) rfl; have hfz := hgrow.2.1; have hcz := hgrow.2.2; have HG := Lib.hid hgrow.1; have HGR := Lib.hid hgr4; have HB4 := Lib.hid hb4; clear hgrow ho4 hb4 hgr4 hat4))
        have hgo := (HR1.out.out.lt go rfl).1
        have hB : Below (w.heap.size + 1) w1 (w4.setCell ⟨go, j, none⟩ (.slice (some ⟨g1, 0, none⟩) (r.xs.length + 1) c1)) := (((Below.refl _ _).alloc hsz1 _).trans HB4.out).setCell (p := ⟨go, j, none⟩) hgo _
        have hUF := HU1.out.below hB (fun x hx => by have := (HBL.out x hx).2; omega) hsz1
        have hMF := own_map_keep HM1.out (hB.block w.heap.size (by omega))
        have hKF := HK1.out.thenBelow hB (by omega)
        obtain ⟨f1, f2⟩ := groups_old HJ.out
        have hmem : r.xs = members R k (R k) := by
          have e : (rs.map RV.xs)[j]? = some r.xs := by simp [HRJ.out]
          rw [HX.out] at e
          simp only [groupsOf, List.getElem?_map, HJ.out, Option.map_some, Option.some.injEq] at e
          exact e.symm
        have hXF : (rs.set j ⟨some ⟨g1, 0, none⟩, c1, r.xs ++ [(k : Int)]⟩).map RV.xs = groupsOf R (k + 1) := by
          rw [List.map_set, HX.out, f2, hmem]
        have hIF : MapIs D n (firsts R (k + 1)) := by rw [f1]; exact HI.out
        have hMF' : (w4.setCell ⟨go, j, none⟩ (.slice (some ⟨g1, 0, none⟩) (r.xs.length + 1) c1)).ownsMap Tryd.prog 3 (plainElem Tryd.prog 3) w.heap.size (k + 1) D := by
          obtain ⟨es, c, m1, m2, m3, m4⟩ := hMF
          exact ⟨es, c, m1, m2, by omega, m4⟩
        have HF := Lib.hid (And.intro hUF (And.intro hMF' (And.intro hKF (And.intro hXF hIF))))
        clear hUF hMF hMF' hKF hXF hIF hB f1 f2 hmem
        go_roundw
        case rel => exact ⟨k + 1, some ⟨go, 0, none⟩, co, _, D, by omega, by go_num, by rw [List.length_set], HG.out, HF.out.2.2.2.1, HF.out.1, HF.out.2.1, HF.out.2.2.2.2, HF.out.2.2.1⟩
        case measure => simp [intOf]; omega
      · have hhas : Maps.has D (.int .i64 (R k : Int)) = false := by rw [HI.out.has _ hrk]; exact decide_eq_false hm
        have HNM := Lib.hid hm
        have hwl : (Lit.int .i64 (rs.length : Int)).wf = true := small_wf (by omega)
        have HWL := Lib.hid hwl
        clear hm hwl
        have HG0 := HR1
        go_wp2_with (first | (at_lookup; refine wpList_lookup_own_ok_int _ rfl _ _ 45 rfl 3 3 .i64 mlaw Tryd.underlying45 Tryd.underlying3 (mzero _) w.heap.size k _ rfl HM1.out _ _ rfl HKEY.out ?_; intro c hat hwc; clear hat hwc) | (at_mapUpdate; refine wpList_mapUpdate_own _ rfl _ _ _ 45 rfl 3 3 mlaw Tryd.underlying45 _ w.heap.size k _ rfl HM1.out (by unfold maxLen; omega) _ _ _ rfl rfl HKEY.out _ [] (plainElem_int Tryd.underlying3 HWL.out) ?_; intro w2 hown2 hgrow2; have HM2 := Lib.hid hown2; have HGR2 := Lib.hid hgrow2; have hsz2 := hgrow2.size; have HR2 := Lib.hid (HR1.out.keep (w' := w2) (fun g hg hl => HGR2.out.block g hl (by intro e; injection e with e; omega))); clear hown2 hgrow2) | (at_builtin; refine wp_push _ rfl (.tmp 34) (.tmp 35) 22 rfl (w.heap.size + 1) 29 1 24 _ Tryd.underlying22 info_ints rfl (by omega) O rs.length co _ rfl (HR2.out.out.alloc _) w2.heap.size 1 [.slice none 0 0] rfl rfl (fun j u hu => (HNEWN.out _ j).trans hu) (by intro u hu; simp at hu; subst hu; rfl) (by omega) (by omega) (by simp; omega) ?_; intro g3 c3 w3 ho3 hb3 hg3 hgr3 hat3; have HR3 := Lib.hid ((HR2.out.alloc (.cells #[.slice none 0 0] 29)).push ho3 hgr3); have hsz3 := hb3.size; simp only [World.size_alloc] at hsz3; have hcell : w3.cell? ⟨g3, rs.length, none⟩ = some (.slice none 0 0) := (by rw [ho3.cellAt rs.length (by omega)]; simp); have HB3 := Lib.hid hb3; clear ho3 hb3 hgr3 hat3) | (at_builtin; refine wp_push _ rfl (.tmp 42) (.tmp 44) 29 rfl (w.heap.size + 1) 3 1 8 _ Tryd.underlying29 info_int rfl (by omega) none 0 0 [] rfl (World.ownsRow_nil _ _ _ _) w3.heap.size 1 [.int .i64 (k : Int)] rfl rfl (fun j u hu => (HNEWI.out _ _ j).trans hu) (by intro u hu; simp at hu; subst hu; rfl) (by omega) (by omega) (by simp; omega) ?_; intro g1 c1 w4 ho4 hb4 hg4 hgr4 hat4; have hgrow := (HR3.out.alloc (.cells #[.int .i64 (k : Int)] 3)).grow (j := rs.length) (r := ⟨none, 0, []⟩) (by simp) ho4 hgr4 (hat4.imp id (fun e => by rw [e]; exact Nat.le_refl _)) rfl; have hfz := hgrow.2.1; have hcz := hgrow.2.2; have HG := Lib.hid hgrow.1; have HB4 := Lib.hid hb4; clear hgrow ho4 hb4 hgr4 hat4))
        have hg3 : w.heap.size + 1 ≤ g3 := (HG.out.out.lt g3 rfl).1
        have hB : Below (w.heap.size + 1) w2 (w4.setCell ⟨g3, rs.length, none⟩ (.slice (some ⟨g1, 0, none⟩) 1 c1)) := ((((Below.refl _ _).alloc (by omega) (.cells #[.slice none 0 0] 29)).trans HB3.out).alloc (by omega) (.cells #[.int .i64 (k : Int)] 3) |>.trans HB4.out).setCell (p := ⟨g3, rs.length, none⟩) hg3 _
        have hK2 : Keeps [w.heap.size] w1 w2 := Keeps.ofGrown HGR2.out (fun q hq => by injection hq with hq; subst hq; simp)
        have hU2 := HU1.out.keeps hK2 (fun x hx => by have := (HBL.out x hx).2; simp; omega)
        have hUF := hU2.below hB (fun x hx => by have := (HBL.out x hx).2; omega) (by omega)
        have hMF := own_map_keep HM2.out (hB.block w.heap.size (by omega))
        have hK12 : Keeps (ugs p U S) w w2 := ⟨hK2.os.trans HK1.out.os, hK2.tape.trans HK1.out.tape, hK2.output.trans HK1.out.output, Nat.le_trans HK1.out.size hK2.size, fun q hq hn => (hK2.block q (by omega) (by simp; omega)).trans (HK1.out.block q hq hn)⟩
        have hKF := hK12.thenBelow hB (by omega)
        obtain ⟨f1, f2⟩ := groups_new HNM.out
        have hXF : ((rs ++ [(⟨none, 0, []⟩ : RV)]).set rs.length (⟨some ⟨g1, 0, none⟩, c1, [] ++ [(k : Int)]⟩ : RV)).map RV.xs = groupsOf R (k + 1) := by
          rw [f2, ← HX.out]; simp
        have hIF : MapIs (D.put (.int .i64 (R k : Int)) (.lit (.int .i64 (rs.length : Int)))) n (firsts R (k + 1)) := by rw [f1, hlen.out]; exact HI.out.put HNM.out
        have HF := Lib.hid (And.intro hUF (And.intro hMF (And.intro hKF (And.intro hXF hIF))))
        clear hUF hMF hKF hXF hIF hB f1 f2 hK2 hU2 hK12
        go_roundw
        case rel => exact ⟨k + 1, some ⟨g3, 0, none⟩, c3, _, _, by omega, by go_num, by rw [List.length_set]; simp, HG.out, HF.out.2.2.2.1, HF.out.1, HF.out.2.1, HF.out.2.2.2.2, HF.out.2.2.1⟩
        case measure => simp [intOf]; omega
    · have hkn : k = n := by omega
      subst hkn
      have hlz : ¬ (k : Int) < k := by omega
      have HF : Hid (AllOK w base p k U cu S cs R (.returned (.slice O rs.length co)) wr) := ⟨O, co, rs, rfl, HR.out, HX.out, HU.out, HK.out⟩
      go_wp2
      go_ret
      exact HF.out
end Go.Proofs.YtblblgmmgalmeaaDoor
