/- What the document's Far and Way answer: by the labels of the nodes. Conditions: the graph is one that may be, and the nodes are of it. -/
import Derived.Test.YtmcfhiddhifdcaaDoorRefWays
namespace Go.Proofs.YtmcfhiddhifdcaaDoor
open Go.RowKit
def farV (L : Nat → Lab) (v : Nat) : Int := if (L v).2.length = 0 then -1 else (L v).1
def RefFarOK (w : World) (N : Nat) (l : List Edge) (s : Nat) (e : Ending) (w' : World) : Prop :=
  ∃ (V : Option Addr) (cv : Nat) (L : Nat → Lab), e = .returned (.slice V N cv) ∧ Cells w' w'.heap.size V (ints ((List.range N).map (farV L))) ∧ Lbs l N s L ∧ (∀ e ∈ l, closedE L e) ∧ Below w.heap.size w w'
def RefWayOK (w : World) (N : Nat) (l : List Edge) (s t : Nat) (e : Ending) (w' : World) : Prop :=
  ∃ (V : Option Addr) (cv : Nat) (L : Nat → Lab), e = .returned (.slice V (L t).2.length cv) ∧ Cells w' w'.heap.size V (ints (L t).2) ∧ Lbs l N s L ∧ (∀ e ∈ l, closedE L e) ∧ Below w.heap.size w w'
set_option maxHeartbeats 2000000 in
set_option maxRecDepth 100000 in
theorem refWay (N : Nat) (A : Option Addr) (n c : Nat) (l : List Edge) (s t : Nat) (w : World) (hA : Cells w w.heap.size A (edges l)) (hn : l.length = n) (hg : graphErr N l = 0) (hs : s < N) (ht : t < N) :
    Calls Tryd.prog 9 #[graphV N A n c, .int .i64 (s : Int), .int .i64 (t : Int)] w (RefWayOK w N l s t) := by
  have HB0 : Hid (Below w.heap.size w (w.alloc (.cells #[.int .i64 (N : Int), .slice A n c] 24))) := (Below.refl _ _).alloc (Nat.le_refl _) _
  have C1 := Lib.hid (refWays N A n c l s (w.alloc (.cells #[.int .i64 (N : Int), .slice A n c] 24)) (hA.step HB0.out) hn hg hs)
  have HR0 : Row (w.alloc (.cells #[.int .i64 (N : Int), .slice A n c] 24)) w.heap.size 24 [.int .i64 (N : Int), .slice A n c] := Row.new _ _ _
  have hq0 := HR0.cell 0
  have hq1 := HR0.cell 1
  have htz : (t : Int) < N := by omega
  clear HR0 hA hn hg
  unfold graphV at C1 ⊢
  go_enter Tryd.func9, Tryd.ntmps9
  go_wp2_with fail
  refine C1.out.mono ?_
  rintro e w1 ⟨g, ps, cs, L, rfl, hl, hlb, hcl, hb1⟩
  have HL := Lib.hid hl
  have HF : Hid (RefWayOK w N l s t (.returned (.slice (ps t) (L t).2.length (cs t))) w1) := ⟨ps t, cs t, L, rfl, hl.cells ht, hlb, hcl, HB0.out.trans (hb1.mono HB0.out.size)⟩
  have l1 := hl.at1 ht
  generalize (L t).2.length = m at HF l1
  clear hl hlb hcl hb1 C1 hq0 hq1
  go_wp2
  go_ret
  exact HF.out
set_option maxHeartbeats 4000000 in
set_option maxRecDepth 100000 in
theorem refFar (N : Nat) (A : Option Addr) (n c : Nat) (l : List Edge) (s : Nat) (w : World) (hA : Cells w w.heap.size A (edges l)) (hn : l.length = n) (hg : graphErr N l = 0) (hs : s < N) :
    Calls Tryd.prog 5 #[graphV N A n c, .int .i64 (s : Int)] w (RefFarOK w N l s) := by
  obtain ⟨⟨_, hN1⟩, _, _⟩ := graphErr_ok hg
  have hN : N ≤ 16 := by omega
  have HB0 : Hid (Below w.heap.size w (w.alloc (.cells #[.int .i64 (N : Int), .slice A n c] 24))) := (Below.refl _ _).alloc (Nat.le_refl _) _
  have C1 := Lib.hid (refWays N A n c l s (w.alloc (.cells #[.int .i64 (N : Int), .slice A n c] 24)) (hA.step HB0.out) hn hg hs)
  have HR0 : Row (w.alloc (.cells #[.int .i64 (N : Int), .slice A n c] 24)) w.heap.size 24 [.int .i64 (N : Int), .slice A n c] := Row.new _ _ _
  have hq0 := HR0.cell 0
  have hq1 := HR0.cell 1
  clear HR0 hA hn hg hN1
  unfold graphV at C1 ⊢
  go_enter Tryd.func5, Tryd.ntmps5
  go_wp2_with fail
  refine C1.out.mono ?_
  rintro e w1 ⟨g, ps, cs, L, rfl, hl, hlb, hcl, hb1⟩
  have HL := Lib.hid hl
  have HLB := Lib.hid hlb
  have HCL := Lib.hid hcl
  have HB1 : Hid (Below w.heap.size w w1) := HB0.out.trans (hb1.mono HB0.out.size)
  clear hl hlb hcl hb1 C1 hq0 hq1 HB0
  go_wp2
  go_loopw [7, 6] (fun i v wr => ∃ (k : Nat) (V : Option Addr) (cv : Nat), i = .int .i64 (k : Int) ∧ k ≤ N ∧ v = .slice V k cv ∧ Hid (wr.ownsRow w1.heap.size 3 1 (.slice V k cv) k (ints ((List.range k).map (farV L)))) ∧ Hid (Below w1.heap.size w1 wr)) (fun i _ _ => N - (intOf i).toNat)
  case atStart => exact ⟨0, none, 0, rfl, by omega, rfl, by show World.ownsRow _ _ _ _ _ _ _; simpa [ints] using World.ownsRow_nil _ _ _ _, Below.refl _ _⟩
  case round =>
    obtain ⟨k, V, cv, rfl, hk, rfl, HO, HK⟩ := hrel
    by_cases hkN : k < N
    · have hkz : (k : Int) < N := by omega
      have l0 := (HL.out.step HK.out).at0 hkN
      have l1 := (HL.out.step HK.out).at1 hkN
      obtain ⟨m, hm⟩ : ∃ z, z = (L k).2.length := ⟨_, rfl⟩
      rw [← hm] at l1
      by_cases hz : m = 0
      · have z : ((m : Int) == 0) = true := by rw [hz]; rfl
        have HX : Hid (farV L k = (-1)) := by show _ = _; unfold farV; rw [← hm, if_pos hz]
        have hown := HO.out
        have hnew : ∀ j : Nat, (wr.alloc (.cells #[.int .i64 (-1)] 3)).cell? ⟨wr.heap.size, j, none⟩ = ([.int .i64 (-1)] : List Value)[j]? := fun j => (Row.new wr 3 #[.int .i64 (-1)]).cell j
        have HNEW := Lib.hid hnew
        have hsw := HK.out.size
        clear hown hnew hz hm
        go_wp2_with (at_builtin; refine wp_push _ rfl (.tmp 30) (.tmp 32) 25 rfl w1.heap.size 3 1 8 _ Tryd.underlying25 info_int rfl (by omega) V k cv _ rfl (HO.out.alloc _) wr.heap.size 1 [.int .i64 (-1)] rfl rfl (fun j u hu => (HNEW.out j).trans hu) (by intro u hu; simp at hu; subst hu; rfl) (by omega) (by omega) (by simp; omega) ?_; intro g2 c2 w2 ho2 hb2 hg2 hgr2 hat2; have HB2 := Lib.hid hb2; have HO2 := Lib.hid ho2; clear ho2 hb2 hg2 hgr2 hat2)
        have HK2 : Hid (Below w1.heap.size w1 w2) := (HK.out.alloc hsw _).trans HB2.out
        have HO3 : Hid (w2.ownsRow w1.heap.size 3 1 (.slice (some ⟨g2, 0, none⟩) (k + 1) c2) (k + 1) (ints ((List.range (k + 1)).map (farV L)))) := by
          show World.ownsRow _ _ _ _ _ _ _
          rw [List.range_succ, List.map_append, ints_append]
          have h1 := HO2.out
          rw [← HX.out] at h1
          exact h1
        clear HX HNEW HO2 HB2
        go_roundw
        case rel => exact ⟨k + 1, _, c2, by go_num, by omega, rfl, HO3.out, HK2.out⟩
        case measure => simp [intOf]; omega
      · have z : ((m : Int) == 0) = false := beq_eq_false_iff_ne.2 (by omega)
        obtain ⟨x0, hx0⟩ : ∃ z, z = (L k).1 := ⟨_, rfl⟩
        rw [← hx0] at l0
        have HX : Hid (farV L k = x0) := by show _ = _; unfold farV; rw [← hm, if_neg hz, hx0]
        have hown := HO.out
        have hnew : ∀ j : Nat, (wr.alloc (.cells #[.int .i64 x0] 3)).cell? ⟨wr.heap.size, j, none⟩ = ([.int .i64 x0] : List Value)[j]? := fun j => (Row.new wr 3 #[.int .i64 x0]).cell j
        have HNEW := Lib.hid hnew
        have hsw := HK.out.size
        clear hown hnew hz hm hx0
        go_wp2_with (at_builtin; refine wp_push _ rfl (.tmp 30) (.tmp 32) 25 rfl w1.heap.size 3 1 8 _ Tryd.underlying25 info_int rfl (by omega) V k cv _ rfl (HO.out.alloc _) wr.heap.size 1 [.int .i64 x0] rfl rfl (fun j u hu => (HNEW.out j).trans hu) (by intro u hu; simp at hu; subst hu; rfl) (by omega) (by omega) (by simp; omega) ?_; intro g2 c2 w2 ho2 hb2 hg2 hgr2 hat2; have HB2 := Lib.hid hb2; have HO2 := Lib.hid ho2; clear ho2 hb2 hg2 hgr2 hat2)
        have HK2 : Hid (Below w1.heap.size w1 w2) := (HK.out.alloc hsw _).trans HB2.out
        have HO3 : Hid (w2.ownsRow w1.heap.size 3 1 (.slice (some ⟨g2, 0, none⟩) (k + 1) c2) (k + 1) (ints ((List.range (k + 1)).map (farV L)))) := by
          show World.ownsRow _ _ _ _ _ _ _
          rw [List.range_succ, List.map_append, ints_append]
          have h1 := HO2.out
          rw [← HX.out] at h1
          exact h1
        clear HX HNEW HO2 HB2
        go_roundw
        case rel => exact ⟨k + 1, _, c2, by go_num, by omega, rfl, HO3.out, HK2.out⟩
        case measure => simp [intOf]; omega
    · have hkz : ¬ (k : Int) < N := by omega
      obtain rfl : k = N := by omega
      have HF : Hid (RefFarOK w k l s (.returned (.slice V k cv)) wr) := ⟨V, cv, L, rfl, HO.out.own (by omega), HLB.out, HCL.out, HB1.out.trans (HK.out.mono HB1.out.size)⟩
      go_wp2
      go_ret
      exact HF.out
end Go.Proofs.YtmcfhiddhifdcaaDoor
