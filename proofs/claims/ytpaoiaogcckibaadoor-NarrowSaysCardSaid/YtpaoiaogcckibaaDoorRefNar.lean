/- What the document's Narrow answers: of all pairs the least heaviest edge. Conditions: the graph is one that may be, and has a node. -/
import Derived.Test.YtpaoiaogcckibaaDoorRefNarP
import Derived.Test.YtpaoiaogcckibaaDoorMat
import Derived.Deep.DeepCutAuto
namespace Go.Proofs.YtpaoiaogcckibaaDoor
open Go.RowKit
theorem nar_bound {N : Nat} {l : List Edge} (hg : graphErr N l = 0) : ∀ (k a b : Nat), -1 ≤ narK l k a b ∧ narK l k a b ≤ 1000 := by
  intro k
  induction k with
  | zero =>
    intro a b
    simp only [narK, nar0]
    split
    · omega
    · exact stepV_range (fun e he => ((graphErr_ok hg).2.2 e he).2.2) (by omega)
  | succ k ih =>
    intro a b
    have h1 := ih a k
    have h2 := ih k b
    have h3 := ih a b
    simp only [narK]
    unfold updN
    split <;> omega
/-- the matrix in the middle of a round -/
def mid (l : List Edge) (k a b : Nat) (x y : Nat) : Int := if x < a ∨ (x = a ∧ y < b) then narK l (k + 1) x y else narK l k x y
theorem mid_col (l : List Edge) (k a b x : Nat) : mid l k a b x k = narK l k x k := by
  unfold mid
  split
  · simp only [narK]; exact updN_col _ _ _
  · rfl
theorem mid_row (l : List Edge) (k a b y : Nat) : mid l k a b k y = narK l k k y := by
  unfold mid
  split
  · simp only [narK]; exact updN_row _ _ _
  · rfl
theorem mid_at (l : List Edge) (k a b : Nat) : mid l k a b a b = narK l k a b := by
  unfold mid
  rw [if_neg (by omega)]
theorem mid_put {l : List Edge} {k a b : Nat} {X : Int} (hX : narK l (k + 1) a b = X) (x y : Nat) : (if x = a ∧ y = b then X else mid l k a b x y) = mid l k a (b + 1) x y := by
  unfold mid
  by_cases h : x = a ∧ y = b
  · obtain ⟨rfl, rfl⟩ := h
    rw [if_pos ⟨rfl, rfl⟩, if_pos (by omega), hX]
  · rw [if_neg h]
    by_cases h2 : x < a ∨ (x = a ∧ y < b)
    · rw [if_pos h2, if_pos (by omega)]
    · rw [if_neg h2, if_neg (by omega)]
theorem mid_keep {l : List Edge} {k a b : Nat} (hX : narK l (k + 1) a b = narK l k a b) (x y : Nat) : mid l k a b x y = mid l k a (b + 1) x y := by
  rw [← mid_put hX x y]
  by_cases h : x = a ∧ y = b
  · rw [if_pos h, h.1, h.2, mid_at]
  · rw [if_neg h]
def NarOK (w : World) (N : Nat) (l : List Edge) (e : Ending) (w' : World) : Prop :=
  ∃ (go co : Nat) (gs cs : Nat → Nat), e = .returned (.slice (some ⟨go, 0, none⟩) N co) ∧ Mat w' (w.heap.size + 1) go co gs cs N (narK l N) ∧ Below w.heap.size w w'
set_option maxHeartbeats 8000000 in
set_option maxRecDepth 100000 in
theorem refNarrow (N : Nat) (A : Option Addr) (n c : Nat) (l : List Edge) (w : World) (hA : Cells w w.heap.size A (edges l)) (hn : l.length = n) (hg : graphErr N l = 0) (hN0 : 0 < N) :
    Calls Tryd.prog 22 #[graphV N A n c] w (NarOK w N l) := by
  have HN := Lib.hid hn
  have HA := Lib.hid hA
  have HG := Lib.hid hg
  obtain ⟨⟨_, hN1⟩, hl40, _⟩ := graphErr_ok hg
  have hN : N ≤ 16 := by omega
  have hn40 : n ≤ 40 := by omega
  have HB0 : Hid (Below w.heap.size w (w.alloc (.cells #[.int .i64 (N : Int), .slice A n c] 40))) := (Below.refl _ _).alloc (Nat.le_refl _) _
  have HR0 : Hid (Row (w.alloc (.cells #[.int .i64 (N : Int), .slice A n c] 40)) w.heap.size 40 [.int .i64 (N : Int), .slice A n c]) := Row.new _ _ _
  have HS0 : Hid (w.heap.size + 1 ≤ (w.alloc (.cells #[.int .i64 (N : Int), .slice A n c] 40)).heap.size) := by show _ ≤ _; simp
  clear hA hn hN1 hl40 hg
  unfold graphV
  go_enter Tryd.func22, Tryd.ntmps22
  go_wp2
  generalize w.alloc (.cells #[.int .i64 (N : Int), .slice A n c] 40) = w1 at HR0 HB0 HS0 ⊢
  go_loopw [4, 3] (fun i v wr => ∃ (a : Nat) (O : Option Addr) (co : Nat) (rs : List RV), i = .int .i64 (a : Int) ∧ a ≤ N ∧ v = .slice O a co ∧ Hid (rs.length = a) ∧ Hid (RowsIn wr (w.heap.size + 1) O co rs) ∧ Hid (rs.map RV.xs = (List.range a).map fun x => (List.range N).map (nar0 l x)) ∧ Hid (Row wr w.heap.size 40 [.int .i64 (N : Int), .slice A n c]) ∧ Hid (Below w.heap.size w wr) ∧ Hid (w.heap.size + 1 ≤ wr.heap.size)) (fun i _ _ => N - (intOf i).toNat)
  case atStart => exact ⟨0, none, 0, [], rfl, by omega, rfl, rfl, RowsIn.start _ _, rfl, HR0.out, HB0.out, HS0.out⟩
  case round =>
    clear HR0 HB0 HS0
    obtain ⟨a, O, co, rs, rfl, ha, rfl, HL, HRW, HX, HR, HB, HS⟩ := hrel
    have hq0 := HR.out.cell 0
    by_cases haN : a < N
    · have haz : (a : Int) < N := by omega
      generalize wr = wq at HRW HR HB HS hq0 ⊢
      go_wp2
      go_loopw [6, 5] (fun i v wr => ∃ (b : Nat) (V : Option Addr) (cv : Nat), i = .int .i64 (b : Int) ∧ b ≤ N ∧ v = .slice V b cv ∧ Hid (wr.ownsRow wq.heap.size 3 1 (.slice V b cv) b (ints ((List.range b).map (nar0 l a)))) ∧ Hid (Row wr w.heap.size 40 [.int .i64 (N : Int), .slice A n c]) ∧ Hid (Below w.heap.size w wr) ∧ Hid (Below wq.heap.size wq wr)) (fun i _ _ => N - (intOf i).toNat)
      case atStart => exact ⟨0, none, 0, rfl, by omega, rfl, by show World.ownsRow _ _ _ _ _ _ _; simpa [ints] using World.ownsRow_nil _ _ _ _, HR.out, HB.out, Below.refl _ _⟩
      case round =>
        clear HR HB hq0
        obtain ⟨b, V, cv, rfl, hb, rfl, HO, HR, HB, HQ⟩ := hrel
        have hq0 := HR.out.cell 0
        have hq1 := HR.out.cell 1
        by_cases hbN : b < N
        · have hbz : (b : Int) < N := by omega
          have c6 := refStep_true (N : Int) A n c (a : Int) (b : Int) l wr ((HA.out.below HB.out (Nat.le_refl _)).more HB.out.size) HN.out (by omega)
          obtain ⟨sv, hsv⟩ : ∃ z, z = stepV true l (a : Int) (b : Int) := ⟨_, rfl⟩
          rw [← hsv] at c6
          have HSV := Lib.hid hsv
          unfold StepOK at c6
          unfold graphV at c6
          have C6 := Lib.hid c6
          clear c6 hsv
          go_wp2_with fail
          refine C6.out.mono ?_
          rintro e w6 ⟨rfl, hb6⟩
          have HO6 := Lib.hid (own_still HO.out hb6)
          have HR6 := Lib.hid (HR.out.step hb6)
          have HB6 : Hid (Below w.heap.size w w6) := HB.out.trans (hb6.mono HB.out.size)
          have HQ6 : Hid (Below wq.heap.size wq w6) := HQ.out.trans (hb6.mono HQ.out.size)
          have hszq := HQ6.out.size
          have hsz := HB6.out.size
          clear HO HR HB HQ hb6 hq0 hq1 C6
          by_cases hab : a = b
          · have hd : ((a : Int) == (b : Int)) = true := by simp [hab]
            have HNV : Hid (nar0 l a b = 0) := by show _ = _; unfold nar0; rw [if_pos hab]
            have hnew : ∀ i : Nat, (w6.alloc (.cells #[.int .i64 0] 3)).cell? ⟨w6.heap.size, i, none⟩ = ([.int .i64 0] : List Value)[i]? := fun i => (Row.new w6 3 #[.int .i64 0]).cell i
            have HNEW := Lib.hid hnew
            clear hnew hab
            go_wp2_with (at_builtin; refine wp_push _ rfl (.tmp 31) (.tmp 33) 29 rfl wq.heap.size 3 1 8 _ Tryd.underlying29 info_int rfl (by omega) V b cv (ints ((List.range b).map (nar0 l a))) rfl (HO6.out.alloc _) w6.heap.size 1 [.int .i64 0] rfl rfl (fun i u hu => (HNEW.out i).trans hu) (by intro u hu; simp at hu; subst hu; rfl) (by omega) (by omega) (by rw [World.size_alloc]; omega) ?_; intro g1 c1 w4 ho4 hb4 hg4 hgr4 hat4)
            have HO4 := Lib.hid ho4
            have HR4 : Hid (Row w4 w.heap.size 40 [.int .i64 (N : Int), .slice A n c]) := (HR6.out.alloc _).grown hgr4 (fun e => by have := (HO6.out.lt _ e.symm).1; have := HS.out; omega)
            have HB4 : Hid (Below w.heap.size w w4) := (HB6.out.alloc (by omega) _).trans (hb4.mono (by have := HS.out; omega))
            have HQ4 : Hid (Below wq.heap.size wq w4) := (HQ6.out.alloc hszq _).trans hb4
            clear ho4 hb4 hgr4 hat4
            go_roundw
            case rel =>
              refine ⟨b + 1, _, c1, by go_num, by omega, rfl, ?_, HR4.out, HB4.out, HQ4.out⟩
              show World.ownsRow _ _ _ _ _ _ _
              rw [List.range_succ, List.map_append, ints_append]
              have e : ints (List.map (nar0 l a) [b]) = [.int .i64 0] := by simp [ints, HNV.out]
              rw [e]; exact HO4.out
            case measure => simp [intOf]; omega
          · have hd : ((a : Int) == (b : Int)) = false := by simp; omega
            have HNV : Hid (nar0 l a b = sv) := by show _ = _; unfold nar0; rw [if_neg hab, HSV.out]
            have hnew : ∀ i : Nat, (w6.alloc (.cells #[.int .i64 sv] 3)).cell? ⟨w6.heap.size, i, none⟩ = ([.int .i64 sv] : List Value)[i]? := fun i => (Row.new w6 3 #[.int .i64 sv]).cell i
            have HNEW := Lib.hid hnew
            clear hnew hab
            go_wp2_with (at_builtin; refine wp_push _ rfl (.tmp 31) (.tmp 33) 29 rfl wq.heap.size 3 1 8 _ Tryd.underlying29 info_int rfl (by omega) V b cv (ints ((List.range b).map (nar0 l a))) rfl (HO6.out.alloc _) w6.heap.size 1 [.int .i64 sv] rfl rfl (fun i u hu => (HNEW.out i).trans hu) (by intro u hu; simp at hu; subst hu; rfl) (by omega) (by omega) (by rw [World.size_alloc]; omega) ?_; intro g1 c1 w4 ho4 hb4 hg4 hgr4 hat4)
            have HO4 := Lib.hid ho4
            have HR4 : Hid (Row w4 w.heap.size 40 [.int .i64 (N : Int), .slice A n c]) := (HR6.out.alloc _).grown hgr4 (fun e => by have := (HO6.out.lt _ e.symm).1; have := HS.out; omega)
            have HB4 : Hid (Below w.heap.size w w4) := (HB6.out.alloc (by omega) _).trans (hb4.mono (by have := HS.out; omega))
            have HQ4 : Hid (Below wq.heap.size wq w4) := (HQ6.out.alloc hszq _).trans hb4
            clear ho4 hb4 hgr4 hat4
            go_roundw
            case rel =>
              refine ⟨b + 1, _, c1, by go_num, by omega, rfl, ?_, HR4.out, HB4.out, HQ4.out⟩
              show World.ownsRow _ _ _ _ _ _ _
              rw [List.range_succ, List.map_append, ints_append]
              have e : ints (List.map (nar0 l a) [b]) = [.int .i64 sv] := by simp [ints, HNV.out]
              rw [e]; exact HO4.out
            case measure => simp [intOf]; omega
        · have hbz : ¬ (b : Int) < N := by omega
          obtain rfl : b = N := by omega
          have HRW2 := Lib.hid (HRW.out.below HQ.out)
          have hxl : ((List.range b).map (nar0 l a)).length = b := by simp
          have HXL := Lib.hid hxl
          have hlen := HL.out
          have hnew : ∀ i : Nat, (wr.alloc (.cells #[.slice V b cv] 29)).cell? ⟨wr.heap.size, i, none⟩ = ([.slice V b cv] : List Value)[i]? := fun i => (Row.new wr 29 #[.slice V b cv]).cell i
          have HNEW := Lib.hid hnew
          have hown : (wr.alloc (.cells #[.slice V b cv] 29)).ownsRow (w.heap.size + 1) 29 1 (.slice O a co) a (rs.map RV.val) := by
            have := (HRW2.out.alloc (.cells #[.slice V b cv] 29)).out
            rwa [hlen] at this
          have HOWN := Lib.hid hown
          have hszw : w.heap.size + 1 ≤ wr.heap.size := Nat.le_trans HS.out HQ.out.size
          clear hnew hown hxl hlen
          go_wp2_with (at_builtin; refine wp_push _ rfl (.tmp 35) (.tmp 37) 22 rfl (w.heap.size + 1) 29 1 24 _ Tryd.underlying22 info_ints rfl (by omega) O a co (rs.map RV.val) rfl HOWN.out wr.heap.size 1 [.slice V b cv] rfl rfl (fun i u hu => (HNEW.out i).trans hu) (by intro u hu; simp at hu; subst hu; rfl) (by omega) (by omega) (by rw [World.size_alloc]; omega) ?_; intro g1 c1 w4 ho4 hb4 hg4 hgr4 hat4)
          have hrow : (wr.alloc (.cells #[.slice V b cv] 29)).ownsRow (w.heap.size + 1) 3 1 (RV.val ⟨V, cv, (List.range b).map (nar0 l a)⟩) ((List.range b).map (nar0 l a)).length (ints ((List.range b).map (nar0 l a))) := by
            have h1 := own_lower (HO.out.alloc (.cells #[.slice V b cv] 29)) HS.out
            unfold RV.val
            simp only
            rw [HXL.out]; exact h1
          have hap : ∀ s ∈ rs, ∀ g, s.val.ownBlock = some g → (RV.val ⟨V, cv, (List.range b).map (nar0 l a)⟩).ownBlock ≠ some g := fun s hs g e1 e2 => by
            have h1 := (HRW.out.rows s hs).lt g e1
            have h2 := (HO.out.lt g (by unfold RV.val at e2; simp only at e2; rw [HXL.out] at e2; exact e2)).1
            omega
          have HRW4 : Hid (RowsIn w4 (w.heap.size + 1) (some ⟨g1, 0, none⟩) c1 (rs ++ [⟨V, cv, (List.range b).map (nar0 l a)⟩])) := by
            refine RowsIn.pushRow (HRW2.out.alloc (.cells #[.slice V b cv] 29)) hrow hap ?_ ?_
            · unfold RV.val
              simp only
              rw [HXL.out, HL.out]; exact ho4
            · rw [HL.out]; exact hgr4
          have HR4 : Hid (Row w4 w.heap.size 40 [.int .i64 (b : Int), .slice A n c]) := (HR.out.alloc _).grown hgr4 (fun e => by have := (HOWN.out.lt _ e.symm).1; omega)
          have HB4 : Hid (Below w.heap.size w w4) := (HB.out.alloc (by omega) _).trans (hb4.mono (by omega))
          have HS4 : Hid (w.heap.size + 1 ≤ w4.heap.size) := Nat.le_trans hszw (Nat.le_trans (by simp) hb4.size)
          clear ho4 hb4 hgr4 hat4 hrow hap
          go_roundw
          case rel =>
            refine ⟨a + 1, _, c1, _, by go_num, by omega, rfl, ?_, HRW4.out, ?_, HR4.out, HB4.out, HS4.out⟩
            · show _ = _
              rw [List.length_append, HL.out]; rfl
            · show _ = _
              rw [List.range_succ, List.map_append, List.map_append, HX.out]; rfl
          case measure => simp [intOf]; omega
    · have haz : ¬ (a : Int) < N := by omega
      obtain rfl : a = N := by omega
      obtain ⟨go, gs, cs, rfl, hmat⟩ := HRW.out.mat hN0 HX.out
      have HM := Lib.hid hmat
      clear hmat HRW HX HL
      go_wp2
      go_loopw [8] (fun i wr => ∃ k : Nat, i = .int .i64 (k : Int) ∧ k ≤ a ∧ Hid (Mat wr (w.heap.size + 1) go co gs cs a (narK l k)) ∧ Hid (Row wr w.heap.size 40 [.int .i64 (a : Int), .slice A n c]) ∧ Hid (Below w.heap.size w wr)) (fun i _ => a - (intOf i).toNat)
      case atStart => exact ⟨0, rfl, by omega, HM.out, HR.out, HB.out⟩
      case round =>
        clear HM HR HB hq0 HS
        obtain ⟨k, rfl, hk, HM, HR, HB⟩ := hrel
        have hq0 := HR.out.cell 0
        by_cases hkN : k < a
        · have hkz : (k : Int) < a := by omega
          have hk0 : (0 : Int) ≤ k := by omega
          generalize wr = wq at HM HR HB hq0 ⊢
          go_wp2
          go_loopw [9] (fun i wr => ∃ x : Nat, i = .int .i64 (x : Int) ∧ x ≤ a ∧ Hid (Mat wr (w.heap.size + 1) go co gs cs a (mid l k x 0)) ∧ Hid (Row wr w.heap.size 40 [.int .i64 (a : Int), .slice A n c]) ∧ Hid (Below w.heap.size w wr)) (fun i _ => a - (intOf i).toNat)
          case atStart => exact ⟨0, rfl, by omega, HM.out.same (fun x y _ _ => by unfold mid; rw [if_neg (by omega)]), HR.out, HB.out⟩
          case round =>
            clear HM HR HB hq0
            obtain ⟨x, rfl, hx, HM, HR, HB⟩ := hrel
            have hq0 := HR.out.cell 0
            by_cases hxN : x < a
            · have hxz : (x : Int) < a := by omega
              have hx0 : (0 : Int) ≤ x := by omega
              generalize wr = wp at HM HR HB hq0 ⊢
              go_wp2
              go_loopw [10] (fun i wr => ∃ y : Nat, i = .int .i64 (y : Int) ∧ y ≤ a ∧ Hid (Mat wr (w.heap.size + 1) go co gs cs a (mid l k x y)) ∧ Hid (Row wr w.heap.size 40 [.int .i64 (a : Int), .slice A n c]) ∧ Hid (Below w.heap.size w wr)) (fun i _ => a - (intOf i).toNat)
              case atStart => exact ⟨0, rfl, by omega, HM.out, HR.out, HB.out⟩
              case round =>
                clear HM HR HB hq0
                obtain ⟨y, rfl, hy, HM, HR, HB⟩ := hrel
                have hq0 := HR.out.cell 0
                by_cases hyN : y < a
                · have hyz : (y : Int) < a := by omega
                  have hy0 : (0 : Int) ≤ y := by omega
                  have kx := HM.out.row hxN
                  have kk := HM.out.row hkN
                  have kp := HM.out.cell hxN hkN
                  have kq := HM.out.cell hkN hyN
                  have kv := HM.out.cell hxN hyN
                  have kf := HM.out.free hxN y
                  rw [mid_col] at kp
                  rw [mid_row] at kq
                  rw [mid_at] at kv
                  have HUP : Hid (narK l (k + 1) x y = if (0 ≤ narK l k x k ∧ 0 ≤ narK l k k y) ∧ (narK l k x y < 0 ∨ max (narK l k x k) (narK l k k y) < narK l k x y) then max (narK l k x k) (narK l k k y) else narK l k x y) := rfl
                  have HV : Hid (narK l k x y = narK l k x y) := rfl
                  obtain ⟨v, hv⟩ : ∃ z, z = narK l k x y := ⟨_, rfl⟩
                  generalize narK l k x k = p at kp HUP
                  generalize narK l k k y = q at kq HUP
                  rw [← hv] at kv HUP
                  have HVV := Lib.hid hv
                  clear hv HV
                  have hgb := (HM.out.base_le hxN).1
                  by_cases hpq : p < q
                  · have dpq : decide (p < q) = true := decide_eq_true hpq
                    have HMX : Hid (max p q = q) := by show _ = _; omega
                    skip
                    go_upto_region 26 with fail
                    go_cut [118] from 80 to 118 (fun z wx => z = .bool (decide ((0 ≤ p ∧ 0 ≤ q) ∧ (v < 0 ∨ q < v))) ∧ wx = wr)
                    case first =>
                      by_cases p1 : 0 ≤ p
                      · have d1 : decide (0 ≤ p) = true := decide_eq_true p1
                        by_cases p2 : 0 ≤ q
                        · have d2 : decide (0 ≤ q) = true := decide_eq_true p2
                          by_cases p3 : v < 0
                          · have d3 : decide (v < 0) = true := decide_eq_true p3
                            have HV : Hid (decide ((0 ≤ p ∧ 0 ≤ q) ∧ (v < 0 ∨ q < v)) = true) := decide_eq_true (by omega)
                            clear hpq
                            go_wp2
                            go_meet
                            exact ⟨congrArg _ HV.out.symm, rfl⟩
                          · have d3 : decide (v < 0) = false := decide_eq_false p3
                            by_cases p4 : q < v
                            · have d4 : decide (q < v) = true := decide_eq_true p4
                              have HV : Hid (decide ((0 ≤ p ∧ 0 ≤ q) ∧ (v < 0 ∨ q < v)) = true) := decide_eq_true (by omega)
                              clear hpq
                              go_wp2
                              go_meet
                              exact ⟨congrArg _ HV.out.symm, rfl⟩
                            · have d4 : decide (q < v) = false := decide_eq_false p4
                              have HV : Hid (decide ((0 ≤ p ∧ 0 ≤ q) ∧ (v < 0 ∨ q < v)) = false) := decide_eq_false (by omega)
                              clear hpq
                              go_wp2
                              go_meet
                              exact ⟨congrArg _ HV.out.symm, rfl⟩
                        · have d2 : decide (0 ≤ q) = false := decide_eq_false p2
                          have HV : Hid (decide ((0 ≤ p ∧ 0 ≤ q) ∧ (v < 0 ∨ q < v)) = false) := decide_eq_false (by omega)
                          clear hpq
                          go_wp2
                          go_meet
                          exact ⟨congrArg _ HV.out.symm, rfl⟩
                      · have d1 : decide (0 ≤ p) = false := decide_eq_false p1
                        have HV : Hid (decide ((0 ≤ p ∧ 0 ≤ q) ∧ (v < 0 ∨ q < v)) = false) := decide_eq_false (by omega)
                        clear hpq
                        go_wp2
                        go_meet
                        exact ⟨congrArg _ HV.out.symm, rfl⟩
                    case rest =>
                    obtain ⟨rfl, hwc⟩ := hcut
                    replace hwc := hwc.symm
                    subst hwc
                    by_cases hc : (0 ≤ p ∧ 0 ≤ q) ∧ (v < 0 ∨ q < v)
                    · have hdec : decide ((0 ≤ p ∧ 0 ≤ q) ∧ (v < 0 ∨ q < v)) = true := decide_eq_true hc
                      have HU2 : Hid (narK l (k + 1) x y = q) := by show _ = _; rw [HUP.out, HMX.out, if_pos hc]
                      have HM2 : Hid (Mat (wr.setCell ⟨gs x, y, none⟩ (.int .i64 q)) (w.heap.size + 1) go co gs cs a (mid l k x (y + 1))) := (HM.out.put hxN y q).same (fun x' y' _ _ => mid_put HU2.out x' y')
                      have HR2 : Hid (Row (wr.setCell ⟨gs x, y, none⟩ (.int .i64 q)) w.heap.size 40 [.int .i64 (a : Int), .slice A n c]) := HR.out.far (by show w.heap.size ≠ gs x; omega) _
                      have HB2 : Hid (Below w.heap.size w (wr.setCell ⟨gs x, y, none⟩ (.int .i64 q))) := HB.out.setCell (by show w.heap.size ≤ gs x; omega) _
                      clear hc hpq HUP
                      rw [hdec]
                      go_wp2
                      go_roundw
                      case rel => exact ⟨y + 1, by go_num, by omega, HM2.out, HR2.out, HB2.out⟩
                      case measure => simp [intOf]; omega
                    · have hdec : decide ((0 ≤ p ∧ 0 ≤ q) ∧ (v < 0 ∨ q < v)) = false := decide_eq_false hc
                      have HM2 : Hid (Mat wr (w.heap.size + 1) go co gs cs a (mid l k x (y + 1))) := HM.out.same (fun x' y' _ _ => mid_keep (by rw [HUP.out, HMX.out, if_neg hc]; exact HVV.out) x' y')
                      clear hc hpq HUP
                      rw [hdec]
                      go_wp2
                      go_roundw
                      case rel => exact ⟨y + 1, by go_num, by omega, HM2.out, HR.out, HB.out⟩
                      case measure => simp [intOf]; omega
                  · have dpq : decide (p < q) = false := decide_eq_false hpq
                    have HMX : Hid (max p q = p) := by show _ = _; omega
                    skip
                    go_upto_region 26 with fail
                    go_cut [118] from 80 to 118 (fun z wx => z = .bool (decide ((0 ≤ p ∧ 0 ≤ q) ∧ (v < 0 ∨ p < v))) ∧ wx = wr)
                    case first =>
                      by_cases p1 : 0 ≤ p
                      · have d1 : decide (0 ≤ p) = true := decide_eq_true p1
                        by_cases p2 : 0 ≤ q
                        · have d2 : decide (0 ≤ q) = true := decide_eq_true p2
                          by_cases p3 : v < 0
                          · have d3 : decide (v < 0) = true := decide_eq_true p3
                            have HV : Hid (decide ((0 ≤ p ∧ 0 ≤ q) ∧ (v < 0 ∨ p < v)) = true) := decide_eq_true (by omega)
                            clear hpq
                            go_wp2
                            go_meet
                            exact ⟨congrArg _ HV.out.symm, rfl⟩
                          · have d3 : decide (v < 0) = false := decide_eq_false p3
                            by_cases p4 : p < v
                            · have d4 : decide (p < v) = true := decide_eq_true p4
                              have HV : Hid (decide ((0 ≤ p ∧ 0 ≤ q) ∧ (v < 0 ∨ p < v)) = true) := decide_eq_true (by omega)
                              clear hpq
                              go_wp2
                              go_meet
                              exact ⟨congrArg _ HV.out.symm, rfl⟩
                            · have d4 : decide (p < v) = false := decide_eq_false p4
                              have HV : Hid (decide ((0 ≤ p ∧ 0 ≤ q) ∧ (v < 0 ∨ p < v)) = false) := decide_eq_false (by omega)
                              clear hpq
                              go_wp2
                              go_meet
                              exact ⟨congrArg _ HV.out.symm, rfl⟩
                        · have d2 : decide (0 ≤ q) = false := decide_eq_false p2
                          have HV : Hid (decide ((0 ≤ p ∧ 0 ≤ q) ∧ (v < 0 ∨ p < v)) = false) := decide_eq_false (by omega)
                          clear hpq
                          go_wp2
                          go_meet
                          exact ⟨congrArg _ HV.out.symm, rfl⟩
                      · have d1 : decide (0 ≤ p) = false := decide_eq_false p1
                        have HV : Hid (decide ((0 ≤ p ∧ 0 ≤ q) ∧ (v < 0 ∨ p < v)) = false) := decide_eq_false (by omega)
                        clear hpq
                        go_wp2
                        go_meet
                        exact ⟨congrArg _ HV.out.symm, rfl⟩
                    case rest =>
                    obtain ⟨rfl, hwc⟩ := hcut
                    replace hwc := hwc.symm
                    subst hwc
                    by_cases hc : (0 ≤ p ∧ 0 ≤ q) ∧ (v < 0 ∨ p < v)
                    · have hdec : decide ((0 ≤ p ∧ 0 ≤ q) ∧ (v < 0 ∨ p < v)) = true := decide_eq_true hc
                      have HU2 : Hid (narK l (k + 1) x y = p) := by show _ = _; rw [HUP.out, HMX.out, if_pos hc]
                      have HM2 : Hid (Mat (wr.setCell ⟨gs x, y, none⟩ (.int .i64 p)) (w.heap.size + 1) go co gs cs a (mid l k x (y + 1))) := (HM.out.put hxN y p).same (fun x' y' _ _ => mid_put HU2.out x' y')
                      have HR2 : Hid (Row (wr.setCell ⟨gs x, y, none⟩ (.int .i64 p)) w.heap.size 40 [.int .i64 (a : Int), .slice A n c]) := HR.out.far (by show w.heap.size ≠ gs x; omega) _
                      have HB2 : Hid (Below w.heap.size w (wr.setCell ⟨gs x, y, none⟩ (.int .i64 p))) := HB.out.setCell (by show w.heap.size ≤ gs x; omega) _
                      clear hc hpq HUP
                      rw [hdec]
                      go_wp2
                      go_roundw
                      case rel => exact ⟨y + 1, by go_num, by omega, HM2.out, HR2.out, HB2.out⟩
                      case measure => simp [intOf]; omega
                    · have hdec : decide ((0 ≤ p ∧ 0 ≤ q) ∧ (v < 0 ∨ p < v)) = false := decide_eq_false hc
                      have HM2 : Hid (Mat wr (w.heap.size + 1) go co gs cs a (mid l k x (y + 1))) := HM.out.same (fun x' y' _ _ => mid_keep (by rw [HUP.out, HMX.out, if_neg hc]; exact HVV.out) x' y')
                      clear hc hpq HUP
                      rw [hdec]
                      go_wp2
                      go_roundw
                      case rel => exact ⟨y + 1, by go_num, by omega, HM2.out, HR.out, HB.out⟩
                      case measure => simp [intOf]; omega
                · have hyz : ¬ (y : Int) < a := by omega
                  obtain rfl : y = a := by omega
                  have HM2 : Hid (Mat wr (w.heap.size + 1) go co gs cs y (mid l k (x + 1) 0)) := HM.out.same (fun x' y' _ h2 => by
                    unfold mid
                    by_cases h : x' < x ∨ (x' = x ∧ y' < y)
                    · rw [if_pos h, if_pos (by omega)]
                    · rw [if_neg h, if_neg (by omega)])
                  go_wp2
                  go_roundw
                  case rel => exact ⟨x + 1, by go_num, by omega, HM2.out, HR.out, HB.out⟩
                  case measure => simp [intOf]; omega
            · have hxz : ¬ (x : Int) < a := by omega
              obtain rfl : x = a := by omega
              have HM2 : Hid (Mat wr (w.heap.size + 1) go co gs cs x (narK l (k + 1))) := HM.out.same (fun x' y' h1 _ => by unfold mid; rw [if_pos (Or.inl h1)])
              go_wp2
              go_roundw
              case rel => exact ⟨k + 1, by go_num, by omega, HM2.out, HR.out, HB.out⟩
              case measure => simp [intOf]; omega
        · have hkz : ¬ (k : Int) < a := by omega
          obtain rfl : k = a := by omega
          go_wp2
          go_ret
          exact ⟨go, co, gs, cs, rfl, HM.out, HB.out⟩
end Go.Proofs.YtpaoiaogcckibaaDoor
