/- What the document's own Pick answers: those that the program picks. Conditions: the spans are ones that may be. -/
import Derived.Test.YtpaoiaogcckibaaDoorRefPickP
import Derived.Test.YtpaoiaogcckibaaDoorKeeps
import Derived.Deep.RegionHeld3
import Derived.Deep.DeepCutAuto
namespace Go.Proofs.YtpaoiaogcckibaaDoor
open Go.RowKit Go.Sort
/-- how long a slice is -/
def lenV : Value → Nat
  | .slice _ n _ => n
  | _ => 0
theorem grow_below (w : World) (q : Nat) (os : Array Obj) : Below w.heap.size w (grow (w.drewN q) os) :=
  (Below.refl w.heap.size w).trans ⟨rfl, rfl, rfl, by simp [grow], fun k hk => by
    show (grow (w.drewN q) os).heap[k]? = w.heap[k]?
    simp [grow, Array.getElem?_append_left hk]⟩
theorem own_baseP {w : World} {b b' e size n : Nat} {v : Value} {xs : List Value} (h : w.ownsRow b e size v n xs) (hb : b' ≤ b) : w.ownsRow b' e size v n xs := by
  obtain ⟨h1, h2⟩ := h
  refine ⟨h1, ?_⟩
  rcases h2 with h2 | ⟨g, cap, cur, rfl, hg, hh, r⟩
  · exact Or.inl h2
  · exact Or.inr ⟨g, cap, cur, rfl, by omega, hh, r⟩
def PickR (w : World) (l : List Sp) (ys : List Int) (e : Ending) (w' : World) : Prop :=
  ∃ V cv m, e = .returned (.slice V m cv) ∧ (pickL l ys 0).length = m ∧ w'.ownsRow w.heap.size 3 1 (.slice V m cv) m (ints (pickL l ys 0)) ∧ Below w.heap.size w w'
set_option maxHeartbeats 4000000 in
set_option maxRecDepth 100000 in
theorem refPick (A : Option Addr) (n c : Nat) (l : List Sp) (ys : List Int) (w : World) (hA : Cells w w.heap.size A (pairs l)) (hn : l.length = n) (he : spansErr l = 0) (ho : IsOrd l.length ys) (hs : ys.Pairwise (Ahead (endC l) id)) :
    Calls Tryd.prog 51 #[.slice A n c] w (PickR w l ys) := by
  have HN := Lib.hid hn
  have HSP := Lib.hid (spansErr_ok he).2
  have hn24 : n ≤ 24 := by have := (spansErr_ok he).1; omega
  have HO_ := Lib.hid ho
  have HS_ := Lib.hid hs
  have HA := Lib.hid hA
  have hmk := make_row 103 4 (.bool false) 1 Tryd.underlying103 info_bool rfl n (by omega) (by omega)
  clear hn he ho hs hA
  go_enter Tryd.func51, Tryd.ntmps51
  go_wp2
  have HR0 : Hid (Row (w.alloc (.cells (madeCells #[.bool false] n) 4)) w.heap.size 4 (bRow n fun _ => false)) := by show Row _ _ _ _; rw [← bRow_none]; exact Row.made _ _ _ _
  have HB0 : Hid (Below w.heap.size w (w.alloc (.cells (madeCells #[.bool false] n) 4))) := (Below.refl _ _).alloc (Nat.le_refl _) _
  have HZ0 : Hid (w.heap.size + 1 ≤ (w.alloc (.cells (madeCells #[.bool false] n) 4)).heap.size) := by show _ ≤ _; simp
  clear hmk
  generalize w.alloc (.cells (madeCells #[.bool false] n) 4) = w1 at HR0 HB0 HZ0 ⊢
  go_loopw [3] (fun ov wr => ∃ (V : Option Addr) (m cv : Nat) (xs : List Int) (f : Nat → Bool), ov = .slice V m cv ∧ m ≤ n ∧ Hid (xs.length = m) ∧ Hid (PickJ l ys xs f) ∧ Hid (wr.ownsRow (w.heap.size + 1) 3 1 (.slice V m cv) m (ints xs)) ∧ Hid (Row wr w.heap.size 4 (bRow n f)) ∧ Hid (Below w.heap.size w wr) ∧ Hid (w.heap.size + 1 ≤ wr.heap.size)) (fun ov _ => n + 1 - lenV ov)
  case atStart => exact ⟨none, 0, 0, [], fun _ => false, rfl, by omega, rfl, PickJ.start HO_.out HSP.out, World.ownsRow_nil _ _ _ _, HR0.out, HB0.out, HZ0.out⟩
  case round =>
    clear HR0 HB0 HZ0
    obtain ⟨V, m, cv, xs, f, rfl, hm, HM, HP, HO, HR, HB, HZ⟩ := hrel
    go_wp2
    go_loopw [6, 5] (fun iv bv wi => ∃ (i : Nat) (v : Int), iv = .int .i64 (i : Int) ∧ bv = .int .i64 v ∧ i ≤ n ∧ Hid (SelB (endC l) (gl n f) i v) ∧ Hid (∃ q, wi = wr.drewN q)) (fun iv _ _ => n - (intOf iv).toNat)
    case atStart => exact ⟨0, -1, rfl, rfl, by omega, SelB.start, 0, rfl⟩
    case round =>
      obtain ⟨i, v, rfl, rfl, hi, HSB, HWI⟩ := hrel
      obtain ⟨qd, rfl⟩ := HWI.out
      clear HWI
      by_cases hin : i < n
      · have hiz : (i : Int) < n := by omega
        have hcy := HR.out.cell i
        rw [bRow_at hin] at hcy
        cases hfi : f i with
        | true =>
          rw [hfi] at hcy
          have HSN := Lib.hid (HSB.out.skip ((mem_gl hin).2 hfi))
          clear hfi
          go_wp2
          go_quiet (fail)
          go_wp2
          go_roundw
          case rel => exact ⟨i + 1, v, by go_num, rfl, by omega, HSN.out, _, rfl⟩
          case measure => simp [intOf]; omega
        | false =>
          rw [hfi] at hcy
          have HY : Hid ((i : Int) ∉ gl n f) := fun hm => by rw [(mem_gl hin).1 hm] at hfi; cases hfi
          clear hfi
          by_cases hv : v < 0
          · have HSN := Lib.hid (HSB.out.first hv HY.out)
            have hv0 : decide (v < 0) = true := decide_eq_true hv
            go_wp2
            go_quiet (fail)
            go_wp2
            go_roundw
            case rel => exact ⟨i + 1, (i : Int), by go_num, rfl, by omega, HSN.out, _, rfl⟩
            case measure => simp [intOf]; omega
          · obtain ⟨q, rfl, hq, hqy⟩ := HSB.out.pos hv
            have hqn : q < n := by omega
            have hqz : (q : Int) < n := by omega
            obtain ⟨b, off, x1, y1, rfl, hbb, h1, hc1, hd1⟩ := pairs_at HA.out (show i < l.length by rw [HN.out]; exact hin)
            obtain ⟨b', off', x2, y2, hbe, _, h2, hc2, hd2⟩ := pairs_at HA.out (show q < l.length by rw [HN.out]; exact hqn)
            simp only [Option.some.injEq, Addr.mk.injEq, and_true] at hbe
            obtain ⟨rfl, rfl⟩ := hbe
            have HC : Hid (endC l i q < 0 ↔ y1 < y2) := by show _ ↔ _; rw [endC_lt, spAt_nat h1, spAt_nat h2]
            rw [← HB.out.cell (p := ⟨b, off + i * 2 + 1, none⟩) hbb] at hd1
            rw [← HB.out.cell (p := ⟨b, off + q * 2 + 1, none⟩) hbb] at hd2
            clear h1 h2 hqy hc1 hc2
            have hv0 : decide ((q : Int) < 0) = false := decide_eq_false (by omega)
            by_cases hd : y1 < y2
            · have HSN := Lib.hid (HSB.out.take (weak_end l) HY.out (HC.out.2 hd))
              go_wp2
              go_quiet (fail)
              go_wp2
              go_roundw
              case rel => exact ⟨i + 1, (i : Int), by go_num, rfl, by omega, HSN.out, _, rfl⟩
              case measure => simp [intOf]; omega
            · have HSN := Lib.hid (HSB.out.stay (weak_end l) (fun h => hd (HC.out.1 h)))
              have hd0 : decide (y1 < y2) = false := decide_eq_false hd
              go_wp2
              go_quiet (fail)
              go_wp2
              go_roundw
              case rel => exact ⟨i + 1, (q : Int), by go_num, rfl, by omega, HSN.out, _, rfl⟩
              case measure => simp [intOf]; omega
      · have hie : i = n := by omega
        subst hie
        have hiz : ¬ (i : Int) < i := by omega
        by_cases hv : v < 0
        · have HE : Hid (xs = pickL l ys 0) := HP.out.stop HO_.out (by rw [HN.out]; exact HSB.out) hv
          go_wp2
          go_ret
          exact ⟨V, cv, m, rfl, by rw [← HE.out]; exact HM.out, by rw [← HE.out]; exact own_baseP HO.out (by omega), below_drewN HB.out _⟩
        · obtain ⟨q, rfl, hq, hqy⟩ := HSB.out.pos hv
          have hqz : (q : Int) < i := by omega
          have hv0 : ¬ (q : Int) < 0 := by omega
          have HPN : Hid (PickJ l ys (xs ++ [(q : Int)]) (markJ l f q i)) := by
            have := HP.out.next HO_.out HS_.out HSP.out (q := q) (by rw [HN.out]; exact hq) (by rw [HN.out]; exact HSB.out)
            rw [HN.out] at this; exact this
          have hm2 : m + 1 ≤ i := by
            have h1 := HPN.out.le HO_.out
            rw [List.length_append, HM.out, HN.out] at h1
            exact h1
          have HRd := Lib.hid (HR.out.drewN qd)
          have HBd := Lib.hid (below_drewN HB.out qd)
          have HOd : Hid ((wr.drewN qd).ownsRow (w.heap.size + 1) 3 1 (.slice V m cv) m (ints xs)) := HO.out
          have HZd : Hid (w.heap.size + 1 ≤ (wr.drewN qd).heap.size) := HZ.out
          clear HR HB HO HZ HP hqy hv HSB
          generalize wr.drewN qd = w3 at HRd HBd HOd HZd ⊢
          have HNEW := Lib.hid (fun j => (Row.new w3 3 #[.int .i64 (q : Int)]).cell j)
          have hsz3 := HZd.out
          go_wp2_with (at_builtin; refine wp_push _ rfl (.tmp 43) (.tmp 45) 29 rfl (w.heap.size + 1) 3 1 8 _ Tryd.underlying29 info_int rfl (by omega) V m cv (ints xs) rfl (HOd.out.alloc _) w3.heap.size 1 [.int .i64 (q : Int)] rfl rfl (fun j u hu => (HNEW.out j).trans hu) (by intro u hu; simp at hu; subst hu; rfl) (by omega) (by omega) (by rw [World.size_alloc]; omega) ?_; intro g1 c1 w4 ho4 hb4 hg4 hgr4 hat4)
          have HO4 : Hid (w4.ownsRow (w.heap.size + 1) 3 1 (.slice (some ⟨g1, 0, none⟩) (m + 1) c1) (m + 1) (ints (xs ++ [(q : Int)]))) := by
            show World.ownsRow _ _ _ _ _ _ _
            rw [ints_append]; exact ho4
          have HR4 : Hid (Row w4 w.heap.size 4 (bRow i f)) := (HRd.out.alloc _).grown hgr4 (fun e => by have := (HOd.out.lt _ e.symm).1; omega)
          have HB4 : Hid (Below w.heap.size w w4) := (HBd.out.alloc (by omega) _).trans (hb4.mono (by omega))
          have HZ4 : Hid (w.heap.size + 1 ≤ w4.heap.size) := Nat.le_trans hsz3 (Nat.le_trans (by simp) hb4.size)
          have HG1 : Hid (w.heap.size + 1 ≤ g1) := hg4
          clear ho4 hb4 hgr4 hat4 hg4 HRd HBd HOd HZd HNEW hsz3
          go_wp2
          go_loopw [7] (fun iv wi => ∃ (j : Nat), iv = .int .i64 (j : Int) ∧ j ≤ i ∧ Hid (wi.ownsRow (w.heap.size + 1) 3 1 (.slice (some ⟨g1, 0, none⟩) (m + 1) c1) (m + 1) (ints (xs ++ [(q : Int)]))) ∧ Hid (Row wi w.heap.size 4 (bRow i (markJ l f q j))) ∧ Hid (Below w.heap.size w wi) ∧ Hid (w.heap.size + 1 ≤ wi.heap.size)) (fun iv _ => i - (intOf iv).toNat)
          case atStart => exact ⟨0, rfl, by omega, HO4.out, by show Row _ _ _ _; rw [markJ_start]; exact HR4.out, HB4.out, HZ4.out⟩
          case round =>
            clear HO4 HR4 HB4 HZ4
            obtain ⟨j, rfl, hj, HO, HR, HB, HZ⟩ := hrel
            by_cases hjn : j < i
            · have hjz : (j : Int) < i := by omega
              obtain ⟨b, off, x1, y1, rfl, hbb, h1, hc1, hd1⟩ := pairs_at HA.out (show j < l.length by rw [HN.out]; exact hjn)
              obtain ⟨b', off', x2, y2, hbe, _, h2, hc2, hd2⟩ := pairs_at HA.out (show q < l.length by rw [HN.out]; exact hq)
              simp only [Option.some.injEq, Addr.mk.injEq, and_true] at hbe
              obtain ⟨rfl, rfl⟩ := hbe
              rw [← HB.out.cell (p := ⟨b, off + j * 2, none⟩) hbb] at hc1
              rw [← HB.out.cell (p := ⟨b, off + j * 2 + 1, none⟩) hbb] at hd1
              rw [← HB.out.cell (p := ⟨b, off + q * 2, none⟩) hbb] at hc2
              rw [← HB.out.cell (p := ⟨b, off + q * 2 + 1, none⟩) hbb] at hd2
              have hbs := HZ.out
              have g1_ := fun q os => cell_grown (w := wr) (a := ⟨b, off + j * 2, none⟩) (by show b < _; omega) hc1 q os
              have g2_ := fun q os => cell_grown (w := wr) (a := ⟨b, off + j * 2 + 1, none⟩) (by show b < _; omega) hd1 q os
              have g3_ := fun r os => cell_grown (w := wr) (a := ⟨b, off + q * 2, none⟩) (by show b < _; omega) hc2 r os
              have g4_ := fun r os => cell_grown (w := wr) (a := ⟨b, off + q * 2 + 1, none⟩) (by show b < _; omega) hd2 r os
              have HMT := Lib.hid (fun W => meet_ x1 y1 x2 y2 W)
              have HE1 : Hid (spAt l (j : Int) = (x1, y1)) := spAt_nat h1
              have HE2 : Hid (spAt l (q : Int) = (x2, y2)) := spAt_nat h2
              obtain ⟨M, hM⟩ : ∃ M, M = meetB (x1, y1) (x2, y2) := ⟨_, rfl⟩
              rw [← hM] at HMT
              have HMM : Hid (meetB (spAt l (j : Int)) (spAt l (q : Int)) = M) := by show _ = _; rw [HE1.out, HE2.out, hM]
              clear h1 h2 hc1 hd1 hc2 hd2 hM
              have hmix : Tryd.prog.follows .mixedOrders = true := by kernel_rfl
              go_wp2_with fail
              go_quiet_grown (first | (go_at_call 88; exact Calls.grown_of (HMT.out _)))
              have HB2 := Lib.hid (HB.out.trans ((grow_below wr nq osq).mono HB.out.size))
              have HR2 := Lib.hid (HR.out.step (grow_below wr nq osq))
              have HO2 := Lib.hid ((Keeps.ofBelow (grow_below wr nq osq) : Keeps [] _ _).own HO.out (fun _ _ hm => by simp at hm))
              have HZ2 : Hid (w.heap.size + 1 ≤ (grow (wr.drewN nq) osq).heap.size) := Nat.le_trans HZ.out (grow_below wr nq osq).size
              clear g1_ g2_ g3_ g4_ HB HR HO HZ HMT hbs
              generalize grow (wr.drewN nq) osq = w5 at HB2 HR2 HO2 HZ2 ⊢
              cases M with
              | true =>
                have hcj := HR2.out.cell j
                rw [bRow_at hjn] at hcj
                have hfj := HR2.out.frozen j
                have HR3 : Hid (Row (w5.setCell ⟨w.heap.size, j, none⟩ (.bool true)) w.heap.size 4 (bRow i (markJ l f q (j + 1)))) := by
                  show Row _ _ _ _
                  rw [markJ_on HMM.out, ← bRow_set]; exact HR2.out.set_ j _
                have HB3 : Hid (Below w.heap.size w (w5.setCell ⟨w.heap.size, j, none⟩ (.bool true))) := HB2.out.setCell (Nat.le_refl _) _
                have HO3 : Hid ((w5.setCell ⟨w.heap.size, j, none⟩ (.bool true)).ownsRow (w.heap.size + 1) 3 1 (.slice (some ⟨g1, 0, none⟩) (m + 1) c1) (m + 1) (ints (xs ++ [(q : Int)]))) := (Keeps.setCell (Keeps.refl [w.heap.size] w5) (p := ⟨w.heap.size, j, none⟩) (Or.inl (by simp)) _).own HO2.out (fun g hg hm => by
                  have := (HO2.out.lt g hg).1
                  simp at hm; omega)
                have HZ3 : Hid (w.heap.size + 1 ≤ (w5.setCell ⟨w.heap.size, j, none⟩ (.bool true)).heap.size) := by show _ ≤ _; have := HZ2.out; simpa [World.setCell] using this
                go_wp2
                go_roundw
                case rel => exact ⟨j + 1, by go_num, by omega, HO3.out, HR3.out, HB3.out, HZ3.out⟩
                case measure => simp [intOf]; omega
              | false =>
                have HR3 : Hid (Row w5 w.heap.size 4 (bRow i (markJ l f q (j + 1)))) := by show Row _ _ _ _; rw [markJ_off HMM.out]; exact HR2.out
                go_wp2
                go_roundw
                case rel => exact ⟨j + 1, by go_num, by omega, HO2.out, HR3.out, HB2.out, HZ2.out⟩
                case measure => simp [intOf]; omega
            · have hji : j = i := by omega
              subst hji
              have hjz : ¬ (j : Int) < j := by omega
              go_wp2
              go_roundw
              case rel => exact ⟨some ⟨g1, 0, none⟩, m + 1, c1, xs ++ [(q : Int)], markJ l f q j, rfl, hm2, by show _ = _; rw [List.length_append, HM.out]; rfl, HPN.out, HO.out, HR.out, HB.out, HZ.out⟩
              case measure => simp [lenV]; omega
end Go.Proofs.YtpaoiaogcckibaaDoor
