/- What the document's own Rooms answers: the rooms that the program gives. Conditions: the spans are ones that may be. -/
import Derived.Test.YtpaoiaogcckibaaDoorRefRoomsP
import Derived.Test.YtpaoiaogcckibaaDoorKeeps
import Derived.Test.YtpaoiaogcckibaaDoorSlotsDeep
import Derived.Deep.RegionHeld3
import Derived.Deep.DeepCutAuto
namespace Go.Proofs.YtpaoiaogcckibaaDoor
open Go.RowKit Go.Sort
theorem grow_belowR (w : World) (q : Nat) (os : Array Obj) : Below w.heap.size w (grow (w.drewN q) os) :=
  (Below.refl w.heap.size w).trans ⟨rfl, rfl, rfl, by simp [grow], fun k hk => by
    show (grow (w.drewN q) os).heap[k]? = w.heap[k]?
    simp [grow, Array.getElem?_append_left hk]⟩
structure BoxR where
  b : Bool
def RoomsR (w : World) (l : List Sp) (ys : List Int) (n : Nat) (e : Ending) (w' : World) : Prop :=
  ∃ (g : Nat) (o fr : List Int), e = .returned (.slice (some ⟨g, 0, none⟩) n n) ∧ roomsR l ys = (o, fr) ∧ o.length = n ∧ Row w' g 3 (ints o) ∧ w.heap.size ≤ g ∧ Below w.heap.size w w'
/-- so far: rooms of those that are had -/
def RoomsX (l : List Sp) (us os : List Int) : Prop := ∃ o fr, RoomsI l us os o fr
theorem RoomsX.len {l : List Sp} {us os : List Int} (h : RoomsX l us os) : os.length = l.length := by obtain ⟨o, fr, h⟩ := h; exact h.len
theorem RoomsX.neg {l : List Sp} {us os : List Int} (h : RoomsX l us os) {i : Nat} (hi : i < l.length) : os[i]! < 0 ↔ (i : Int) ∉ us := by obtain ⟨o, fr, h⟩ := h; exact h.neg hi
theorem RoomsX.le {l : List Sp} {us os : List Int} {q : Nat} (h : RoomsX l us os) {r : Nat} (h1 : ∀ t : Nat, t < r → takenB l os q t l.length = true) : r ≤ l.length := by
  obtain ⟨o, fr, h⟩ := h
  have h2 := h.le h1
  have h3 := h.rms.deep
  have h4 := (deepUp_le l 1001).2
  unfold deepV at h3; omega
theorem RoomsX.next {l : List Sp} {us os : List Int} {q : Nat} (h : RoomsX l us os) (hord : ∀ j : Nat, (j : Int) ∈ us → (spAt l j).1 ≤ (spAt l q).1) (hw : (0 ≤ (spAt l q).1 ∧ (spAt l q).1 < (spAt l q).2) ∧ (spAt l q).2 ≤ 1000) (hq : q < l.length) (hqn : (q : Int) ∉ us) {r : Nat} (h1 : ∀ t : Nat, t < r → takenB l os q t l.length = true) (h2 : takenB l os q r l.length = false) : RoomsX l (us ++ [(q : Int)]) (os.set q r) := by
  obtain ⟨o, fr, h⟩ := h; exact h.next hord hw hq hqn h1 h2
theorem cmpI_le0R {a b : Int} : cmpI a b ≤ 0 ↔ a ≤ b := by
  unfold cmpI
  repeat' split
  all_goals omega
theorem ogetR (o : List Int) {k : Nat} (h : k < o.length) : (ints o)[k]? = some (.int .i64 o[k]!) := by
  simp [ints, h]
set_option maxHeartbeats 8000000 in
set_option maxRecDepth 100000 in
theorem refRooms (A : Option Addr) (n c : Nat) (l : List Sp) (ys : List Int) (w : World) (hA : Cells w w.heap.size A (pairs l)) (hn : l.length = n) (he : spansErr l = 0) (ho : IsOrd l.length ys) (hs : ys.Pairwise (Ahead (begC l) id)) :
    Calls Tryd.prog 52 #[.slice A n c] w (RoomsR w l ys n) := by
  have HN := Lib.hid hn
  have HSP := Lib.hid (spansErr_ok he).2
  have hn24 : n ≤ 24 := by have := (spansErr_ok he).1; omega
  have HO_ := Lib.hid ho
  have HS_ := Lib.hid hs
  have HA := Lib.hid hA
  have hmk := make_row 29 3 (.int .i64 0) 8 Tryd.underlying29 info_int rfl n (by omega) (by omega)
  clear hn he ho hs hA
  go_enter Tryd.func52, Tryd.ntmps52
  go_wp2
  have HR0 : Hid (Row (w.alloc (.cells (madeCells #[.int .i64 0] n) 3)) w.heap.size 3 (ints (List.replicate n 0))) := by
    have h := Row.made w 3 (.int .i64 0) n
    show Row _ _ _ _
    rw [ints, List.map_replicate]; exact h
  have HB0 : Hid (Below w.heap.size w (w.alloc (.cells (madeCells #[.int .i64 0] n) 3))) := (Below.refl _ _).alloc (Nat.le_refl _) _
  clear hmk
  generalize w.alloc (.cells (madeCells #[.int .i64 0] n) 3) = w1 at HR0 HB0 ⊢
  go_loopw [4] (fun iv wr => ∃ (k : Nat) (os : List Int), iv = .int .i64 (k : Int) ∧ k ≤ n ∧ Hid (os.length = n ∧ ∀ i : Nat, i < k → os[i]! = -1) ∧ Hid (Row wr w.heap.size 3 (ints os)) ∧ Hid (Below w.heap.size w wr)) (fun iv _ => n - (intOf iv).toNat)
  case atStart => exact ⟨0, List.replicate n 0, rfl, by omega, ⟨by simp, fun i h => by omega⟩, HR0.out, HB0.out⟩
  case round =>
    clear HR0 HB0
    obtain ⟨k, os, rfl, hk, HOS, HR, HB⟩ := hrel
    by_cases hlt : k < n
    · have hlz : (k : Int) < n := by omega
      have hck := HR.out.cell k
      rw [ogetR os (by rw [HOS.out.1]; exact hlt)] at hck
      have hfk := HR.out.frozen k
      have HOS2 : Hid ((os.set k (-1)).length = n ∧ ∀ i : Nat, i < k + 1 → (os.set k (-1))[i]! = -1) := by
        refine ⟨by rw [List.length_set]; exact HOS.out.1, fun i hi => ?_⟩
        rw [gset os k i (-1) (by have := HOS.out.1; omega)]
        by_cases e : k = i
        · rw [if_pos e]
        · rw [if_neg e]; exact HOS.out.2 i (by omega)
      have HR2 : Hid (Row (wr.setCell ⟨w.heap.size, k, none⟩ (.int .i64 (-1))) w.heap.size 3 (ints (os.set k (-1)))) := by
        show Row _ _ _ _
        rw [← ints_set]; exact HR.out.set_ k _
      have HB2 : Hid (Below w.heap.size w (wr.setCell ⟨w.heap.size, k, none⟩ (.int .i64 (-1)))) := HB.out.setCell (Nat.le_refl _) _
      go_wp2
      go_roundw
      case rel => exact ⟨k + 1, os.set k (-1), by go_num, by omega, HOS2.out, HR2.out, HB2.out⟩
      case measure => simp [intOf]; omega
    · have hkn : k = n := by omega
      subst hkn
      have hlz : ¬ (k : Int) < k := by omega
      have HX0 : Hid (RoomsX l [] os) := ⟨_, _, RoomsI.start (by rw [HN.out]; exact HOS.out.1) fun i hi => HOS.out.2 i (by rw [← HN.out]; exact hi)⟩
      clear HOS
      go_wp2
      go_loopw [5] (fun nv wr => ∃ (m : Nat) (us os : List Int), nv = .int .i64 (m : Int) ∧ m ≤ k ∧ Hid (us.length = m) ∧ Hid (SelI (begC l) k us) ∧ Hid (RoomsX l us os) ∧ Hid (Row wr w.heap.size 3 (ints os)) ∧ Hid (Below w.heap.size w wr)) (fun nv _ => k - (intOf nv).toNat)
      case atStart => exact ⟨0, [], os, rfl, by omega, rfl, SelI.start _ _, HX0.out, HR.out, HB.out⟩
      case round =>
        clear HX0 HR HB
        obtain ⟨m, us, os, rfl, hm, HM, HI, HX, HR, HB⟩ := hrel
        have HL : Hid (os.length = k) := by show _ = _; rw [HX.out.len, HN.out]
        by_cases hmk : m < k
        · have hmz : (m : Int) < k := by omega
          go_wp2
          go_loopw [7, 6] (fun iv bv wi => ∃ (i : Nat) (v : Int), iv = .int .i64 (i : Int) ∧ bv = .int .i64 v ∧ i ≤ k ∧ Hid (SelB (begC l) us i v) ∧ Hid (∃ q, wi = wr.drewN q)) (fun iv _ _ => k - (intOf iv).toNat)
          case atStart => exact ⟨0, -1, rfl, rfl, by omega, SelB.start, 0, rfl⟩
          case round =>
            obtain ⟨i, v, rfl, rfl, hi, HSB, HWI⟩ := hrel
            obtain ⟨qd, rfl⟩ := HWI.out
            clear HWI
            by_cases hin : i < k
            · have hiz : (i : Int) < k := by omega
              have hcy := HR.out.cell i
              rw [ogetR os (by rw [HL.out]; exact hin)] at hcy
              have HNG : Hid (os[i]! < 0 ↔ (i : Int) ∉ us) := HX.out.neg (by rw [HN.out]; exact hin)
              obtain ⟨z, hz⟩ : ∃ z, z = os[i]! := ⟨_, rfl⟩
              rw [← hz] at hcy HNG
              clear hz
              by_cases hzn : z < 0
              · have HY := Lib.hid (HNG.out.1 hzn)
                have hz0 : decide (z < 0) = true := decide_eq_true hzn
                by_cases hv : v < 0
                · have HSN := Lib.hid (HSB.out.first hv HY.out)
                  have hv0 : decide (v < 0) = true := decide_eq_true hv
                  go_wp2
                  go_quiet (fail)
                  go_wp2
                  go_roundw
                  case rel => exact ⟨i + 1, (i : Int), by go_num, rfl, by omega, HSN.out, _, rfl⟩
                  case measure => simp [intOf]; omega
                · obtain ⟨q, rfl, hq, hqy⟩ := HSB.out.pos hv
                  have hqn : q < k := by omega
                  have hqz : (q : Int) < k := by omega
                  obtain ⟨b, off, x1, y1, rfl, hbb, h1, hc1, hd1⟩ := pairs_at HA.out (show i < l.length by rw [HN.out]; exact hin)
                  obtain ⟨b', off', x2, y2, hbe, _, h2, hc2, hd2⟩ := pairs_at HA.out (show q < l.length by rw [HN.out]; exact hqn)
                  simp only [Option.some.injEq, Addr.mk.injEq, and_true] at hbe
                  obtain ⟨rfl, rfl⟩ := hbe
                  have HC : Hid (begC l i q < 0 ↔ x1 < x2) := by show _ ↔ _; rw [begC_lt, spAt_nat h1, spAt_nat h2]
                  rw [← HB.out.cell (p := ⟨b, off + i * 2, none⟩) hbb] at hc1
                  rw [← HB.out.cell (p := ⟨b, off + q * 2, none⟩) hbb] at hc2
                  clear h1 h2 hqy hd1 hd2
                  have hv0 : decide ((q : Int) < 0) = false := decide_eq_false (by omega)
                  by_cases hd : x1 < x2
                  · have HSN := Lib.hid (HSB.out.take (weak_beg l) HY.out (HC.out.2 hd))
                    have hd0 : decide (x1 < x2) = true := decide_eq_true hd
                    go_wp2
                    go_quiet (fail)
                    go_wp2
                    go_roundw
                    case rel => exact ⟨i + 1, (i : Int), by go_num, rfl, by omega, HSN.out, _, rfl⟩
                    case measure => simp [intOf]; omega
                  · have HSN := Lib.hid (HSB.out.stay (weak_beg l) (fun h => hd (HC.out.1 h)))
                    have hd0 : decide (x1 < x2) = false := decide_eq_false hd
                    go_wp2
                    go_quiet (fail)
                    go_wp2
                    go_roundw
                    case rel => exact ⟨i + 1, (q : Int), by go_num, rfl, by omega, HSN.out, _, rfl⟩
                    case measure => simp [intOf]; omega
              · have HSN := Lib.hid (HSB.out.skip (Classical.byContradiction fun h => hzn (HNG.out.2 h)))
                have hz0 : decide (z < 0) = false := decide_eq_false hzn
                go_wp2
                go_quiet (fail)
                go_wp2
                go_roundw
                case rel => exact ⟨i + 1, v, by go_num, rfl, by omega, HSN.out, _, rfl⟩
                case measure => simp [intOf]; omega
            · have hie : i = k := by omega
              subst hie
              have hiz : ¬ (i : Int) < i := by omega
              obtain ⟨q, rfl, hq, hqy, hsel⟩ := HI.out.some (by rw [HM.out]; exact hmk) HSB.out
              have hqz : (q : Int) < i := by omega
              have HSEL := Lib.hid hsel
              have HBEF : Hid (∀ j : Nat, (j : Int) ∈ us → (spAt l j).1 ≤ (spAt l q).1) := fun j hj => cmpI_le0R.1 (show cmpI _ _ ≤ 0 from HI.out.before hq hqy j hj)
              obtain ⟨b, off, x2, y2, rfl, hbb, h2, hc2, hd2⟩ := pairs_at HA.out (show q < l.length by rw [HN.out]; exact hq)
              have HE2 : Hid (spAt l (q : Int) = (x2, y2)) := spAt_nat h2
              have HWQ := Lib.hid (HSP.out _ (List.mem_of_getElem? h2))
              have HQY := Lib.hid hqy
              have HC2 := Lib.hid hc2
              have HD2 := Lib.hid hd2
              have HRd := Lib.hid (HR.out.drewN qd)
              have HBd := Lib.hid (below_drewN HB.out qd)
              clear HR HB HSB hsel hqy h2 hc2 hd2 HI
              generalize wr.drewN qd = w3 at HRd HBd ⊢
              go_wp2
              go_loopw [8, 9] (fun rv av wr => ∃ (r : Nat) (b : BoxR), rv = .int .i64 (r : Int) ∧ av = .bool b.b ∧ r ≤ i ∧ Hid (∀ t : Nat, t < r → takenB l os q t i = true) ∧ Hid (b.b = false → takenB l os q r i = false) ∧ Hid (Row wr w.heap.size 3 (ints os)) ∧ Hid (Below w.heap.size w wr)) (fun rv av _ => 2 * (i + 1 - (intOf rv).toNat) + (match av with | .bool true => 1 | _ => 0))
              case atStart => exact ⟨0, ⟨true⟩, rfl, rfl, by omega, fun t h => by omega, (fun h => by cases h), HRd.out, HBd.out⟩
              case round =>
                clear HRd HBd
                obtain ⟨r, ⟨bb⟩, rfl, rfl, hr, HT, HF, HR, HB⟩ := hrel
                cases bb with
                | true =>
                  go_wp2
                  go_loopw [10, 9] (fun jv av wi => ∃ (j : Nat), jv = .int .i64 (j : Int) ∧ av = .bool (takenB l os q r j) ∧ j ≤ i ∧ Hid (Row wi w.heap.size 3 (ints os)) ∧ Hid (Below w.heap.size w wi)) (fun jv _ _ => i - (intOf jv).toNat)
                  case atStart => exact ⟨0, rfl, rfl, by omega, HR.out, HB.out⟩
                  case round =>
                    clear HR HB
                    obtain ⟨j, rfl, rfl, hj, HR, HB⟩ := hrel
                    by_cases hjn : j < i
                    · have hjz : (j : Int) < i := by omega
                      have hcj := HR.out.cell j
                      rw [ogetR os (by rw [HL.out]; exact hjn)] at hcj
                      have HNX := Lib.hid (takenB_next l os q r j)
                      obtain ⟨z, hz⟩ : ∃ z, z = os[j]! := ⟨_, rfl⟩
                      rw [← hz] at hcj HNX
                      clear hz
                      by_cases hzr : z = (r : Int)
                      · have hzb : (z == (r : Int)) = true := by simpa using hzr
                        obtain ⟨b', off', x1, y1, hbe, _, h1, hc1, hd1⟩ := pairs_at HA.out (show j < l.length by rw [HN.out]; exact hjn)
                        simp only [Option.some.injEq, Addr.mk.injEq, and_true] at hbe
                        obtain ⟨rfl, rfl⟩ := hbe
                        have e1 := (HB.out.cell (p := ⟨b, off + j * 2, none⟩) hbb).trans hc1
                        have e2 := (HB.out.cell (p := ⟨b, off + j * 2 + 1, none⟩) hbb).trans hd1
                        have e3 := (HB.out.cell (p := ⟨b, off + q * 2, none⟩) hbb).trans HC2.out
                        have e4 := (HB.out.cell (p := ⟨b, off + q * 2 + 1, none⟩) hbb).trans HD2.out
                        have hbs := HB.out.size
                        have hrl := HR.out.lt
                        have g1_ := fun q os => cell_grown (w := wr) (a := ⟨b, off + j * 2, none⟩) (by show b < _; omega) e1 q os
                        have g2_ := fun q os => cell_grown (w := wr) (a := ⟨b, off + j * 2 + 1, none⟩) (by show b < _; omega) e2 q os
                        have g3_ := fun s os => cell_grown (w := wr) (a := ⟨b, off + q * 2, none⟩) (by show b < _; omega) e3 s os
                        have g4_ := fun s os => cell_grown (w := wr) (a := ⟨b, off + q * 2 + 1, none⟩) (by show b < _; omega) e4 s os
                        have g5_ := fun s os => cell_grown (w := wr) (a := ⟨w.heap.size, j, none⟩) hrl hcj s os
                        have HMT := Lib.hid (fun W => meet_ x1 y1 x2 y2 W)
                        have HE1 : Hid (spAt l (j : Int) = (x1, y1)) := spAt_nat h1
                        obtain ⟨M, hM⟩ : ∃ M, M = meetB (x1, y1) (x2, y2) := ⟨_, rfl⟩
                        rw [← hM] at HMT
                        have HNX2 : Hid (takenB l os q r (j + 1) = (takenB l os q r j || M)) := by show _ = _; rw [HNX.out, HE1.out, HE2.out, ← hM, hzb]; simp
                        have hmix : Tryd.prog.follows .mixedOrders = true := by kernel_rfl
                        clear h1 hc1 hd1 e1 e2 e3 e4 hM hbs hrl hcj
                        go_wp2_with fail
                        go_quiet_grown (first | (go_at_call 88; exact Calls.grown_of (HMT.out _)))
                        have HB2 := Lib.hid (HB.out.trans ((grow_belowR wr nq osq).mono HB.out.size))
                        have HR2 := Lib.hid (HR.out.step (grow_belowR wr nq osq))
                        clear g1_ g2_ g3_ g4_ g5_ HB HR HMT
                        generalize grow (wr.drewN nq) osq = w5 at HB2 HR2 ⊢
                        cases M with
                        | true =>
                          have HNX3 : Hid (takenB l os q r (j + 1) = true) := by show _ = _; rw [HNX2.out]; simp
                          go_wp2
                          go_roundw
                          case rel => exact ⟨j + 1, by go_num, by rw [HNX3.out], by omega, HR2.out, HB2.out⟩
                          case measure => simp [intOf]; omega
                        | false =>
                          have HNX3 : Hid (takenB l os q r (j + 1) = takenB l os q r j) := by show _ = _; rw [HNX2.out]; simp
                          go_wp2
                          go_roundw
                          case rel => exact ⟨j + 1, by go_num, by rw [HNX3.out], by omega, HR2.out, HB2.out⟩
                          case measure => simp [intOf]; omega
                      · have hzb : (z == (r : Int)) = false := by simpa using hzr
                        have HNX3 : Hid (takenB l os q r (j + 1) = takenB l os q r j) := by show _ = _; rw [HNX.out, hzb]; simp
                        have hrl := HR.out.lt
                        have g5_ := fun s os => cell_grown (w := wr) (a := ⟨w.heap.size, j, none⟩) hrl hcj s os
                        have hmix : Tryd.prog.follows .mixedOrders = true := by kernel_rfl
                        clear hzr hrl
                        go_wp2
                        go_quiet (fail)
                        go_wp2
                        go_roundw
                        case rel => exact ⟨j + 1, by go_num, by rw [HNX3.out], by omega, HR.out.drewN _, below_drewN HB.out _⟩
                        case measure => simp [intOf]; omega
                    · have hji : j = i := by omega
                      subst hji
                      have hjz : ¬ (j : Int) < j := by omega
                      cases htk : takenB l os q r j with
                      | true =>
                        have HT2 : Hid (∀ t : Nat, t < r + 1 → takenB l os q t j = true) := fun t ht => by
                          by_cases e : t = r
                          · subst e; exact htk
                          · exact HT.out t (by omega)
                        have hr2 : r + 1 ≤ j := by
                          have := HX.out.le (q := q) (r := r + 1) (by rw [HN.out]; exact HT2.out)
                          rw [HN.out] at this; exact this
                        clear htk
                        go_wp2
                        go_roundw
                        case rel => exact ⟨r + 1, ⟨true⟩, by go_num, rfl, hr2, HT2.out, (fun h => by cases h), HR.out, HB.out⟩
                        case measure => simp [intOf]; omega
                      | false =>
                        have HTK := Lib.hid htk
                        clear htk
                        go_wp2
                        go_roundw
                        case rel => exact ⟨r, ⟨false⟩, rfl, rfl, hr, HT.out, fun _ => HTK.out, HR.out, HB.out⟩
                        case measure => simp [intOf]
                | false =>
                  have HTK := Lib.hid (HF.out rfl)
                  have HXN : Hid (RoomsX l (us ++ [(q : Int)]) (os.set q (r : Int))) := HX.out.next HBEF.out (by rw [HE2.out]; exact HWQ.out) (by rw [HN.out]; exact hq) HQY.out (by rw [HN.out]; exact HT.out) (by rw [HN.out]; exact HTK.out)
                  have hcq := HR.out.cell q
                  rw [ogetR os (by rw [HL.out]; exact hq)] at hcq
                  have hfq := HR.out.frozen q
                  have HR2 : Hid (Row (wr.setCell ⟨w.heap.size, q, none⟩ (.int .i64 (r : Int))) w.heap.size 3 (ints (os.set q (r : Int)))) := by
                    show Row _ _ _ _
                    rw [← ints_set]; exact HR.out.set_ q _
                  have HB2 : Hid (Below w.heap.size w (wr.setCell ⟨w.heap.size, q, none⟩ (.int .i64 (r : Int)))) := HB.out.setCell (Nat.le_refl _) _
                  go_wp2
                  go_roundw
                  case rel => exact ⟨m + 1, us ++ [(q : Int)], os.set q (r : Int), by go_num, by omega, by show _ = _; rw [List.length_append, HM.out]; rfl, HSEL.out, HXN.out, HR2.out, HB2.out⟩
                  case measure => simp [intOf]; omega
        · have hmk2 : m = k := by omega
          subst hmk2
          have hmz : ¬ (m : Int) < m := by omega
          have HE : Hid (us = ys) := HI.out.done (weak_beg l) HM.out (by rw [← HN.out]; exact HO_.out) HS_.out
          go_wp2
          go_ret
          obtain ⟨o, fr, hx⟩ := HX.out
          have hfn := hx.rms.fn
          have hoo : os = o := hx.done (by rw [HE.out]; exact HO_.out)
          rw [HE.out] at hfn
          exact ⟨w.heap.size, o, fr, rfl, hfn, by rw [← hoo]; exact HL.out, by rw [← hoo]; exact HR.out, Nat.le_refl _, HB.out⟩
end Go.Proofs.YtpaoiaogcckibaaDoor
