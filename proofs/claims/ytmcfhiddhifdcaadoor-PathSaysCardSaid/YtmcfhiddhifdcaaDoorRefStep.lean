/- What the document's Step answers: the lightest edge from a node to another one, perhaps both ways. Conditions: lengths are such that slices can have. -/
import Derived.Test.YtmcfhiddhifdcaaDoorRefGraph
import Derived.Deep.DeepCutAuto
namespace Go.Proofs.YtmcfhiddhifdcaaDoor
open Go.RowKit
def hitG (both : Bool) (a b ea eb : Int) : Bool := decide ((ea = a ∧ eb = b) ∨ (both = true ∧ ea = b ∧ eb = a))
def stepG (both : Bool) (a b best : Int) (e : Edge) : Int := if hitG both a b e.a e.b = true then (if best < 0 ∨ e.weight < best then e.weight else best) else best
def stepV (both : Bool) (l : List Edge) (a b : Int) : Int := l.foldl (stepG both a b) (-1)
theorem stepG_at {both : Bool} {a b best ea eb et : Int} {h : Bool} (hh : hitG both a b ea eb = h) : stepG both a b best ⟨ea, eb, et⟩ = if h = true then (if best < 0 ∨ et < best then et else best) else best := by
  unfold stepG
  simp only [hh]
def StepOK (w : World) (v : Int) (e : Ending) (w' : World) : Prop := e = .returned (.int .i64 v) ∧ Below w.heap.size w w'
set_option maxHeartbeats 8000000 in
set_option maxRecDepth 100000 in
theorem refStep_false (x : Int) (A : Option Addr) (n c : Nat) (a b : Int) (l : List Edge) (w : World) (hA : Cells w w.heap.size A (edges l)) (hn : l.length = n) (hm : n ≤ 9223372036854775806) :
    Calls Tryd.prog 18 #[graphV x A n c, .int .i64 a, .int .i64 b, .bool false] w (StepOK w (stepV false l a b)) := by
  have HN := Lib.hid hn
  have HA := Lib.hid hA
  have HB0 : Hid (Below w.heap.size w (w.alloc (.cells #[.int .i64 x, .slice A n c] 24))) := (Below.refl _ _).alloc (Nat.le_refl _) _
  have HR0 : Hid (Row (w.alloc (.cells #[.int .i64 x, .slice A n c] 24)) w.heap.size 24 [.int .i64 x, .slice A n c]) := Row.new _ _ _
  clear hA hn
  unfold graphV
  go_enter Tryd.func18, Tryd.ntmps18
  go_wp2
  generalize w.alloc (.cells #[.int .i64 x, .slice A n c] 24) = w1 at HR0 HB0 ⊢
  go_loopw [10, 9] (fun i v wr => ∃ (k : Nat) (best : Int), i = .int .i64 (k : Int) ∧ k ≤ n ∧ v = .int .i64 best ∧ Hid ((l.drop k).foldl (stepG false a b) best = stepV false l a b) ∧ Hid (Row wr w.heap.size 24 [.int .i64 x, .slice A n c]) ∧ Hid (Below w.heap.size w wr)) (fun i _ _ => n - (intOf i).toNat)
  case atStart => exact ⟨0, -1, rfl, by omega, rfl, rfl, HR0.out, HB0.out⟩
  case round =>
    clear HR0 HB0
    obtain ⟨k, best, rfl, hk, rfl, HI, HR, HB⟩ := hrel
    have hq1 := HR.out.cell 1
    by_cases hlt : k < n
    · have hlz : (k : Int) < n := by omega
      obtain ⟨b', off, ea, eb, et, rfl, hbb, hx, hc0, hc1, hc2⟩ := edges_at HA.out (show k < l.length by rw [HN.out]; exact hlt)
      have HST : Hid ((l.drop (k + 1)).foldl (stepG false a b) (stepG false a b best ⟨ea, eb, et⟩) = stepV false l a b) := by
        have h1 := HI.out
        rw [drop_at hx] at h1
        exact h1
      rw [← HB.out.cell hbb] at hc0 hc1 hc2
      have HBN : Hid (Below w.heap.size w (wr.alloc (.cells #[.int .i64 ea, .int .i64 eb, .int .i64 et] 43))) := HB.out.alloc HB.out.size _
      have HR2 : Hid (Row (wr.alloc (.cells #[.int .i64 ea, .int .i64 eb, .int .i64 et] 43)) w.heap.size 24 [.int .i64 x, .slice (some ⟨b', off, none⟩) n c]) := HR.out.alloc _
      clear hx HI
      go_upto_region 6 with fail
      have hnw := Row.new wr 43 #[.int .i64 ea, .int .i64 eb, .int .i64 et]
      have k0 := hnw.cell 0
      have k1 := hnw.cell 1
      have k2 := hnw.cell 2
      clear hc0 hc1 hc2 hnw HR HB hq1
      generalize wr.heap.size = bx at k0 k1 k2 ⊢
      generalize wr.alloc (.cells #[.int .i64 ea, .int .i64 eb, .int .i64 et] 43) = w2 at HBN HR2 k0 k1 k2 ⊢
      obtain ⟨hit, hhit⟩ : ∃ z, z = hitG false a b ea eb := ⟨_, rfl⟩
      have HHIT := Lib.hid hhit
      clear hhit
      go_cut [48] from 24 to 48 (fun v wx => v = .bool hit ∧ wx = w2)
      case first =>
        by_cases t1 : ea = a
        · have d1 : (ea == a) = true := by simpa using t1
          by_cases t2 : eb = b
          · have d2 : (eb == b) = true := by simpa using t2
            have HV : Hid (hit = true) := by rw [HHIT.out]; unfold hitG; exact decide_eq_true (Or.inl ⟨t1, t2⟩)
            clear HHIT t1 t2
            go_wp2
            go_meet
            exact ⟨congrArg _ HV.out.symm, rfl⟩
          · have d2 : (eb == b) = false := by simpa using t2
            have HV : Hid (hit = false) := by rw [HHIT.out]; unfold hitG; exact decide_eq_false (fun h => h.elim (fun h => t2 h.2) (fun h => absurd h.1 (by simp)))
            clear HHIT t1 t2
            go_wp2
            go_meet
            exact ⟨congrArg _ HV.out.symm, rfl⟩
        · have d1 : (ea == a) = false := by simpa using t1
          have HV : Hid (hit = false) := by rw [HHIT.out]; unfold hitG; exact decide_eq_false (fun h => h.elim (fun h => t1 h.1) (fun h => absurd h.1 (by simp)))
          clear HHIT t1
          go_wp2
          go_meet
          exact ⟨congrArg _ HV.out.symm, rfl⟩
      case rest =>
      obtain ⟨rfl, hwc⟩ := hcut
      replace hwc := hwc.symm
      subst hwc
      cases hit with
      | false =>
        have HST2 : Hid ((l.drop (k + 1)).foldl (stepG false a b) best = stepV false l a b) := by
          have h := HST.out
          rw [stepG_at HHIT.out.symm, if_neg (by simp)] at h
          exact h
        go_wp2
        go_roundw
        case rel => exact ⟨k + 1, best, by go_num, by omega, rfl, HST2.out, HR2.out, HBN.out⟩
        case measure => simp [intOf]; omega
      | true =>
        by_cases p1 : best < 0
        · have HST2 : Hid ((l.drop (k + 1)).foldl (stepG false a b) et = stepV false l a b) := by
            have h := HST.out
            rw [stepG_at HHIT.out.symm, if_pos rfl, if_pos (Or.inl p1)] at h
            exact h
          go_wp2
          go_roundw
          case rel => exact ⟨k + 1, et, by go_num, by omega, rfl, HST2.out, HR2.out, HBN.out⟩
          case measure => simp [intOf]; omega
        · by_cases p2 : et < best
          · have HST2 : Hid ((l.drop (k + 1)).foldl (stepG false a b) et = stepV false l a b) := by
              have h := HST.out
              rw [stepG_at HHIT.out.symm, if_pos rfl, if_pos (Or.inr p2)] at h
              exact h
            go_wp2
            go_roundw
            case rel => exact ⟨k + 1, et, by go_num, by omega, rfl, HST2.out, HR2.out, HBN.out⟩
            case measure => simp [intOf]; omega
          · have HST2 : Hid ((l.drop (k + 1)).foldl (stepG false a b) best = stepV false l a b) := by
              have h := HST.out
              rw [stepG_at HHIT.out.symm, if_pos rfl, if_neg (by omega)] at h
              exact h
            go_wp2
            go_roundw
            case rel => exact ⟨k + 1, best, by go_num, by omega, rfl, HST2.out, HR2.out, HBN.out⟩
            case measure => simp [intOf]; omega
    · have hlz : ¬ (k : Int) < n := by omega
      have HF : Hid (best = stepV false l a b) := by
        have h := HI.out
        rw [drop_end (by rw [HN.out]; omega)] at h
        exact h
      go_wp2
      go_ret
      exact ⟨congrArg _ (congrArg _ HF.out), HB.out⟩
set_option maxHeartbeats 8000000 in
set_option maxRecDepth 100000 in
theorem refStep_true (x : Int) (A : Option Addr) (n c : Nat) (a b : Int) (l : List Edge) (w : World) (hA : Cells w w.heap.size A (edges l)) (hn : l.length = n) (hm : n ≤ 9223372036854775806) :
    Calls Tryd.prog 18 #[graphV x A n c, .int .i64 a, .int .i64 b, .bool true] w (StepOK w (stepV true l a b)) := by
  have HN := Lib.hid hn
  have HA := Lib.hid hA
  have HB0 : Hid (Below w.heap.size w (w.alloc (.cells #[.int .i64 x, .slice A n c] 24))) := (Below.refl _ _).alloc (Nat.le_refl _) _
  have HR0 : Hid (Row (w.alloc (.cells #[.int .i64 x, .slice A n c] 24)) w.heap.size 24 [.int .i64 x, .slice A n c]) := Row.new _ _ _
  clear hA hn
  unfold graphV
  go_enter Tryd.func18, Tryd.ntmps18
  go_wp2
  generalize w.alloc (.cells #[.int .i64 x, .slice A n c] 24) = w1 at HR0 HB0 ⊢
  go_loopw [10, 9] (fun i v wr => ∃ (k : Nat) (best : Int), i = .int .i64 (k : Int) ∧ k ≤ n ∧ v = .int .i64 best ∧ Hid ((l.drop k).foldl (stepG true a b) best = stepV true l a b) ∧ Hid (Row wr w.heap.size 24 [.int .i64 x, .slice A n c]) ∧ Hid (Below w.heap.size w wr)) (fun i _ _ => n - (intOf i).toNat)
  case atStart => exact ⟨0, -1, rfl, by omega, rfl, rfl, HR0.out, HB0.out⟩
  case round =>
    clear HR0 HB0
    obtain ⟨k, best, rfl, hk, rfl, HI, HR, HB⟩ := hrel
    have hq1 := HR.out.cell 1
    by_cases hlt : k < n
    · have hlz : (k : Int) < n := by omega
      obtain ⟨b', off, ea, eb, et, rfl, hbb, hx, hc0, hc1, hc2⟩ := edges_at HA.out (show k < l.length by rw [HN.out]; exact hlt)
      have HST : Hid ((l.drop (k + 1)).foldl (stepG true a b) (stepG true a b best ⟨ea, eb, et⟩) = stepV true l a b) := by
        have h1 := HI.out
        rw [drop_at hx] at h1
        exact h1
      rw [← HB.out.cell hbb] at hc0 hc1 hc2
      have HBN : Hid (Below w.heap.size w (wr.alloc (.cells #[.int .i64 ea, .int .i64 eb, .int .i64 et] 43))) := HB.out.alloc HB.out.size _
      have HR2 : Hid (Row (wr.alloc (.cells #[.int .i64 ea, .int .i64 eb, .int .i64 et] 43)) w.heap.size 24 [.int .i64 x, .slice (some ⟨b', off, none⟩) n c]) := HR.out.alloc _
      clear hx HI
      go_upto_region 6 with fail
      have hnw := Row.new wr 43 #[.int .i64 ea, .int .i64 eb, .int .i64 et]
      have k0 := hnw.cell 0
      have k1 := hnw.cell 1
      have k2 := hnw.cell 2
      clear hc0 hc1 hc2 hnw HR HB hq1
      generalize wr.heap.size = bx at k0 k1 k2 ⊢
      generalize wr.alloc (.cells #[.int .i64 ea, .int .i64 eb, .int .i64 et] 43) = w2 at HBN HR2 k0 k1 k2 ⊢
      obtain ⟨hit, hhit⟩ : ∃ z, z = hitG true a b ea eb := ⟨_, rfl⟩
      have HHIT := Lib.hid hhit
      clear hhit
      go_cut [48] from 24 to 48 (fun v wx => v = .bool hit ∧ wx = w2)
      case first =>
        by_cases t1 : ea = a
        · have d1 : (ea == a) = true := by simpa using t1
          by_cases t2 : eb = b
          · have d2 : (eb == b) = true := by simpa using t2
            have HV : Hid (hit = true) := by rw [HHIT.out]; unfold hitG; exact decide_eq_true (Or.inl ⟨t1, t2⟩)
            clear HHIT t1 t2
            go_wp2
            go_meet
            exact ⟨congrArg _ HV.out.symm, rfl⟩
          · have d2 : (eb == b) = false := by simpa using t2
            by_cases t3 : ea = b
            · have d3 : (ea == b) = true := by simpa using t3
              by_cases t4 : eb = a
              · have d4 : (eb == a) = true := by simpa using t4
                have HV : Hid (hit = true) := by rw [HHIT.out]; unfold hitG; exact decide_eq_true (Or.inr ⟨rfl, t3, t4⟩)
                clear HHIT t1 t2 t3 t4
                go_wp2
                go_meet
                exact ⟨congrArg _ HV.out.symm, rfl⟩
              · have d4 : (eb == a) = false := by simpa using t4
                have HV : Hid (hit = false) := by rw [HHIT.out]; unfold hitG; exact decide_eq_false (fun h => h.elim (fun h => t2 h.2) (fun h => t4 h.2.2))
                clear HHIT t1 t2 t3 t4
                go_wp2
                go_meet
                exact ⟨congrArg _ HV.out.symm, rfl⟩
            · have d3 : (ea == b) = false := by simpa using t3
              have HV : Hid (hit = false) := by rw [HHIT.out]; unfold hitG; exact decide_eq_false (fun h => h.elim (fun h => t2 h.2) (fun h => t3 h.2.1))
              clear HHIT t1 t2 t3
              go_wp2
              go_meet
              exact ⟨congrArg _ HV.out.symm, rfl⟩
        · have d1 : (ea == a) = false := by simpa using t1
          by_cases t3 : ea = b
          · have d3 : (ea == b) = true := by simpa using t3
            by_cases t4 : eb = a
            · have d4 : (eb == a) = true := by simpa using t4
              have HV : Hid (hit = true) := by rw [HHIT.out]; unfold hitG; exact decide_eq_true (Or.inr ⟨rfl, t3, t4⟩)
              clear HHIT t1 t3 t4
              go_wp2
              go_meet
              exact ⟨congrArg _ HV.out.symm, rfl⟩
            · have d4 : (eb == a) = false := by simpa using t4
              have HV : Hid (hit = false) := by rw [HHIT.out]; unfold hitG; exact decide_eq_false (fun h => h.elim (fun h => t1 h.1) (fun h => t4 h.2.2))
              clear HHIT t1 t3 t4
              go_wp2
              go_meet
              exact ⟨congrArg _ HV.out.symm, rfl⟩
          · have d3 : (ea == b) = false := by simpa using t3
            have HV : Hid (hit = false) := by rw [HHIT.out]; unfold hitG; exact decide_eq_false (fun h => h.elim (fun h => t1 h.1) (fun h => t3 h.2.1))
            clear HHIT t1 t3
            go_wp2
            go_meet
            exact ⟨congrArg _ HV.out.symm, rfl⟩
      case rest =>
      obtain ⟨rfl, hwc⟩ := hcut
      replace hwc := hwc.symm
      subst hwc
      cases hit with
      | false =>
        have HST2 : Hid ((l.drop (k + 1)).foldl (stepG true a b) best = stepV true l a b) := by
          have h := HST.out
          rw [stepG_at HHIT.out.symm, if_neg (by simp)] at h
          exact h
        go_wp2
        go_roundw
        case rel => exact ⟨k + 1, best, by go_num, by omega, rfl, HST2.out, HR2.out, HBN.out⟩
        case measure => simp [intOf]; omega
      | true =>
        by_cases p1 : best < 0
        · have HST2 : Hid ((l.drop (k + 1)).foldl (stepG true a b) et = stepV true l a b) := by
            have h := HST.out
            rw [stepG_at HHIT.out.symm, if_pos rfl, if_pos (Or.inl p1)] at h
            exact h
          go_wp2
          go_roundw
          case rel => exact ⟨k + 1, et, by go_num, by omega, rfl, HST2.out, HR2.out, HBN.out⟩
          case measure => simp [intOf]; omega
        · by_cases p2 : et < best
          · have HST2 : Hid ((l.drop (k + 1)).foldl (stepG true a b) et = stepV true l a b) := by
              have h := HST.out
              rw [stepG_at HHIT.out.symm, if_pos rfl, if_pos (Or.inr p2)] at h
              exact h
            go_wp2
            go_roundw
            case rel => exact ⟨k + 1, et, by go_num, by omega, rfl, HST2.out, HR2.out, HBN.out⟩
            case measure => simp [intOf]; omega
          · have HST2 : Hid ((l.drop (k + 1)).foldl (stepG true a b) best = stepV true l a b) := by
              have h := HST.out
              rw [stepG_at HHIT.out.symm, if_pos rfl, if_neg (by omega)] at h
              exact h
            go_wp2
            go_roundw
            case rel => exact ⟨k + 1, best, by go_num, by omega, rfl, HST2.out, HR2.out, HBN.out⟩
            case measure => simp [intOf]; omega
    · have hlz : ¬ (k : Int) < n := by omega
      have HF : Hid (best = stepV true l a b) := by
        have h := HI.out
        rw [drop_end (by rw [HN.out]; omega)] at h
        exact h
      go_wp2
      go_ret
      exact ⟨congrArg _ (congrArg _ HF.out), HB.out⟩
theorem refStep (x : Int) (A : Option Addr) (n c : Nat) (a b : Int) (both : Bool) (l : List Edge) (w : World) (hA : Cells w w.heap.size A (edges l)) (hn : l.length = n) (hm : n ≤ 9223372036854775806) :
    Calls Tryd.prog 18 #[graphV x A n c, .int .i64 a, .int .i64 b, .bool both] w (StepOK w (stepV both l a b)) := by
  cases both with
  | false => exact refStep_false x A n c a b l w hA hn hm
  | true => exact refStep_true x A n c a b l w hA hn hm
end Go.Proofs.YtmcfhiddhifdcaaDoor
