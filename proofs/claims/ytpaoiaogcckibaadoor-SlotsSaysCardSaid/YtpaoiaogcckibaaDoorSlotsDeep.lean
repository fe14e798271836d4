/- What slots.Deep answers: how many there are at a time at most. Conditions: lengths are such that slices can have. -/
import Derived.Test.YtpaoiaogcckibaaDoorSlotsCheck
import Derived.Deep.WholeRow
import Derived.Deep.RegionHeld3
import Derived.Deep.DeepCutAuto
import Derived.Deep.CutRange
namespace Go.Proofs.YtpaoiaogcckibaaDoor
open Go.RowKit
def one (x : Sp) (t : Int) : Int := (if x.1 = t then 1 else 0) - (if x.2 = t then 1 else 0)
def chg : List Sp → Int → Int
  | [], _ => 0
  | x :: l, t => one x t + chg l t
theorem chg_snoc (l : List Sp) (x : Sp) (t : Int) : chg (l ++ [x]) t = chg l t + one x t := by
  induction l with
  | nil => simp [chg]
  | cons y l ih => simp only [List.cons_append, chg, ih]; omega
theorem chg_le (l : List Sp) (t : Int) : -(l.length : Int) ≤ chg l t ∧ chg l t ≤ l.length := by
  induction l with
  | nil => simp [chg]
  | cons y l ih =>
    simp only [chg, one, List.length_cons]
    split <;> split <;> omega
theorem cnt_cons (x : Sp) (l : List Sp) (t : Int) : cnt (x :: l) t = (if x.1 ≤ t ∧ t < x.2 then 1 else 0) + cnt l t := by
  unfold cnt
  rw [List.filter_cons]
  by_cases h : x.1 ≤ t ∧ t < x.2
  · simp [h]; omega
  · simp [h]
theorem cnt_step (l : List Sp) (t : Int) (h : ∀ x ∈ l, x.1 < x.2) : cnt l t = cnt l (t - 1) + chg l t := by
  induction l with
  | nil => simp [cnt, chg]
  | cons x l ih =>
    have h0 := h x (by simp)
    have h1 := ih fun y hy => h y (by simp [hy])
    rw [cnt_cons, cnt_cons, h1]
    simp only [chg, one]
    repeat' split
    all_goals omega
theorem cnt_none (l : List Sp) (h : ∀ x ∈ l, 0 ≤ x.1) : cnt l (-1) = 0 := by
  induction l with
  | nil => simp [cnt]
  | cons x l ih =>
    have h0 := h x (by simp)
    rw [cnt_cons, ih fun y hy => h y (by simp [hy]), if_neg (by omega)]; rfl
/-- the row of changes -/
def IsChg (l : List Sp) (cs : List Int) : Prop := cs.length = 1001 ∧ ∀ t : Nat, t < 1001 → cs[t]? = some (chg l t)
theorem isChg_none : IsChg [] (List.replicate 1001 0) := ⟨List.length_replicate, fun t ht => by rw [List.getElem?_replicate, if_pos ht]; rfl⟩
theorem isChg_snoc {l : List Sp} {cs : List Int} (h : IsChg l cs) {a b : Nat} (ha : a < b) (hb : b < 1001) {va vb : Int} (h1 : cs[a]? = some va) (h2 : cs[b]? = some vb) :
    IsChg (l ++ [((a : Int), (b : Int))]) ((cs.set a (va + 1)).set b (vb - 1)) := by
  refine ⟨by simp [h.1], fun t ht => ?_⟩
  rw [List.getElem?_set, List.getElem?_set, chg_snoc]
  have e := h.2 t ht
  simp only [one]
  by_cases hbt : b = t
  · subst hbt
    rw [h2] at e; injection e with e
    rw [if_pos rfl, if_pos (by simp [h.1]; omega), if_neg (by omega), if_pos rfl, e]; rfl
  · rw [if_neg hbt]
    by_cases hat : a = t
    · subst hat
      rw [h1] at e; injection e with e
      rw [if_pos rfl, if_pos (by rw [h.1]; omega), if_pos rfl, if_neg (by omega), e]; rfl
    · rw [if_neg hat, e, if_neg (by omega), if_neg (by omega)]; simp
theorem ints_set (l : List Int) (i : Nat) (v : Int) : (ints l).set i (.int .i64 v) = ints (l.set i v) := by simp [ints, List.map_set]
set_option maxRecDepth 100000 in
theorem zero_array : (Tryd.prog.info? 131).map (fun i => (i.zero, i.size)) = some (some (.agg (Array.replicate 1001 (.int .i64 0))), 1001) := by kernel_rfl
theorem index_arr (t : Nat) (cs : Array Value) (v : Value) (w : World) (ht : t < 1001) (hv : cs[t]? = some v) : (Instr.index 131 (.agg cs) (.int .i64 (t : Int))).run Tryd.prog w = .ok v w := by
  have h : Tryd.prog.underlying 131 = some (.array 1001 3) := by kernel_rfl
  have h2 : Tryd.prog.underlying 3 = some (.int .i64) := by kernel_rfl
  have hs : ∀ w, (sizeOf 3).run Tryd.prog w = .ok 1 w := fun _ => by kernel_rfl
  have ha : ∀ w, (isAgg 3).run Tryd.prog w = .ok false w := fun _ => by kernel_rfl
  have hz : 0 ≤ (t : Int) ∧ (t : Int) < ((1001 : Nat) : Int) := ⟨by omega, by omega⟩
  simp only [Instr.index, asIntOf, Sem.run_bind, Sem.run_pure, Result.andThen, run_underlying h, part]
  rw [if_pos hz]
  simp [Sem.run_bind, hs, ha, Result.andThen, hv, part, go_sem]
theorem slotsDeep_bad (A : Option Addr) (n c : Nat) (l : List Sp) (w : World) (hA : Cells w w.heap.size A (pairs l)) (hn : l.length = n) (hm : n ≤ 9223372036854775807) (he : spansErr l ≠ 0) :
    Calls Tryd.prog 56 #[.slice A n c] w fun e w' => e = .returned (.tuple #[.int .i64 0, .iface 91 (.int .i64 (spansErr l))]) ∧ Below w.heap.size w w' := by
  have HF := Lib.hid (errV_bad he)
  have c1 := Lib.hid (slotsCheck A n c l w hA hn hm)
  clear he hn hA
  go_enter Tryd.func56, Tryd.ntmps56
  go_wp2_with fail
  refine c1.out.mono ?_
  rintro e w1 ⟨rfl, hb1⟩
  rw [HF.out]
  go_wp2
  go_ret2
  exact ⟨rfl, hb1⟩
set_option maxHeartbeats 2000000 in
set_option maxRecDepth 100000 in
theorem slotsDeep_ok (A : Option Addr) (n c : Nat) (l : List Sp) (w : World) (hA : Cells w w.heap.size A (pairs l)) (hn : l.length = n) (he : spansErr l = 0) :
    Calls Tryd.prog 56 #[.slice A n c] w fun e w' => e = .returned (.tuple #[.int .i64 (deepV l), .nilIface]) ∧ Below w.heap.size w w' := by
  obtain ⟨hl24, hsp⟩ := spansErr_ok he
  have HSP := Lib.hid hsp
  have HN := Lib.hid hn
  have c1 := slotsCheck A n c l w hA hn (by omega)
  rw [he, errV_zero] at c1
  have C1 := Lib.hid c1
  have hn24 : n ≤ 24 := by omega
  clear hsp he c1 hl24 hn
  have hz := (zero_of_info zero_array).1
  go_enter Tryd.func56, Tryd.ntmps56
  go_wp2_with fail
  refine C1.out.mono ?_
  rintro e w1 ⟨rfl, hb1⟩
  have HB1 := Lib.hid hb1
  clear hb1 C1
  go_upto_region 5 with fail
  have HR0 : Hid (Row (w1.alloc (.cells (Array.replicate 1001 (.int .i64 0)) 131)) w1.heap.size 131 (ints (List.replicate 1001 0))) := by
    have h := Row.new w1 131 (Array.replicate 1001 (.int .i64 0))
    rw [Array.toList_replicate] at h
    show Row _ _ _ _
    rw [ints, List.map_replicate]; exact h
  have HB2 : Hid (Below w.heap.size w (w1.alloc (.cells (Array.replicate 1001 (.int .i64 0)) 131))) := HB1.out.alloc HB1.out.size _
  have HG : Hid (w.heap.size ≤ w1.heap.size) := HB1.out.size
  generalize w1.alloc (.cells (Array.replicate 1001 (.int .i64 0)) 131) = w2 at HR0 HB2 ⊢
  generalize w1.heap.size = g at HR0 HG ⊢
  clear hz HB1
  go_wp2
  go_loopw [19] (fun i wr => ∃ (k : Nat) (cs : List Int), k ≤ n ∧ i = .int .i64 k ∧ Hid (Row wr g 131 (ints cs)) ∧ Hid (IsChg (l.take k) cs) ∧ Hid (Below w.heap.size w wr)) (fun i _ => n - (intOf i).toNat)
  case atStart => exact ⟨0, List.replicate 1001 0, Nat.zero_le _, rfl, HR0.out, isChg_none, HB2.out⟩
  case round =>
    obtain ⟨k, cs, hk, rfl, HR, HI, HB⟩ := hrel
    by_cases hlt : k < n
    · have hlz : (k : Int) < n := by omega
      obtain ⟨b, off, x, y, rfl, hbb, hx, hc0, hc1⟩ := pairs_at hA (show k < l.length by rw [HN.out]; exact hlt)
      obtain ⟨⟨hx0, hxy⟩, hy1⟩ := HSP.out _ (List.mem_of_getElem? hx)
      simp only at hx0 hxy hy1
      obtain ⟨x, rfl⟩ : ∃ z : Nat, x = z := ⟨x.toNat, by omega⟩
      obtain ⟨y, rfl⟩ : ∃ z : Nat, y = z := ⟨y.toNat, by omega⟩
      rw [← HB.out.cell hbb] at hc0 hc1
      have hgl := HR.out.lt
      have hxlt : x < 1001 := by omega
      have hylt : y < 1001 := by omega
      have h1 := HI.out.2 x hxlt
      have h2 := HI.out.2 y hylt
      have b1 := chg_le (l.take k) x
      have b2 := chg_le (l.take k) y
      have b0 : (l.take k).length ≤ 24 := by rw [List.length_take]; have := HN.out; omega
      have HT := Lib.hid (take_at hx)
      generalize chg (l.take k) x = va at h1 b1
      generalize chg (l.take k) y = vb at h2 b2
      have HN2 : Hid (IsChg (l.take (k + 1)) ((cs.set x (va + 1)).set y (vb - 1))) := by
        show IsChg _ _
        rw [HT.out]; exact isChg_snoc HI.out (by omega) hylt h1 h2
      have e1 := HR.out.cell x
      have e2 := HR.out.cell y
      have f1 := HR.out.frozen x
      have f2 := HR.out.frozen y
      rw [ints, List.getElem?_map, h1, Option.map_some] at e1
      rw [ints, List.getElem?_map, h2, Option.map_some] at e2
      have hne : x ≠ y := by omega
      have hne' : y ≠ x := by omega
      have hb1 : -24 ≤ va ∧ va ≤ 24 := by omega
      have hb2 : -24 ≤ vb ∧ vb ≤ 24 := by omega
      obtain ⟨p1, p2⟩ := hb1
      obtain ⟨p3, p4⟩ := hb2
      have z1 : ¬ (x : Int) < 0 := by omega
      have z2 : ¬ (y : Int) < 0 := by omega
      have z3 : ¬ (1001 : Int) ≤ x := by omega
      have z4 : ¬ (1001 : Int) ≤ y := by omega
      clear hx h1 h2 b1 b2 b0 HT HI hA HR0
      go_wp2
      go_roundw
      case rel =>
        refine ⟨k + 1, _, by omega, by go_num, ?_, HN2, ?_⟩
        · show Row _ _ _ _
          rw [← ints_set, ← ints_set]
          exact ((HR.out.set_ x _).set_ y _).alloc _
        · show Below _ _ _
          exact ((HB.out.setCell HG.out _).setCell HG.out _).alloc (by simp; exact HB.out.size) _
      case measure => simp [intOf]; omega
    · have hlz : ¬ (k : Int) < n := by omega
      have HI2 : Hid (IsChg l cs) := by
        have := HI.out
        rw [List.take_of_length_le (by rw [HN.out]; omega)] at this; exact this
      have HAG : Hid (wr.heap[g]? = some (.cells (ints cs).toArray 131 (0, 0))) := HR.out
      clear HI hA HR0
      go_wp2_with (refine wpList_load_row rfl 131 _ rfl g rfl 131 (ints cs).toArray (0, 0) _ HAG.out (by first | exact Tryd.underlying131 | kernel_rfl) rfl (by rw [List.size_toArray, ints, List.length_map, HI2.out.1]; kernel_rfl) ?_)
      clear hk hlz hlt
      go_loop [37, 8, 9] (fun i now most => ∃ t : Nat, i = .int .i64 (t : Int) ∧ t ≤ 1001 ∧ now = .int .i64 (cnt l ((t : Int) - 1)) ∧ most = .int .i64 (deepUp l t)) (fun i _ _ => 1001 - (intOf i).toNat)
      case atStart => exact ⟨0, rfl, by omega, by rw [show ((0 : Nat) : Int) - 1 = -1 from rfl, cnt_none l (fun x hx => (HSP.out x hx).1.1)], rfl⟩
      case round =>
        obtain ⟨t, rfl, ht, rfl, rfl⟩ := hrel
        by_cases hlt : t < 1001
        · have hlz : (t : Int) < 1001 := by omega
          have h1 := HI2.out.2 t hlt
          have hix : (ints cs).toArray[t]? = some (.int .i64 (chg l t)) := by
            rw [List.getElem?_toArray, ints, List.getElem?_map, h1]; rfl
          have hsz : (ints cs).toArray.size = 1001 := by rw [List.size_toArray, ints, List.length_map, HI2.out.1]
          have HE := Lib.hid (cnt_step l t (fun x hx => (HSP.out x hx).1.2))
          have b1 := cnt_le l (t : Int)
          have b2 := cnt_le l ((t : Int) - 1)
          have b3 := deepUp_le l t
          have b4 := HN.out
          have HD : Hid (deepUp l (t + 1) = max (deepUp l t) (cnt l t)) := rfl
          have hz1 : ¬ (t : Int) < 0 := by omega
          have hz2 : ¬ (1001 : Int) ≤ t := by omega
          have hsum : chg l t = cnt l t - cnt l ((t : Int) - 1) := by have := HE.out; omega
          rw [hsum] at hix
          have hadd : cnt l ((t : Int) - 1) + (cnt l t - cnt l ((t : Int) - 1)) = cnt l t := by omega
          generalize cnt l ((t : Int) - 1) = u at b2 hix hadd hsum HE ⊢
          have HU : Hid (∀ q : Int, q = cnt l t → q = cnt l (((t + 1 : Nat) : Int) - 1)) := fun q hq => by rw [hq, show (((t + 1 : Nat) : Int) - 1) = t by omega]
          generalize cnt l (t : Int) = v at b1 hix hadd HD HU hsum HE ⊢
          generalize deepUp l t = d at b3 HD ⊢
          clear h1 HE hsum
          have hidx : ∀ w : World, (Instr.index 131 (.agg (ints cs).toArray) (.int .i64 (t : Int))).run Tryd.prog w = .ok (.int .i64 (v - u)) w := fun w => index_arr t _ _ w hlt hix
          clear hix hsz
          generalize Value.agg (ints cs).toArray = AG at hidx ⊢
          by_cases hdv : d < v
          · have HM : Hid (deepUp l (t + 1) = v) := by show _ = _; rw [HD.out]; omega
            go_wp2
            go_round
            case rel => exact ⟨t + 1, by go_num, by omega, by rw [← HU.out v rfl], by rw [HM.out]⟩
            case measure => simp [intOf]; omega
          · have HM : Hid (deepUp l (t + 1) = d) := by show _ = _; rw [HD.out]; omega
            go_wp2
            go_round
            case rel => exact ⟨t + 1, by go_num, by omega, by rw [← HU.out v rfl], by rw [HM.out]⟩
            case measure => simp [intOf]; omega
        · have hlz : ¬ (t : Int) < 1001 := by omega
          have h1 : t = 1001 := by omega
          subst h1
          go_wp2
          go_ret2
          exact ⟨rfl, HB.out⟩
end Go.Proofs.YtpaoiaogcckibaaDoor
