/- The walk of TopTime. Conditions: lengths are such that slices can have. -/
import Derived.Test.YtdiinphojjpadaaTopTimeP
import Derived.Test.YtdiinphojjpadaaMooreFact
import Derived.Test.YtdiinphojjpadaaBRow
import Derived.Test.YtdiinphojjpadaaSortFact
namespace Go.Proofs.Ytdiinphojjpadaa
open Go.RowKit
theorem bRow_put {n : Nat} {f : Nat → Bool} {x : Nat} {b : Bool} : (bRow n f).set x (.bool b) = bRow n fun i => if i = x then b else f i := by
  apply List.ext_getElem
  · simp [bRow]
  · intro i h1 h2
    simp only [bRow, List.getElem_set, List.getElem_map, List.getElem_range]
    by_cases e : x = i
    · subst e; simp
    · rw [if_neg e, if_neg (fun h => e h.symm)]
theorem bRow_congr {n : Nat} {f g : Nat → Bool} (h : ∀ x, x < n → f x = g x) : bRow n f = bRow n g := by
  unfold bRow
  exact List.map_congr_left fun x hx => by rw [h x (List.mem_range.1 hx)]
/-- which jobs are in time, of the first of an order -/
def itB (l : List Job) (o : List Int) (x : Nat) : Bool := decide ((x : Int) ∈ itL l 0 o)
theorem itB_put {l : List Job} {o : List Int} {y : Nat} (hy : (y : Int) ∉ o) (b : Bool) (hb : b = decide (sumT (o.map (jobAt l)) + (jobAt l y).time ≤ (jobAt l y).due)) (x : Nat) :
    (if x = y then b else itB l o x) = itB l (o ++ [(y : Int)]) x := by
  unfold itB
  rw [itL_snoc, Int.zero_add]
  by_cases e : x = y
  · subst e
    rw [if_pos rfl, hb]
    have hn : (x : Int) ∉ itL l 0 o := fun h => hy ((itL_sub l o 0).subset h)
    by_cases h : sumT (o.map (jobAt l)) + (jobAt l x).time ≤ (jobAt l x).due
    · rw [if_pos h]; simp [h]
    · rw [if_neg h]; simp [h, hn]
  · rw [if_neg e]
    have e2 : (x : Int) ≠ y := by omega
    split
    · simp [e2]
    · simp
/-- the places of what is in, up to k -/
def itsOf (k : Nat) (f : Nat → Bool) : List Int := (upto k).filter fun i => f i.toNat
theorem itsOf_succ (k : Nat) (ib : Nat → Bool) : itsOf (k + 1) ib = itsOf k ib ++ (if ib k = true then [(k : Int)] else []) := by
  unfold itsOf upto
  rw [List.range_succ, List.map_append, List.filter_append]
  congr 1
  cases h : ib k <;> simp [h]
theorem itsOf_len (k : Nat) (ib : Nat → Bool) : (itsOf k ib).length ≤ k := by
  unfold itsOf
  have h1 := List.length_filter_le (fun i : Int => ib i.toNat) (upto k)
  rw [upto_len] at h1
  exact h1
theorem itsOf_set (l : List Job) (o : List Int) : itsOf l.length (itB l o) = itSet l o := by
  unfold itsOf itSet
  refine List.filter_congr fun i hi => ?_
  have := (mem_upto _ _).1 hi
  unfold itB
  rw [show (i.toNat : Int) = i by omega]
set_option maxHeartbeats 8000000 in
set_option maxRecDepth 100000 in
theorem topTimeW (A : Option Addr) (n c : Nat) (A' : Option Addr) (m c' : Nat) (l : List Job) (o : List Int) (w : World) (hA : Cells w w.heap.size A (jobs l)) (hn : l.length = n) (hm : n * 24 ≤ 140737488351232)
    (_ : ∀ x ∈ l, InJob x) (hA' : Cells w w.heap.size A' (ints o)) (hn' : o.length = m) (hm' : m * 8 ≤ 140737488351232) (_ : ∀ x ∈ o, -9223372036854775808 ≤ x ∧ x ≤ 9223372036854775807) :
    Calls Try.prog 6 #[.slice A n c, .slice A' m c'] w fun e w' => e = .returned (.bool true) ∧ Below w.heap.size w w' := by
  have HN := Lib.hid hn
  have HN' := Lib.hid hn'
  have c0 := Lib.hid (sortFact w)
  clear hn hn'
  go_enter Try.func6, Try.ntmps6
  go_wp2_with fail
  refine c0.out.mono ?_
  rintro e w1 ⟨rfl, hb1⟩
  have HB1 := Lib.hid hb1
  have hsz1 := hb1.size
  have c2 := Lib.hid (pick_any A n c l w1 (hA.step hb1) HN.out (by omega))
  clear hb1 c0
  go_wp2_with fail
  refine c2.out.mono ?_
  rintro e w2 ⟨S, V, cv, er, rfl, her, hz, hok, hown, hb2⟩
  have HB2 : Hid (Below w.heap.size w w2) := HB1.out.trans (hb2.mono hsz1)
  have hsz2 := HB2.out.size
  clear c2 hb2 hsz1
  by_cases h0 : er = 0
  · subst h0
    obtain ⟨hr, ys, hio, hpw, hp⟩ := hok rfl
    have H0 := Lib.hid her.symm
    have hl16 : n ≤ 16 := by have := (jobErr_ok her.symm).1; have := HN.out; omega
    have hsn : S.length ≤ n := by
      have := rising_len (moore_sub hio hp) hr
      rw [HN.out] at this; exact this
    have HM : Hid (∀ set : List Int, subErr l set = 0 → FeasJ (set.map (jobAt l)) → set.length ≤ S.length) := fun set h1 h2 => moore_most hio hp h1 h2
    have HALL := Lib.hid (moore_all her.symm hio hp)
    obtain ⟨sl, hsl⟩ : ∃ z, z = S.length := ⟨_, rfl⟩
    have HSL := Lib.hid hsl
    rw [← hsl] at hsn ⊢
    have c3 := Lib.hid (dueWhole n A' m c' o w2 ((hA'.below HB2.out (Nat.le_refl _)).more hsz2) HN'.out (by omega))
    rw [errV_zero]
    clear hz hok her hr hio hpw hp hown hsl
    go_wp2_with fail
    refine c3.out.mono ?_
    rintro e w3 ⟨rfl, hb3⟩
    have HB3 : Hid (Below w.heap.size w w3) := HB2.out.trans (hb3.mono hsz2)
    have hsz3 := HB3.out.size
    clear hb3 c3 HB2 hsz2
    by_cases hw : whole n o = 0
    · have hord := (whole_iff n o).1 hw
      rw [hw, errV_zero]
      have hnm : m = n := by have := hord.1; have := HN'.out; omega
      subst hnm
      have HORD := Lib.hid hord
      have HORL : Hid (IsOrd l.length o) := by show IsOrd _ _; rw [HN.out]; exact hord
      have hmk := make_row 46 4 (.bool false) 1 Try.underlying46 info_bool rfl m (by omega) (by omega)
      clear hw hord
      go_upto_region 11 with fail
      have HI4 : Hid (Row (w3.alloc (.cells (madeCells #[.bool false] m) 4)) w3.heap.size 4 (bRow m (itB l []))) := by
        show Row _ _ _ _
        have h : bRow m (itB l []) = bRow m fun _ => false := bRow_congr fun x _ => by simp [itB, itL]
        rw [h, ← bRow_none]; exact Row.made _ _ _ _
      have HB4 : Hid (Below w3.heap.size w3 (w3.alloc (.cells (madeCells #[.bool false] m) 4))) := (Below.refl _ _).alloc (Nat.le_refl _) _
      clear hmk
      generalize w3.alloc (.cells (madeCells #[.bool false] m) 4) = w4 at HI4 HB4 ⊢
      go_wp2
      have HORN := Lib.hid HORD.out.2.2
      go_loopw [8, 10] (fun nv i wr => ∃ (k : Nat) (s : Int), i = .int .i64 (k : Int) ∧ nv = .int .i64 s ∧ 0 ≤ s ∧ s ≤ 1000 * k ∧ k ≤ m ∧ Hid (s = sumT ((o.take k).map (jobAt l))) ∧ Hid (Row wr w3.heap.size 4 (bRow m (itB l (o.take k)))) ∧ Hid (Below w3.heap.size w3 wr)) (fun _ i _ => m - (intOf i).toNat)
      case atStart => exact ⟨0, 0, rfl, rfl, by omega, by omega, by omega, rfl, by show Row _ _ _ _; simpa using HI4.out, HB4.out⟩
      case round =>
        clear HI4 HB4
        obtain ⟨k, s, rfl, rfl, hs0, hs1, hk, HS, HI, HB⟩ := hrel
        by_cases hlt : k < m
        · have hlz : (k : Int) < m := by omega
          obtain ⟨b1, off1, z, rfl, hbb1, hz, hcz⟩ := ints_at hA' (show k < o.length by rw [HN'.out]; exact hlt)
          have hzr := HORD.out.2.1 z (List.mem_of_getElem? hz)
          obtain ⟨y, rfl⟩ : ∃ y : Nat, z = y := ⟨z.toNat, by omega⟩
          have hy : y < m := by omega
          have hyz : (y : Int) < m := by omega
          obtain ⟨b2, off2, t, d, v, rfl, hbb2, hjx, hc0, hc1, hc2⟩ := jobs_at hA (show y < l.length by rw [HN.out]; exact hy)
          obtain ⟨⟨ht0, ht1⟩, ⟨hd0, hd1⟩, _⟩ := (jobErr_ok H0.out).2 _ (List.mem_of_getElem? hjx)
          simp only at ht0 ht1 hd0 hd1
          have HBw : Hid (Below w.heap.size w wr) := HB3.out.trans (HB.out.mono hsz3)
          rw [← HBw.out.cell hbb1] at hcz
          rw [← HBw.out.cell hbb2] at hc0 hc1 hc2
          have hJ : jobAt l (y : Int) = ⟨t, d, v⟩ := by simp [jobAt, List.getD, hjx]
          have htk : o.take (k + 1) = o.take k ++ [(y : Int)] := by rw [List.take_add_one, hz]; rfl
          have HTK := Lib.hid htk
          have HNO : Hid ((y : Int) ∉ o.take k) := by
            show ¬ _
            have h1 : (o.take (k + 1)).Nodup := (List.take_sublist _ _).nodup HORN.out
            rw [htk, List.nodup_append] at h1
            exact fun h => h1.2.2 _ h _ (by simp) rfl
          have HS2 : Hid (s + t = sumT ((o.take (k + 1)).map (jobAt l))) := by
            show _ = _
            rw [htk, sumT_snoc, hJ, ← HS.out]
          have HPUT : Hid (∀ b : Bool, b = decide (s + t ≤ d) → ∀ x, (if x = y then b else itB l (o.take k) x) = itB l (o.take (k + 1)) x) := fun b hb x => by
            rw [HTK.out]
            refine itB_put HNO.out b ?_ x
            rw [hJ, ← HS.out]; exact hb
          have hfy := HI.out.frozen y
          have hst0 : 0 ≤ s + t := by omega
          have hst1 : s + t ≤ 1000 * (k : Int) + 1000 := by omega
          have hkm : (k : Int) ≤ 16 := by omega
          clear htk hz hzr hjx hJ
          have hcy := HI.out.cell y
          rw [bRow_at hy] at hcy
          have HI2 : Hid (Row (wr.setCell ⟨w3.heap.size, y, none⟩ (.bool (decide (s + t ≤ d)))) w3.heap.size 4 (bRow m (itB l (o.take (k + 1))))) := by
            show Row _ _ _ _
            rw [← bRow_congr (fun x _ => HPUT.out _ rfl x), ← bRow_put]
            exact HI.out.set_ y _
          go_wp2
          go_big_region
          go_wp2
          go_roundw
          case rel => exact ⟨k + 1, s + t, by go_num, by go_num, by omega, by omega, by omega, HS2.out, HI2.out, (HB.out.setCell (Nat.le_refl _) _).drew⟩
          case measure => simp [intOf]; omega
        · have hkm : k = m := by omega
          subst hkm
          have hlz : ¬ (k : Int) < k := by omega
          have hTK : o.take k = o := List.take_of_length_le (by rw [HN'.out]; omega)
          have HI5 : Hid (Row wr w3.heap.size 4 (bRow k (itB l o))) := by show Row _ _ _ _; have := HI.out; rw [hTK] at this; exact this
          have HBw : Hid (Below w.heap.size w wr) := HB3.out.trans (HB.out.mono hsz3)
          obtain ⟨ib, hib⟩ : ∃ z, z = itB l o := ⟨_, rfl⟩
          have HIS : Hid (itsOf k ib = itSet l o) := by show _ = _; rw [hib, ← itsOf_set, HN.out]
          rw [← hib] at HI5
          have HO0 : Hid (wr.ownsRow wr.heap.size 3 1 (.slice none 0 0) 0 []) := World.ownsRow_nil _ _ _ _
          have hgl := HI5.out.lt
          obtain ⟨w5, hw5⟩ : ∃ z, z = wr := ⟨_, rfl⟩
          rw [← hw5] at HI5 HBw HO0 hgl ⊢
          obtain ⟨I, hI⟩ : ∃ z, z = w3.heap.size := ⟨_, rfl⟩
          rw [← hI] at HI5 hgl ⊢
          clear HI HB hTK hib HS hs0 hs1 HB3 hsz3 hw5 hI HORN
          go_wp2
          go_loopw [11, 12] (fun v i wr => ∃ (j mm : Nat) (V : Option Addr) (cv : Nat), i = .int .i64 (j : Int) ∧ j ≤ k ∧ v = .slice V mm cv ∧ mm ≤ j ∧ Hid (mm = (itsOf j ib).length) ∧ Hid (wr.ownsRow w5.heap.size 3 1 (.slice V mm cv) mm (ints (itsOf j ib))) ∧ Hid (Below w5.heap.size w5 wr)) (fun _ i _ => k - (intOf i).toNat)
          case atStart => exact ⟨0, 0, none, 0, rfl, by omega, rfl, by omega, rfl, HO0.out, Below.refl _ _⟩
          case round =>
            clear HO0
            obtain ⟨j, mm, V, cv, rfl, hj, rfl, hmk, HM2, HO, HB⟩ := hrel
            by_cases hjlt : j < k
            · have hjz : (j : Int) < k := by omega
              have hck := (HI5.out.step HB.out).cell j
              rw [bRow_at hjlt] at hck
              have HSU := Lib.hid (itsOf_succ j ib)
              have hsz := HB.out.size
              cases hib : ib j with
              | true =>
                rw [hib] at hck
                have HS2 : Hid (itsOf (j + 1) ib = itsOf j ib ++ [(j : Int)]) := by show _ = _; rw [HSU.out, if_pos hib]
                have HNEW := Lib.hid (fun i => (Row.new wr 3 #[.int .i64 (j : Int)]).cell i)
                have hm1 : (mm + 1) * 8 ≤ 140737488355328 := by omega
                have hm2 : mm + 1 ≤ 9223372036854775807 := by omega
                clear hib HSU
                go_wp2_with (at_builtin; refine wp_push _ rfl (.tmp 82) (.tmp 84) 31 rfl w5.heap.size 3 1 8 _ Try.underlying31 info_int rfl (by omega) V mm cv (ints (itsOf j ib)) rfl (HO.out.alloc _) wr.heap.size 1 [.int .i64 (j : Int)] rfl rfl (fun i u hu => (HNEW.out i).trans hu) (by intro u hu; simp at hu; subst hu; rfl) hm1 hm2 (by simp; omega) ?_; intro g1 c1 w9 ho9 hb9 hg9 hgr9 hat9)
                have HO9 := Lib.hid ho9
                have HB9 : Hid (Below w5.heap.size w5 w9) := (HB.out.alloc hsz _).trans hb9
                clear ho9 hb9 hgr9 hat9
                go_roundw
                case rel =>
                  refine ⟨j + 1, mm + 1, _, c1, by go_num, by omega, rfl, by omega, by show _ = _; rw [HS2.out, List.length_append, ← HM2.out]; rfl, ?_, HB9.out⟩
                  show World.ownsRow _ _ _ _ _ _ _
                  rw [HS2.out, ints_append]; exact HO9.out
                case measure => simp [intOf]; omega
              | false =>
                rw [hib] at hck
                have HS2 : Hid (itsOf (j + 1) ib = itsOf j ib) := by show _ = _; rw [HSU.out, if_neg (by rw [hib]; simp), List.append_nil]
                clear hib HSU
                go_wp2
                go_roundw
                case rel =>
                  refine ⟨j + 1, mm, V, cv, by go_num, by omega, rfl, by omega, by show _ = _; rw [HS2.out]; exact HM2.out, ?_, HB.out⟩
                  show World.ownsRow _ _ _ _ _ _ _
                  rw [HS2.out]; exact HO.out
                case measure => simp [intOf]; omega
            · have hjk : j = k := by omega
              subst hjk
              have hjz : ¬ (j : Int) < j := by omega
              have hsz5 := HBw.out.size
              have HB6 : Hid (Below w.heap.size w wr) := HBw.out.trans (HB.out.mono hsz5)
              have hsz6 := HB6.out.size
              have HSET := Lib.hid (itSet_ok H0.out HORL.out)
              have hlen : (itSet l o).length = mm := by rw [← HIS.out]; exact HM2.out.symm
              have HLEN := Lib.hid hlen
              have c6 := Lib.hid (inTime_ A j c V mm cv l (itSet l o) wr ((hA.below HB6.out (Nat.le_refl _)).more hsz6) HN.out (by omega) (by have := HO.out; rw [HIS.out] at this; exact this.own (by have := HB.out.size; omega)) hlen (by omega))
              clear hlen HO HB HM2
              go_wp2_with fail
              refine c6.out.mono ?_
              rintro e w6 ⟨h | ⟨_, b, hb, rfl⟩, hb6⟩
              · exact absurd HSET.out.1 h.1
              have hbt : b = true := hb.2 HSET.out.2
              subst hbt
              have HB7 : Hid (Below w.heap.size w w6) := HB6.out.trans (hb6.mono hsz6)
              have hsz7 := HB7.out.size
              have hle : mm ≤ sl := by
                have := HM.out (itSet l o) HSET.out.1 HSET.out.2
                rw [HLEN.out, ← HSL.out] at this; exact this
              have hlez : (mm : Int) ≤ (sl : Int) := by omega
              have c7 := Lib.hid (dueOrder_ok A j c l w6 ((hA.below HB7.out (Nat.le_refl _)).more hsz7) HN.out (by omega) H0.out)
              clear hb hb6 c6 HB6 hsz6
              go_wp2_with fail
              refine c7.out.mono ?_
              rintro e w7 ⟨g, zs, rfl, hio, hpw, hown, hb7⟩
              have HB8 : Hid (Below w.heap.size w w7) := HB7.out.trans (hb7.mono hsz7)
              have hsz8 := HB8.out.size
              have hioL : IsOrd l.length zs := by rw [HN.out]; exact hio
              have HLI := Lib.hid (late_iff H0.out hioL hpw)
              have c8 := Lib.hid (dueLate_ok A j c (some ⟨g, 0, none⟩) j j l zs w7 ((hA.below HB8.out (Nat.le_refl _)).more hsz8) HN.out (by omega) (hown.own (by omega)) hio.1 (by omega) (ordErr_of H0.out hioL))
              clear hio hpw hown hb7 c7 hioL HB7 hsz7
              go_wp2_with fail
              refine c8.out.mono ?_
              rintro e w8 ⟨rfl, hb8⟩
              have HB9 : Hid (Below w.heap.size w w8) := HB8.out.trans (hb8.mono hsz8)
              obtain ⟨v, hv⟩ : ∃ z, z = lateVal l zs := ⟨_, rfl⟩
              rw [← hv]
              have HEQ : Hid (v ≤ 0 ↔ sl = j) := by
                show _ ↔ _
                rw [hv, HLI.out, HALL.out, HSL.out, HN.out]
              clear hv hb8 c8 HLI HALL HB8 hsz8
              by_cases h1 : v ≤ 0
              · have h2 : sl = j := HEQ.out.1 h1
                subst h2
                have h3 : ¬ (0 : Int) < v := by omega
                go_wp2
                go_ret
                exact ⟨ret_bool (by simp [h1]), HB9.out⟩
              · have h2 : ¬ sl = j := fun h => h1 (HEQ.out.2 h)
                have h3 : (sl : Int) < (j : Int) := by omega
                have h4 : (0 : Int) < v := by omega
                go_wp2
                go_ret
                exact ⟨ret_bool (by simp [h1]), HB9.out⟩
    · rw [errV_bad hw]
      clear hw
      go_wp2
      go_ret
      exact ⟨rfl, HB3.out⟩
  · have hS := hz h0
    subst hS
    rw [errV_bad h0]
    clear hz hok her hown
    go_wp2
    go_ret
    exact ⟨rfl, HB2.out⟩
end Go.Proofs.Ytdiinphojjpadaa
