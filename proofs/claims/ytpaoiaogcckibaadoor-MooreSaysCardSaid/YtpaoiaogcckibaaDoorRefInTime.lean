/- What the document's own InTime answers: are some jobs all in time. Conditions: lengths are such that slices can have. -/
import Derived.Test.YtpaoiaogcckibaaDoorMooreT
import Derived.Test.YtpaoiaogcckibaaDoorRefJobs
import Derived.Test.YtpaoiaogcckibaaDoorRefBy0
import Derived.Test.YtpaoiaogcckibaaDoorRefLate
import Derived.Test.YtpaoiaogcckibaaDoorOrdEx
import Derived.Test.YtpaoiaogcckibaaDoorTold
import Derived.Deep.RegionHeld3
import Derived.Deep.DeepCutAuto
namespace Go.Proofs.YtpaoiaogcckibaaDoor
open Go.RowKit
theorem info_jobR : (Tryd.prog.info? 121).map (fun i => (i.zero, i.size, i.bytes)) = some (some (.agg #[.int .i64 0, .int .i64 0, .int .i64 0]), 3, 24) := by kernel_rfl
theorem jobs_snocR (l : List Job) (e : Job) : jobs (l ++ [e]) = jobs l ++ [.int .i64 e.time, .int .i64 e.due, .int .i64 e.weight] := by unfold jobs; rw [threes_append]; rfl
/-- are they in time? -/
noncomputable def inV (l : List Job) (set : List Int) : Bool := @decide (subErr l set = 0 ∧ FeasJ (set.map (jobAt l))) (Classical.propDecidable _)
theorem inV_true {l : List Job} {set : List Int} (h : subErr l set = 0) (hf : FeasJ (set.map (jobAt l))) : inV l set = true := by unfold inV; exact @decide_eq_true _ (Classical.propDecidable _) ⟨h, hf⟩
theorem inV_false {l : List Job} {set : List Int} (h : ¬ (subErr l set = 0 ∧ FeasJ (set.map (jobAt l)))) : inV l set = false := by unfold inV; exact @decide_eq_false _ (Classical.propDecidable _) h
theorem inV_err {l : List Job} {set : List Int} (h : subErr l set ≠ 0) : inV l set = false := inV_false fun h2 => h h2.1
def InR (w : World) (l : List Job) (set : List Int) (e : Ending) (w' : World) : Prop :=
  e = .returned (.tuple #[.bool (inV l set), .int .i64 (subErr l set)]) ∧ Below w.heap.size w w'
set_option maxHeartbeats 8000000 in
set_option maxRecDepth 100000 in
theorem refInTime (A : Option Addr) (n c : Nat) (A' : Option Addr) (m c' : Nat) (l : List Job) (set : List Int) (w : World) (hA : Cells w w.heap.size A (jobs l)) (hn : l.length = n) (hm : n ≤ 17592186044416)
    (hA' : Cells w w.heap.size A' (ints set)) (hn' : set.length = m) (hm' : m ≤ 17592186044416) :
    Calls Tryd.prog 59 #[.slice A n c, .slice A' m c'] w (InR w l set) := by
  have c0 := Lib.hid (drawn_below (refJobs A n c l w hA hn (by omega)))
  by_cases h0 : jobErr l = 0
  · have HE := Lib.hid h0
    have HN := Lib.hid hn
    have HN' := Lib.hid hn'
    have HL := Lib.hid (jobErr_ok h0)
    have hl16 : n ≤ 16 := by have := HL.out.1; omega
    have hS0 : Hid (subErr l set = riseErr n (-1) set) := by show _ = _; unfold subErr; rw [if_pos h0, hn]
    rw [h0] at c0
    have HA := Lib.hid hA
    have HA' := Lib.hid hA'
    clear h0 hn hn' hm hA hA'
    go_enter Tryd.func59, Tryd.ntmps59
    go_wp2_with fail
    refine c0.out.mono ?_
    rintro e w1 ⟨rfl, hb1⟩
    have HB1 := Lib.hid hb1
    have HO1 : Hid (w1.ownsRow w.heap.size 121 3 (.slice none 0 0) 0 []) := World.ownsRow_nil _ _ _ _
    clear hb1 c0
    go_wp2
    go_loopw [8, 7] (fun i sv wr => ∃ (k : Nat) (V : Option Addr) (cv : Nat) (p : Int), i = .int .i64 (k : Int) ∧ k ≤ m ∧ sv = .slice V k cv ∧ ((k : Int) ≤ p + 1 ∧ p < n ∧ -1 ≤ p ∧ (k = 0 → p = -1)) ∧ Hid (0 < k → set[k - 1]? = some p) ∧ Hid (riseErr n (-1) set = riseErr n p (set.drop k)) ∧ Hid (wr.ownsRow w.heap.size 121 3 (.slice V k cv) k (jobs ((set.take k).map (jobAt l)))) ∧ Hid (Below w.heap.size w wr)) (fun i _ _ => m - (intOf i).toNat)
    case atStart => exact ⟨0, none, 0, -1, rfl, by omega, rfl, by omega, fun h => absurd h (by omega), by show _ = _; simp, by show World.ownsRow _ _ _ _ _ _ _; simpa [jobs, threes] using HO1.out, HB1.out⟩
    case round =>
      clear HB1 HO1
      obtain ⟨k, V, cv, p, rfl, hk, rfl, ⟨hp1, hp2, hp3, hp4⟩, HPR, HR, HO, HB⟩ := hrel
      by_cases hlt : k < m
      · have hlz : (k : Int) < m := by omega
        have hks : k < set.length := by rw [HN'.out]; exact hlt
        obtain ⟨b', off', x, rfl, hbb', hx, hcx⟩ := ints_at HA'.out hks
        rw [← HB.out.cell (p := ⟨b', off' + k, none⟩) hbb'] at hcx
        have HD := Lib.hid (drop_at hx)
        have HT := Lib.hid (take_at hx)
        have HX := Lib.hid hx
        have hwn : IntKind.i64.wrap ((n : Int) - 1) = (n : Int) - 1 := by rw [IntKind.wrap_i64]; omega
        clear hx
        by_cases hin : inB x 0 ((n : Int) - 1) = true
        · have hxr := of_inB hin
          obtain ⟨z, rfl⟩ : ∃ z : Nat, x = z := ⟨x.toNat, by omega⟩
          have hzn : z < n := by omega
          have hzz : (z : Int) < n := by omega
          by_cases hup : (z : Int) ≤ p
          · have hk1 : 0 < k := by omega
            have hk0 : decide ((0 : Int) < k) = true := decide_eq_true (by omega)
            have HF : Hid (subErr l set = 3) := by
              show _ = _
              rw [hS0.out, HR.out, HD.out, riseErr, if_pos hin, if_pos hup]
            have HF2 := Lib.hid (inV_err (l := l) (set := set) (by rw [HF.out]; omega))
            obtain ⟨b2, off2, p2, hb2e, _, hp2e, hcp⟩ := ints_at HA'.out (show k - 1 < set.length by omega)
            simp only [Option.some.injEq, Addr.mk.injEq, and_true] at hb2e
            obtain ⟨rfl, rfl⟩ := hb2e
            rw [HPR.out hk1, Option.some.injEq] at hp2e
            subst hp2e
            rw [← HB.out.cell (p := ⟨b', off' + (k - 1), none⟩) hbb'] at hcp
            have hwk : IntKind.i64.wrap ((k : Int) - 1) = ((k - 1 : Nat) : Int) := by rw [IntKind.wrap_i64]; omega
            have hk3 : ((k - 1 : Nat) : Int) < m := by omega
            have hd : decide ((z : Int) ≤ p) = true := decide_eq_true hup
            go_wp2_with (go_at_call 81; refine (in4_ _ _ _ _).mono ?_; rintro e w' ⟨rfl, rfl⟩)
            go_quiet (fail)
            go_wp2
            go_ret2
            exact ⟨by rw [HF2.out, HF.out]; rfl, below_drewN HB.out _⟩
          · obtain ⟨b, off, t, d, v, rfl, hbb, hjx, hc0, hc1, hc2⟩ := jobs_at HA.out (show z < l.length by rw [HN.out]; exact hzn)
            have HJ : Hid (jobAt l (z : Int) = ⟨t, d, v⟩) := by show _ = _; simp [jobAt, List.getD, hjx]
            rw [← HB.out.cell hbb] at hc0 hc1 hc2
            have HR2 : Hid (riseErr n (-1) set = riseErr n (z : Int) (set.drop (k + 1))) := by show _ = _; rw [HR.out, HD.out, riseErr, if_pos hin, if_neg hup]
            have hszr := HB.out.size
            have hd : decide ((z : Int) ≤ p) = false := decide_eq_false hup
            clear hjx
            by_cases hk1 : 0 < k
            · obtain ⟨b2, off2, p2, hb2e, _, hp2e, hcp⟩ := ints_at HA'.out (show k - 1 < set.length by omega)
              simp only [Option.some.injEq, Addr.mk.injEq, and_true] at hb2e
              obtain ⟨rfl, rfl⟩ := hb2e
              rw [HPR.out hk1, Option.some.injEq] at hp2e
              subst hp2e
              rw [← HB.out.cell (p := ⟨b', off' + (k - 1), none⟩) hbb'] at hcp
              have hk0 : decide ((0 : Int) < k) = true := decide_eq_true (by omega)
              have hwk : IntKind.i64.wrap ((k : Int) - 1) = ((k - 1 : Nat) : Int) := by rw [IntKind.wrap_i64]; omega
              have hk3 : ((k - 1 : Nat) : Int) < m := by omega
              go_wp2_with (go_at_call 81; refine (in4_ _ _ _ _).mono ?_; rintro e w' ⟨rfl, rfl⟩)
              go_quiet (fail)
              go_upto_region 12 with fail
              have HBd := Lib.hid (below_drewN HB.out nq)
              have HOd : Hid ((wr.drewN nq).ownsRow w.heap.size 121 3 (.slice V k cv) k (jobs ((set.take k).map (jobAt l)))) := HO.out
              have e0 : (wr.drewN nq).cell? ⟨b, off + z * 3, none⟩ = some (.int .i64 t) := hc0
              have e1 : (wr.drewN nq).cell? ⟨b, off + z * 3 + 1, none⟩ = some (.int .i64 d) := hc1
              have e2 : (wr.drewN nq).cell? ⟨b, off + z * 3 + 2, none⟩ = some (.int .i64 v) := hc2
              have ex : (wr.drewN nq).cell? ⟨b', off' + k, none⟩ = some (.int .i64 (z : Int)) := hcx
              clear HB HO hc0 hc1 hc2 hcx hcp hd hk0 hwk
              generalize wr.drewN nq = w3 at HBd HOd e0 e1 e2 ex ⊢
              have hsz3 := HBd.out.size
              have HNEW := Lib.hid (fun i => (Row.new w3 121 #[.int .i64 t, .int .i64 d, .int .i64 v]).cell i)
              go_wp2_with (at_builtin; refine wp_push _ rfl (.tmp 43) (.tmp 51) 55 rfl w.heap.size 121 3 24 _ Tryd.underlying55 info_jobR rfl (by omega) V k cv _ rfl (HOd.out.alloc _) w3.heap.size 1 [.int .i64 t, .int .i64 d, .int .i64 v] rfl rfl (fun i u hu => (HNEW.out i).trans hu) (by intro u hu; simp at hu; rcases hu with rfl | rfl | rfl <;> rfl) (by omega) (by omega) (by simp; omega) ?_; intro g1 c1 w9 ho9 hb9 hg9 hgr9 hat9)
              have HO9 := Lib.hid ho9
              have HB9 : Hid (Below w.heap.size w w9) := (HBd.out.alloc hsz3 _).trans hb9
              clear ho9 hb9 hg9 hgr9 hat9
              go_roundw
              case rel =>
                refine ⟨k + 1, _, c1, (z : Int), by go_num, by omega, rfl, by omega, fun _ => by simpa using HX.out, HR2, ?_, HB9.out⟩
                show World.ownsRow _ _ _ _ _ _ _
                rw [HT.out, List.map_append, List.map_cons, List.map_nil, HJ.out, jobs_snocR]; exact HO9.out
              case measure => simp [intOf]; omega
            · have hk0 : decide ((0 : Int) < k) = false := decide_eq_false (by omega)
              go_wp2_with (go_at_call 81; refine (in4_ _ _ _ _).mono ?_; rintro e w' ⟨rfl, rfl⟩)
              go_quiet (fail)
              go_upto_region 12 with fail
              have HBd := Lib.hid (below_drewN HB.out nq)
              have HOd : Hid ((wr.drewN nq).ownsRow w.heap.size 121 3 (.slice V k cv) k (jobs ((set.take k).map (jobAt l)))) := HO.out
              have e0 : (wr.drewN nq).cell? ⟨b, off + z * 3, none⟩ = some (.int .i64 t) := hc0
              have e1 : (wr.drewN nq).cell? ⟨b, off + z * 3 + 1, none⟩ = some (.int .i64 d) := hc1
              have e2 : (wr.drewN nq).cell? ⟨b, off + z * 3 + 2, none⟩ = some (.int .i64 v) := hc2
              have ex : (wr.drewN nq).cell? ⟨b', off' + k, none⟩ = some (.int .i64 (z : Int)) := hcx
              clear HB HO hc0 hc1 hc2 hcx hd hk0
              generalize wr.drewN nq = w3 at HBd HOd e0 e1 e2 ex ⊢
              have hsz3 := HBd.out.size
              have HNEW := Lib.hid (fun i => (Row.new w3 121 #[.int .i64 t, .int .i64 d, .int .i64 v]).cell i)
              go_wp2_with (at_builtin; refine wp_push _ rfl (.tmp 43) (.tmp 51) 55 rfl w.heap.size 121 3 24 _ Tryd.underlying55 info_jobR rfl (by omega) V k cv _ rfl (HOd.out.alloc _) w3.heap.size 1 [.int .i64 t, .int .i64 d, .int .i64 v] rfl rfl (fun i u hu => (HNEW.out i).trans hu) (by intro u hu; simp at hu; rcases hu with rfl | rfl | rfl <;> rfl) (by omega) (by omega) (by simp; omega) ?_; intro g1 c1 w9 ho9 hb9 hg9 hgr9 hat9)
              have HO9 := Lib.hid ho9
              have HB9 : Hid (Below w.heap.size w w9) := (HBd.out.alloc hsz3 _).trans hb9
              clear ho9 hb9 hg9 hgr9 hat9
              go_roundw
              case rel =>
                refine ⟨k + 1, _, c1, (z : Int), by go_num, by omega, rfl, by omega, fun _ => by simpa using HX.out, HR2, ?_, HB9.out⟩
                show World.ownsRow _ _ _ _ _ _ _
                rw [HT.out, List.map_append, List.map_cons, List.map_nil, HJ.out, jobs_snocR]; exact HO9.out
              case measure => simp [intOf]; omega
        · have HF : Hid (subErr l set = 1) := by
            show _ = _
            rw [hS0.out, HR.out, HD.out, riseErr, if_neg hin]
          have HF2 := Lib.hid (inV_err (l := l) (set := set) (by rw [HF.out]; omega))
          have hin2 : inB x 0 ((n : Int) - 1) = false := by simpa using hin
          go_wp2_with (go_at_call 81; refine (in4_ _ _ _ _).mono ?_; rintro e w' ⟨rfl, rfl⟩)
          go_ret2
          exact ⟨by rw [HF2.out, HF.out]; rfl, HB.out⟩
      · have hkn : k = m := by omega
        subst hkn
        have hlz : ¬ (k : Int) < k := by omega
        have hsub : subErr l set = 0 := by
          rw [hS0.out, HR.out, drop_end (by rw [HN'.out]; omega)]; rfl
        have hT : set.take k = set := List.take_of_length_le (by rw [HN'.out]; omega)
        have ho := HO.out
        rw [hT] at ho
        have hk16 : k ≤ 16 := by omega
        have hlen : (set.map (jobAt l)).length = k := by rw [List.length_map, HN'.out]
        have HLEN := Lib.hid hlen
        have HSO := Lib.hid (some_ok hsub)
        have HSUB := Lib.hid hsub
        have HCELLS := Lib.hid (ho.own (by omega))
        have hszr := HB.out.size
        clear hsub hT ho hlen HO
        by_cases hz : k = 0
        · have hzb : ((k : Int) == 0) = true := by simp [hz]
          have HF2 : Hid (inV l set = true) := inV_true HSUB.out (by
            have : set = [] := List.eq_nil_of_length_eq_zero (by rw [HN'.out]; exact hz)
            rw [this]; exact fun j hj => by simp at hj)
          clear hz
          go_wp2
          go_ret2
          exact ⟨by rw [HF2.out, HSUB.out]; rfl, HB.out⟩
        · have hzb : ((k : Int) == 0) = false := beq_eq_false_iff_ne.2 (by omega)
          obtain ⟨us, hio, hpw⟩ := due_ord (set.map (jobAt l))
          have HIO := Lib.hid hio
          have HPW := Lib.hid hpw
          have C1 := Lib.hid (refBy0 V k cv (set.map (jobAt l)) us wr HCELLS.out HLEN.out HSO.out (by rw [← HLEN.out]; exact HIO.out) HPW.out)
          have HLATE := Lib.hid (late_iff HSO.out HIO.out HPW.out)
          clear hio hpw hz
          go_wp2_with fail
          refine C1.out.mono ?_
          rintro e w5 ⟨Vo, co, rfl, hown5, hb5⟩
          have HB5 : Hid (Below w.heap.size w w5) := HB.out.trans (hb5.mono hszr)
          have C2 := Lib.hid (refLate V k cv Vo k co (set.map (jobAt l)) us w5 (HCELLS.out.step hb5) HLEN.out (hown5.own (by omega)) (by rw [HIO.out.1, HLEN.out]) HSO.out HIO.out)
          clear hown5 hb5 C1
          go_wp2_with fail
          refine C2.out.mono ?_
          rintro e w6 ⟨rfl, rfl⟩
          obtain ⟨lv, hlv⟩ : ∃ z, z = lateVal (set.map (jobAt l)) us := ⟨_, rfl⟩
          rw [← hlv] at HLATE ⊢
          clear hlv C2
          by_cases hl0 : lv ≤ 0
          · have HF2 := Lib.hid (inV_true HSUB.out (HLATE.out.1 hl0))
            have HD0 : Hid (decide (lv ≤ 0) = true) := decide_eq_true hl0
            clear hl0
            go_wp2
            go_ret2
            exact ⟨by show Ending.returned (.tuple #[.bool (decide (lv ≤ 0)), .int .i64 0]) = _; rw [HD0.out, HF2.out, HSUB.out], HB5.out⟩
          · have HF2 : Hid (inV l set = false) := inV_false fun h => hl0 (HLATE.out.2 h.2)
            have HD0 : Hid (decide (lv ≤ 0) = false) := decide_eq_false hl0
            clear hl0
            go_wp2
            go_ret2
            exact ⟨by show Ending.returned (.tuple #[.bool (decide (lv ≤ 0)), .int .i64 0]) = _; rw [HD0.out, HF2.out, HSUB.out], HB5.out⟩
  · have HF : Hid (subErr l set = jobErr l) := if_neg h0
    have HF2 := Lib.hid (inV_err (l := l) (set := set) (by rw [HF.out]; exact h0))
    have hjb : ((jobErr l : Int) != 0) = true := by rw [bne_iff_ne]; exact h0
    clear hn hA hA' hn' h0
    go_enter Tryd.func59, Tryd.ntmps59
    go_wp2_with fail
    refine c0.out.mono ?_
    rintro e w1 ⟨rfl, hb1⟩
    have HB1 := Lib.hid hb1
    obtain ⟨je, hje⟩ : ∃ z, z = jobErr l := ⟨_, rfl⟩
    rw [← hje] at hjb HF ⊢
    clear hb1 c0 hje
    go_wp2
    go_ret2
    exact ⟨by rw [HF2.out, HF.out]; rfl, HB1.out⟩
end Go.Proofs.YtpaoiaogcckibaaDoor
