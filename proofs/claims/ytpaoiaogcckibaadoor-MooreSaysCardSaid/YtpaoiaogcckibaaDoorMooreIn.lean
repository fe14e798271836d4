/- What moore.InTime answers: what is wrong, or whether some jobs can all be in time. Conditions: lengths are such that slices can have. -/
import Derived.Test.YtpaoiaogcckibaaDoorMooreT
namespace Go.Proofs.YtpaoiaogcckibaaDoor
open Go.RowKit
theorem info_jobM : (Tryd.prog.info? 121).map (fun i => (i.zero, i.size, i.bytes)) = some (some (.agg #[.int .i64 0, .int .i64 0, .int .i64 0]), 3, 24) := by kernel_rfl
theorem jobs_snocM (l : List Job) (e : Job) : jobs (l ++ [e]) = jobs l ++ [.int .i64 e.time, .int .i64 e.due, .int .i64 e.weight] := by unfold jobs; rw [threes_append]; rfl
def InOK (w : World) (l : List Job) (set : List Int) (e : Ending) (w' : World) : Prop :=
  ((subErr l set ≠ 0 ∧ e = .returned (.tuple #[.bool false, .iface 91 (.int .i64 (subErr l set))])) ∨ (subErr l set = 0 ∧ ∃ b : Bool, (b = true ↔ FeasJ (set.map (jobAt l))) ∧ e = .returned (.tuple #[.bool b, .nilIface]))) ∧ Below w.heap.size w w'
set_option maxHeartbeats 8000000 in
set_option maxRecDepth 100000 in
theorem inTime_ (A : Option Addr) (n c : Nat) (A' : Option Addr) (m c' : Nat) (l : List Job) (set : List Int) (w : World) (hA : Cells w w.heap.size A (jobs l)) (hn : l.length = n) (hm : n ≤ 17592186044416)
    (hA' : Cells w w.heap.size A' (ints set)) (hn' : set.length = m) (hm' : m ≤ 17592186044416) :
    Calls Tryd.prog 60 #[.slice A n c, .slice A' m c'] w (InOK w l set) := by
  have c0 := Lib.hid (dueCheck A n c l w hA hn (by omega))
  by_cases h0 : jobErr l = 0
  · have HE := Lib.hid h0
    have HN := Lib.hid hn
    have HN' := Lib.hid hn'
    have HL := Lib.hid (jobErr_ok h0)
    have hl16 : n ≤ 16 := by have := HL.out.1; omega
    have hS0 : Hid (subErr l set = riseErr n (-1) set) := by show _ = _; unfold subErr; rw [if_pos h0, hn]
    rw [h0, errV_zero] at c0
    clear h0 hn hn' hm
    go_enter Tryd.func60, Tryd.ntmps60
    go_wp2_with fail
    refine c0.out.mono ?_
    rintro e w1 ⟨rfl, hb1⟩
    have HB1 := Lib.hid hb1
    have HO1 : Hid (w1.ownsRow w.heap.size 121 3 (.slice none 0 0) 0 []) := World.ownsRow_nil _ _ _ _
    clear hb1 c0
    go_wp2
    go_loopw [20, 7] (fun i sv wr => ∃ (k q : Nat) (V : Option Addr) (cv : Nat) (p : Int), i = .int .i64 (k : Int) ∧ k ≤ m ∧ sv = .slice V k cv ∧ ((k : Int) ≤ p + 1 ∧ p < n ∧ -1 ≤ p ∧ (k = 0 → p = -1)) ∧ Hid (0 < k → set[k - 1]? = some p) ∧ Hid (riseErr n (-1) set = riseErr n p (set.drop k)) ∧ Hid (wr.ownsRow w.heap.size 121 3 (.slice V k cv) k (jobs ((set.take k).map (jobAt l)))) ∧ Hid (Below w.heap.size w wr) ∧ q = 0) (fun i _ _ => m - (intOf i).toNat)
    case atStart => exact ⟨0, 0, none, 0, -1, rfl, by omega, rfl, by omega, fun h => absurd h (by omega), by show _ = _; simp, by show World.ownsRow _ _ _ _ _ _ _; simpa [jobs, threes] using HO1.out, HB1.out, rfl⟩
    case round =>
      clear HB1 HO1
      obtain ⟨k, q, V, cv, p, rfl, hk, rfl, ⟨hp1, hp2, hp3, hp4⟩, HPR, HR, HO, HB, rfl⟩ := hrel
      by_cases hlt : k < m
      · have hlz : (k : Int) < m := by omega
        have hks : k < set.length := by rw [HN'.out]; exact hlt
        obtain ⟨b', off', x, rfl, hbb', hx, hcx⟩ := ints_at hA' hks
        rw [← HB.out.cell (p := ⟨b', off' + k, none⟩) hbb'] at hcx
        have HD := Lib.hid (drop_at hx)
        have HT := Lib.hid (take_at hx)
        have HX := Lib.hid hx
        have hwn : IntKind.i64.wrap ((n : Int) - 1) = (n : Int) - 1 := by rw [IntKind.wrap_i64]; omega
        clear hx
        by_cases hin : inB x 0 ((n : Int) - 1) = true
        · have hxr := of_inB hin
          obtain ⟨z, rfl⟩ : ∃ z : Nat, x = z := ⟨x.toNat, by omega⟩
          have hzn : z < n := by omega
          by_cases hup : (z : Int) ≤ p
          · have hk0 : (0 : Int) < k := by omega
            have hk1 : 0 < k := by omega
            have HF : Hid (subErr l set = 3) := by
              show _ = _
              rw [hS0.out, HR.out, HD.out, riseErr, if_pos hin, if_pos hup]
            obtain ⟨b2, off2, p2, hb2e, _, hp2e, hcp⟩ := ints_at hA' (show k - 1 < set.length by omega)
            simp only [Option.some.injEq, Addr.mk.injEq, and_true] at hb2e
            obtain ⟨rfl, rfl⟩ := hb2e
            rw [HPR.out hk1, Option.some.injEq] at hp2e
            subst hp2e
            rw [← HB.out.cell (p := ⟨b', off' + (k - 1), none⟩) hbb'] at hcp
            have hwk : IntKind.i64.wrap ((k : Int) - 1) = ((k - 1 : Nat) : Int) := by rw [IntKind.wrap_i64]; omega
            have hk2 : k - 1 < m := by omega
            have hk3 : ((k - 1 : Nat) : Int) < m := by omega
            go_wp2_with (go_at_call 73; refine (within _ _ _ _).mono ?_; rintro e w' ⟨rfl, rfl⟩)
            go_ret2
            exact ⟨Or.inl ⟨by rw [HF.out]; omega, by rw [HF.out]; rfl⟩, HB.out⟩
          · have hzz : (z : Int) < n := by omega
            by_cases hk1 : 0 < k
            · obtain ⟨b2, off2, p2, hb2e, _, hp2e, hcp⟩ := ints_at hA' (show k - 1 < set.length by omega)
              simp only [Option.some.injEq, Addr.mk.injEq, and_true] at hb2e
              obtain ⟨rfl, rfl⟩ := hb2e
              rw [HPR.out hk1, Option.some.injEq] at hp2e
              subst hp2e
              rw [← HB.out.cell (p := ⟨b', off' + (k - 1), none⟩) hbb'] at hcp
              have hk0 : (0 : Int) < k := by omega
              have hwk : IntKind.i64.wrap ((k : Int) - 1) = ((k - 1 : Nat) : Int) := by rw [IntKind.wrap_i64]; omega
              have hk2 : k - 1 < m := by omega
              have hk3 : ((k - 1 : Nat) : Int) < m := by omega
              obtain ⟨b, off, t, d, v, rfl, hbb, hjx, hc0, hc1, hc2⟩ := jobs_at hA (show z < l.length by rw [HN.out]; exact hzn)
              have HJ : Hid (jobAt l (z : Int) = ⟨t, d, v⟩) := by show _ = _; simp [jobAt, List.getD, hjx]
              rw [← HB.out.cell hbb] at hc0 hc1 hc2
              have HNEW := Lib.hid (fun i => (Row.new wr 121 #[.int .i64 t, .int .i64 d, .int .i64 v]).cell i)
              have HR2 : Hid (riseErr n (-1) set = riseErr n (z : Int) (set.drop (k + 1))) := by show _ = _; rw [HR.out, HD.out, riseErr, if_pos hin, if_neg hup]
              have hszr := HB.out.size
              clear hjx
              go_wp2_with (first | (go_at_call 73; refine (within _ _ _ _).mono ?_; rintro e w' ⟨rfl, rfl⟩) | (at_builtin; refine wp_push _ rfl (.tmp 44) (.tmp 49) 55 rfl w.heap.size 121 3 24 _ Tryd.underlying55 info_jobM rfl (by omega) V k cv _ rfl (HO.out.alloc _) wr.heap.size 1 [.int .i64 t, .int .i64 d, .int .i64 v] rfl rfl (fun i u hu => (HNEW.out i).trans hu) (by intro u hu; simp at hu; rcases hu with rfl | rfl | rfl <;> rfl) (by omega) (by omega) (by simp; omega) ?_; intro g1 c1 w9 ho9 hb9 hg9 hgr9 hat9))
              have HO9 := Lib.hid ho9
              have HB9 : Hid (Below w.heap.size w w9) := (HB.out.alloc hszr _).trans hb9
              clear ho9 hb9 hg9 hgr9 hat9
              go_roundw
              case rel =>
                refine ⟨k + 1, 0, _, c1, (z : Int), by go_num, by omega, rfl, by omega, fun _ => by simpa using HX.out, HR2, ?_, HB9.out, rfl⟩
                show World.ownsRow _ _ _ _ _ _ _
                rw [HT.out, List.map_append, List.map_cons, List.map_nil, HJ.out, jobs_snocM]; exact HO9.out
              case measure => simp [intOf]; omega
            · have hk0 : ¬ (0 : Int) < k := by omega
              obtain ⟨b, off, t, d, v, rfl, hbb, hjx, hc0, hc1, hc2⟩ := jobs_at hA (show z < l.length by rw [HN.out]; exact hzn)
              have HJ : Hid (jobAt l (z : Int) = ⟨t, d, v⟩) := by show _ = _; simp [jobAt, List.getD, hjx]
              rw [← HB.out.cell hbb] at hc0 hc1 hc2
              have HNEW := Lib.hid (fun i => (Row.new wr 121 #[.int .i64 t, .int .i64 d, .int .i64 v]).cell i)
              have HR2 : Hid (riseErr n (-1) set = riseErr n (z : Int) (set.drop (k + 1))) := by show _ = _; rw [HR.out, HD.out, riseErr, if_pos hin, if_neg hup]
              have hszr := HB.out.size
              clear hjx
              go_wp2_with (first | (go_at_call 73; refine (within _ _ _ _).mono ?_; rintro e w' ⟨rfl, rfl⟩) | (at_builtin; refine wp_push _ rfl (.tmp 44) (.tmp 49) 55 rfl w.heap.size 121 3 24 _ Tryd.underlying55 info_jobM rfl (by omega) V k cv _ rfl (HO.out.alloc _) wr.heap.size 1 [.int .i64 t, .int .i64 d, .int .i64 v] rfl rfl (fun i u hu => (HNEW.out i).trans hu) (by intro u hu; simp at hu; rcases hu with rfl | rfl | rfl <;> rfl) (by omega) (by omega) (by simp; omega) ?_; intro g1 c1 w9 ho9 hb9 hg9 hgr9 hat9))
              have HO9 := Lib.hid ho9
              have HB9 : Hid (Below w.heap.size w w9) := (HB.out.alloc hszr _).trans hb9
              clear ho9 hb9 hg9 hgr9 hat9
              go_roundw
              case rel =>
                refine ⟨k + 1, 0, _, c1, (z : Int), by go_num, by omega, rfl, by omega, fun _ => by simpa using HX.out, HR2, ?_, HB9.out, rfl⟩
                show World.ownsRow _ _ _ _ _ _ _
                rw [HT.out, List.map_append, List.map_cons, List.map_nil, HJ.out, jobs_snocM]; exact HO9.out
              case measure => simp [intOf]; omega
        · have HF : Hid (subErr l set = 1) := by
            show _ = _
            rw [hS0.out, HR.out, HD.out, riseErr, if_neg hin]
          have hin2 : inB x 0 ((n : Int) - 1) = false := by simpa using hin
          go_wp2_with (go_at_call 73; refine (within _ _ _ _).mono ?_; rintro e w' ⟨rfl, rfl⟩)
          go_ret2
          exact ⟨Or.inl ⟨by rw [HF.out]; omega, by rw [HF.out]; rfl⟩, HB.out⟩
      · have hkn : k = m := by omega
        subst hkn
        have hlz : ¬ (k : Int) < k := by omega
        have hsub : subErr l set = 0 := by
          rw [hS0.out, HR.out, drop_end (by rw [HN'.out]; omega)]; rfl
        have hT : set.take k = set := List.take_of_length_le (by rw [HN'.out]; omega)
        have ho := HO.out
        rw [hT] at ho
        have hk16 : k ≤ 16 := by omega
        have hlen : (set.map (jobAt l)).length = k := by rw [List.length_map, HN'.out]
        have HLEN := Lib.hid hlen
        have HSO := Lib.hid (some_ok hsub)
        have HSUB := Lib.hid hsub
        have hcells := ho.own (by omega)
        have HCELLS := Lib.hid hcells
        have c5 := Lib.hid (dueOrder_ok V k cv (set.map (jobAt l)) wr hcells hlen (by omega) HSO.out)
        have hszr := HB.out.size
        clear hsub hT ho hlen hcells HO
        go_wp2_with fail
        refine c5.out.mono ?_
        rintro e w5 ⟨g, zs, rfl, hio, hpw, hown, hb5⟩
        have HB5 : Hid (Below w.heap.size w w5) := HB.out.trans (hb5.mono hszr)
        have hioL : IsOrd (set.map (jobAt l)).length zs := by rw [HLEN.out]; exact hio
        have HLI := Lib.hid (late_iff HSO.out hioL hpw)
        have c6 := Lib.hid (dueLate_ok V k cv (some ⟨g, 0, none⟩) k k (set.map (jobAt l)) zs w5 (HCELLS.out.step hb5) HLEN.out (by omega) (hown.own (by omega)) hio.1 (by omega) (ordErr_of HSO.out hioL))
        have hsz5 := HB5.out.size
        clear hio hpw hown hb5 hioL c5 HB hszr HCELLS
        go_wp2_with fail
        refine c6.out.mono ?_
        rintro e w6 ⟨rfl, hb6⟩
        have HB6 : Hid (Below w.heap.size w w6) := HB5.out.trans (hb6.mono hsz5)
        obtain ⟨v, hv⟩ : ∃ z, z = lateVal (set.map (jobAt l)) zs := ⟨_, rfl⟩
        rw [← hv]
        have HV : Hid (v ≤ 0 ↔ FeasJ (set.map (jobAt l))) := by show _ ↔ _; rw [hv]; exact HLI.out
        clear hv hb6 c6 HB5 HLI
        go_wp2
        go_ret2
        exact ⟨Or.inr ⟨HSUB.out, decide (v ≤ 0), by rw [decide_eq_true_iff]; exact HV.out, rfl⟩, HB6.out⟩
  · have HF : Hid (subErr l set = jobErr l) := if_neg h0
    have h0' : subErr l set ≠ 0 := by rw [HF.out]; exact h0
    rw [errV_bad h0] at c0
    have H0 := Lib.hid h0'
    clear h0 h0' hn hn'
    go_enter Tryd.func60, Tryd.ntmps60
    go_wp2_with fail
    refine c0.out.mono ?_
    rintro e w1 ⟨rfl, hb1⟩
    have HB1 := Lib.hid hb1
    clear hb1 c0
    go_wp2
    go_ret2
    exact ⟨Or.inl ⟨H0.out, by rw [HF.out]; rfl⟩, HB1.out⟩
end Go.Proofs.YtpaoiaogcckibaaDoor
