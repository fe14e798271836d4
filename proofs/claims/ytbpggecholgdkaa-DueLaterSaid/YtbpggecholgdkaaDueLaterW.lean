/- The walk of DueLater. Conditions: lengths are such that slices can have. -/
import Derived.Test.YtbpggecholgdkaaJobFact
namespace Go.Proofs.Ytbpggecholgdkaa
open Go.RowKit

theorem late_start (j : Job) (l : List Job) (now a b : Int) (ha : a ≤ now + j.time - j.due) (hb : b ≤ now + j.time - j.due) : lateFrom now a (j :: l) = lateFrom now b (j :: l) := by
  simp only [lateFrom]
  congr 1
  omega
theorem later_ok {l : List Job} {b : Int} (h : jobErr l = 0) (hb : 0 ≤ b) (hd : ∀ p ∈ l, p.due ≤ 1000 - b) : jobErr (l.map (later b)) = 0 := by
  obtain ⟨h1, h2⟩ := jobErr_ok h
  refine jobErr_of (by simpa using h1) fun p hp => ?_
  obtain ⟨q, hq, rfl⟩ := List.mem_map.1 hp
  have := h2 q hq
  have := hd q hq
  simp only [later]; omega
theorem jobAt_later {l : List Job} {b i : Int} (h0 : 0 ≤ i) (h1 : i < l.length) : jobAt (l.map (later b)) i = later b (jobAt l i) := by
  have hlt : i.toNat < l.length := by omega
  simp [jobAt, List.getD, hlt]
theorem dueC_later {l : List Job} {b x y : Int} (h0 : 0 ≤ x) (h1 : x < l.length) (h2 : 0 ≤ y) (h3 : y < l.length) : dueC (l.map (later b)) x y = dueC l x y := by
  unfold dueC
  rw [jobAt_later h0 h1, jobAt_later h2 h3]
  simp only [later, cmpI, Int.add_lt_add_iff_right]
theorem later_order {l : List Job} {b : Int} {ys zs : List Int} (hy : IsOrd l.length ys) (hz : IsOrd l.length zs) (h1 : ys.Pairwise (Ahead (dueC l) id)) (h2 : zs.Pairwise (Ahead (dueC (l.map (later b))) id)) : ys = zs := by
  refine order_unique (fun x y => (weak_key (fun i => (jobAt l i).due)).anti x y) (hy.perm_of hz) h1 ?_
  refine h2.imp_of_mem fun {x y} hx hy' h => ?_
  have a := hz.2.1 x hx
  have c := hz.2.1 y hy'
  unfold Ahead at h ⊢
  rw [dueC_later a.1 a.2 c.1 c.2] at h
  exact h
theorem jat_later {l : List Job} {b : Int} {o : List Int} (ho : IsOrd l.length o) : jat (l.map (later b)) o = (jat l o).map (later b) := by
  unfold jat
  rw [List.map_map]
  refine List.map_congr_left fun i hi => ?_
  have := ho.2.1 i hi
  exact jobAt_later this.1 this.2
theorem later_val {l : List Job} {b : Int} {o : List Int} (h : jobErr l = 0) (hb : 0 ≤ b) (hd : ∀ p ∈ l, p.due ≤ 1000 - b) (ho : IsOrd l.length o) (hne : l.length ≠ 0) : lateVal (l.map (later b)) o = lateVal l o - b := by
  unfold lateVal
  rw [List.length_map, if_neg hne, if_neg hne, jat_later ho, ← late_later]
  have hmem : ∀ p ∈ jat l o, (1 ≤ p.time ∧ p.time ≤ 1000) ∧ (0 ≤ p.due ∧ p.due ≤ 1000) ∧ p.due ≤ 1000 - b := fun p hp => by
    have hp' := (jat_perm ho).mem_iff.1 hp
    have := (jobErr_ok h).2 p hp'
    exact ⟨this.1, this.2.1, hd p hp'⟩
  have hl : (jat l o).length = l.length := by simp [jat, ho.1]
  cases hj : jat l o with
  | nil => rw [hj] at hl; simp at hl; omega
  | cons p r =>
    have := hmem p (by rw [hj]; simp)
    simp only [List.map_cons]
    refine late_start _ _ _ _ _ ?_ ?_ <;> simp only [later] <;> omega
theorem late_le : ∀ (l : List Job) (now w m : Int), (∀ p ∈ l, p.time ≤ 1000 ∧ 0 ≤ p.due ∧ 0 ≤ p.time) → w ≤ m → now + 1000 * l.length ≤ m → lateFrom now w l ≤ m := by
  intro l
  induction l with
  | nil => intro now w m _ h _; simpa [lateFrom] using h
  | cons j l ih =>
    intro now w m hp hw hm
    have h0 := hp j (by simp)
    simp only [List.length_cons] at hm
    simp only [lateFrom]
    exact ih _ _ _ (fun q hq => hp q (by simp [hq])) (by omega) (by omega)
theorem late_hi {l : List Job} {o : List Int} (h : jobErr l = 0) (ho : IsOrd l.length o) : lateFrom 0 (-1000) (jat l o) ≤ 20000 := by
  have hl : (jat l o).length ≤ 16 := by
    have := (jobErr_ok h).1
    rw [show (jat l o).length = l.length by simp [jat, ho.1]]; exact this
  refine late_le _ _ _ _ (fun p hp => ?_) (by omega) (by omega)
  have := (jobErr_ok h).2 p ((jat_perm ho).mem_iff.1 hp)
  omega
theorem jobs_append (a b : List Job) : jobs (a ++ b) = jobs a ++ jobs b := threes_append _ a b
theorem info_job : (Try.prog.info? 39).map (fun i => (i.zero, i.size, i.bytes)) = some (some (.agg #[.int .i64 0, .int .i64 0, .int .i64 0]), 3, 24) := by kernel_rfl

set_option maxHeartbeats 4000000 in
set_option maxRecDepth 100000 in
theorem dueLaterW (A : Option Addr) (n c : Nat) (b : Int) (l : List Job) (w : World) (hA : Cells w w.heap.size A (jobs l)) (hn : l.length = n) (hm : n * 24 ≤ 140737488351232)
    (hin : ∀ x ∈ l, InJob x) (hb : -9223372036854775808 ≤ b ∧ b ≤ 9223372036854775807) :
    Calls Try.prog 10 #[.slice A n c, .int .i64 b] w fun e w' => e = .returned (.bool true) ∧ Below w.heap.size w w' := by
  clear hb
  have c0 := Lib.hid (dueFact w)
  by_cases hb0 : b < 0
  · clear hn hA hin
    go_enter Try.func10, Try.ntmps10
    go_wp2_with fail
    refine c0.out.mono ?_
    rintro e w1 ⟨rfl, hb1⟩
    clear c0
    go_wp2
    go_ret
    exact ⟨rfl, hb1⟩
  by_cases hb1 : 1000 < b
  · clear hn hA hin
    go_enter Try.func10, Try.ntmps10
    go_wp2_with fail
    refine c0.out.mono ?_
    rintro e w1 ⟨rfl, hb1⟩
    clear c0
    go_wp2
    go_ret
    exact ⟨rfl, hb1⟩
  have hb2 : 0 ≤ b := by omega
  have hb3 : b ≤ 1000 := by omega
  clear hb0 hb1
  have HN := Lib.hid hn
  have HIN := Lib.hid hin
  clear hn hin
  go_enter Try.func10, Try.ntmps10
  go_wp2_with fail
  refine c0.out.mono ?_
  rintro e w1 ⟨rfl, hb1⟩
  have HB1 := Lib.hid hb1
  have hsz1 := hb1.size
  have hA1 := hA.below hb1 (Nat.le_refl _)
  clear c0 hb1
  go_wp2
  go_loopw [6, 7] (fun v i wr => ∃ (k : Nat) (V : Option Addr) (cv : Nat), k ≤ n ∧ i = .int .i64 k ∧ v = .slice V k cv ∧ wr.ownsRow w1.heap.size 39 3 (.slice V k cv) k (jobs ((l.map (later b)).take k)) ∧ Below w1.heap.size w1 wr ∧ Hid (∀ p ∈ l.take k, p.due ≤ 1000 - b)) (fun _ i _ => n - (intOf i).toNat)
  case atStart => exact ⟨0, none, 0, Nat.zero_le _, rfl, rfl, World.ownsRow_nil _ _ _ _, Below.refl _ _, by show ∀ p ∈ _, _; simp⟩
  case round =>
    obtain ⟨k, V, cv, hk, rfl, rfl, hown, hbr, HD⟩ := hrel
    have hszr := hbr.size
    by_cases hlt : k < n
    · have hlz : (k : Int) < n := by omega
      obtain ⟨b', off', t, d, u, rfl, hbb', hp, hc1, hc2, hc3⟩ := jobs_at hA1 (show k < l.length by rw [HN.out]; exact hlt)
      rw [← hbr.cell (p := ⟨b', _, none⟩) (by simp only; omega)] at hc1 hc2 hc3
      by_cases hd : 1000 - b < d
      · clear hp hown
        go_wp2
        go_ret
        exact ⟨rfl, HB1.out.trans ((hbr.alloc hszr _).mono hsz1)⟩
      · have hij := HIN.out _ (List.mem_of_getElem? hp)
        have k1 : wrap64 (d + b) = d + b := IntWalk.wrap64_in _ (by have := hij.2.1; simp only at this; omega)
        have hT : Hid ((l.map (later b)).take (k + 1) = (l.map (later b)).take k ++ [⟨t, d + b, u⟩]) := take_at (by simp [hp, later])
        have hD2 : Hid (∀ p ∈ l.take (k + 1), p.due ≤ 1000 - b) := by
          show ∀ p ∈ _, _
          rw [take_at hp]
          intro p hpm
          rcases List.mem_append.1 hpm with h | h
          · exact HD.out p h
          · simp at h; subst h; simp only; omega
        have hnew := fun W : World => (Row.new W 39 #[.int .i64 t, .int .i64 (d + b), .int .i64 u]).cell
        have HNEW := Lib.hid hnew
        clear hp hnew hij hA1
        go_wp2_with (at_builtin; go_must (refine wp_push _ rfl _ _ 32 rfl w1.heap.size 39 3 24 _ Try.underlying32 info_job rfl (by omega) V k cv _ rfl ((hown.alloc _).alloc _) (wr.heap.size + 1) 1 [.int .i64 t, .int .i64 (d + b), .int .i64 u] rfl rfl (fun j uu hu => by have := HNEW.out (wr.alloc (.cells #[.int .i64 t, .int .i64 (d + b), .int .i64 u] 39)) j; simp only [World.size_alloc] at this; exact this.trans hu) (by intro uu hu; simp at hu; rcases hu with rfl | rfl | rfl <;> rfl) (by omega) (by omega) (by simp; omega) ?_); intro g2 c2 w4 hown4 hb5 hg4 hgr4 hat4)
        rw [show jobs ((l.map (later b)).take k) ++ [.int .i64 t, .int .i64 (d + b), .int .i64 u] = jobs ((l.map (later b)).take (k + 1)) by rw [hT.out, jobs_append]; rfl] at hown4
        have hb6 : Below w1.heap.size w1 w4 := ((hbr.alloc hszr _).alloc (by simp; omega) _).trans hb5
        clear hown hb5 hgr4 hat4 hc1 hc2 hc3 hbr k1
        go_roundw
        case rel => exact ⟨k + 1, some ⟨g2, 0, none⟩, c2, by omega, by go_num, rfl, hown4, hb6, hD2⟩
        case measure => simp [intOf]; omega
    · have hkn : k = n := by omega
      subst hkn
      have hlz : ¬ (k : Int) < k := by omega
      have HD2 : Hid (∀ p ∈ l, p.due ≤ 1000 - b) := by
        have := HD.out
        rwa [List.take_of_length_le (by rw [HN.out]; omega)] at this
      rw [List.take_of_length_le (by rw [List.length_map, HN.out]; omega)] at hown
      have hbw := HB1.out.trans (hbr.mono hsz1)
      have HBW := Lib.hid hbw
      have hcl := Lib.hid (hown.own (by omega))
      have hszw := hbw.size
      by_cases h0 : jobErr l = 0
      · have H0 := Lib.hid h0
        have HL0 := Lib.hid (later_ok h0 hb2 HD2.out)
        have hl16 : k ≤ 16 := by have := (jobErr_ok h0).1; rw [HN.out] at this; exact this
        have c1 := Lib.hid (dueOrder_ok A k c l wr (hA.step hbw) HN.out (by omega) h0)
        clear h0 hown hbr hbw hA1
        go_wp2_with fail
        refine c1.out.mono ?_
        rintro e w2 ⟨g, ys, rfl, hio, hpw, hown2, hb2'⟩
        have HIO := Lib.hid hio
        have HPW := Lib.hid hpw
        have HO2 := Lib.hid hown2
        have c2 := Lib.hid (dueOrder_ok V k cv (l.map (later b)) w2 (hcl.out.step hb2') (by rw [List.length_map]; exact HN.out) (by omega) HL0.out)
        have HB2 := Lib.hid hb2'
        have hsz2 := hb2'.size
        clear hio hpw hown2 hb2' c1
        go_wp2_with fail
        refine c2.out.mono ?_
        rintro e w3 ⟨g', zs, rfl, hio', hpw', hown3, hb3'⟩
        have hyz : ys = zs := later_order (by rw [HN.out]; exact HIO.out) (by rw [HN.out]; exact hio') HPW.out hpw'
        subst hyz
        have HB3 := Lib.hid hb3'
        have hsz3 := hb3'.size
        have HC2 := Lib.hid ((HO2.out.own (by omega)).step hb3')
        have HC3 := Lib.hid (hown3.own (by omega))
        have hb23 := HB2.out.trans (hb3'.mono hsz2)
        have hbw3 := HBW.out.trans (hb23.mono hszw)
        have HB23 := Lib.hid hb23
        have HBW3 := Lib.hid hbw3
        have c3 := Lib.hid (dueLate_ok A k c (some ⟨g, 0, none⟩) k k l ys w3 (hA.step hbw3) HN.out (by omega) HC2.out HIO.out.1 (by omega) (ordErr_of H0.out (by rw [HN.out]; exact HIO.out)))
        clear hio' hpw' hown3 hb3' hb23 hbw3 c2
        go_wp2_with fail
        refine c3.out.mono ?_
        rintro e w4 ⟨rfl, hb4⟩
        have HB4 := Lib.hid hb4
        have hsz4 := hb4.size
        have hb24 := HB23.out.trans (hb4.mono (by omega))
        have c4 := Lib.hid (dueLate_ok V k cv (some ⟨g', 0, none⟩) k k (l.map (later b)) ys w4 (hcl.out.step hb24) (by rw [List.length_map]; exact HN.out) (by omega) (HC3.out.step hb4) HIO.out.1 (by omega) (ordErr_of HL0.out (by rw [List.length_map, HN.out]; exact HIO.out)))
        clear hb4 hb24 c3
        obtain ⟨v1, HV1⟩ : ∃ v1, Hid (lateVal l ys = v1) := ⟨_, rfl⟩
        rw [HV1.out]
        go_wp2_with fail
        refine c4.out.mono ?_
        rintro e w5 ⟨rfl, hb5⟩
        have HB5 := Lib.hid hb5
        have hsz5 := hb5.size
        obtain ⟨v2, HV2⟩ : ∃ v2, Hid (lateVal (l.map (later b)) ys = v2) := ⟨_, rfl⟩
        rw [HV2.out]
        have hb35 := HB4.out.trans (hb5.mono hsz4)
        have c5 := Lib.hid (ints_same (some ⟨g, 0, none⟩) (some ⟨g', 0, none⟩) k k k k ys ys w5 (HC2.out.step hb35) HIO.out.1 (by omega) (HC3.out.step hb35) HIO.out.1)
        have hE : Hid (eqB ys ys = true) := eqB_true rfl
        have hBF := Lib.hid (HBW3.out.trans (hb35.mono (by omega)))
        clear hb5 hb35 c4
        go_wp2_with fail
        refine c5.out.mono ?_
        rintro e w6 ⟨rfl, q, rfl⟩
        rw [hE.out]
        by_cases hk0 : k = 0
        · subst hk0
          clear c5
          go_wp2
          go_ret
          exact ⟨rfl, below_drewN hBF.out q⟩
        · have hval := later_val H0.out hb2 HD2.out (show IsOrd l.length ys by rw [HN.out]; exact HIO.out) (by rw [HN.out]; exact hk0)
          rw [HV1.out, HV2.out] at hval
          have hz : ((k : Int) == 0) = false := beq_eq_false_iff_ne.2 (by omega)
          have hlo : -1000 ≤ v1 := by
            have h := HV1.out
            unfold lateVal at h
            rw [if_neg (by rw [HN.out]; exact hk0)] at h
            rw [← h]; exact late_ge _ _ _
          have hhi : v1 ≤ 20000 := by
            have h := HV1.out
            unfold lateVal at h
            rw [if_neg (by rw [HN.out]; exact hk0)] at h
            rw [← h]
            exact late_hi H0.out (by rw [HN.out]; exact HIO.out)
          have hd : (v2 == v1 - b) = true := beq_iff_eq.2 hval
          clear hval c5
          go_wp2
          go_ret
          exact ⟨rfl, below_drewN hBF.out q⟩
      · have H0 := Lib.hid h0
        have c1 := Lib.hid (dueOrder_bad A k c l wr (hA.step hbw) HN.out (by omega) h0)
        have HE := Lib.hid (errV_bad h0)
        clear h0 hbr hbw hA1
        go_wp2_with fail
        refine c1.out.mono ?_
        rintro e w2 ⟨rfl, hb2'⟩
        have HB2 := Lib.hid hb2'
        have hsz2 := hb2'.size
        by_cases h1 : jobErr (l.map (later b)) = 0
        · have c2 := Lib.hid (dueOrder_ok V k cv (l.map (later b)) w2 (hcl.out.step hb2') (by rw [List.length_map]; exact HN.out) (by omega) h1)
          clear hb2' c1 h1
          go_wp2_with fail
          refine c2.out.mono ?_
          rintro e w3 ⟨g', zs, rfl, hio', hpw', hown3, hb3'⟩
          have hF := Lib.hid (HBW.out.trans ((HB2.out.trans (hb3'.mono hsz2)).mono hszw))
          clear c2 hio' hpw' hown3 hb3'
          go_wp2
          go_ret
          exact ⟨rfl, hF.out⟩
        · have c2 := Lib.hid (dueOrder_bad V k cv (l.map (later b)) w2 (hcl.out.step hb2') (by rw [List.length_map]; exact HN.out) (by omega) h1)
          clear hb2' c1 h1
          go_wp2_with fail
          refine c2.out.mono ?_
          rintro e w3 ⟨rfl, hb3'⟩
          have hF := Lib.hid (HBW.out.trans ((HB2.out.trans (hb3'.mono hsz2)).mono hszw))
          clear c2 hb3'
          go_wp2
          go_ret
          exact ⟨rfl, hF.out⟩
end Go.Proofs.Ytbpggecholgdkaa
