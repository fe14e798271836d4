/- The walk of UnionPlays. Conditions: lengths are such that slices can have; errors.errorType holds the handle of the type error. -/
import Derived.Test.YtblblgmmgalmeaaDoorPlaysP
import Derived.Test.YtblblgmmgalmeaaDoorErrGrown
import Derived.Test.YtblblgmmgalmeaaDoorRowsEq
import Derived.Deep.DeepCutAuto
import Derived.Deep.CutRange
import Derived.Deep.RegionHeld3
import Derived.BigQuiet
namespace Go.Proofs.YtblblgmmgalmeaaDoor
open Go.RowKit Go.Lib Go.Sort
/-- what the document has behind one step -/
def StepRef (N : Nat) (E : List (Nat × Nat)) (a b : Int) (E' : List (Nat × Nat)) (er : Int) (t : Bool) : Prop :=
  (∃ x y : Nat, a = x ∧ b = y ∧ x < N ∧ y < N ∧ E' = E ++ [(x, y)] ∧ er = 0 ∧ t = decide (labels E x ≠ labels E y)) ∨ (¬ (0 ≤ a ∧ a < N ∧ 0 ≤ b ∧ b < N) ∧ E' = E ∧ er = 1 ∧ t = false)
theorem ug_below {w w' : World} {base p n cu cs : Nat} {U S : Option Addr} {R : Nat → Nat} {B : Nat} (h : UG w base p n U cu S cs R) (hk : Keeps (ugs p U S) w w') (hB : B ≤ base) (hs : B ≤ w.heap.size) : Below B w w' :=
  hk.below (fun x hx => by have := (h.base_le x hx).1; omega) hs
theorem groups_rows {R : Nat → Nat} {n : Nat} {rs : List RV} (h : rs.map RV.xs = groupsOf R n) (hn : n ≤ 60) : ∀ r ∈ rs, r.xs.length ≤ 9223372036854775807 := fun r hr => by
  have h1 : r.xs ∈ groupsOf R n := by rw [← h]; exact List.mem_map_of_mem hr
  obtain ⟨x, _, hx⟩ := List.mem_map.1 h1
  rw [← hx]
  unfold members
  rw [List.length_map]
  have := List.length_filter_le (fun y => R y == x) (List.range n)
  simp at this; omega
/-- what Same answers, whatever it is asked -/
theorem sameG {w : World} {base p n cu cs : Nat} {U S : Option Addr} {R : Nat → Nat} (a b : Int) (h : UG w base p n U cu S cs R) :
    Calls Tryd.prog 12 #[.pointer (some ⟨p, 0, none⟩), .int .i64 a, .int .i64 b] w fun e w' => e = .returned (.tuple #[.bool (inG n a b && oneB R a.toNat b.toNat), errV (if inG n a b = true then 0 else 1)]) ∧ UG w' base p n U cu S cs R ∧ Keeps (ugs p U S) w w' := by
  by_cases hi : inG n a b = true
  · have h2 := of_decide_eq_true hi
    have e1 : a = ((a.toNat : Nat) : Int) := by omega
    have e2 : b = ((b.toNat : Nat) : Int) := by omega
    have := same_ok (a := a.toNat) (b := b.toNat) h (by omega) (by omega)
    rw [← e1, ← e2] at this
    rw [hi, Bool.true_and, if_pos rfl, errV_zero]
    exact this
  · have h1 : inG n a b = false := by simpa using hi
    rw [h1, Bool.false_and, if_neg (by simp), errV_bad (by omega)]
    exact (same_bad a b h h1).mono fun e w' ⟨he, hw⟩ => by subst hw; exact ⟨he, h, Keeps.refl _ _⟩
theorem step_join {N : Nat} {E E' : List (Nat × Nat)} {a b er : Int} {t nw : Bool} {R R' : Nat → Nat} (hs : StepRef N E a b E' er t) (hE : ∀ q ∈ E, q.1 < N ∧ q.2 < N) (hg : Gen N (castE E) R) (hg' : Gen N (castE E ++ [(a, b)]) R') (hn : nw = true ↔ (inG N a b = true ∧ R a.toNat ≠ R b.toNat)) :
    Gen N (castE E') R' ∧ (∀ q ∈ E', q.1 < N ∧ q.2 < N) ∧ (if inG N a b = true then (0 : Int) else 1) = er ∧ nw = t := by
  rcases hs with ⟨x, y, rfl, rfl, hx, hy, rfl, rfl, rfl⟩ | ⟨hn', rfl, rfl, rfl⟩
  · have hi : inG N (x : Int) (y : Int) = true := inG_true (by omega)
    have hk := same_kernel hg (canon_labels hE).gen x y hx hy
    refine ⟨by rw [castE_snoc]; exact hg', fun q hq => ?_, by rw [if_pos hi], ?_⟩
    · rcases List.mem_append.1 hq with h | h
      · exact hE q h
      · simp at h; subst h; exact ⟨hx, hy⟩
    · rw [Bool.eq_iff_iff, hn, decide_eq_true_iff, Int.toNat_natCast, Int.toNat_natCast, Ne, hk]
      exact ⟨fun h => h.2, fun h => ⟨hi, h⟩⟩
  · have hi := inG_false hn'
    refine ⟨hg'.drop hn', hE, by rw [if_neg (by simp [hi])], ?_⟩
    cases nw with
    | false => rfl
    | true => have := (hn.1 rfl).1; rw [hi] at this; exact this.symm
set_option maxHeartbeats 8000000 in
set_option maxRecDepth 100000 in
theorem unionPlaysW (n : Int) (A : Option Addr) (m c : Nat) (rs : List RV) (w : World) (_ : -9223372036854775808 ≤ n ∧ n ≤ 9223372036854775807) (hA : RowsAt w w.heap.size A rs) (hl : rs.length = m) (hm : m * 24 ≤ 140737488351232) (hrl : ∀ r ∈ rs, r.xs.length ≤ 9223372036854775807) (hg : ErrT w) :
    Calls Tryd.prog 3 #[.int .i64 n, .slice A m c] w fun e w' => e = .returned (.bool true) ∧ Below w.heap.size w w' := by
  have HA := Lib.hid hA
  have HL := Lib.hid hl
  have HRL := Lib.hid hrl
  have HGT := Lib.hid hg
  have hpos := hg.pos
  have hm8 : m ≤ 17592186044416 := by omega
  clear hA hl hrl hg hm
  by_cases hn : 0 ≤ n ∧ n ≤ 60
  · obtain ⟨N, rfl⟩ : ∃ N : Nat, n = N := ⟨n.toNat, by omega⟩
    have hN : N ≤ 60 := by omega
    have hn0 : ¬ (N : Int) < 0 := by omega
    have hn1 : ¬ (60 : Int) < N := by omega
    have c1 := Lib.hid (new_ok N w hN)
    clear hn
    go_enter Tryd.func3, Tryd.ntmps3
    go_wp2_with fail
    refine c1.out.mono ?_
    rintro e w1 ⟨p, U, cu, S, cs, rfl, hu, hb1⟩
    have HU := Lib.hid hu
    have HB := Lib.hid hb1
    obtain ⟨B1, hB1⟩ : ∃ B1, B1 = w1.heap.size := ⟨_, rfl⟩
    have HUB : Hid (∀ x ∈ ugs p U S, x < B1) := fun x hx => by rw [hB1]; exact (hu.base_le x hx).2
    have HWB : Hid (w.heap.size ≤ B1) := by rw [hB1]; exact hb1.size
    have HBS : Hid (B1 ≤ w1.heap.size) := by rw [hB1]; exact Nat.le_refl _
    clear hu hb1 c1 hB1
    go_wp2
    go_loopw [8, 7] (fun i v wr => ∃ (k : Nat) (O : Option Addr) (co : Nat) (hs : List RV) (E : List (Nat × Nat)) (R : Nat → Nat) (me : Nat), i = .int .i64 (k : Int) ∧ k ≤ m ∧ k ≤ 60 ∧ v = .slice O me co ∧ me ≤ k ∧ Hid (E.length = me) ∧ Hid (PairsIn wr B1 O co hs E) ∧ Hid (∀ q ∈ E, q.1 < N ∧ q.2 < N) ∧ Hid (UG wr w.heap.size p N U cu S cs R) ∧ Hid (Gen N (castE E) R) ∧ Hid (Below w.heap.size w wr) ∧ Hid (B1 ≤ wr.heap.size)) (fun i _ _ => m - (intOf i).toNat)
    case atStart => exact ⟨0, none, 0, [], [], id, 0, rfl, by omega, by omega, rfl, by omega, rfl, ⟨RowsIn.start _ _, rfl⟩, fun q hq => by simp at hq, HU.out, Gen.start N, HB.out, HBS.out⟩
    case round =>
      clear HU HB HBS
      obtain ⟨k, O, co, hs, E, R, me, rfl, hk, hk6, rfl, hme, HEL, HP, HE, HU, HGN, HB, HBS⟩ := hrel
      by_cases hkm : k < m
      · have hkz : (k : Int) < m := by omega
        by_cases hk60 : k < 60
        · have hk60z : (k : Int) < 60 := by omega
          have hk0 : (0 : Int) ≤ k := by omega
          obtain ⟨b, off, r, rfl, hbb, hr, hcr, hrow⟩ := HA.out.at_k (show k < rs.length by rw [HL.out]; exact hkm)
          have HRW := Lib.hid hrow
          have hrl := HRL.out r (List.mem_of_getElem? hr)
          rw [← HB.out.cell hbb] at hcr
          clear hr hrow
          by_cases h2 : r.xs.length < 2
          · have h2z : ((r.xs.length : Nat) : Int) < 2 := by omega
            go_wp2
            go_roundw
            case rel => exact ⟨k + 1, O, co, hs, E, R, me, by go_num, by omega, by omega, rfl, by omega, HEL.out, HP.out, HE.out, HU.out, HGN.out, HB.out, HBS.out⟩
            case measure => simp [intOf]; omega
          · have h2z : ¬ ((r.xs.length : Nat) : Int) < 2 := by omega
            have h0l : (0 : Int) < (r.xs.length : Int) := by omega
            have h1l : (1 : Int) < (r.xs.length : Int) := by omega
            obtain ⟨b', off', a, hra, hbb', hxa, hca⟩ := ints_at HRW.out (show 0 < r.xs.length by omega)
            obtain ⟨b'', off'', bb, hra2, _, hxb, hcb⟩ := ints_at HRW.out (show 1 < r.xs.length by omega)
            rw [hra] at hra2
            simp only [Option.some.injEq, Addr.mk.injEq, and_true] at hra2
            obtain ⟨rfl, rfl⟩ := hra2
            rw [hra] at hcr
            rw [Nat.add_zero] at hca
            rw [← HB.out.cell hbb'] at hca hcb
            clear hra hxa hxb
            generalize r.xs.length = rl at hcr h2z h0l h1l hrl h2
            generalize r.cap = rc at hcr
            go_upto_region 15 with fail
            obtain ⟨gi, hgi⟩ : ∃ gi, gi = inG N a bb := ⟨_, rfl⟩
            have HGI := Lib.hid hgi
            clear hgi
            go_cut [78] from 63 to 78 (fun z wx => z = .bool (!gi) ∧ wx = wr)
            case first =>
              by_cases q1 : a < 0
              · have HV : Hid (gi = false) := by rw [HGI.out]; exact inG_false (by omega)
                go_wp2
                go_meet
                exact ⟨by rw [HV.out]; rfl, rfl⟩
              · by_cases q2 : (N : Int) ≤ a
                · have HV : Hid (gi = false) := by rw [HGI.out]; exact inG_false (by omega)
                  go_wp2
                  go_meet
                  exact ⟨by rw [HV.out]; rfl, rfl⟩
                · by_cases q3 : bb < 0
                  · have HV : Hid (gi = false) := by rw [HGI.out]; exact inG_false (by omega)
                    go_wp2
                    go_meet
                    exact ⟨by rw [HV.out]; rfl, rfl⟩
                  · by_cases q4 : (N : Int) ≤ bb
                    · have HV : Hid (gi = false) := by rw [HGI.out]; exact inG_false (by omega)
                      go_wp2
                      go_meet
                      exact ⟨by rw [HV.out]; rfl, rfl⟩
                    · have HV : Hid (gi = true) := by rw [HGI.out]; exact inG_true (by omega)
                      go_wp2
                      go_meet
                      exact ⟨by rw [HV.out]; rfl, rfl⟩
            case rest =>
            obtain ⟨rfl, hwc⟩ := hcut
            replace hwc := hwc.symm
            subst hwc
            clear hca hcb hcr
            go_upto_if 78 with fail
            go_cut [7, 11, 12, 13] from 79 to 96 (fun v7 v11 v12 v13 wx => ∃ (O' : Option Addr) (co' : Nat) (hs' : List RV) (E' : List (Nat × Nat)) (me' : Nat) (er : Int) (t : Bool), v7 = .slice O' me' co' ∧ v11 = .int .i64 er ∧ v12 = .bool t ∧ me' ≤ k + 1 ∧ Hid (E'.length = me') ∧ Hid (StepRef N E a bb E' er t) ∧ Hid (PairsIn wx B1 O' co' hs' E') ∧ Hid (UG wx w.heap.size p N U cu S cs R) ∧ Hid (Below w.heap.size w wx) ∧ Hid (B1 ≤ wx.heap.size))
            case first =>
              cases gi with
              | false =>
                go_wp2
                go_meet
                exact ⟨O, co, hs, E, me, 1, false, rfl, rfl, rfl, by omega, HEL.out, Or.inr ⟨(fun h => by have h1 := inG_true h; rw [← HGI.out] at h1; exact absurd h1 (by simp)), rfl, rfl, rfl⟩, HP.out, HU.out, HB.out, HBS.out⟩
              | true =>
                have hr : 0 ≤ a ∧ a < N ∧ 0 ≤ bb ∧ bb < N := of_decide_eq_true HGI.out.symm
                obtain ⟨ha0, ha1, hb0, hb1⟩ := hr
                obtain ⟨x, rfl⟩ : ∃ k : Nat, a = k := ⟨a.toNat, by omega⟩
                obtain ⟨y, rfl⟩ : ∃ k : Nat, bb = k := ⟨bb.toNat, by omega⟩
                have hx : x < N := by omega
                have hy : y < N := by omega
                have C6 := Lib.hid (refGroups N me HP.out HEL.out hN (by omega) HE.out)
                go_wp2_with fail
                refine C6.out.mono ?_
                rintro e w3 ⟨V, cl, rfl, hol, hb3⟩
                have HB3 : Hid (Below w.heap.size w w3) := HB.out.trans (hb3.mono HB.out.size)
                have HP3 := Lib.hid (HP.out.below hb3)
                have HU3 := Lib.hid (HU.out.below hb3 (fun z hz => Nat.lt_of_lt_of_le (HUB.out z hz) HBS.out) (Nat.le_refl _))
                have HBS3 : Hid (B1 ≤ w3.heap.size) := Nat.le_trans HBS.out hb3.size
                obtain ⟨gl, cgl, hV, _, _⟩ := hol.form (by omega)
                simp only [Value.slice.injEq, true_and] at hV
                obtain ⟨rfl, rfl⟩ := hV
                have hlx : w3.cell? ⟨gl, x, none⟩ = some (.int .i64 (labels E x : Int)) := by rw [hol.cellAt x (by omega)]; exact intsF_at hx
                have hly : w3.cell? ⟨gl, y, none⟩ = some (.int .i64 (labels E y : Int)) := by rw [hol.cellAt y (by omega)]; exact intsF_at hy
                have g1 : decide ((x : Int) < 0) = false := decide_eq_false (by omega)
                have g2 : decide ((N : Int) ≤ (x : Int)) = false := decide_eq_false (by omega)
                have g3 : decide ((y : Int) < 0) = false := decide_eq_false (by omega)
                have g4 : decide ((N : Int) ≤ (y : Int)) = false := decide_eq_false (by omega)
                obtain ⟨t, ht⟩ : ∃ t, t = decide (labels E x ≠ labels E y) := ⟨_, rfl⟩
                have htt : ((labels E x : Int) != (labels E y : Int)) = t := by
                  rw [ht]
                  by_cases h : labels E x = labels E y
                  · simp [h]
                  · have h3 : ((labels E x : Nat) : Int) ≠ (labels E y : Int) := by omega
                    simp [h, h3]
                have HT := Lib.hid ht
                clear hb3 C6 HP HU HB HBS ht hol
                go_upto_region 18 with fail
                go_quiet (fail)
                have hbd : Below w3.heap.size w3 (w3.drewN nq) := below_drewN (Below.refl _ _) nq
                have HP4 : Hid (PairsIn (w3.drewN nq) B1 O co hs E) := HP3.out.below hbd
                have HU4 : Hid (UG (w3.drewN nq) w.heap.size p N U cu S cs R) := HU3.out.below hbd (fun z hz => Nat.lt_of_lt_of_le (HUB.out z hz) HBS3.out) (Nat.le_refl _)
                have HB4 : Hid (Below w.heap.size w (w3.drewN nq)) := below_drewN HB3.out nq
                have HBS4 : Hid (B1 ≤ (w3.drewN nq).heap.size) := HBS3.out
                clear hlx hly hbd HP3 HU3 HB3 HBS3 htt
                generalize w3.drewN nq = w4 at HP4 HU4 HB4 HBS4 ⊢
                have hbs := HBS4.out
                have hsz4 := HB4.out.size
                have hnr : Row (w4.alloc (.cells #[.int .i64 (x : Int), .int .i64 (y : Int)] 3)) w4.heap.size 3 [.int .i64 (x : Int), .int .i64 (y : Int)] := Row.new _ _ _
                have HNR := Lib.hid hnr
                have hnew : ∀ i : Nat, ((w4.alloc (.cells #[.int .i64 (x : Int), .int .i64 (y : Int)] 3)).alloc (.cells #[.slice (some ⟨w4.heap.size, 0, none⟩) 2 2] 29)).cell? ⟨w4.heap.size + 1, i, none⟩ = ([.slice (some ⟨w4.heap.size, 0, none⟩) 2 2] : List Value)[i]? := fun i => by
                  simp
                have HNEW := Lib.hid hnew
                have hlen := HP4.out.len
                have hrsl : hs.length = me := by rw [hlen, HEL.out]
                have HRSL := Lib.hid hrsl
                have HRI := Lib.hid ((HP4.out.1.alloc (.cells #[.int .i64 (x : Int), .int .i64 (y : Int)] 3)).alloc (.cells #[.slice (some ⟨w4.heap.size, 0, none⟩) 2 2] 29))
                have hown := HRI.out.out
                rw [hrsl] at hown
                have HOWN := Lib.hid hown
                clear hnr hnew hlen hrsl hown
                go_wp2_with (at_builtin; refine wp_push _ rfl (.tmp 91) (.tmp 95) 22 rfl B1 29 1 24 _ Tryd.underlying22 info_ints rfl (by omega) O me co (hs.map RV.val) rfl HOWN.out (w4.heap.size + 1) 1 [.slice (some ⟨w4.heap.size, 0, none⟩) 2 2] rfl rfl (fun i u hu => (HNEW.out i).trans hu) (by intro u hu; simp at hu; subst hu; rfl) (by omega) (by omega) (by simp; omega) ?_; intro g1' c1' w5 ho5 hb5 hg5 hgr5 hat5)
                have HP5 : Hid (PairsIn w5 B1 (some ⟨g1', 0, none⟩) c1' (hs ++ [⟨some ⟨w4.heap.size, 0, none⟩, 2, [(x : Int), (y : Int)]⟩]) (E ++ [(x, y)])) := by
                  refine ⟨RowsIn.pushRow HRI.out (row2_own (HNR.out.alloc _) hbs) (fun s hs' g e1 e2 => ?_) ?_ ?_, ?_⟩
                  · have h1 := (HP4.out.1.rows s hs').lt g e1
                    simp only [RV.val, Value.ownBlock, Option.some.injEq] at e2
                    omega
                  · rw [HRSL.out]; exact ho5
                  · rw [HRSL.out]; exact hgr5
                  · rw [List.map_append, List.map_append, HP4.out.2]; rfl
                have hB5 : Below B1 w4 w5 := (((Below.refl B1 w4).alloc hbs _).alloc (by simp; omega) _).trans hb5
                have HU5 : Hid (UG w5 w.heap.size p N U cu S cs R) := HU4.out.below hB5 (fun z hz => HUB.out z hz) hbs
                have HB5 : Hid (Below w.heap.size w w5) := HB4.out.trans (hB5.mono HWB.out)
                have HBS5 : Hid (B1 ≤ w5.heap.size) := Nat.le_trans hbs hB5.size
                have HEL5 : Hid ((E ++ [(x, y)]).length = me + 1) := by show _ = _; rw [List.length_append, HEL.out]; rfl
                clear ho5 hb5 hgr5 hat5 hB5
                go_wp2
                go_meet
                exact ⟨some ⟨g1', 0, none⟩, c1', _, E ++ [(x, y)], me + 1, 0, t, rfl, rfl, rfl, by omega, HEL5.out, Or.inl ⟨x, y, rfl, rfl, hx, hy, rfl, rfl, HT.out⟩, HP5.out, HU5.out, HB5.out, HBS5.out⟩
            case rest =>
            obtain ⟨O', co', hs', E', me', er, t, rfl, rfl, rfl, hme', HEL', HST, HP', HU', HB', HBS'⟩ := hcut
            clear HEL HP HU HB HBS
            have CJ := Lib.hid (joinG a bb HU'.out HGN.out)
            go_wp2_with fail
            refine CJ.out.mono ?_
            rintro e w6 ⟨nw, R', rfl, hu6, hgn6, hk6', hroots, hnw⟩
            obtain ⟨hgn7, hE7, herr, htw⟩ := step_join HST.out HE.out HGN.out hgn6 hnw
            rw [herr]
            subst htw
            obtain ⟨ev, hev⟩ : ∃ ev, ev = errV er := ⟨_, rfl⟩
            rw [← hev]
            have HU6 := Lib.hid hu6
            have HGN6 := Lib.hid hgn7
            have HE6 := Lib.hid hE7
            have HB6 : Hid (Below w.heap.size w w6) := HB'.out.trans (ug_below HU'.out hk6' (Nat.le_refl _) HB'.out.size)
            have HP6 : Hid (PairsIn w6 B1 O' co' hs' E') := ⟨HP'.out.1.keeps hk6' (fun z hz => HUB.out z hz), HP'.out.2⟩
            have HBS6 : Hid (B1 ≤ w6.heap.size) := Nat.le_trans HBS'.out hk6'.size
            have C8 : Hid (Calls Tryd.prog 5 #[ev, .int .i64 er] w6 fun r w' => r = .returned (.bool true) ∧ Below w6.heap.size w6 w') := by rw [hev]; exact error_same er w6 (HGT.out.below HB6.out hpos)
            have hbn : (nw != nw) = false := by simp
            clear hu6 hgn6 hk6' hroots hnw hgn7 hE7 herr hev CJ HST HP' HU' HB' HBS' HGN HE
            go_wp2_with fail
            refine C8.out.mono ?_
            rintro e w7 ⟨rfl, hb7⟩
            have HU7 : Hid (UG w7 w.heap.size p N U cu S cs R') := HU6.out.below hb7 (fun x hx => (HU6.out.base_le x hx).2) (Nat.le_refl _)
            have HP7 : Hid (PairsIn w7 B1 O' co' hs' E') := HP6.out.below hb7
            have HB7 : Hid (Below w.heap.size w w7) := HB6.out.trans (hb7.mono HB6.out.size)
            have HBS7 : Hid (B1 ≤ w7.heap.size) := Nat.le_trans HBS6.out hb7.size
            have C9 := Lib.hid (refGroups N me' HP7.out HEL'.out hN (by omega) HE6.out)
            clear hb7 C8 HU6 HP6 HB6 HBS6
            go_wp2_with fail
            refine C9.out.mono ?_
            rintro e w8 ⟨V, cl, rfl, hol, hb8⟩
            have hcan := canon_labels HE6.out
            have hsg := same_groups HGN6.out hcan.gen
            have HSG := Lib.hid hsg
            have HKER : Hid (∀ x y, x < N → y < N → (R' x = R' y ↔ labels E' x = labels E' y)) := same_kernel HGN6.out hcan.gen
            have HU8 : Hid (UG w8 w.heap.size p N U cu S cs R') := HU7.out.below hb8 (fun x hx => (HU7.out.base_le x hx).2) (Nat.le_refl _)
            have HP8 : Hid (PairsIn w8 B1 O' co' hs' E') := HP7.out.below hb8
            have HB8 : Hid (Below w.heap.size w w8) := HB7.out.trans (hb8.mono HB7.out.size)
            have HBS8 : Hid (B1 ≤ w8.heap.size) := Nat.le_trans HBS7.out hb8.size
            have HL8 : Hid (w8.ownsRow B1 3 1 (.slice V N cl) N (intsF N fun x => (labels E' x : Int))) := own_lower hol HBS7.out
            have C10 := Lib.hid (refAll V N cl (labels E') w8 (hol.own (by omega)) hN hcan.le hcan.idem)
            clear hb8 hol C9 HU7 HP7 HB7 HBS7 hcan hsg
            go_wp2_with fail
            refine C10.out.mono ?_
            rintro e w9 ⟨O1, co1, rs1, rfl, hri1, hx1, hb9⟩
            have HU9 : Hid (UG w9 w.heap.size p N U cu S cs R') := HU8.out.below hb9 (fun x hx => (HU8.out.base_le x hx).2) (Nat.le_refl _)
            have HP9 : Hid (PairsIn w9 B1 O' co' hs' E') := HP8.out.below hb9
            have HB9 : Hid (Below w.heap.size w w9) := HB8.out.trans (hb9.mono HB8.out.size)
            have HBS9 : Hid (B1 ≤ w9.heap.size) := Nat.le_trans HBS8.out hb9.size
            have HL9 : Hid (w9.ownsRow B1 3 1 (.slice V N cl) N (intsF N fun x => (labels E' x : Int))) := own_still HL8.out hb9
            have HR9 : Hid (RowsIn w9 B1 O1 co1 rs1) := ⟨own_lower hri1.out HBS8.out, fun r hr => own_lower (hri1.rows r hr) HBS8.out, hri1.apart⟩
            have HX1 : Hid (rs1.map RV.xs = groupsOf R' N) := hx1.trans HSG.out.symm
            have hroot : roots N R' = rs1.length := by
              have h1 := groups_roots (R := R') (n := N) (fun x hx => HU9.out.lt hx) (fun x hx => HU9.out.idem hx)
              rw [← h1, ← HX1.out, List.length_map]
            have C11 := many_ HU9.out
            rw [hroot] at C11
            have C11' := Lib.hid C11
            have C12 := Lib.hid (all_ HU9.out)
            clear hb9 hri1 hx1 hroot C11 C10 HU8 HP8 HB8 HBS8 HL8
            go_wp2_with fail
            refine C11'.out.mono ?_
            rintro e w9' ⟨rfl, rfl⟩
            go_wp2_with fail
            refine C12.out.mono ?_
            rintro e w10 ⟨O2, co2, rs2, rfl, hri2, hx2, hu10, hk10⟩
            have hr1 : RowsIn w10 B1 O1 co1 rs1 := HR9.out.keeps hk10 (fun z hz => HUB.out z hz)
            have hlen : rs2.length = rs1.length := by
              have h1 := congrArg List.length (hx2.trans HX1.out.symm)
              simpa using h1
            have hl60 : rs2.length ≤ 60 := by
              have h1 := congrArg List.length hx2
              have h2 := firsts_len R' N
              rw [List.length_map, groups_len] at h1
              omega
            have C13 := rows_same O2 O1 rs2.length co2 rs1.length co1 rs2 rs1 w10 hri2.reads rfl (by omega) hr1.reads rfl (groups_rows hx2 hN)
            rw [eqR_true (hx2.trans HX1.out.symm)] at C13
            have C13' := Lib.hid C13
            have HU10 := Lib.hid hu10
            have HP10 : Hid (PairsIn w10 B1 O' co' hs' E') := ⟨HP9.out.1.keeps hk10 (fun z hz => HUB.out z hz), HP9.out.2⟩
            have HB10 : Hid (Below w.heap.size w w10) := HB9.out.trans (ug_below HU9.out hk10 (Nat.le_refl _) HB9.out.size)
            have HBS10 : Hid (B1 ≤ w10.heap.size) := Nat.le_trans HBS9.out hk10.size
            have HL10 : Hid (w10.ownsRow B1 3 1 (.slice V N cl) N (intsF N fun x => (labels E' x : Int))) := hk10.own HL9.out (fun z hz hm => by have h1 := HUB.out z hm; have h2 := (HL9.out.lt z hz).1; omega)
            clear hr1 hlen hl60 C13 hri2 hx2 hu10 hk10 C12 C11' HU9 HP9 HB9 HBS9 HL9 HR9
            go_wp2_with fail
            refine C13'.out.mono ?_
            rintro e w11 ⟨rfl, q, rfl⟩
            have HU11 : Hid (UG (w10.drewN q) w.heap.size p N U cu S cs R') := HU10.out.keeps (Keeps.drewN (Keeps.refl [] _) _) (fun _ _ => by simp)
            have HP11 : Hid (PairsIn (w10.drewN q) B1 O' co' hs' E') := HP10.out.below (below_drewN (Below.refl _ _) q)
            have HB11 : Hid (Below w.heap.size w (w10.drewN q)) := below_drewN HB10.out q
            have HBS11 : Hid (B1 ≤ (w10.drewN q).heap.size) := HBS10.out
            have HL11 : Hid ((w10.drewN q).ownsRow B1 3 1 (.slice V N cl) N (intsF N fun x => (labels E' x : Int))) := own_still HL10.out (below_drewN (Below.refl _ _) q)
            generalize w10.drewN q = wa at HU11 HP11 HB11 HBS11 HL11 ⊢
            obtain ⟨kq, hkq⟩ : ∃ kq : Nat, kq = k % 7 := ⟨_, rfl⟩
            have hkqz : (k : Int).tmod 7 = (kq : Int) := by rw [hkq, Int.tmod_eq_emod_of_nonneg (by omega)]; omega
            have HKQ := Lib.hid hkq
            have C14 := Lib.hid (sameG a (kq : Int) HU11.out)
            clear hkq C13' HU10 HP10 HB10 HBS10 HL10
            go_wp2_with fail
            refine C14.out.mono ?_
            rintro e w12 ⟨rfl, hu12, hk12⟩
            obtain ⟨gk, hgk⟩ : ∃ gk, gk = inG N a (kq : Int) := ⟨_, rfl⟩
            rw [← hgk]
            have HGK := Lib.hid hgk
            have HU12 := Lib.hid hu12
            have HP12 : Hid (PairsIn w12 B1 O' co' hs' E') := ⟨HP11.out.1.keeps hk12 (fun z hz => HUB.out z hz), HP11.out.2⟩
            have HB12 : Hid (Below w.heap.size w w12) := HB11.out.trans (ug_below HU11.out hk12 (Nat.le_refl _) HB11.out.size)
            have HBS12 : Hid (B1 ≤ w12.heap.size) := Nat.le_trans HBS11.out hk12.size
            have HL12 : Hid (w12.ownsRow B1 3 1 (.slice V N cl) N (intsF N fun x => (labels E' x : Int))) := hk12.own HL11.out (fun z hz hm => by have h1 := HUB.out z hm; have h2 := (HL11.out.lt z hz).1; omega)
            clear hgk hu12 hk12 C14 HU11 HP11 HB11 HBS11 HL11
            obtain ⟨same, hsame⟩ : ∃ same, same = (gk && oneB R' a.toNat (kq : Int).toNat) := ⟨_, rfl⟩
            rw [← hsame]
            have HSAME := Lib.hid hsame
            obtain ⟨ev2, hev2⟩ : ∃ ev2, ev2 = errV (if gk = true then 0 else 1) := ⟨_, rfl⟩
            rw [← hev2]
            have HEV := Lib.hid hev2
            clear hsame hev2
            have hkqw : IntKind.i64.wrap (kq : Int) = (kq : Int) := by rw [IntKind.wrap_i64]; have := HKQ.out; omega
            go_upto_region 29 with fail
            go_cut [150] from 139 to 150 (fun z wx => z = .bool (!gk) ∧ wx = w12)
            case first =>
              by_cases q1 : a < 0
              · have HV : Hid (gk = false) := by rw [HGK.out]; exact inG_false (by omega)
                go_wp2
                go_meet
                exact ⟨by rw [HV.out]; rfl, rfl⟩
              · by_cases q2 : (N : Int) ≤ a
                · have HV : Hid (gk = false) := by rw [HGK.out]; exact inG_false (by omega)
                  go_wp2
                  go_meet
                  exact ⟨by rw [HV.out]; rfl, rfl⟩
                · by_cases q3 : (N : Int) ≤ (kq : Int)
                  · have HV : Hid (gk = false) := by rw [HGK.out]; exact inG_false (by omega)
                    go_wp2
                    go_meet
                    exact ⟨by rw [HV.out]; rfl, rfl⟩
                  · have HV : Hid (gk = true) := by rw [HGK.out]; exact inG_true (by omega)
                    go_wp2
                    go_meet
                    exact ⟨by rw [HV.out]; rfl, rfl⟩
            case rest =>
            obtain ⟨rfl, hwc⟩ := hcut
            replace hwc := hwc.symm
            subst hwc
            have hgt : ErrT w12 := HGT.out.below HB12.out hpos
            have mixed : Tryd.prog.follows .mixedOrders = true := by kernel_rfl
            cases gk with
            | false =>
              have he2 : ev2 = .iface 38 (.int .i64 1) := HEV.out.trans (by rw [if_neg (by simp)]; exact errV_bad (by omega))
              have hs2 : same = false := HSAME.out
              subst he2 hs2
              have hcG : ∀ n os, Calls Tryd.prog 5 #[.iface 38 (.int .i64 1), .int .i64 1] (grow (w12.drewN n) os) fun e w' => e = .returned (.bool true) ∧ ∃ q os', w' = grow ((grow (w12.drewN n) os).drewN q) os' := fun n os => by
                rw [← errV_bad (show (1 : Int) ≠ 0 by omega)]
                exact error_sameG 1 _ (errT_grow (hgt : ErrT (w12.drewN n)) os)
              have h10 : ((1 : Int) == 0) = false := by decide
              clear hgt HSAME HEV hkqw
              go_wp2_with fail
              refine wp_region_quiet_grown (by assumption) (by kernel_rfl) ?_
              quiet_step ((first | (go_at_call 5; refine Calls.grown_of (hcG _ _))))
              quiet_step ((first | (go_at_call 5; refine Calls.grown_of (hcG _ _))))
              quiet_step ((first | (go_at_call 5; refine Calls.grown_of (hcG _ _))))
              with_reducible refine wpQuiet_step (fun K hK => ?_)
              go_simp
              with_reducible refine hK _ ?_
              clear hK K
              with_reducible refine wpQuiet_step (fun K hK => ?_)
              go_simp
              with_reducible refine hK _ ?_
              clear hK K
              with_reducible refine wpQuiet_step (fun K hK => ?_)
              go_simp
              with_reducible refine hK _ ?_
              clear hK K
              with_reducible refine wpQuiet_step (fun K hK => ?_)
              go_simp
              with_reducible refine hK _ ?_
              clear hK K
              with_reducible refine wpQuiet_step (fun K hK => ?_)
              go_simp
              with_reducible refine hK _ ?_
              clear hK K
              with_reducible refine wpQuiet_step (fun K hK => ?_)
              go_simp
              with_reducible refine hK _ ?_
              clear hK K
              with_reducible refine wpQuiet_step (fun K hK => ?_)
              go_simp
              with_reducible refine hK _ ?_
              clear hK K
              with_reducible refine wpQuiet_step (fun K hK => ?_)
              go_simp
              with_reducible refine hK _ ?_
              clear hK K
              with_reducible refine wpQuiet_step (fun K hK => ?_)
              go_simp
              with_reducible refine hK _ ?_
              clear hK K
              with_reducible refine wpQuiet_step (fun K hK => ?_)
              go_simp
              with_reducible refine hK _ ?_
              clear hK K
              with_reducible refine wpQuiet_step (fun K hK => ?_)
              go_simp
              with_reducible refine hK _ ?_
              clear hK K
              with_reducible refine wpQuiet_step (fun K hK => ?_)
              go_simp
              with_reducible refine hK _ ?_
              clear hK K
              with_reducible refine wpQuiet_step (fun K hK => ?_)
              go_simp
              with_reducible refine hK _ ?_
              clear hK K
              with_reducible refine wpQuiet_step (fun K hK => ?_)
              go_simp
              with_reducible refine hK _ ?_
              clear hK K
              with_reducible refine wpQuiet_step (fun K hK => ?_)
              go_simp
              with_reducible refine hK _ ?_
              clear hK K
              with_reducible refine wpQuiet_step (fun K hK => ?_)
              go_simp
              with_reducible refine hK _ ?_
              clear hK K
              with_reducible refine wpQuiet_step (fun K hK => ?_)
              go_simp
              with_reducible refine hK _ ?_
              clear hK K
              with_reducible refine wpQuiet_step (fun K hK => ?_)
              go_simp
              with_reducible refine hK _ ?_
              clear hK K
              with_reducible refine wpQuiet_nil ?_
              intro _ hw'
              obtain ⟨⟨nq, osq⟩, hw''⟩ := hw'
              subst hw''
              have hbd := grown_below w12 nq osq
              have HU13 : Hid (UG (grow (w12.drewN nq) osq) w.heap.size p N U cu S cs R') := HU12.out.below hbd (fun x hx => (HU12.out.base_le x hx).2) (Nat.le_refl _)
              have HP13 : Hid (PairsIn (grow (w12.drewN nq) osq) B1 O' co' hs' E') := HP12.out.below hbd
              have HB13 : Hid (Below w.heap.size w (grow (w12.drewN nq) osq)) := HB12.out.trans (hbd.mono HB12.out.size)
              have HBS13 : Hid (B1 ≤ (grow (w12.drewN nq) osq).heap.size) := Nat.le_trans HBS12.out hbd.size
              clear hbd hcG HL12
              generalize grow (w12.drewN nq) osq = w13 at HU13 HP13 HB13 HBS13 ⊢
              go_wp2
              go_roundw
              case rel => exact ⟨k + 1, O', co', hs', E', R', me', by go_num, by omega, by omega, rfl, by omega, HEL'.out, HP13.out, HE6.out, HU13.out, HGN6.out, HB13.out, HBS13.out⟩
              case measure => simp [intOf]; omega
            | true =>
              have hr : 0 ≤ a ∧ a < N ∧ 0 ≤ (kq : Int) ∧ (kq : Int) < N := of_decide_eq_true HGK.out.symm
              obtain ⟨ha0, ha1, hb0, hb1⟩ := hr
              obtain ⟨x, rfl⟩ : ∃ k : Nat, a = k := ⟨a.toNat, by omega⟩
              have hx : x < N := by omega
              have hy : kq < N := by omega
              have he2 : ev2 = .nilIface := HEV.out.trans (by rw [if_pos rfl]; rfl)
              subst he2
              have hsm : ((labels E' x : Int) == (labels E' kq : Int)) = same := by
                rw [HSAME.out, Bool.true_and, Int.toNat_natCast, Int.toNat_natCast]
                have h1 := HKER.out x kq hx hy
                unfold oneB
                rw [Bool.eq_iff_iff, decide_eq_true_iff, h1, beq_iff_eq]
                omega
              obtain ⟨gl, cgl, hV, _, _⟩ := HL12.out.form (by omega)
              simp only [Value.slice.injEq, true_and] at hV
              obtain ⟨rfl, rfl⟩ := hV
              have hglt : gl < w12.heap.size := (HL12.out.lt gl rfl).2
              have hlx : ∀ n os, (grow (w12.drewN n) os).cell? ⟨gl, x, none⟩ = some (.int .i64 (labels E' x : Int)) := cell_grown hglt (by rw [HL12.out.cellAt x (by omega)]; exact intsF_at hx)
              have hly : ∀ n os, (grow (w12.drewN n) os).cell? ⟨gl, kq, none⟩ = some (.int .i64 (labels E' kq : Int)) := cell_grown hglt (by rw [HL12.out.cellAt kq (by omega)]; exact intsF_at hy)
              have hcG : ∀ n os, Calls Tryd.prog 5 #[.nilIface, .int .i64 0] (grow (w12.drewN n) os) fun e w' => e = .returned (.bool true) ∧ ∃ q os', w' = grow ((grow (w12.drewN n) os).drewN q) os' := fun n os => by
                rw [← errV_zero]
                exact error_sameG 0 _ (errT_grow (hgt : ErrT (w12.drewN n)) os)
              clear hgt HSAME HEV hkqw hglt
              go_wp2_with fail
              refine wp_region_quiet_grown (by assumption) (by kernel_rfl) ?_
              quiet_step ((first | (go_at_call 5; refine Calls.grown_of (hcG _ _))))
              quiet_step ((first | (go_at_call 5; refine Calls.grown_of (hcG _ _))))
              quiet_step ((first | (go_at_call 5; refine Calls.grown_of (hcG _ _))))
              with_reducible refine wpQuiet_step (fun K hK => ?_)
              go_simp
              with_reducible refine hK _ ?_
              clear hK K
              with_reducible refine wpQuiet_step (fun K hK => ?_)
              go_simp
              with_reducible refine hK _ ?_
              clear hK K
              with_reducible refine wpQuiet_step (fun K hK => ?_)
              go_simp
              with_reducible refine hK _ ?_
              clear hK K
              with_reducible refine wpQuiet_step (fun K hK => ?_)
              go_simp
              with_reducible refine hK _ ?_
              clear hK K
              with_reducible refine wpQuiet_step (fun K hK => ?_)
              go_simp
              with_reducible refine hK _ ?_
              clear hK K
              with_reducible refine wpQuiet_step (fun K hK => ?_)
              go_simp
              with_reducible refine hK _ ?_
              clear hK K
              with_reducible refine wpQuiet_step (fun K hK => ?_)
              go_simp
              with_reducible refine hK _ ?_
              clear hK K
              with_reducible refine wpQuiet_step (fun K hK => ?_)
              go_simp
              with_reducible refine hK _ ?_
              clear hK K
              with_reducible refine wpQuiet_step (fun K hK => ?_)
              go_simp
              with_reducible refine hK _ ?_
              clear hK K
              with_reducible refine wpQuiet_step (fun K hK => ?_)
              go_simp
              with_reducible refine hK _ ?_
              clear hK K
              with_reducible refine wpQuiet_step (fun K hK => ?_)
              go_simp
              with_reducible refine hK _ ?_
              clear hK K
              with_reducible refine wpQuiet_step (fun K hK => ?_)
              go_simp
              with_reducible refine hK _ ?_
              clear hK K
              with_reducible refine wpQuiet_step (fun K hK => ?_)
              go_simp
              with_reducible refine hK _ ?_
              clear hK K
              with_reducible refine wpQuiet_step (fun K hK => ?_)
              go_simp
              with_reducible refine hK _ ?_
              clear hK K
              with_reducible refine wpQuiet_step (fun K hK => ?_)
              go_simp
              with_reducible refine hK _ ?_
              clear hK K
              with_reducible refine wpQuiet_step (fun K hK => ?_)
              go_simp
              with_reducible refine hK _ ?_
              clear hK K
              with_reducible refine wpQuiet_step (fun K hK => ?_)
              go_simp
              with_reducible refine hK _ ?_
              clear hK K
              with_reducible refine wpQuiet_step (fun K hK => ?_)
              go_simp
              with_reducible refine hK _ ?_
              clear hK K
              clear hlx hly
              with_reducible refine wpQuiet_nil ?_
              intro _ hw'
              obtain ⟨⟨nq, osq⟩, hw''⟩ := hw'
              subst hw''
              have hbd := grown_below w12 nq osq
              have HU13 : Hid (UG (grow (w12.drewN nq) osq) w.heap.size p N U cu S cs R') := HU12.out.below hbd (fun x hx => (HU12.out.base_le x hx).2) (Nat.le_refl _)
              have HP13 : Hid (PairsIn (grow (w12.drewN nq) osq) B1 O' co' hs' E') := HP12.out.below hbd
              have HB13 : Hid (Below w.heap.size w (grow (w12.drewN nq) osq)) := HB12.out.trans (hbd.mono HB12.out.size)
              have HBS13 : Hid (B1 ≤ (grow (w12.drewN nq) osq).heap.size) := Nat.le_trans HBS12.out hbd.size
              clear hbd hcG HL12
              generalize grow (w12.drewN nq) osq = w13 at HU13 HP13 HB13 HBS13 ⊢
              go_wp2
              go_roundw
              case rel => exact ⟨k + 1, O', co', hs', E', R', me', by go_num, by omega, by omega, rfl, by omega, HEL'.out, HP13.out, HE6.out, HU13.out, HGN6.out, HB13.out, HBS13.out⟩
              case measure => simp [intOf]; omega
        · have hk60z : ¬ (k : Int) < 60 := by omega
          go_wp2
          go_ret
          exact ⟨rfl, HB.out⟩
      · have hkz : ¬ (k : Int) < m := by omega
        go_wp2
        go_ret
        exact ⟨rfl, HB.out⟩
  · have c1 := Lib.hid (still_below (P := Tryd.prog) ((new_bad n w hn).mono fun e w' ⟨h1, h2⟩ => ⟨h1, h2.symm⟩))
    have hor : n < 0 ∨ (¬ n < 0 ∧ 60 < n) := by omega
    clear hn
    go_enter Tryd.func3, Tryd.ntmps3
    go_wp2_with fail
    refine c1.out.mono ?_
    rintro e w1 ⟨rfl, hb1⟩
    have HB1 := Lib.hid hb1
    have c2 := Lib.hid (error_bad 1 (by omega) w1 (HGT.out.below HB1.out hpos))
    clear hb1 c1
    rcases hor with h1 | ⟨h1, h2⟩
    all_goals
      go_wp2_with fail
      refine c2.out.mono ?_
      rintro e w2 ⟨rfl, hb2⟩
      have HB2 : Hid (Below w.heap.size w w2) := HB1.out.trans (hb2.mono HB1.out.size)
      clear hb2 c2
      go_wp2
      go_ret
      exact ⟨rfl, HB2.out⟩
end Go.Proofs.YtblblgmmgalmeaaDoor
