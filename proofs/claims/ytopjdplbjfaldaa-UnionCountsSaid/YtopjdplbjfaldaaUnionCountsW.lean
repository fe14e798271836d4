/- The walk of UnionCounts. Conditions: lengths are such that slices can have. -/
import Derived.Test.YtopjdplbjfaldaaUnionLaws
import Derived.Test.YtopjdplbjfaldaaUnionCountsP
import Derived.Deep.RegionHeld3
import Derived.Deep.DeepCutAuto
import Derived.Deep.CutRange
namespace Go.Proofs.Ytopjdplbjfaldaa
open Go.RowKit

theorem unionCounts_bad (n : Int) (A : Option Addr) (m c : Nat) (w : World) (hn : ¬ (0 ≤ n ∧ n ≤ 60)) :
    Calls Try.prog 4 #[.int .i64 n, .slice A m c] w fun e w' => e = .returned (.bool true) ∧ Below w.heap.size w w' := by
  have c0 := Lib.hid (unionFact w)
  have HN := Lib.hid hn
  go_enter Try.func4, Try.ntmps4
  go_wp2_with fail
  refine c0.out.mono ?_
  rintro e w1 ⟨rfl, hb1⟩
  have c1 := Lib.hid (new_bad n w1 HN.out)
  have HB1 := Lib.hid hb1
  clear c0 hb1
  go_wp2_with fail
  refine c1.out.mono ?_
  rintro e w2 ⟨rfl, rfl⟩
  by_cases h : n < 0
  · clear hn
    go_wp2
    go_ret
    exact ⟨rfl, HB1.out⟩
  · have h2 : 60 < n := by omega
    clear hn
    go_wp2
    go_ret
    exact ⟨rfl, HB1.out⟩

set_option maxHeartbeats 4000000 in
set_option maxRecDepth 100000 in
theorem unionCounts_ok (n : Nat) (A : Option Addr) (m c : Nat) (rs : List RV) (w : World) (hA : RowsAt w w.heap.size A rs) (hl : rs.length = m) (hm : m ≤ 9223372036854775807) (hrl : ∀ r ∈ rs, r.xs.length ≤ 9223372036854775807) (hn : n ≤ 60) :
    Calls Try.prog 4 #[.int .i64 (n : Int), .slice A m c] w fun e w' => e = .returned (.bool true) ∧ Below w.heap.size w w' := by
  have c0 := Lib.hid (unionFact w)
  have HL := Lib.hid hl
  have HRL := Lib.hid hrl
  have HM := Lib.hid hm
  clear hl hrl hm
  go_enter Try.func4, Try.ntmps4
  go_wp2_with fail
  refine c0.out.mono ?_
  rintro e w1 ⟨rfl, hb1⟩
  have c1 := Lib.hid (new_ok n w1 hn)
  have HB1 := Lib.hid hb1
  clear c0 hb1
  go_wp2_with fail
  refine c1.out.mono ?_
  rintro e w2 ⟨p, U, cu, S, cs, rfl, hu, hb2⟩
  obtain ⟨base, hbase⟩ : ∃ base, base = w1.heap.size := ⟨_, rfl⟩
  rw [← hbase] at hu
  have hwb : w.heap.size ≤ base := by rw [hbase]; exact HB1.out.size
  have HB2 := Lib.hid (HB1.out.trans (hb2.mono HB1.out.size))
  have HU2 := Lib.hid hu
  have HI2 : Hid (n = roots n id) := (roots_id n).symm
  clear c1 hb2 hu hbase HB1
  go_wp2
  go_loopw [8, 9] (fun l i wr => ∃ (k q : Nat) (R : Nat → Nat) (E : List (Int × Int)), k ≤ m ∧ i = .int .i64 (k : Int) ∧ l = .int .i64 (q : Int) ∧ Hid (q = roots n R) ∧ Hid (UG wr base p n U cu S cs R) ∧ Hid (Gen n E R) ∧ Hid (Below w.heap.size w wr)) (fun _ i _ => m - (intOf i).toNat)
  case atStart => exact ⟨0, n, id, [], Nat.zero_le _, rfl, rfl, HI2, HU2, Gen.start n, HB2⟩
  case round =>
    clear HI2 HU2 HB2
    obtain ⟨k, q, R, E, hk, rfl, rfl, HQ, HU, HG, HB⟩ := hrel
    go_upto_region 9 with fail
    go_cut [41] from 34 to 73 (fun b wx => b = .bool (decide (k < m ∧ k < 60)) ∧ wx = wr)
    case first =>
      by_cases h1 : k < m
      · have h1z : (k : Int) < m := by omega
        by_cases h2 : k < 60
        · have h2z : (k : Int) < 60 := by omega
          go_wp2
          go_meet
          exact ⟨congrArg Value.bool (decide_eq_true (p := k < m ∧ k < 60) ⟨h1, h2⟩).symm, rfl⟩
        · have h2z : ¬ (k : Int) < 60 := by omega
          go_wp2
          go_meet
          exact ⟨congrArg Value.bool (decide_eq_false (p := k < m ∧ k < 60) (by omega)).symm, rfl⟩
      · have h1z : ¬ (k : Int) < m := by omega
        go_wp2
        go_meet
        exact ⟨congrArg Value.bool (decide_eq_false (p := k < m ∧ k < 60) (by omega)).symm, rfl⟩
    case rest =>
    obtain ⟨rfl, rfl⟩ := hcut
    by_cases hin : k < m ∧ k < 60
    · have hdec := decide_eq_true hin
      rw [hdec]
      have hlt := hin.1
      have hk60 := hin.2
      have hlz : (k : Int) < m := by omega
      obtain ⟨b, off, r, rfl, hbb, hr, hc, hrow⟩ := hA.at_k (show k < rs.length by rw [HL.out]; exact hlt)
      have HC1 := Lib.hid hc
      rw [← HB.out.cell (p := ⟨b, off + k, none⟩) hbb] at hc
      have hlr := HRL.out r (List.mem_of_getElem? hr)
      obtain ⟨lr, hlr'⟩ : ∃ lr, lr = r.xs.length := ⟨_, rfl⟩
      rw [← hlr'] at hc hlr HC1
      clear hin hdec
      by_cases h2 : 2 ≤ lr
      · obtain ⟨b2, off2, x, y, hat, hb2, hpo, hx, hy⟩ := pair_cells hrow (by rw [← hlr']; exact h2)
        rw [hat] at hc HC1
        have HX := Lib.hid hx
        have HY := Lib.hid hy
        rw [← HB.out.cell (p := ⟨b2, off2, none⟩) hb2] at hx
        rw [← HB.out.cell (p := ⟨b2, off2 + 1, none⟩) hb2] at hy
        have hl0 : 0 < lr := by omega
        have hl1 : (1 : Int) < lr := by omega
        have hl2 : ¬ (lr : Int) < 2 := by omega
        have hud : UG wc.drew base p n U cu S cs R := HU.out.keeps (Keeps.drew (Keeps.refl [] _)) (fun _ _ => by simp)
        have HUD := Lib.hid hud
        have cj := Lib.hid (joinG x y hud HG.out)
        clear hud hat hpo hrow hA hr hlr'
        go_wp2_with fail
        go_region_held3 (fun W => W.cell? ⟨b, off + k, none⟩ = some (.slice (some ⟨b2, off2, none⟩) lr r.cap) ∧ W.cell? ⟨b2, off2, none⟩ = some (.int .i64 x) ∧ W.cell? ⟨b2, off2 + 1, none⟩ = some (.int .i64 y)) (go_keep)
          (first | (go_at_call 17; refine cj.out.mono ?_; rintro e w8 ⟨t, R', rfl, hu', hg', hk', hroots, _⟩; have HU' := Lib.hid hu'; have HG' := Lib.hid hg'; have HT := Lib.hid hroots; have HB' := Lib.hid (HB.out.trans ((Below.refl _ _).drew.trans (HUD.out.toBelow hk' hwb HB.out.size))); have cm := Lib.hid (many_ hu'); clear hu' hg' hk' hroots; have z1 := (HB'.out.cell (p := ⟨b, off + k, none⟩) hbb).trans HC1.out; have z2 := (HB'.out.cell (p := ⟨b2, off2, none⟩) hb2).trans HX.out; have z3 := (HB'.out.cell (p := ⟨b2, off2 + 1, none⟩) hb2).trans HY.out; obtain ⟨q', hq'⟩ : ∃ q', q' = roots n R' := ⟨_, rfl⟩; have HQ' := Lib.hid hq'; clear hq'; generalize errV (if inG n x y = true then 0 else 1) = er))
        all_goals (
          clear z1 z2 z3 hc hx hy cj
          have hle := roots_le n R
          have HR := HT.out
          rw [← HQ.out, ← HQ'.out] at HR
          rw [← HQ.out] at hle
          cases t)
        · have hqq : q' = q := by simpa using HR
          clear HR
          go_wp2_with fail
          refine cm.out.mono ?_
          rintro e w9 ⟨rfl, rfl⟩
          rw [← HQ'.out, hqq]
          go_wp2
          go_roundw
          case rel => exact ⟨k + 1, q, R', _, by omega, by go_num, rfl, hqq ▸ HQ', HU', HG', HB'⟩
          case measure => simp [intOf]; omega
        · have hqq : q' + 1 = q := by simpa using HR
          have hw : IntKind.i64.wrap ((q : Int) - 1) = (q' : Int) := by rw [IntKind.wrap_i64]; omega
          clear HR
          go_wp2_with fail
          refine cm.out.mono ?_
          rintro e w9 ⟨rfl, rfl⟩
          rw [← HQ'.out]
          clear hw
          go_wp2
          go_roundw
          case rel => exact ⟨k + 1, q', R', _, by omega, by go_num, rfl, HQ', HU', HG', HB'⟩
          case measure => simp [intOf]; omega
      · have hl2 : (lr : Int) < 2 := by omega
        clear hA hrow
        go_wp2
        go_roundw
        case rel => exact ⟨k + 1, q, R, E, by omega, by go_num, rfl, HQ, HU, HG, HB⟩
        case measure => simp [intOf]; omega
    · rw [decide_eq_false hin]
      clear hA hin HG HL HRL HM
      have c3 := Lib.hid (all_ HU.out)
      have hs0 := HB.out.size
      go_wp2_with fail
      refine c3.out.mono ?_
      rintro e w3 ⟨O, co, gs, rfl, hr3, hX3, hU3, hK3⟩
      have HR3 := Lib.hid hr3.reads
      have HX3 := Lib.hid hX3
      have HB3 := Lib.hid (HB.out.trans (HU.out.toBelow hK3 hwb HB.out.size))
      have HQL : Hid (gs.length = q) := by
        have e1 := congrArg List.length hX3
        have e2 := HU.out.roots
        rw [List.length_map] at e1
        show _ = _
        rw [HQ.out, e2, ← e1]
      have hgl : gs.length ≤ 60 := by
        have := roots_le n R
        have e1 := HQL.out; have e2 := HQ.out; omega
      have HGX : Hid (∀ r ∈ gs, r.xs.length ≤ 60) := fun r hr => by
        have hm : r.xs ∈ gs.map RV.xs := List.mem_map_of_mem hr
        rw [hX3] at hm
        have := groups_len _ hm; omega
      have hmk := make_row 35 3 (.int .i64 0) 8 Try.underlying35 info_int rfl n (by omega) (by omega)
      have HROW : Hid (Row (w3.alloc (.cells (madeCells #[.int .i64 0] n) 3)) w3.heap.size 3 (cntRow n (upTo gs 0))) := by
        show Row _ _ _ _
        rw [show upTo gs 0 = [] by simp [upTo], ← cntRow_nil]; exact Row.made _ _ _ _
      have HBA : Hid (Below w3.heap.size w3 (w3.alloc (.cells (madeCells #[.int .i64 0] n) 3))) := (Below.refl _ _).alloc (Nat.le_refl _) _
      obtain ⟨L, hL⟩ : ∃ L, L = gs.length := ⟨_, rfl⟩
      rw [← hL] at hgl ⊢
      have HLL := Lib.hid hL
      clear hr3 hX3 hU3 hK3 hL c3 HU
      go_wp2
      clear hmk
      go_loopw [14] (fun i wx => ∃ (j : Nat), j ≤ L ∧ i = .int .i64 (j : Int) ∧ Hid (Row wx w3.heap.size 3 (cntRow n (upTo gs j))) ∧ Hid (Below w3.heap.size w3 wx)) (fun i _ => L - (intOf i).toNat)
      case atStart => exact ⟨0, Nat.zero_le _, rfl, HROW, HBA⟩
      case round =>
        clear HROW HBA
        obtain ⟨j, hj, rfl, HROW, HBA⟩ := hrel
        by_cases hjl : j < L
        · have hjz : (j : Int) < L := by omega
          obtain ⟨b, off, g, rfl, hbb, hg, hc, hrow⟩ := HR3.out.at_k (show j < gs.length by rw [← HLL.out]; exact hjl)
          have HGG := Lib.hid hg
          have hg60 := HGX.out g (List.mem_of_getElem? hg)
          obtain ⟨lg, hlg⟩ : ∃ lg, lg = g.xs.length := ⟨_, rfl⟩
          rw [← hlg] at hc hg60
          have HLG := Lib.hid hlg
          have HC := Lib.hid hc
          clear hlg hc hg
          go_wp2
          go_loopw [15] (fun i wy => ∃ (t : Nat), t ≤ lg ∧ i = .int .i64 (t : Int) ∧ Hid (Row wy w3.heap.size 3 (cntRow n (upTo gs j ++ g.xs.take t))) ∧ Hid (Below w3.heap.size w3 wy)) (fun i _ => lg - (intOf i).toNat)
          case atStart => exact ⟨0, Nat.zero_le _, rfl, by show Row _ _ _ _; simpa using HROW.out, HBA⟩
          case round =>
            clear HROW HBA
            obtain ⟨t, ht, rfl, HROW, HBA⟩ := hrel
            have hc := HC.out
            rw [← HBA.out.cell (p := ⟨b, off + j, none⟩) hbb] at hc
            by_cases htl : t < lg
            · have htz : (t : Int) < lg := by omega
              obtain ⟨b2, off2, x, hat, hb2, hx, hcx⟩ := ints_at hrow (show t < g.xs.length by rw [← HLG.out]; exact htl)
              rw [hat] at hc
              rw [← HBA.out.cell (p := ⟨b2, off2 + t, none⟩) hb2] at hcx
              obtain ⟨y, hy, rfl, hcnt⟩ := upTo_new HX3.out HGG.out hx
              have hy0 : ¬ ((y : Int) < 0) := by omega
              have hyn : ¬ ((n : Int) ≤ y) := by omega
              have hynz : (y : Int) < n := by omega
              have hcy := HROW.out.cell y
              rw [cntRow_at hy, hcnt] at hcy
              have hfy := HROW.out.frozen y
              have HNEXT : Hid (Row (wr.setCell ⟨w3.heap.size, y, none⟩ (.int .i64 1)) w3.heap.size 3 (cntRow n (upTo gs j ++ g.xs.take (t + 1)))) := by
                show Row _ _ _ _
                rw [List.take_add_one, hx, Option.toList_some, ← List.append_assoc, ← cntRow_set hcnt]
                exact HROW.out.set_ _ _
              clear hat hx hcnt hrow
              go_wp2
              go_roundw
              case rel => exact ⟨t + 1, by omega, by go_num, HNEXT, HBA.out.setCell (Nat.le_refl _) _⟩
              case measure => simp [intOf]; omega
            · have htl' : t = lg := by omega
              subst htl'
              have htz : ¬ (t : Int) < t := by omega
              have HNEXT : Hid (Row wr w3.heap.size 3 (cntRow n (upTo gs (j + 1)))) := by
                have := HROW.out
                rw [List.take_of_length_le (by rw [← HLG.out]; omega)] at this
                show Row _ _ _ _
                rw [upTo_next HGG.out]; exact this
              clear hrow
              go_wp2
              go_roundw
              case rel => exact ⟨j + 1, by omega, by go_num, HNEXT, HBA⟩
              case measure => simp [intOf]; omega
        · have hjl' : j = L := by omega
          subst hjl'
          have hjz : ¬ (j : Int) < j := by omega
          have HALL : Hid (∀ x, x < n → (cntRow n (upTo gs j))[x]? = some (.int .i64 1)) := fun x hx => by
            rw [cntRow_at hx, upTo_all (by rw [← HLL.out]; omega), HX3.out, groups_once R hx]; rfl
          go_wp2
          go_loopw [16] (fun i wy => ∃ (t : Nat), t ≤ n ∧ i = .int .i64 (t : Int) ∧ wy = wr) (fun i _ => n - (intOf i).toNat)
          case atStart => exact ⟨0, Nat.zero_le _, rfl, by first | rfl | trivial⟩
          case round =>
            obtain ⟨t, ht, rfl, rfl⟩ := hrel
            by_cases htn : t < n
            · have htz : (t : Int) < n := by omega
              have hct := HROW.out.cell t
              rw [HALL.out t htn] at hct
              go_wp2
              go_roundw
              case rel => exact ⟨t + 1, by omega, by go_num, by first | rfl | trivial⟩
              case measure => simp [intOf]; omega
            · have htl' : t = n := by omega
              subst htl'
              have htz : ¬ (t : Int) < t := by omega
              have hjq : j = q := by rw [HLL.out]; exact HQL.out
              subst hjq
              go_wp2
              go_ret
              exact ⟨rfl, HB3.out.trans (HBA.out.mono HB3.out.size)⟩

theorem unionCountsW (n : Int) (A : Option Addr) (m c : Nat) (rs : List RV) (w : World) (_ : -9223372036854775808 ≤ n ∧ n ≤ 9223372036854775807) (hA : RowsAt w w.heap.size A rs) (hl : rs.length = m) (hm : m * 24 ≤ 140737488351232) (hrl : ∀ r ∈ rs, r.xs.length ≤ 9223372036854775807) :
    Calls Try.prog 4 #[.int .i64 n, .slice A m c] w fun e w' => e = .returned (.bool true) ∧ Below w.heap.size w w' := by
  by_cases hn : 0 ≤ n ∧ n ≤ 60
  · obtain ⟨k, rfl⟩ : ∃ k : Nat, n = k := ⟨n.toNat, by omega⟩
    exact unionCounts_ok k A m c rs w hA hl (by omega) hrl (by omega)
  · exact unionCounts_bad n A m c w hn
end Go.Proofs.Ytopjdplbjfaldaa
