/- The walk of UnionSame. Conditions: lengths are such that slices can have. -/
import Derived.Test.YtopjdplbjfaldaaUnionLaws
import Derived.Deep.RegionHeld3
import Derived.Deep.DeepCutAuto
import Derived.Deep.CutRange
namespace Go.Proofs.Ytopjdplbjfaldaa
open Go.RowKit

/-- what Same answers -/
def SV (n : Nat) (R : Nat → Nat) (a b : Int) (v : Bool) (e : Value) : Prop :=
  (inG n a b = true ∧ e = .nilIface ∧ v = oneB R a.toNat b.toNat) ∨ (inG n a b = false ∧ e = .iface 62 (.int .i64 1) ∧ v = false)
theorem sameV {w : World} {base p n cu cs : Nat} {U S : Option Addr} {R : Nat → Nat} {a b : Int} {v : Bool} {er : Value} (h : UG w base p n U cu S cs R) (hv : SV n R a b v er) :
    Calls Try.prog 18 #[.pointer (some ⟨p, 0, none⟩), .int .i64 a, .int .i64 b] w fun e w' => e = .returned (.tuple #[.bool v, er]) ∧ UG w' base p n U cu S cs R ∧ Keeps (ugs p U S) w w' := by
  rcases hv with ⟨h1, rfl, rfl⟩ | ⟨h1, rfl, rfl⟩
  · have h2 := of_decide_eq_true h1
    have e1 : a = ((a.toNat : Nat) : Int) := by omega
    have e2 : b = ((b.toNat : Nat) : Int) := by omega
    have := same_ok (a := a.toNat) (b := b.toNat) h (by omega) (by omega)
    rw [← e1, ← e2] at this
    exact this
  · exact (same_bad a b h h1).mono fun e w' ⟨he, hw⟩ => by subst hw; exact ⟨he, h, Keeps.refl _ _⟩
def Combo (v1 v2 v3 v4 v5 : Bool) (e1 e2 e3 e4 e5 : Value) : Prop :=
  (e1 = .iface 62 (.int .i64 1) ∧ e4 = .iface 62 (.int .i64 1) ∧ e5 = .iface 62 (.int .i64 1)) ∨
  (e1 = .iface 62 (.int .i64 1) ∧ e4 = .iface 62 (.int .i64 1) ∧ e5 = .nilIface ∧ v5 = true) ∨
  (e1 = .nilIface ∧ e4 = .nilIface ∧ e5 = .nilIface ∧ v5 = true ∧ e2 = .iface 62 (.int .i64 1) ∧ v1 = true ∧ v4 = true) ∨
  (e1 = .nilIface ∧ e4 = .nilIface ∧ e5 = .nilIface ∧ v5 = true ∧ e2 = .iface 62 (.int .i64 1) ∧ v1 = false ∧ v4 = false) ∨
  (e1 = .nilIface ∧ e4 = .nilIface ∧ e5 = .nilIface ∧ v5 = true ∧ e2 = .nilIface ∧ e3 = .nilIface ∧ v1 = false ∧ v4 = false) ∨
  (e1 = .nilIface ∧ e4 = .nilIface ∧ e5 = .nilIface ∧ v5 = true ∧ e2 = .nilIface ∧ e3 = .nilIface ∧ v1 = true ∧ v4 = true ∧ v2 = false) ∨
  (e1 = .nilIface ∧ e4 = .nilIface ∧ e5 = .nilIface ∧ v5 = true ∧ e2 = .nilIface ∧ e3 = .nilIface ∧ v1 = true ∧ v4 = true ∧ v2 = true ∧ v3 = true)
theorem SV.ex (n : Nat) (R : Nat → Nat) (a b : Int) : ∃ v e, SV n R a b v e := by
  by_cases h : inG n a b = true
  · exact ⟨_, _, Or.inl ⟨h, rfl, rfl⟩⟩
  · exact ⟨_, _, Or.inr ⟨by simpa using h, rfl, rfl⟩⟩
theorem inG_iff {n : Nat} {a b : Int} : inG n a b = true ↔ (0 ≤ a ∧ a < n) ∧ (0 ≤ b ∧ b < n) := by
  unfold inG; rw [decide_eq_true_iff]; omega
theorem inG_iff' {n : Nat} {a b : Int} : inG n a b = false ↔ ¬ ((0 ≤ a ∧ a < n) ∧ (0 ≤ b ∧ b < n)) := by
  rw [← inG_iff]; simp
theorem sv_combo {n : Nat} {R : Nat → Nat} {a b d : Int} {v1 v2 v3 v4 v5 : Bool} {e1 e2 e3 e4 e5 : Value} (h1 : SV n R a b v1 e1) (h2 : SV n R b d v2 e2) (h3 : SV n R a d v3 e3) (h4 : SV n R b a v4 e4) (h5 : SV n R a a v5 e5) :
    Combo v1 v2 v3 v4 v5 e1 e2 e3 e4 e5 := by
  unfold SV at h1 h2 h3 h4 h5
  rw [inG_iff, inG_iff'] at h1 h2 h3 h4 h5
  have hs : oneB R a.toNat a.toNat = true := by simp [oneB]
  have hc : oneB R b.toNat a.toNat = oneB R a.toNat b.toNat := by simp [oneB, eq_comm]
  have ht : oneB R a.toNat b.toNat = true → oneB R b.toNat d.toNat = true → oneB R a.toNat d.toNat = true := by
    simp only [oneB, decide_eq_true_eq]; exact fun x y => x.trans y
  unfold Combo
  by_cases ha : 0 ≤ a ∧ a < n
  · by_cases hb : 0 ≤ b ∧ b < n
    · rcases h1 with ⟨_, rfl, rfl⟩ | ⟨g, _⟩
      · rcases h4 with ⟨_, rfl, rfl⟩ | ⟨g, _⟩
        · rcases h5 with ⟨_, rfl, rfl⟩ | ⟨g, _⟩
          · rw [hc]
            rcases h2 with ⟨g2, rfl, rfl⟩ | ⟨g2, rfl, rfl⟩
            · rcases h3 with ⟨g3, rfl, rfl⟩ | ⟨g3, rfl, rfl⟩
              · generalize oneB R a.toNat b.toNat = x at *
                generalize oneB R b.toNat d.toNat = y at *
                generalize oneB R a.toNat d.toNat = z at *
                cases x <;> cases y <;> cases z <;> simp_all
              · exact absurd ⟨ha, g2.2⟩ g3
            · generalize oneB R a.toNat b.toNat = x at *
              cases x <;> simp_all
          · exact absurd ⟨ha, ha⟩ g
        · exact absurd ⟨hb, ha⟩ g
      · exact absurd ⟨ha, hb⟩ g
    · rcases h1 with ⟨g, _⟩ | ⟨_, rfl, rfl⟩
      · exact absurd g.2 hb
      · rcases h4 with ⟨g, _⟩ | ⟨_, rfl, rfl⟩
        · exact absurd g.1 hb
        · rcases h5 with ⟨_, rfl, rfl⟩ | ⟨g, _⟩
          · exact Or.inr (Or.inl ⟨rfl, rfl, rfl, hs⟩)
          · exact absurd ⟨ha, ha⟩ g
  · rcases h1 with ⟨g, _⟩ | ⟨_, rfl, rfl⟩
    · exact absurd g.1 ha
    · rcases h4 with ⟨g, _⟩ | ⟨_, rfl, rfl⟩
      · exact absurd g.2 ha
      · rcases h5 with ⟨g, _⟩ | ⟨_, rfl, rfl⟩
        · exact absurd g.1 ha
        · exact Or.inl ⟨rfl, rfl, rfl⟩

set_option maxHeartbeats 4000000 in
set_option maxRecDepth 100000 in
theorem unionSame_yes (n : Int) (A : Option Addr) (m c : Nat) (a b d : Int) (rs : List RV) (w : World) (hA : RowsAt w w.heap.size A rs) (hl : rs.length = m) (hrl : ∀ r ∈ rs, r.xs.length ≤ 9223372036854775807) (hc : CanJoin n rs) :
    Calls Try.prog 5 #[.int .i64 n, .slice A m c, .int .i64 a, .int .i64 b, .int .i64 d] w fun e w' => e = .returned (.bool true) ∧ Below w.heap.size w w' := by
  have c0 := Lib.hid (unionFact w)
  have HC := Lib.hid hc
  have HL := Lib.hid hl
  have HRL := Lib.hid hrl
  have hm60 : m ≤ 60 := by rw [← hl]; exact hc.2.1
  clear hc hl hrl
  go_enter Try.func5, Try.ntmps5
  go_wp2_with fail
  refine c0.out.mono ?_
  rintro e w1 ⟨rfl, hb1⟩
  have c1 := Lib.hid (joined_yes n A m c false rs w1 (hA.step hb1) HL.out HRL.out HC.out)
  have HB1 := Lib.hid hb1
  clear c0 hb1
  go_wp2_with fail
  refine c1.out.mono ?_
  rintro e w2 ⟨p, U, cu, S, cs, R, rfl, hu, hg, hb2⟩
  obtain ⟨base, hbase⟩ : ∃ base, base = w1.heap.size := ⟨_, rfl⟩
  rw [← hbase] at hu
  have hwb : w.heap.size ≤ base := by rw [hbase]; exact HB1.out.size
  have HB2 := Lib.hid (HB1.out.trans (hb2.mono HB1.out.size))
  have HG := Lib.hid hg
  have HU2 := Lib.hid hu
  obtain ⟨k, hk⟩ : ∃ k, k = n.toNat := ⟨_, rfl⟩
  rw [← hk] at HG HU2
  obtain ⟨v1, e1, h1⟩ := SV.ex k R a b
  obtain ⟨v2, e2, h2⟩ := SV.ex k R b d
  obtain ⟨v3, e3, h3⟩ := SV.ex k R a d
  obtain ⟨v4, e4, h4⟩ := SV.ex k R b a
  obtain ⟨v5, e5, h5⟩ := SV.ex k R a a
  have hcombo := Lib.hid (sv_combo h1 h2 h3 h4 h5)
  have H1 := Lib.hid h1
  have H2 := Lib.hid h2
  have H3 := Lib.hid h3
  have H4 := Lib.hid h4
  have H5 := Lib.hid h5
  have s1 := Lib.hid (sameV HU2.out H1.out)
  clear c1 hb2 hu hg hbase hk h1 h2 h3 h4 h5
  go_wp2_with fail
  refine s1.out.mono ?_
  rintro e w3 ⟨rfl, hu3, hk3⟩
  have HU3 := Lib.hid hu3
  have HB3 := Lib.hid (HB2.out.trans (HU2.out.toBelow hk3 hwb HB2.out.size))
  have s2 := Lib.hid (sameV HU3.out H2.out)
  clear s1 hu3 hk3 HU2 HB2
  go_wp2_with fail
  refine s2.out.mono ?_
  rintro e w4 ⟨rfl, hu3, hk3⟩
  have HU4 := Lib.hid hu3
  have HB4 := Lib.hid (HB3.out.trans (HU3.out.toBelow hk3 hwb HB3.out.size))
  have s3 := Lib.hid (sameV HU4.out H3.out)
  clear s2 hu3 hk3 HU3 HB3
  go_wp2_with fail
  refine s3.out.mono ?_
  rintro e w5 ⟨rfl, hu3, hk3⟩
  have HU5 := Lib.hid hu3
  have HB5 := Lib.hid (HB4.out.trans (HU4.out.toBelow hk3 hwb HB4.out.size))
  have s4 := Lib.hid (sameV HU5.out H4.out)
  clear s3 hu3 hk3 HU4 HB4
  go_wp2_with fail
  refine s4.out.mono ?_
  rintro e w6 ⟨rfl, hu3, hk3⟩
  have HU6 := Lib.hid hu3
  have HB6 := Lib.hid (HB5.out.trans (HU5.out.toBelow hk3 hwb HB5.out.size))
  have s5 := Lib.hid (sameV HU6.out H5.out)
  clear s4 hu3 hk3 HU5 HB5
  go_wp2_with fail
  refine s5.out.mono ?_
  rintro e w7 ⟨rfl, hu3, hk3⟩
  have HU := Lib.hid hu3
  have HB := Lib.hid (HB6.out.trans (HU6.out.toBelow hk3 hwb HB6.out.size))
  clear s5 hu3 hk3 HU6 HB6 H1 H2 H3 H4 H5 HB1
  go_upto_region 12 with fail
  go_cut [116] from 73 to 116 (fun c wx => c = .bool false ∧ Hid (UG wx base p k U cu S cs R) ∧ Hid (Below w.heap.size w wx))
  case first =>
    rcases hcombo.out with ⟨rfl, rfl, rfl⟩ | ⟨rfl, rfl, rfl, rfl⟩ | ⟨rfl, rfl, rfl, rfl, rfl, rfl, rfl⟩ | ⟨rfl, rfl, rfl, rfl, rfl, rfl, rfl⟩ | ⟨rfl, rfl, rfl, rfl, rfl, rfl, rfl, rfl⟩ | ⟨rfl, rfl, rfl, rfl, rfl, rfl, rfl, rfl, rfl⟩ | ⟨rfl, rfl, rfl, rfl, rfl, rfl, rfl, rfl, rfl, rfl⟩
    all_goals (
      clear hcombo
      go_quiet (fail)
      go_wp2
      go_meet
      exact ⟨rfl, HU.out.keeps (Keeps.drewN (Keeps.refl [] _) _) (fun _ _ => by simp), below_drewN HB.out _⟩)
  case rest =>
  clear HU HB hcombo
  obtain ⟨rfl, HU9, HB9⟩ := hcut
  go_wp2
  go_loopw [24] (fun i wr => ∃ (j : Nat), j ≤ m ∧ i = .int .i64 (j : Int) ∧ Hid (UG wr base p k U cu S cs R) ∧ Hid (Below w.heap.size w wr)) (fun i _ => m - (intOf i).toNat)
  case atStart => exact ⟨0, Nat.zero_le _, rfl, HU9.out, HB9.out⟩
  case round =>
    clear HU9 HB9
    obtain ⟨j, hk, rfl, HU, HB⟩ := hrel
    by_cases hlt : j < m
    · have hlz : (j : Int) < m := by omega
      have hl60 : (j : Int) < 60 := by omega
      obtain ⟨q, off, r, rfl, hbb, hr, hc, hrow⟩ := hA.at_k (show j < rs.length by rw [HL.out]; exact hlt)
      obtain ⟨q2, off2, x, y, hat, hb2, hpo, hx, hy⟩ := pair_cells hrow (HC.out.2.2 r (List.mem_of_getElem? hr))
      have hlr := HRL.out r (List.mem_of_getElem? hr)
      have hl2 := HC.out.2.2 r (List.mem_of_getElem? hr)
      obtain ⟨lr, hlr'⟩ : ∃ lr, lr = r.xs.length := ⟨_, rfl⟩
      rw [← hlr'] at hc hlr hl2
      rw [hat] at hc
      have HC1 := Lib.hid hc
      have HX := Lib.hid hx
      have HY := Lib.hid hy
      rw [← HB.out.cell (p := ⟨q, off + j, none⟩) hbb] at hc
      rw [← HB.out.cell (p := ⟨q2, off2, none⟩) hb2] at hx
      rw [← HB.out.cell (p := ⟨q2, off2 + 1, none⟩) hb2] at hy
      have hl0 : 0 < lr := by omega
      have hl1 : (1 : Int) < lr := by omega
      obtain ⟨v, er, hsv, hgood⟩ : ∃ v er, SV k R x y v er ∧ ((er = .nilIface ∧ v = true) ∨ er = .iface 62 (.int .i64 1)) := by
        obtain ⟨v, er, hsv⟩ := SV.ex k R x y
        refine ⟨v, er, hsv, ?_⟩
        rcases hsv with ⟨g1, rfl, rfl⟩ | ⟨_, rfl, rfl⟩
        · refine Or.inl ⟨rfl, ?_⟩
          have g2 := inG_iff.1 g1
          have hmem : (x, y) ∈ seqOf false rs := by
            have := seqOf_at (back := false) hr (k := j) (by simp)
            rw [hpo] at this
            exact List.mem_of_getElem? this
          have := HG.out.resp x.toNat y.toNat (by omega) (by omega) (by rw [show ((x.toNat : Nat) : Int) = x by omega, show ((y.toNat : Nat) : Int) = y by omega]; exact hmem)
          simp [oneB, this]
        · exact Or.inr rfl
      have hud : UG wr.drew base p k U cu S cs R := HU.out.keeps (Keeps.drew (Keeps.refl [] _)) (fun _ _ => by simp)
      have HUD := Lib.hid hud
      have cj := Lib.hid (sameV hud hsv)
      clear hud
      clear hat hpo hrow hA hr hlr' hsv HG HC HRL HL
      rcases hgood with ⟨rfl, rfl⟩ | rfl
      all_goals (
        go_wp2_with fail
        go_region_held3 (fun W => W.cell? ⟨q, off + j, none⟩ = some (.slice (some ⟨q2, off2, none⟩) lr r.cap) ∧ W.cell? ⟨q2, off2, none⟩ = some (.int .i64 x) ∧ W.cell? ⟨q2, off2 + 1, none⟩ = some (.int .i64 y)) (go_keep)
          (first | (go_at_call 18; refine cj.out.mono ?_; rintro e w8 ⟨rfl, hu', hk'⟩; have HU' := Lib.hid hu'; have HB' := Lib.hid (HB.out.trans ((Below.refl _ _).drew.trans (HUD.out.toBelow hk' hwb HB.out.size))); clear hu' hk'; have z1 := (HB'.out.cell (p := ⟨q, off + j, none⟩) hbb).trans HC1.out; have z2 := (HB'.out.cell (p := ⟨q2, off2, none⟩) hb2).trans HX.out; have z3 := (HB'.out.cell (p := ⟨q2, off2 + 1, none⟩) hb2).trans HY.out))
        all_goals clear z1 z2 z3
        go_wp2
        go_roundw
        case rel => exact ⟨j + 1, by omega, by go_num, HU'.out, HB'.out⟩
        case measure => simp [intOf]; omega)
    · have hkm : j = m := by omega
      subst hkm
      have hlz : ¬ (j : Int) < j := by omega
      clear hA
      go_wp2
      go_ret
      exact ⟨rfl, HB.out⟩

theorem unionSameW (n : Int) (A : Option Addr) (m c : Nat) (a b d : Int) (rs : List RV) (w : World) (_ : -9223372036854775808 ≤ n ∧ n ≤ 9223372036854775807) (hA : RowsAt w w.heap.size A rs) (hl : rs.length = m) (hm : m * 24 ≤ 140737488351232) (hrl : ∀ r ∈ rs, r.xs.length ≤ 9223372036854775807) :
    Calls Try.prog 5 #[.int .i64 n, .slice A m c, .int .i64 a, .int .i64 b, .int .i64 d] w fun e w' => e = .returned (.bool true) ∧ Below w.heap.size w w' := by
  by_cases hc : CanJoin n rs
  · exact unionSame_yes n A m c a b d rs w hA hl hrl hc
  · have c0 := Lib.hid (unionFact w)
    have HC := Lib.hid hc
    have HL := Lib.hid hl
    have HRL := Lib.hid hrl
    clear hc hl hrl
    go_enter Try.func5, Try.ntmps5
    go_wp2_with fail
    refine c0.out.mono ?_
    rintro e w1 ⟨rfl, hb1⟩
    have c1 := Lib.hid (joined_no n A m c false rs w1 (hA.step hb1) HL.out (by omega) HRL.out HC.out)
    have HB1 := Lib.hid hb1
    clear c0 hb1
    go_wp2_with fail
    refine c1.out.mono ?_
    rintro e w2 ⟨v, rfl, hb2⟩
    have HB2 := Lib.hid (HB1.out.trans (hb2.mono HB1.out.size))
    clear c1 hb2
    go_wp2
    go_ret
    exact ⟨rfl, HB2.out⟩
end Go.Proofs.Ytopjdplbjfaldaa
