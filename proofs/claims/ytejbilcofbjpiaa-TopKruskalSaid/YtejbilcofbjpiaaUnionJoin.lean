/- What union.Groups' Join of two groups does. Conditions: at most 60 things. -/
import Derived.Test.YtejbilcofbjpiaaUnionB
namespace Go.Proofs.Ytejbilcofbjpiaa
open Go.RowKit

theorem two_roots {n : Nat} {R : Nat → Nat} {x y : Nat} (hx : x < n) (hy : y < n) (ex : R x = x) (ey : R y = y) (hne : x ≠ y) : 2 ≤ roots n R := by
  have h1 := roots_link hy ex ey hne
  have h2 : 0 < roots n (link R x y) := roots_pos (x := x) hx (by unfold link; split <;> simp_all)
  omega
theorem roots_le (n : Nat) (R : Nat → Nat) : roots n R ≤ n := by
  unfold roots
  have := List.length_filter_le (fun x => R x == x) (List.range n)
  simpa using this

/-- the memory behind the joining of y's group to x's -/
theorem UF.joined {w : World} {base p n cu cs gu gs x y : Nat} {up size : Nat → Nat} {many : Int} (h : UF w base p n (some ⟨gu, 0, none⟩) cu (some ⟨gs, 0, none⟩) cs up size many) (hy : y < n) (_hx : x < n) (v : Nat) (m : Int) :
    UF (((w.setCell ⟨gu, y, none⟩ (.int .i64 (x : Int))).setCell ⟨gs, x, none⟩ (.int .i64 (v : Int))).drew.setCell ⟨p, 2, none⟩ (.int .i64 m)) base p n (some ⟨gu, 0, none⟩) cu (some ⟨gs, 0, none⟩) cs (upd up y x) (upd size x v) m := by
  have h1 := h.setUp y x hy
  have e1 := own_ne_row h1.sz h1.row (by decide)
  have e2 := own_ne_row h1.up h1.row (by decide)
  have e3 := h1.ne gu rfl
  simp only [Value.ownBlock, ne_eq, Option.some.injEq] at e1 e2 e3
  refine ⟨?_, ?_, ?_, h.ne, h.at_⟩
  · have := ((h1.row.far (p := ⟨gs, x, none⟩) (fun e => e1 e.symm) (.int .i64 (v : Int))).drew).set_ 2 (.int .i64 m)
    exact this
  · refine ownsRow_setCell_other (ownsRow_setCell_other h1.up ?_ _).drew ?_ _
    · simp only [Value.ownBlock, ne_eq, Option.some.injEq]; exact fun e => e3 e.symm
    · simp only [Value.ownBlock, ne_eq, Option.some.injEq]; exact e2
  · refine ownsRow_setCell_other (w := (((w.setCell ⟨gu, y, none⟩ (.int .i64 (x : Int))).setCell ⟨gs, x, none⟩ (.int .i64 (v : Int))).drew)) ?_ ?_ _
    · rw [← nums_set]; exact (h1.sz.stored x _).1
    · simp only [Value.ownBlock, ne_eq, Option.some.injEq]; exact e1

theorem UG.linked {n : Nat} {R : Nat → Nat} {size : Nat → Nat} {x y : Nat} (hx : x < n) (hy : y < n) (ex : R x = x) (ey : R y = y) (hne : x ≠ y)
    (h3 : ∀ i, i < n → size i ≤ 2 ^ (n - roots n R)) : ∀ i, i < n → upd size x (size x + size y) i ≤ 2 ^ (n - roots n (link R x y)) := by
  intro i hi
  have h1 := roots_link hy ex ey hne
  have h2 := two_roots hx hy ex ey hne
  have h4 := roots_le n R
  rw [show n - roots n (link R x y) = (n - roots n R) + 1 by omega, Nat.pow_succ]
  have a := h3 x hx
  have b := h3 y hy
  unfold upd
  split
  · omega
  · have := h3 i hi; omega

set_option maxHeartbeats 4000000 in
theorem join_new {w : World} {base p n cu cs a b : Nat} {U S : Option Addr} {R : Nat → Nat} (h : UG w base p n U cu S cs R) (ha : a < n) (hb : b < n) (hs : R a ≠ R b) :
    Calls Try.prog 8 #[.pointer (some ⟨p, 0, none⟩), .int .i64 (a : Int), .int .i64 (b : Int)] w fun e w' => e = .returned (.tuple #[.bool true, .nilIface]) ∧
      (UG w' base p n U cu S cs (link R (R a) (R b)) ∨ UG w' base p n U cu S cs (link R (R b) (R a))) ∧ Keeps (ugs p U S) w w' := by
  have c1 := Lib.hid (in_ (a : Int) (b : Int) h.c0 h.few)
  have hin : Hid (inG n (a : Int) (b : Int) = true) := inG_true (by omega)
  have hq : ((R a : Int) == (R b : Int)) = false := beq_eq_false_iff_ne.2 (by omega)
  have hxn := h.lt ha
  have hyn := h.lt hb
  have HX := Lib.hid (h.idem ha)
  have HY := Lib.hid (h.idem hb)
  have hfew := h.few
  obtain ⟨gu, gs, rfl, rfl⟩ := h.nils (by omega)
  have c2 := Lib.hid (findG h ha)
  obtain ⟨x, hx⟩ : ∃ x, R a = x := ⟨_, rfl⟩
  obtain ⟨y, hy⟩ : ∃ y, R b = y := ⟨_, rfl⟩
  rw [hx, hy] at hs
  rw [hx] at hxn HX
  rw [hy] at hyn HY
  rw [hx, hy] at hq
  rw [hx, hy]
  have HXY := Lib.hid (And.intro hx hy)
  have HS := Lib.hid hs
  clear h hs hx hy
  go_enter Try.func8, Try.ntmps8
  go_wp2_with fail
  refine c1.out.mono ?_
  rintro e w1 ⟨rfl, rfl⟩
  rw [hin.out]
  go_wp2_with fail
  refine c2.out.mono ?_
  rintro e w2 ⟨rfl, hu2, hk2⟩
  have c3 := Lib.hid (findG hu2 hb)
  clear hu2
  go_wp2_with fail
  refine c3.out.mono ?_
  rintro e w3 ⟨rfl, hu3, hk3⟩
  rw [HXY.out.1, HXY.out.2]
  have HK := Lib.hid (hk2.trans hk3)
  obtain ⟨up, size, rk, K, hU, hR, hZ⟩ := hu3.ex
  have HU := Lib.hid hU
  have HR := Lib.hid hR
  have HZ := Lib.hid hZ
  clear hu3 hk2 hk3 c1 c2 c3 hU hR hZ
  have hpow : ∀ i, i < n → size i ≤ 288230376151711744 := fun i hi => by
    have h1 := HZ.out i hi
    have h2 := two_roots hxn hyn HX.out HY.out HS.out
    exact Nat.le_trans h1 (by
      have := Nat.pow_le_pow_right (n := 2) (by omega) (show n - roots n R ≤ 58 by omega)
      exact this)
  have hsx := hpow x hxn
  have hsy := hpow y hyn
  clear hpow
  obtain ⟨gu', gs', e1, e2, hne1, hne2, hne3, _, _, _, _⟩ := HU.out.places (by omega)
  simp only [Option.some.injEq, Addr.mk.injEq, and_true] at e1 e2
  obtain rfl := e1
  obtain rfl := e2
  have hc0 := HU.out.c0
  have hc1 := HU.out.c1
  have hc2 := HU.out.c2
  have hzx := HU.out.szAt hxn
  have hzy := HU.out.szAt hyn
  have hxz : (x : Int) < n := by omega
  have hyz : (y : Int) < n := by omega
  obtain ⟨zx, hzx'⟩ : ∃ z, size x = z := ⟨_, rfl⟩
  obtain ⟨zy, hzy'⟩ : ∃ z, size y = z := ⟨_, rfl⟩
  rw [hzx'] at hzx hsx
  rw [hzy'] at hzy hsy
  have HZX := Lib.hid (And.intro hzx' hzy')
  have HNE := Lib.hid (And.intro hne1 (And.intro hne2 hne3))
  clear hzx' hzy'
  have hroots := roots_le n R
  have hr2 := two_roots hxn hyn HX.out HY.out HS.out
  obtain ⟨r, hr⟩ : ∃ r, roots n R = r := ⟨_, rfl⟩
  rw [hr] at hc2 hroots hr2
  have HRT := Lib.hid hr
  have HZ2 := HZ
  clear hr
  by_cases hcmp : zx < zy
  · have hcz : (zx : Int) < zy := by omega
    go_wp2
    go_quiet (fail)
    generalize hw4 : w3.drewN nq = w4
    have HU4 : Hid (UF w4 base p n (some ⟨gu, 0, none⟩) cu (some ⟨gs, 0, none⟩) cs up size (roots n R)) := by
      subst hw4
      exact ⟨HU.out.row, HU.out.up, HU.out.sz, HU.out.ne, HU.out.at_⟩
    have HK4 : Hid (Keeps (ugs p (some ⟨gu, 0, none⟩) (some ⟨gs, 0, none⟩)) w w4) := by subst hw4; exact HK.out.drewN _
    clear hc0 hc1 hc2 hzx hzy hw4 HK HU
    have hc0 := HU4.out.c0
    have hcy := HU4.out.upAt (i := x) hxn
    have hfy := HU4.out.upFree x
    go_wp2
    have hc1 : (w4.setCell ⟨gu, x, none⟩ (.int .i64 (y : Int))).cell? ⟨p, 1, none⟩ = some (.slice (some ⟨gs, 0, none⟩) n cs) := by rw [World.cell?_setCell_other _ _ _ _ (by intro e; simp only [Addr.mk.injEq] at e; first | exact absurd e.1 HNE.out.2.1 | exact absurd e.1.symm HNE.out.2.1)]; exact HU4.out.c1
    have hzx : (w4.setCell ⟨gu, x, none⟩ (.int .i64 (y : Int))).cell? ⟨gs, y, none⟩ = some (.int .i64 (zy : Int)) := by
      rw [World.cell?_setCell_other _ _ _ _ (by intro e; simp only [Addr.mk.injEq] at e; first | exact absurd e.1 HNE.out.1 | exact absurd e.1.symm HNE.out.1), HU4.out.szAt hyn, HZX.out.2]
    have hzy : (w4.setCell ⟨gu, x, none⟩ (.int .i64 (y : Int))).cell? ⟨gs, x, none⟩ = some (.int .i64 (zx : Int)) := by
      rw [World.cell?_setCell_other _ _ _ _ (by intro e; simp only [Addr.mk.injEq] at e; first | exact absurd e.1 HNE.out.1 | exact absurd e.1.symm HNE.out.1), HU4.out.szAt hxn, HZX.out.1]
    have hfx : (w4.setCell ⟨gu, x, none⟩ (.int .i64 (y : Int))).frozen? ⟨gs, y, none⟩ = false := by rw [World.frozen?_setCell]; exact HU4.out.szFree y
    have hUJ := HU4.out.joined (y := x) (x := y) hxn hyn (zy + zx) ((r : Int) - 1)
    rw [show ((zy + zx : Nat) : Int) = (zy : Int) + (zx : Int) by omega] at hUJ
    have hKJ : Keeps (ugs p (some ⟨gu, 0, none⟩) (some ⟨gs, 0, none⟩)) w (((w4.setCell ⟨gu, x, none⟩ (.int .i64 (y : Int))).setCell ⟨gs, y, none⟩ (.int .i64 ((zy : Int) + (zx : Int)))).drew.setCell ⟨p, 2, none⟩ (.int .i64 ((r : Int) - 1))) :=
      (((HK4.out.setCell (Or.inl (by simp [ugs])) _).setCell (Or.inl (by simp [ugs])) _).drew).setCell (Or.inl (by simp [ugs])) _
    have HUJ := Lib.hid hUJ
    have HKJ := Lib.hid hKJ
    have hc2 : ((w4.setCell ⟨gu, x, none⟩ (.int .i64 (y : Int))).setCell ⟨gs, y, none⟩ (.int .i64 ((zy : Int) + (zx : Int)))).drew.cell? ⟨p, 2, none⟩ = some (.int .i64 (r : Int)) := by
      show ((w4.setCell ⟨gu, x, none⟩ (.int .i64 (y : Int))).setCell ⟨gs, y, none⟩ (.int .i64 ((zy : Int) + (zx : Int)))).cell? ⟨p, 2, none⟩ = _
      rw [World.cell?_setCell_other _ _ _ _ (by intro e; simp only [Addr.mk.injEq] at e; first | exact absurd e.1 HNE.out.2.2 | exact absurd e.1.symm HNE.out.2.2), World.cell?_setCell_other _ _ _ _ (by intro e; simp only [Addr.mk.injEq] at e; first | exact absurd e.1 HNE.out.2.1 | exact absurd e.1.symm HNE.out.2.1), HU4.out.c2, HRT.out]
    have hfp : ((w4.setCell ⟨gu, x, none⟩ (.int .i64 (y : Int))).setCell ⟨gs, y, none⟩ (.int .i64 ((zy : Int) + (zx : Int)))).drew.frozen? ⟨p, 2, none⟩ = false := by
      show ((w4.setCell ⟨gu, x, none⟩ (.int .i64 (y : Int))).setCell ⟨gs, y, none⟩ (.int .i64 ((zy : Int) + (zx : Int)))).frozen? ⟨p, 2, none⟩ = _
      rw [World.frozen?_setCell, World.frozen?_setCell]; exact HU4.out.row.frozen 2
    clear hUJ hKJ hcy hfy
    go_region
    clear hc0 hc1 hzx hzy hfx
    go_wp2
    go_ret2
    refine ⟨rfl, Or.inr ⟨⟨_, upd size y (zy + zx), _, _, ?_, HR.out.link hyn hxn HY.out HX.out (fun e => HS.out e.symm), ?_⟩, hfew⟩, HKJ.out⟩
    · have e := roots_link (n := n) hxn HY.out HX.out (fun e => HS.out e.symm)
      rw [show ((roots n (link R y x) : Nat) : Int) = (r : Int) - 1 by have := HRT.out; omega]
      exact HUJ.out
    · have := UG.linked (size := size) hyn hxn HY.out HX.out (fun e => HS.out e.symm) HZ.out
      rw [HZX.out.2, HZX.out.1] at this
      exact this
  · have hcz : ¬ (zx : Int) < zy := by omega
    go_wp2
    go_quiet (fail)
    generalize hw4 : w3.drewN nq = w4
    have HU4 : Hid (UF w4 base p n (some ⟨gu, 0, none⟩) cu (some ⟨gs, 0, none⟩) cs up size (roots n R)) := by
      subst hw4
      exact ⟨HU.out.row, HU.out.up, HU.out.sz, HU.out.ne, HU.out.at_⟩
    have HK4 : Hid (Keeps (ugs p (some ⟨gu, 0, none⟩) (some ⟨gs, 0, none⟩)) w w4) := by subst hw4; exact HK.out.drewN _
    clear hc0 hc1 hc2 hzx hzy hw4 HK HU
    have hc0 := HU4.out.c0
    have hcy := HU4.out.upAt (i := y) hyn
    have hfy := HU4.out.upFree y
    go_wp2
    have hc1 : (w4.setCell ⟨gu, y, none⟩ (.int .i64 (x : Int))).cell? ⟨p, 1, none⟩ = some (.slice (some ⟨gs, 0, none⟩) n cs) := by rw [World.cell?_setCell_other _ _ _ _ (by intro e; simp only [Addr.mk.injEq] at e; first | exact absurd e.1 HNE.out.2.1 | exact absurd e.1.symm HNE.out.2.1)]; exact HU4.out.c1
    have hzx : (w4.setCell ⟨gu, y, none⟩ (.int .i64 (x : Int))).cell? ⟨gs, x, none⟩ = some (.int .i64 (zx : Int)) := by
      rw [World.cell?_setCell_other _ _ _ _ (by intro e; simp only [Addr.mk.injEq] at e; first | exact absurd e.1 HNE.out.1 | exact absurd e.1.symm HNE.out.1), HU4.out.szAt hxn, HZX.out.1]
    have hzy : (w4.setCell ⟨gu, y, none⟩ (.int .i64 (x : Int))).cell? ⟨gs, y, none⟩ = some (.int .i64 (zy : Int)) := by
      rw [World.cell?_setCell_other _ _ _ _ (by intro e; simp only [Addr.mk.injEq] at e; first | exact absurd e.1 HNE.out.1 | exact absurd e.1.symm HNE.out.1), HU4.out.szAt hyn, HZX.out.2]
    have hfx : (w4.setCell ⟨gu, y, none⟩ (.int .i64 (x : Int))).frozen? ⟨gs, x, none⟩ = false := by rw [World.frozen?_setCell]; exact HU4.out.szFree x
    have hUJ := HU4.out.joined (y := y) (x := x) hyn hxn (zx + zy) ((r : Int) - 1)
    rw [show ((zx + zy : Nat) : Int) = (zx : Int) + (zy : Int) by omega] at hUJ
    have hKJ : Keeps (ugs p (some ⟨gu, 0, none⟩) (some ⟨gs, 0, none⟩)) w (((w4.setCell ⟨gu, y, none⟩ (.int .i64 (x : Int))).setCell ⟨gs, x, none⟩ (.int .i64 ((zx : Int) + (zy : Int)))).drew.setCell ⟨p, 2, none⟩ (.int .i64 ((r : Int) - 1))) :=
      (((HK4.out.setCell (Or.inl (by simp [ugs])) _).setCell (Or.inl (by simp [ugs])) _).drew).setCell (Or.inl (by simp [ugs])) _
    have HUJ := Lib.hid hUJ
    have HKJ := Lib.hid hKJ
    have hc2 : ((w4.setCell ⟨gu, y, none⟩ (.int .i64 (x : Int))).setCell ⟨gs, x, none⟩ (.int .i64 ((zx : Int) + (zy : Int)))).drew.cell? ⟨p, 2, none⟩ = some (.int .i64 (r : Int)) := by
      show ((w4.setCell ⟨gu, y, none⟩ (.int .i64 (x : Int))).setCell ⟨gs, x, none⟩ (.int .i64 ((zx : Int) + (zy : Int)))).cell? ⟨p, 2, none⟩ = _
      rw [World.cell?_setCell_other _ _ _ _ (by intro e; simp only [Addr.mk.injEq] at e; first | exact absurd e.1 HNE.out.2.2 | exact absurd e.1.symm HNE.out.2.2), World.cell?_setCell_other _ _ _ _ (by intro e; simp only [Addr.mk.injEq] at e; first | exact absurd e.1 HNE.out.2.1 | exact absurd e.1.symm HNE.out.2.1), HU4.out.c2, HRT.out]
    have hfp : ((w4.setCell ⟨gu, y, none⟩ (.int .i64 (x : Int))).setCell ⟨gs, x, none⟩ (.int .i64 ((zx : Int) + (zy : Int)))).drew.frozen? ⟨p, 2, none⟩ = false := by
      show ((w4.setCell ⟨gu, y, none⟩ (.int .i64 (x : Int))).setCell ⟨gs, x, none⟩ (.int .i64 ((zx : Int) + (zy : Int)))).frozen? ⟨p, 2, none⟩ = _
      rw [World.frozen?_setCell, World.frozen?_setCell]; exact HU4.out.row.frozen 2
    clear hUJ hKJ hcy hfy
    go_region
    clear hc0 hc1 hzx hzy hfx
    go_wp2
    go_ret2
    refine ⟨rfl, Or.inl ⟨⟨_, upd size x (zx + zy), _, _, ?_, HR.out.link hxn hyn HX.out HY.out HS.out, ?_⟩, hfew⟩, HKJ.out⟩
    · have e := roots_link (n := n) hyn HX.out HY.out HS.out
      rw [show ((roots n (link R x y) : Nat) : Int) = (r : Int) - 1 by have := HRT.out; omega]
      exact HUJ.out
    · have := UG.linked (size := size) hxn hyn HX.out HY.out HS.out HZ.out
      rw [HZX.out.1, HZX.out.2] at this
      exact this
end Go.Proofs.Ytejbilcofbjpiaa
