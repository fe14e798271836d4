/- What span.Boruvka tells: what is wrong with a graph, or its forest. Conditions: lengths are such that slices can have. -/
import Derived.Test.YtpaoiaogcckibaaDoorBoruvkaP
import Derived.Test.YtpaoiaogcckibaaDoorThose
import Derived.Test.YtpaoiaogcckibaaDoorUnionAll
import Derived.Test.YtpaoiaogcckibaaDoorRowsEq
import Derived.Deep.CutRange
namespace Go.Proofs.YtpaoiaogcckibaaDoor
theorem fRow_congr {n : Nat} {f g : Nat → Int} (h : ∀ x, x < n → f x = g x) : fRow n f = fRow n g := by
  unfold fRow
  exact List.map_congr_left fun x hx => by rw [h x (List.mem_range.1 hx)]
section
variable {N : Nat} {l : List Edge} {R : Nat → Nat} {i : Nat}
/-- behind q of the two groups of edge i -/
def lo2 (R : Nat → Nat) (N : Nat) (l : List Edge) (i q k : Nat) : Int :=
  if (0 < q ∧ k = gi R N (eAt l i).a.toNat) ∨ (1 < q ∧ k = gi R N (eAt l i).b.toNat) then lo R N l k (i + 1) else lo R N l k i
def endQ (R : Nat → Nat) (N : Nat) (l : List Edge) (i q : Nat) : Nat := if q = 0 then gi R N (eAt l i).a.toNat else gi R N (eAt l i).b.toNat
theorem lo2_zero (k : Nat) : lo2 R N l i 0 k = lo R N l k i := by
  unfold lo2
  rw [if_neg (by omega)]
theorem lo_far {k : Nat} (h : ¬ outG R N k (eAt l i)) : lo R N l k (i + 1) = lo R N l k i := by
  rw [lo, if_neg (fun h2 => h h2.1)]
theorem lo2_two (k : Nat) : lo2 R N l i 2 k = lo R N l k (i + 1) := by
  unfold lo2
  split
  · rfl
  · next h =>
    refine (lo_far fun ho => h ?_).symm
    rcases ho.2 with e | e
    · exact Or.inl ⟨by omega, e.symm⟩
    · exact Or.inr ⟨by omega, e.symm⟩
theorem lo2_same (h : gi R N (eAt l i).a.toNat = gi R N (eAt l i).b.toNat) (q k : Nat) : lo2 R N l i q k = lo R N l k i := by
  unfold lo2
  split
  · exact lo_far fun ho => ho.1 h
  · rfl
variable (hne : gi R N (eAt l i).a.toNat ≠ gi R N (eAt l i).b.toNat) {q : Nat} (hq : q < 2)
include hne hq
theorem lo2_at : lo2 R N l i q (endQ R N l i q) = lo R N l (endQ R N l i q) i := by
  unfold lo2 endQ
  rw [if_neg]
  split <;> omega
omit hq in
theorem endQ_out : outG R N (endQ R N l i q) (eAt l i) := by
  refine ⟨hne, ?_⟩
  unfold endQ
  split
  · exact Or.inl rfl
  · exact Or.inr rfl
theorem lo2_put (hc : lo R N l (endQ R N l i q) i = 0 ∨ wOf l i < wOf l (lo R N l (endQ R N l i q) i - 1)) : (fun k => if k = endQ R N l i q then ((i : Int) + 1) else lo2 R N l i q k) = lo2 R N l i (q + 1) := by
  have hl : lo R N l (endQ R N l i q) (i + 1) = (i : Int) + 1 := by rw [lo, if_pos ⟨endQ_out hne, hc⟩]
  funext k
  by_cases e : k = endQ R N l i q
  · rw [if_pos e, e]
    unfold lo2
    rw [if_pos]
    · exact hl.symm
    · unfold endQ
      split
      · exact Or.inl ⟨by omega, rfl⟩
      · exact Or.inr ⟨by omega, rfl⟩
  · rw [if_neg e]
    unfold lo2
    unfold endQ at e
    have h2 : ((0 < q + 1 ∧ k = gi R N (eAt l i).a.toNat) ∨ (1 < q + 1 ∧ k = gi R N (eAt l i).b.toNat)) ↔ ((0 < q ∧ k = gi R N (eAt l i).a.toNat) ∨ (1 < q ∧ k = gi R N (eAt l i).b.toNat)) := by
      split at e <;> omega
    simp only [h2]
theorem lo2_skip (hc : ¬ (lo R N l (endQ R N l i q) i = 0 ∨ wOf l i < wOf l (lo R N l (endQ R N l i q) i - 1))) : lo2 R N l i (q + 1) = lo2 R N l i q := by
  have hl : lo R N l (endQ R N l i q) (i + 1) = lo R N l (endQ R N l i q) i := by rw [lo, if_neg (fun h => hc h.2)]
  funext k
  by_cases e : k = endQ R N l i q
  · rw [e, lo2_at hne hq]
    unfold lo2
    rw [if_pos, hl]
    unfold endQ
    split
    · exact Or.inl ⟨by omega, rfl⟩
    · exact Or.inr ⟨by omega, rfl⟩
  · unfold lo2
    unfold endQ at e
    have h2 : ((0 < q + 1 ∧ k = gi R N (eAt l i).a.toNat) ∨ (1 < q + 1 ∧ k = gi R N (eAt l i).b.toNat)) ↔ ((0 < q ∧ k = gi R N (eAt l i).a.toNat) ∨ (1 < q ∧ k = gi R N (eAt l i).b.toNat)) := by
      split at e <;> omega
    simp only [h2]
end
end Go.Proofs.YtpaoiaogcckibaaDoor
namespace Go.Proofs.YtpaoiaogcckibaaDoor
open Go.RowKit
set_option maxRecDepth 100000 in
theorem boruvka_bad (N : Int) (A : Option Addr) (n c : Nat) (l : List Edge) (w : World) (hA : Cells w w.heap.size A (edges l)) (hn : l.length = n) (hm : n ≤ 9223372036854775807) (he : graphErr N l ≠ 0) :
    Calls Tryd.prog 64 #[graphV N A n c] w fun e w' => e = .returned (.tuple #[.slice none 0 0, .iface 91 (.int .i64 (graphErr N l))]) ∧ Below w.heap.size w w' := by
  have hb0 : Below w.heap.size w (w.alloc (.cells #[.int .i64 N, .slice A n c] 40)) := (Below.refl _ _).alloc (Nat.le_refl _) _
  have c1 := spanCheck N A n c l _ (hA.step hb0) hn hm
  rw [errV_bad he] at c1
  unfold graphV at c1 ⊢
  have C1 := Lib.hid c1
  have HB0 := Lib.hid hb0
  clear hn c1 hb0 he hA
  go_enter Tryd.func64, Tryd.ntmps64
  go_wp2_with fail
  refine C1.out.mono ?_
  rintro e w1 ⟨rfl, hb1⟩
  have HB1 : Hid (Below w.heap.size w w1) := HB0.out.trans (hb1.mono (by simp))
  clear hb1 C1 HB0
  go_wp2
  go_ret2
  exact ⟨rfl, HB1.out⟩
/-- where things lie -/
structure BoW (w : World) (N : Nat) (A : Option Addr) (n c I base p : Nat) (U : Option Addr) (cu : Nat) (S : Option Addr) (cs : Nat) (W : World) (R : Nat → Nat) (ib : Nat → Bool) : Prop where
  g : Row W w.heap.size 40 [.int .i64 (N : Int), .slice A n c]
  u : UG W base p N U cu S cs R
  inn : Row W I 4 (bRow n ib)
  below : Below w.heap.size w W
  low : w.heap.size < base ∧ ∀ x ∈ ugs p U S, x < I
section
variable {w W W' : World} {N n c I base p cu cs : Nat} {A U S : Option Addr} {R R' : Nat → Nat} {ib : Nat → Bool}
theorem BoW.i_gt (h : BoW w N A n c I base p U cu S cs W R ib) : w.heap.size < I := by
  have h1 := h.low
  have h2 := (h.u.base_le p (by simp [ugs])).1
  have h3 := h1.2 p (by simp [ugs])
  omega
theorem BoW.kept {bs : List Nat} (h : BoW w N A n c I base p U cu S cs W R ib) (hk : Keeps bs W W') (hn : ∀ x ∈ bs, I < x) : BoW w N A n c I base p U cu S cs W' R ib := by
  have hi := h.i_gt
  have hl := h.low
  exact ⟨hk.row h.g (fun hm => by have := hn _ hm; omega), h.u.keeps hk (fun x hx hm => by have := hn _ hm; have := hl.2 x hx; omega), hk.row h.inn (fun hm => by have := hn _ hm; omega), h.below.trans (hk.below (fun x hx => by have := hn x hx; omega) h.below.size), hl⟩
theorem BoW.unions (h : BoW w N A n c I base p U cu S cs W R ib) (hk : Keeps (ugs p U S) W W') (hu : UG W' base p N U cu S cs R') : BoW w N A n c I base p U cu S cs W' R' ib := by
  have hl := h.low
  have hb := fun x hx => (h.u.base_le x hx).1
  exact ⟨hk.row h.g (fun hm => by have := hb _ hm; omega), hu, hk.row h.inn (fun hm => by have := hl.2 _ hm; omega), h.below.trans (hk.below (fun x hx => by have := hb x hx; omega) h.below.size), hl⟩
theorem BoW.put (h : BoW w N A n c I base p U cu S cs W R ib) (q : Nat) : BoW w N A n c I base p U cu S cs (W.setCell ⟨I, q, none⟩ (.bool true)) R (putB ib q) := by
  have hi := h.i_gt
  have hl := h.low
  have hk : Keeps [I] W (W.setCell ⟨I, q, none⟩ (.bool true)) := (Keeps.refl _ _).setCell (Or.inl (by simp)) _
  refine ⟨hk.row h.g (fun hm => by simp at hm; omega), h.u.keeps hk (fun x hx hm => by simp at hm; have := hl.2 x hx; omega), ?_, h.below.setCell (by show _ ≤ I; omega) _, hl⟩
  unfold putB
  rw [← bRow_set]
  exact h.inn.set_ q _
end
theorem groupsLen {R : Nat → Nat} {k : Nat} : ∀ g ∈ groupsOf R k, g.length ≤ k := fun g hg => by
  obtain ⟨r, _, rfl⟩ := List.mem_map.1 hg
  unfold members
  rw [List.length_map]
  have := List.length_filter_le (fun x => R x == r) (List.range k)
  rw [List.length_range] at this
  exact this
theorem ugRoots {w : World} {base p n cu cs : Nat} {U S : Option Addr} {R : Nat → Nat} (h : UG w base p n U cu S cs R) : roots n R = (firsts R n).length := by
  have := firsts_roots (n := n) (R := R) (fun x hx => h.lt hx) (fun x hx => h.idem hx)
  unfold roots
  exact this.symm
theorem index_two (a b : Value) (w : World) : (Instr.index 142 (.agg #[a, b]) (.int .i64 0)).run Tryd.prog w = .ok a w ∧ (Instr.index 142 (.agg #[a, b]) (.int .i64 1)).run Tryd.prog w = .ok b w := ⟨by kernel_rfl, by kernel_rfl⟩
set_option maxHeartbeats 16000000 in
set_option maxRecDepth 100000 in
theorem boruvka_ok (N : Nat) (A : Option Addr) (n c : Nat) (l : List Edge) (w : World) (hA : Cells w w.heap.size A (edges l)) (hn : l.length = n) (hg : graphErr N l = 0) :
    Calls Tryd.prog 64 #[graphV N A n c] w (KruskalOK w N l) := by
  obtain ⟨⟨hN0, hN1⟩, hl40, hed⟩ := graphErr_ok hg
  have hn40 : n ≤ 40 := by omega
  have hN : N ≤ 16 := by omega
  have HG := Lib.hid hg
  have HN := Lib.hid hn
  have HED := Lib.hid hed
  have hb0 : Below w.heap.size w (w.alloc (.cells #[.int .i64 (N : Int), .slice A n c] 40)) := (Below.refl _ _).alloc (Nat.le_refl _) _
  have c1 := spanCheck N A n c l _ (hA.step hb0) hn (by omega)
  have HR0 : Hid (Row (w.alloc (.cells #[.int .i64 (N : Int), .slice A n c] 40)) w.heap.size 40 [.int .i64 (N : Int), .slice A n c]) := Row.new _ _ _
  rw [hg, errV_zero] at c1
  unfold graphV at c1 ⊢
  have C1 := Lib.hid c1
  have HB0 := Lib.hid hb0
  have hmb := Lib.hid (make_row 103 4 (.bool false) 1 Tryd.underlying103 info_bool rfl n (by omega) (by omega))
  have hmi := Lib.hid (make_row 29 3 (.int .i64 0) 8 Tryd.underlying29 info_int rfl N (by omega) (by omega))
  clear hn c1 hb0 hg hl40 hed hN0 hN1
  go_enter Tryd.func64, Tryd.ntmps64
  go_wp2_with fail
  refine C1.out.mono ?_
  rintro e w1 ⟨rfl, hb1⟩
  have HB1 : Hid (Below w.heap.size w w1) := HB0.out.trans (hb1.mono (by simp))
  have HR1 := Lib.hid (HR0.out.step hb1)
  have hq0 := HR1.out.cell 0
  have c2 := Lib.hid (new_ok N w1 (by omega))
  clear hb1 C1 HB0 HR0
  go_wp2_with fail
  refine c2.out.mono ?_
  rintro e w2 ⟨p, U, cu, S, cs, rfl, hu, hb2⟩
  have hsz1 := HB1.out.size
  have hlt1 := HR1.out.lt
  have HB2 : Hid (Below w.heap.size w w2) := HB1.out.trans (hb2.mono hsz1)
  have HR2 := Lib.hid (HR1.out.step hb2)
  have HU2 := Lib.hid hu
  have hq1 := HR2.out.cell 1
  clear hb2 hu c2 hq0 HR1 HB1
  have hmk := hmb.out
  go_upto_region 8 with fail
  have hk2 : Keeps [] w2 (w2.alloc (.cells (madeCells #[.bool false] n) 4)) := (Keeps.refl [] w2).alloc _
  have hI : Row (w2.alloc (.cells (madeCells #[.bool false] n) 4)) w2.heap.size 4 (bRow n fun _ => false) := by rw [← bRow_none]; exact Row.made _ _ _ _
  have hW : BoW w N A n c w2.heap.size w1.heap.size p U cu S cs (w2.alloc (.cells (madeCells #[.bool false] n) 4)) id (fun _ => false) :=
    ⟨HR2.out.alloc _, HU2.out.keeps hk2 (fun _ _ hm => by simp at hm), hI, HB2.out.alloc HB2.out.size _, hlt1, fun x hx => (HU2.out.base_le x hx).2⟩
  have HW := Lib.hid hW
  obtain ⟨I, hIe⟩ : ∃ z, z = w2.heap.size := ⟨_, rfl⟩
  rw [← hIe] at HW
  rw [← hIe]
  clear hmk hk2 hI hW HU2 HR2 HB2 hq1 hmb
  generalize w2.alloc (.cells (madeCells #[.bool false] n) 4) = w3 at HW ⊢
  clear hIe
  obtain ⟨base, hbe⟩ : ∃ z, z = w1.heap.size := ⟨_, rfl⟩
  rw [← hbe] at HW
  clear hbe
  have HGEN : Hid (Gen N ((insOf n fun _ => false).map (eOf l)) id) := by
    show Gen _ _ _
    have : (insOf n fun _ => false) = [] := by
      unfold insOf
      simp
    rw [this]
    exact Gen.start N
  go_wp2
  go_loopg [8] (N + 1) (fun gh bv wr => ∃ (b : Bool) (R : Nat → Nat) (ib : Nat → Bool), bv = .bool b ∧ Hid (BoW w N A n c I base p U cu S cs wr R ib) ∧ Hid (Gen N ((insOf n ib).map (eOf l)) R) ∧ Hid (∀ i : Nat, i < n → ib i = true → inF N l i = true) ∧ Hid (b = false → ∀ j : Nat, j < n → R (eAt l j).a.toNat = R (eAt l j).b.toNat) ∧ Hid (b = true → roots N R + 1 ≤ gh))
  case atStart => exact ⟨true, id, fun _ => false, rfl, HW.out, HGEN.out, fun _ _ h => (by cases h), fun h => (by cases h), fun _ => (by rw [roots_id]; omega)⟩
  case round =>
    clear HW HGEN
    obtain ⟨b, R, ib, rfl, HW, HGEN, HIN, HDONE, HGH⟩ := hrel
    cases b with
    | false =>
      have hcells := HW.out.inn.cells
      have c9 := Lib.hid (those_ (some ⟨I, 0, none⟩) n n ib wr hcells hn40)
      have HFOR : Hid (insOf n ib = forest N l) := by
        show _ = _
        have h := ins_forest (R := R) (ib := ib) HG.out (by rw [HN.out]; exact HIN.out) (by rw [HN.out]; exact HGEN.out) (by rw [HN.out]; exact HDONE.out rfl)
        rw [HN.out] at h; exact h
      rw [HFOR.out] at c9
      have HB := Lib.hid HW.out.below
      clear hcells HW HGEN HIN HDONE HGH
      go_wp2_with fail
      refine c9.out.mono ?_
      rintro e w9 ⟨V, cv, rfl, hown, hb9⟩
      have HFIN : Hid (KruskalOK w N l (.returned (.tuple #[.slice V (forest N l).length cv, .nilIface])) w9) := ⟨V, cv, rfl, own_base hown HB.out.size, HB.out.trans (hb9.mono HB.out.size)⟩
      clear hown hb9 c9
      go_wp2
      go_ret2
      exact HFIN.out
    | true =>
      have hgb := HGH.out rfl
      have hq0 := HW.out.g.cell 0
      have hmk := hmi.out
      go_upto_region 12 with fail
      have HW5 : Hid (BoW w N A n c I base p U cu S cs (wr.alloc (.cells (madeCells #[.int .i64 0] N) 3)) R ib) := HW.out.kept (bs := []) ((Keeps.refl [] wr).alloc _) (fun x hx => by simp at hx)
      have HG5 : Hid (Row (wr.alloc (.cells (madeCells #[.int .i64 0] N) 3)) wr.heap.size 3 (fRow N fun _ => 0)) := by show Row _ _ _ _; rw [← fRow_zero]; exact Row.made _ _ _ _
      have hsz5 : (wr.alloc (.cells (madeCells #[.int .i64 0] N) 3)).heap.size = wr.heap.size + 1 := by simp
      obtain ⟨G, hGe⟩ : ∃ z, z = wr.heap.size := ⟨_, rfl⟩
      have hIG : I < G := by rw [hGe]; exact HW.out.inn.lt
      rw [← hGe] at HG5 hsz5
      rw [← hGe]
      clear hmk hq0 HW hGe
      generalize wr.alloc (.cells (madeCells #[.int .i64 0] N) 3) = w5 at HW5 HG5 hsz5 ⊢
      have c6 := Lib.hid (all_ HW5.out.u)
      go_wp2_with fail
      refine c6.out.mono ?_
      rintro e w6 ⟨O, co, rs, rfl, hrs, hgx, hu6, hk6⟩
      have HW6 := Lib.hid (HW5.out.unions hk6 hu6)
      have HG6 := Lib.hid (hk6.row HG5.out (fun hm => by have := HW5.out.low.2 _ hm; omega))
      have HRS := Lib.hid hrs
      have HGX := Lib.hid hgx
      have hGlt : G < w6.heap.size := HG6.out.lt
      obtain ⟨L, hL⟩ : ∃ z, z = rs.length := ⟨_, rfl⟩
      rw [← hL]
      have HL := Lib.hid hL
      have HLG : Hid ((groupsOf R N).length = L) := by show _ = _; rw [← hgx, List.length_map, hL]
      have hL16 : L ≤ 16 := by
        have h1 := HLG.out
        have h2 := firsts_len R N
        unfold groupsOf at h1
        rw [List.length_map] at h1
        omega
      have HP6 : Hid (Placed R N 0 [] fun _ => 0) := fun x _ h => by
        rcases h with h | h
        · omega
        · simp at h
      clear hrs hgx hu6 hk6 c6 hL HW5 HG5
      go_wp2
      go_loopw [48] (fun i wr => ∃ (k : Nat) (f : Nat → Int), i = .int .i64 (k : Int) ∧ k ≤ L ∧ Hid (Keeps [G] w6 wr) ∧ Hid (Row wr G 3 (fRow N f)) ∧ Hid (Placed R N k [] f)) (fun i _ => L - (intOf i).toNat)
      case atStart => exact ⟨0, fun _ => 0, rfl, by omega, Keeps.refl _ _, HG6.out, HP6.out⟩
      case round =>
        clear HG6 HP6
        obtain ⟨k, f, rfl, hk, HK, HF, HP⟩ := hrel
        by_cases hkl : k < L
        · have hkz : (k : Int) < L := by omega
          have hat := (HRS.out.keeps HK.out (fun x hx => by simp at hx; omega)).reads
          obtain ⟨bo, offo, r, rfl, hbo, hr, hc, hrow⟩ := hat.at_k (show k < rs.length by rw [← HL.out]; exact hkl)
          have HGK : Hid ((groupsOf R N)[k]? = some r.xs) := by
            show _ = _
            rw [← HGX.out, List.getElem?_map, hr]; rfl
          obtain ⟨lr, hlr⟩ : ∃ z, z = r.xs.length := ⟨_, rfl⟩
          rw [← hlr] at hc
          have hlr16 : lr ≤ 16 := by
            have := groupsLen _ (List.mem_of_getElem? HGK.out)
            omega
          have HLR := Lib.hid hlr
          have HRR := Lib.hid hr
          have HP0 : Hid (Placed R N k (r.xs.take 0) f) := by show Placed _ _ _ _ _; simpa using HP.out
          clear hat hr hrow hlr
          go_wp2
          go_loopw [55] (fun i wr => ∃ (j : Nat) (f : Nat → Int), i = .int .i64 (j : Int) ∧ j ≤ lr ∧ Hid (Keeps [G] w6 wr) ∧ Hid (Row wr G 3 (fRow N f)) ∧ Hid (Placed R N k (r.xs.take j) f)) (fun i _ => lr - (intOf i).toNat)
          case atStart => exact ⟨0, f, rfl, by omega, HK.out, HF.out, HP0.out⟩
          case round =>
            clear HK HF HP HP0 hc
            obtain ⟨j, f, rfl, hj, HK, HF, HP⟩ := hrel
            by_cases hjl : j < lr
            · have hjz : (j : Int) < lr := by omega
              have hat := (HRS.out.keeps HK.out (fun x hx => by simp at hx; omega)).reads
              have hrow := hat.rows r (List.mem_of_getElem? HRR.out)
              obtain ⟨b2, off2, y, hat2, hb2, hy, hcy⟩ := ints_at hrow (show j < r.xs.length by rw [← HLR.out]; exact hjl)
              obtain ⟨x, hxN, rfl⟩ := group_in HGK.out (List.mem_of_getElem? hy)
              have hxz : (x : Int) < N := by omega
              have HPN := Lib.hid (HP.out.put HGK.out hy)
              have hcx := HF.out.cell x
              rw [fRow_at hxN] at hcx
              have hfx := HF.out.frozen x
              rw [hat2]
              clear hat hrow hat2 hy hb2
              go_wp2
              go_roundw
              case rel => exact ⟨j + 1, _, by go_num, by omega, HK.out.setCell (Or.inl (by simp)) _, by show Row _ _ _ _; rw [← fRow_set]; exact HF.out.set_ x _, HPN.out⟩
              case measure => simp [intOf]; omega
            · have hjl2 : j = lr := by omega
              subst hjl2
              have hjz : ¬ (j : Int) < j := by omega
              have HPN := Lib.hid (HP.out.row HGK.out (by rw [← HLR.out]; omega))
              go_wp2
              go_roundw
              case rel => exact ⟨k + 1, f, by go_num, by omega, HK.out, HF.out, HPN.out⟩
              case measure => simp [intOf]; omega
        · have hkl2 : k = L := by omega
          subst hkl2
          have hkz : ¬ (k : Int) < k := by omega
          have hfa := HP.out.all (by rw [HLG.out]; exact Nat.le_refl _)
          have HF7 : Hid (Row wr G 3 (fRow N fun x => (gi R N x : Int))) := by show Row _ _ _ _; rw [← fRow_congr hfa]; exact HF.out
          have HW7 := Lib.hid (HW6.out.kept HK.out (fun x hx => by simp at hx; omega))
          have hcm := Lib.hid (many_ HW7.out.u)
          have hM := ugRoots HW7.out.u
          obtain ⟨M, hMe⟩ : ∃ z, z = roots N R := ⟨_, rfl⟩
          rw [← hMe] at hcm hM
          have HM : Hid (M = roots N R) := hMe
          have HMF : Hid (M = (firsts R N).length) := hM
          have hM60 : M ≤ 16 := by have := roots_le N R; omega
          have hmk := make_row 29 3 (.int .i64 0) 8 Tryd.underlying29 info_int rfl M (by omega) (by omega)
          have hGlt7 : G < wr.heap.size := HF7.out.lt
          clear hfa HF HW6 HK HP hM hMe
          go_wp2_with fail
          refine hcm.out.mono ?_
          rintro e w7 ⟨rfl, rfl⟩
          have hq1 := HW7.out.g.cell 1
          go_upto_region 22 with fail
          have HB8 : Hid (Row (wr.alloc (.cells (madeCells #[.int .i64 0] M) 3)) wr.heap.size 3 (fRow M fun k => lo R N l k 0)) := by
            show Row _ _ _ _
            have := Row.made wr 3 (.int .i64 0) M
            rw [fRow_zero] at this
            exact this
          have hb8 : Keeps [] wr (wr.alloc (.cells (madeCells #[.int .i64 0] M) 3)) := (Keeps.refl [] wr).alloc _
          have HW8 := Lib.hid (HW7.out.kept hb8 (fun x hx => by simp at hx))
          have HF8 := Lib.hid (hb8.row HF7.out (by simp))
          obtain ⟨B, hBe⟩ : ∃ z, z = wr.heap.size := ⟨_, rfl⟩
          rw [← hBe] at HB8 hGlt7
          rw [← hBe]
          clear hb8 hBe hq1 HW7 HF7 hmk hcm
          generalize wr.alloc (.cells (madeCells #[.int .i64 0] M) 3) = w8 at HB8 HW8 HF8 ⊢
          have hq1 := HW8.out.g.cell 1
          go_wp2
          go_loopw [71] (fun ii wr => ∃ (i : Nat), ii = .int .i64 (i : Int) ∧ i ≤ n ∧ Hid (Keeps [B] w8 wr) ∧ Hid (Row wr B 3 (fRow M fun k => lo R N l k i))) (fun ii _ => n - (intOf ii).toNat)
          case atStart => exact ⟨0, rfl, by omega, Keeps.refl _ _, HB8.out⟩
          case round =>
            clear HB8 hq1
            obtain ⟨i, rfl, hi, HK, HB⟩ := hrel
            by_cases hin : i < n
            · have hiz : (i : Int) < n := by omega
              obtain ⟨be, off, ea, eb, et, rfl, hbb, hx, hc0, hc1, hc2⟩ := edges_at hA (show i < l.length by rw [HN.out]; exact hin)
              obtain ⟨⟨ha0, ha1⟩, ⟨hb0, hb1⟩, _⟩ := HED.out _ (List.mem_of_getElem? hx)
              simp only at ha0 ha1 hb0 hb1
              obtain ⟨xa, rfl⟩ : ∃ z : Nat, ea = z := ⟨ea.toNat, by omega⟩
              obtain ⟨xb, rfl⟩ : ∃ z : Nat, eb = z := ⟨eb.toNat, by omega⟩
              have hxa : xa < N := by omega
              have hxb : xb < N := by omega
              have HBW0 : Hid (Below w.heap.size w wr) := HW8.out.below.trans (HK.out.below (fun x hx => by simp at hx; have := HW8.out.i_gt; omega) HW8.out.below.size)
              rw [← HBW0.out.cell hbb] at hc0 hc1 hc2
              have HEA0 := eAt_of hx
              obtain ⟨ga, hga⟩ : ∃ z, z = gi R N xa := ⟨_, rfl⟩
              obtain ⟨gb, hgb⟩ : ∃ z, z = gi R N xb := ⟨_, rfl⟩
              have gaM : ga < M := by rw [HMF.out, hga]; exact gi_lt hxa
              have gbM : gb < M := by rw [HMF.out, hgb]; exact gi_lt hxb
              have HEA : Hid (gi R N (eAt l i).a.toNat = ga ∧ gi R N (eAt l i).b.toNat = gb) := by
                show _ ∧ _
                rw [HEA0, hga, hgb]
                exact ⟨by rw [Int.toNat_natCast], by rw [Int.toNat_natCast]⟩
              have HWI : Hid (wOf l (i : Int) = et) := by show _ = _; unfold wOf; rw [HEA0]
              have HF0 := HK.out.row HF8.out (fun hm => by simp at hm; omega)
              have hcg : HF8.out.cell xa = HF8.out.cell xa := rfl
              clear hx HEA0 hcg
              go_upto_region 25 with fail
              have hE0 := Row.new wr 101 #[.int .i64 (xa : Int), .int .i64 (xb : Int), .int .i64 et]
              have hk0 : Keeps [B] wr (wr.alloc (.cells #[.int .i64 (xa : Int), .int .i64 (xb : Int), .int .i64 et] 101)) := (Keeps.refl _ _).alloc _
              have HK0 := Lib.hid (HK.out.trans hk0)
              have HB0 := Lib.hid (HB.out.alloc (.cells #[.int .i64 (xa : Int), .int .i64 (xb : Int), .int .i64 et] 101))
              have HE0 := Lib.hid hE0
              have hBE : B < wr.heap.size := HB.out.lt
              obtain ⟨E, hEe⟩ : ∃ z, z = wr.heap.size := ⟨_, rfl⟩
              rw [← hEe] at HE0 hBE
              rw [← hEe]
              clear hEe hc0 hc1 hc2 hE0 hk0 HB HK HF0 HBW0
              generalize wr.alloc (.cells #[.int .i64 (xa : Int), .int .i64 (xb : Int), .int .i64 et] 101) = v0 at HK0 HB0 HE0 ⊢
              have HF0 := Lib.hid (HK0.out.row HF8.out (fun hm => by simp at hm; omega))
              have e0 := HE0.out.cell 0
              have e1 := HE0.out.cell 1
              have hf0 := HF0.out.cell xa
              rw [fRow_at hxa, ← hga] at hf0
              have hf1 := HF0.out.cell xb
              rw [fRow_at hxb, ← hgb] at hf1
              have HGA := Lib.hid hga
              have HGB := Lib.hid hgb
              have hxaz : (xa : Int) < N := by omega
              have hxbz : (xb : Int) < N := by omega
              have HIX : Hid (∀ w : World, (Instr.index 142 (.agg #[.int .i64 (ga : Int), .int .i64 (gb : Int)]) (.int .i64 0)).run Tryd.prog w = .ok (.int .i64 (ga : Int)) w ∧ (Instr.index 142 (.agg #[.int .i64 (ga : Int), .int .i64 (gb : Int)]) (.int .i64 1)).run Tryd.prog w = .ok (.int .i64 (gb : Int)) w) := fun w => index_two _ _ w
              clear hga hgb
              have HLO0 : Hid (Row v0 B 3 (fRow M (lo2 R N l i 0))) := by
                show Row _ _ _ _
                rw [fRow_congr (fun x _ => lo2_zero (R := R) (N := N) (l := l) (i := i) x)]; exact HB0.out
              have hE0lt := HE0.out.lt
              go_wp2
              go_quiet (fail)
              go_wp2
              go_loopw [87] (fun ii wr => ∃ (q : Nat), ii = .int .i64 (q : Int) ∧ q ≤ 2 ∧ Hid (Keeps [B] v0 wr) ∧ Hid (Row wr B 3 (fRow M (lo2 R N l i q)))) (fun ii _ => 2 - (intOf ii).toNat)
              case atStart => exact ⟨0, rfl, by omega, (Keeps.refl _ _).drewN _, HLO0.out.drewN _⟩
              case round =>
                clear HLO0 HB0 e0 e1 hf0 hf1
                obtain ⟨q, rfl, hq, HKI, HBI⟩ := hrel
                by_cases hq2 : q < 2
                · by_cases hq0 : q = 0
                  · subst hq0
                    have hend : endQ R N l i 0 = ga := by unfold endQ; rw [if_pos rfl, HEA.out.1]
                    have hgM : ga < M := gaM
                    have hgz : (ga : Int) < M := by omega
                    have HBW : Hid (Below w.heap.size w wr) := HW8.out.below.trans ((HK0.out.trans HKI.out).below (fun x hx => by simp at hx; have := HW8.out.i_gt; omega) HW8.out.below.size)
                    have HWI2 := Lib.hid (HW8.out.kept (HK0.out.trans HKI.out) (fun x hx => by simp at hx; omega))
                    have HEI := Lib.hid (HKI.out.row HE0.out (fun hm => by simp at hm; omega))
                    have HFI := Lib.hid (HKI.out.row HF0.out (fun hm => by simp at hm; omega))
                    have e0 := HEI.out.cell 0
                    have e1 := HEI.out.cell 1
                    have e2 := HEI.out.cell 2
                    have hf0 := HFI.out.cell xa
                    rw [fRow_at hxa, ← HGA.out] at hf0
                    have hf1 := HFI.out.cell xb
                    rw [fRow_at hxb, ← HGB.out] at hf1
                    have hq1 := HWI2.out.g.cell 1
                    have hwi : IntKind.i64.wrap ((i : Int) + 1) = (i : Int) + 1 := by rw [IntKind.wrap_i64]; omega
                    have hcb := HBI.out.cell ga
                    rw [fRow_at hgM] at hcb
                    have hfb := HBI.out.frozen ga
                    by_cases hgg : ga = gb
                    · have hggz : (ga : Int) = (gb : Int) := by omega
                      have HSK : Hid (fRow M (lo2 R N l i 0) = fRow M (lo2 R N l i 1)) := by
                        show _ = _
                        have hs : gi R N (eAt l i).a.toNat = gi R N (eAt l i).b.toNat := by rw [HEA.out.1, HEA.out.2]; exact hgg
                        rw [fRow_congr (fun x _ => lo2_same hs 0 x), fRow_congr (fun x _ => lo2_same hs 1 x)]
                      have hnez : ((ga : Int) != (gb : Int)) = false := by simp [hgg]
                      have hidx : ∀ w : World, (Instr.index 142 (.agg #[.int .i64 (ga : Int), .int .i64 (gb : Int)]) (.int .i64 0)).run Tryd.prog w = .ok (.int .i64 (ga : Int)) w := fun w => (HIX.out w).1
                      generalize Value.agg #[.int .i64 (ga : Int), .int .i64 (gb : Int)] = AG at hidx ⊢
                      clear hggz
                      go_wp2
                      go_quiet (fail)
                      go_wp2
                      go_roundw
                      case rel => exact ⟨1, by go_num, by omega, HKI.out.drewN _, by show Row _ _ _ _; rw [← HSK.out]; exact HBI.out.drewN _⟩
                      case measure => simp [intOf]
                    · have hnez : ((ga : Int) != (gb : Int)) = true := by simp; omega
                      have HNE : Hid (gi R N (eAt l i).a.toNat ≠ gi R N (eAt l i).b.toNat) := by show _ ≠ _; rw [HEA.out.1, HEA.out.2]; exact hgg
                      have HAT : Hid (lo2 R N l i 0 ga = lo R N l ga i) := by
                        show _ = _
                        have := lo2_at HNE.out (q := 0) (by omega)
                        rw [hend] at this; exact this
                      rw [HAT.out] at hcb
                      have hsp := lo_spec (R := R) (N := N) (l := l) ga i
                      obtain ⟨v, hv⟩ : ∃ v, v = lo R N l ga i := ⟨_, rfl⟩
                      rw [← hv] at hcb hsp
                      have HV := Lib.hid hv
                      have HEND := Lib.hid hend
                      have hidx : ∀ w : World, (Instr.index 142 (.agg #[.int .i64 (ga : Int), .int .i64 (gb : Int)]) (.int .i64 0)).run Tryd.prog w = .ok (.int .i64 (ga : Int)) w := fun w => (HIX.out w).1
                      generalize Value.agg #[.int .i64 (ga : Int), .int .i64 (gb : Int)] = AG at hidx ⊢
                      clear hv hend
                      by_cases hv0 : v = 0
                      · have HPUT : Hid (Row (wr.setCell ⟨B, ga, none⟩ (.int .i64 ((i : Int) + 1))) B 3 (fRow M (lo2 R N l i 1))) := by
                          show Row _ _ _ _
                          have h := lo2_put HNE.out (q := 0) (by omega) (by rw [HEND.out, ← HV.out]; exact Or.inl hv0)
                          rw [HEND.out] at h
                          rw [← h, ← fRow_set]
                          exact HBI.out.set_ ga _
                        have hvz : (v == 0) = true := by simp [hv0]
                        clear hsp
                        go_wp2
                        go_quiet (fail)
                        go_wp2
                        go_roundw
                        case rel => exact ⟨1, by go_num, by omega, (HKI.out.drewN _).setCell (Or.inl (by simp)) _, HPUT.out.drewN _⟩
                        case measure => simp [intOf]
                      · have hvz : (v == 0) = false := by simp [hv0]
                        obtain ⟨⟨hv1, hv2⟩, _, _⟩ := hsp.2 hv0
                        obtain ⟨vq, hvq⟩ : ∃ z : Nat, v = z + 1 := ⟨(v - 1).toNat, by omega⟩
                        have hvqn : vq < n := by omega
                        obtain ⟨be2, off2, _, _, et2, hbe2, hbb2, hx2, _, _, hc22⟩ := edges_at hA (show vq < l.length by rw [HN.out]; exact hvqn)
                        simp only [Option.some.injEq, Addr.mk.injEq, and_true] at hbe2
                        obtain ⟨rfl, rfl⟩ := hbe2
                        have HW2 : Hid (wOf l (v - 1) = et2) := by
                          show _ = _
                          rw [show v - 1 = ((vq : Nat) : Int) by omega]
                          unfold wOf; rw [eAt_of hx2]
                        rw [← HBW.out.cell (p := ⟨be, off + vq * 3 + 2, none⟩) hbb2] at hc22
                        have hwv : IntKind.i64.wrap (v - 1) = ((vq : Nat) : Int) := by rw [IntKind.wrap_i64]; omega
                        have hvz2 : (vq : Int) < n := by omega
                        clear hx2 hsp hvq
                        by_cases hlt : et < et2
                        · have HPUT : Hid (Row (wr.setCell ⟨B, ga, none⟩ (.int .i64 ((i : Int) + 1))) B 3 (fRow M (lo2 R N l i 1))) := by
                            show Row _ _ _ _
                            have h := lo2_put HNE.out (q := 0) (by omega) (by rw [HEND.out, ← HV.out, HW2.out, HWI.out]; exact Or.inr hlt)
                            rw [HEND.out] at h
                            rw [← h, ← fRow_set]
                            exact HBI.out.set_ ga _
                          have hltd : decide (et < et2) = true := decide_eq_true hlt
                          go_wp2
                          go_quiet (fail)
                          go_wp2
                          go_roundw
                          case rel => exact ⟨1, by go_num, by omega, (HKI.out.drewN _).setCell (Or.inl (by simp)) _, HPUT.out.drewN _⟩
                          case measure => simp [intOf]
                        · have HSK : Hid (lo2 R N l i 1 = lo2 R N l i 0) := lo2_skip HNE.out (q := 0) (by omega) (by rw [HEND.out, ← HV.out, HW2.out, HWI.out]; omega)
                          have hltd : decide (et < et2) = false := decide_eq_false hlt
                          go_wp2
                          go_quiet (fail)
                          go_wp2
                          go_roundw
                          case rel => exact ⟨1, by go_num, by omega, HKI.out.drewN _, by show Row _ _ _ _; rw [HSK.out]; exact HBI.out.drewN _⟩
                          case measure => simp [intOf]
                  · have hq1' : q = 1 := by omega
                    subst hq1'
                    have hend : endQ R N l i 1 = gb := by unfold endQ; rw [if_neg (by omega), HEA.out.2]
                    have hgM : gb < M := gbM
                    have hgz : (gb : Int) < M := by omega
                    have HBW : Hid (Below w.heap.size w wr) := HW8.out.below.trans ((HK0.out.trans HKI.out).below (fun x hx => by simp at hx; have := HW8.out.i_gt; omega) HW8.out.below.size)
                    have HWI2 := Lib.hid (HW8.out.kept (HK0.out.trans HKI.out) (fun x hx => by simp at hx; omega))
                    have HEI := Lib.hid (HKI.out.row HE0.out (fun hm => by simp at hm; omega))
                    have HFI := Lib.hid (HKI.out.row HF0.out (fun hm => by simp at hm; omega))
                    have e0 := HEI.out.cell 0
                    have e1 := HEI.out.cell 1
                    have e2 := HEI.out.cell 2
                    have hf0 := HFI.out.cell xa
                    rw [fRow_at hxa, ← HGA.out] at hf0
                    have hf1 := HFI.out.cell xb
                    rw [fRow_at hxb, ← HGB.out] at hf1
                    have hq1 := HWI2.out.g.cell 1
                    have hwi : IntKind.i64.wrap ((i : Int) + 1) = (i : Int) + 1 := by rw [IntKind.wrap_i64]; omega
                    have hcb := HBI.out.cell gb
                    rw [fRow_at hgM] at hcb
                    have hfb := HBI.out.frozen gb
                    by_cases hgg : ga = gb
                    · have hggz : (ga : Int) = (gb : Int) := by omega
                      have HSK : Hid (fRow M (lo2 R N l i 1) = fRow M (lo2 R N l i 2)) := by
                        show _ = _
                        have hs : gi R N (eAt l i).a.toNat = gi R N (eAt l i).b.toNat := by rw [HEA.out.1, HEA.out.2]; exact hgg
                        rw [fRow_congr (fun x _ => lo2_same hs 1 x), fRow_congr (fun x _ => lo2_same hs 2 x)]
                      have hnez : ((ga : Int) != (gb : Int)) = false := by simp [hgg]
                      have hidx : ∀ w : World, (Instr.index 142 (.agg #[.int .i64 (ga : Int), .int .i64 (gb : Int)]) (.int .i64 1)).run Tryd.prog w = .ok (.int .i64 (gb : Int)) w := fun w => (HIX.out w).2
                      generalize Value.agg #[.int .i64 (ga : Int), .int .i64 (gb : Int)] = AG at hidx ⊢
                      clear hggz
                      go_wp2
                      go_quiet (fail)
                      go_wp2
                      go_roundw
                      case rel => exact ⟨2, by go_num, by omega, HKI.out.drewN _, by show Row _ _ _ _; rw [← HSK.out]; exact HBI.out.drewN _⟩
                      case measure => simp [intOf]
                    · have hnez : ((ga : Int) != (gb : Int)) = true := by simp; omega
                      have HNE : Hid (gi R N (eAt l i).a.toNat ≠ gi R N (eAt l i).b.toNat) := by show _ ≠ _; rw [HEA.out.1, HEA.out.2]; exact hgg
                      have HAT : Hid (lo2 R N l i 1 gb = lo R N l gb i) := by
                        show _ = _
                        have := lo2_at HNE.out (q := 1) (by omega)
                        rw [hend] at this; exact this
                      rw [HAT.out] at hcb
                      have hsp := lo_spec (R := R) (N := N) (l := l) gb i
                      obtain ⟨v, hv⟩ : ∃ v, v = lo R N l gb i := ⟨_, rfl⟩
                      rw [← hv] at hcb hsp
                      have HV := Lib.hid hv
                      have HEND := Lib.hid hend
                      have hidx : ∀ w : World, (Instr.index 142 (.agg #[.int .i64 (ga : Int), .int .i64 (gb : Int)]) (.int .i64 1)).run Tryd.prog w = .ok (.int .i64 (gb : Int)) w := fun w => (HIX.out w).2
                      generalize Value.agg #[.int .i64 (ga : Int), .int .i64 (gb : Int)] = AG at hidx ⊢
                      clear hv hend
                      by_cases hv0 : v = 0
                      · have HPUT : Hid (Row (wr.setCell ⟨B, gb, none⟩ (.int .i64 ((i : Int) + 1))) B 3 (fRow M (lo2 R N l i 2))) := by
                          show Row _ _ _ _
                          have h := lo2_put HNE.out (q := 1) (by omega) (by rw [HEND.out, ← HV.out]; exact Or.inl hv0)
                          rw [HEND.out] at h
                          rw [← h, ← fRow_set]
                          exact HBI.out.set_ gb _
                        have hvz : (v == 0) = true := by simp [hv0]
                        clear hsp
                        go_wp2
                        go_quiet (fail)
                        go_wp2
                        go_roundw
                        case rel => exact ⟨2, by go_num, by omega, (HKI.out.drewN _).setCell (Or.inl (by simp)) _, HPUT.out.drewN _⟩
                        case measure => simp [intOf]
                      · have hvz : (v == 0) = false := by simp [hv0]
                        obtain ⟨⟨hv1, hv2⟩, _, _⟩ := hsp.2 hv0
                        obtain ⟨vq, hvq⟩ : ∃ z : Nat, v = z + 1 := ⟨(v - 1).toNat, by omega⟩
                        have hvqn : vq < n := by omega
                        obtain ⟨be2, off2, _, _, et2, hbe2, hbb2, hx2, _, _, hc22⟩ := edges_at hA (show vq < l.length by rw [HN.out]; exact hvqn)
                        simp only [Option.some.injEq, Addr.mk.injEq, and_true] at hbe2
                        obtain ⟨rfl, rfl⟩ := hbe2
                        have HW2 : Hid (wOf l (v - 1) = et2) := by
                          show _ = _
                          rw [show v - 1 = ((vq : Nat) : Int) by omega]
                          unfold wOf; rw [eAt_of hx2]
                        rw [← HBW.out.cell (p := ⟨be, off + vq * 3 + 2, none⟩) hbb2] at hc22
                        have hwv : IntKind.i64.wrap (v - 1) = ((vq : Nat) : Int) := by rw [IntKind.wrap_i64]; omega
                        have hvz2 : (vq : Int) < n := by omega
                        clear hx2 hsp hvq
                        by_cases hlt : et < et2
                        · have HPUT : Hid (Row (wr.setCell ⟨B, gb, none⟩ (.int .i64 ((i : Int) + 1))) B 3 (fRow M (lo2 R N l i 2))) := by
                            show Row _ _ _ _
                            have h := lo2_put HNE.out (q := 1) (by omega) (by rw [HEND.out, ← HV.out, HW2.out, HWI.out]; exact Or.inr hlt)
                            rw [HEND.out] at h
                            rw [← h, ← fRow_set]
                            exact HBI.out.set_ gb _
                          have hltd : decide (et < et2) = true := decide_eq_true hlt
                          go_wp2
                          go_quiet (fail)
                          go_wp2
                          go_roundw
                          case rel => exact ⟨2, by go_num, by omega, (HKI.out.drewN _).setCell (Or.inl (by simp)) _, HPUT.out.drewN _⟩
                          case measure => simp [intOf]
                        · have HSK : Hid (lo2 R N l i 2 = lo2 R N l i 1) := lo2_skip HNE.out (q := 1) (by omega) (by rw [HEND.out, ← HV.out, HW2.out, HWI.out]; omega)
                          have hltd : decide (et < et2) = false := decide_eq_false hlt
                          go_wp2
                          go_quiet (fail)
                          go_wp2
                          go_roundw
                          case rel => exact ⟨2, by go_num, by omega, HKI.out.drewN _, by show Row _ _ _ _; rw [HSK.out]; exact HBI.out.drewN _⟩
                          case measure => simp [intOf]
                · have hq3 : q = 2 := by omega
                  subst hq3
                  have HNX : Hid (Row wr B 3 (fRow M fun k => lo R N l k (i + 1))) := by
                    show Row _ _ _ _
                    rw [← fRow_congr (fun x _ => lo2_two (R := R) (N := N) (l := l) (i := i) x)]; exact HBI.out
                  go_wp2
                  go_roundw
                  case rel => exact ⟨i + 1, by go_num, by omega, HK0.out.trans HKI.out, HNX.out⟩
                  case measure => simp [intOf]; omega
            · have hin2 : i = n := by omega
              subst hin2
              have hiz : ¬ (i : Int) < i := by omega
              have HW9 := Lib.hid (HW8.out.kept HK.out (fun x hx => by simp at hx; omega))
              have hIB : I < B := by omega
              have HLO : Hid (∀ k, lo R N l k l.length = lo R N l k i) := fun k => by rw [HN.out]
              clear HW8 HF8 HK HRS HGX
              go_wp2
              go_loopw [132, 8] (fun ii bv wr => ∃ (k : Nat) (b : Bool) (R' : Nat → Nat) (ib' : Nat → Bool), ii = .int .i64 (k : Int) ∧ bv = .bool b ∧ k ≤ M ∧ Hid (BoW w N A i c I base p U cu S cs wr R' ib') ∧ Hid (Gen N ((insOf i ib').map (eOf l)) R') ∧ Hid (∀ j : Nat, j < i → ib' j = true → inF N l j = true) ∧ Hid (b = false → R' = R ∧ ∀ k', k' < k → lo R N l k' i = 0) ∧ Hid (b = true → roots N R' < roots N R) ∧ Hid (Row wr B 3 (fRow M fun k => lo R N l k i))) (fun ii _ _ => M - (intOf ii).toNat)
              case atStart => exact ⟨0, false, R, ib, rfl, rfl, by omega, HW9.out, HGEN.out, HIN.out, fun _ => ⟨rfl, fun k' h => absurd h (by omega)⟩, fun h => (by cases h), HB.out⟩
              case round =>
                clear HW9 HGEN HIN HB
                obtain ⟨k, b, R', ib', rfl, rfl, hk, HW, HGEN, HIN, HF, HT, HB⟩ := hrel
                by_cases hkM : k < M
                · have hkz : (k : Int) < M := by omega
                  have hcb := HB.out.cell k
                  rw [fRow_at hkM] at hcb
                  have hsp := lo_spec (R := R) (N := N) (l := l) k i
                  obtain ⟨v, hv⟩ : ∃ v, v = lo R N l k i := ⟨_, rfl⟩
                  rw [← hv] at hcb hsp
                  have HV := Lib.hid hv
                  clear hv
                  by_cases hv0 : v = 0
                  · have hvz : ¬ (0 : Int) < v := by omega
                    have HF2 : Hid (b = false → R' = R ∧ ∀ k', k' < k + 1 → lo R N l k' i = 0) := fun hb => by
                      obtain ⟨h1, h2⟩ := HF.out hb
                      refine ⟨h1, fun k' hk' => ?_⟩
                      by_cases e : k' = k
                      · subst e; rw [← HV.out]; exact hv0
                      · exact h2 k' (by omega)
                    clear hsp
                    go_wp2
                    go_roundw
                    case rel => exact ⟨k + 1, b, R', ib', by go_num, rfl, by omega, HW.out, HGEN.out, HIN.out, HF2.out, HT.out, HB.out⟩
                    case measure => simp [intOf]; omega
                  · obtain ⟨⟨hv1, hv2⟩, _, _⟩ := hsp.2 hv0
                    obtain ⟨vq, hvq⟩ : ∃ z : Nat, v = z + 1 := ⟨(v - 1).toNat, by omega⟩
                    have hvqn : vq < i := by omega
                    have hvz : (0 : Int) < v := by omega
                    have hvqz : (vq : Int) < i := by omega
                    have hwv : IntKind.i64.wrap (v - 1) = ((vq : Nat) : Int) := by rw [IntKind.wrap_i64]; omega
                    have HNZ : Hid (lo R N l k l.length ≠ 0) := by show _ ≠ _; rw [HLO.out, ← HV.out]; exact hv0
                    have HINF : Hid (inF N l (vq : Int) = true) := by
                      show _ = _
                      have := lo_forest (R := R) HG.out HNZ.out
                      rw [HLO.out, ← HV.out, show v - 1 = ((vq : Nat) : Int) by omega] at this; exact this
                    have HAP : Hid (R (eAt l (vq : Int)).a.toNat ≠ R (eAt l (vq : Int)).b.toNat) := by
                      show _ ≠ _
                      have := lo_apart (R := R) HG.out HNZ.out
                      rw [HLO.out, ← HV.out, show v - 1 = ((vq : Nat) : Int) by omega] at this; exact this
                    obtain ⟨be, off, ea, eb, et, rfl, hbb, hx, hc0, hc1, _⟩ := edges_at hA (show vq < l.length by rw [HN.out]; exact hvqn)
                    obtain ⟨⟨ha0, ha1⟩, ⟨hb0, hb1⟩, _⟩ := HED.out _ (List.mem_of_getElem? hx)
                    simp only at ha0 ha1 hb0 hb1
                    have hin : inG N ea eb = true := inG_true (by omega)
                    have HEA : Hid (eAt l (vq : Int) = ⟨ea, eb, et⟩) := eAt_of hx
                    have HC0 := Lib.hid hc0
                    have HC1 := Lib.hid hc1
                    have HBB := Lib.hid hbb
                    have hfi := HW.out.inn.frozen vq
                    have hci := HW.out.inn.cell vq
                    rw [bRow_at hvqn] at hci
                    clear hx hsp hc0 hc1 hvq
                    go_upto_region 37 with fail
                    have HW10 := Lib.hid (HW.out.put vq)
                    have HB10 : Hid (Row (wr.setCell ⟨I, vq, none⟩ (.bool true)) B 3 (fRow M fun k => lo R N l k i)) := HB.out.far (by show B ≠ I; omega) _
                    clear hfi hci hcb HW HB
                    generalize wr.setCell ⟨I, vq, none⟩ (.bool true) = w10 at HW10 HB10 ⊢
                    have HWD := Lib.hid (HW10.out.kept (bs := []) ((Keeps.refl [] w10).drew) (fun x hx => by simp at hx))
                    have cj := Lib.hid (joinG ea eb HWD.out.u HGEN.out)
                    have HIG := Lib.hid hin
                    have hq1 := HW10.out.g.cell 1
                    have hc0 := (HW10.out.below.cell (p := ⟨be, off + vq * 3, none⟩) HBB.out).trans HC0.out
                    have hc1 := (HW10.out.below.cell (p := ⟨be, off + vq * 3 + 1, none⟩) HBB.out).trans HC1.out
                    clear hin
                    go_wp2_with fail
                    go_region_held3 (fun W => W.cell? ⟨w.heap.size, 1, none⟩ = some (.slice (some ⟨be, off, none⟩) i c) ∧ W.cell? ⟨be, off + vq * 3, none⟩ = some (.int .i64 ea) ∧ W.cell? ⟨be, off + vq * 3 + 1, none⟩ = some (.int .i64 eb)) (first | go_keep | (go_split_ands; refine ⟨?_, ?_, ?_⟩ <;> assumption))
                      (first | (go_at_call 15; refine cj.out.mono ?_; rintro e w11 ⟨t, R2, rfl, hu', hg', hk', hroots, hiff⟩; rw [HIG.out]; have HIFF := Lib.hid hiff; have HROOTS := Lib.hid hroots; have HG' := Lib.hid hg'; have HW11 := Lib.hid (HWD.out.unions hk' hu'); have HB11 := Lib.hid (hk'.row (HB10.out.drew) (fun hm => by have := HWD.out.low.2 _ hm; omega)); clear hu' hg' hk' hroots hiff; have z1 := HW11.out.g.cell 1; have z2 := (HW11.out.below.cell (p := ⟨be, off + vq * 3, none⟩) HBB.out).trans HC0.out; have z3 := (HW11.out.below.cell (p := ⟨be, off + vq * 3 + 1, none⟩) HBB.out).trans HC1.out))
                    have HGN : Hid (Gen N ((insOf i (putB ib' vq)).map (eOf l)) R2) := by
                      have h := HG'.out
                      rw [show (ea, eb) = ((eAt l (vq : Int)).a, (eAt l (vq : Int)).b) by rw [HEA.out]] at h
                      exact h.put hvqn
                    have HIN2 : Hid (∀ j : Nat, j < i → putB ib' vq j = true → inF N l j = true) := fun j hj hp => by
                      unfold putB at hp
                      by_cases e : j = vq
                      · subst e; exact HINF.out
                      · rw [if_neg e] at hp; exact HIN.out j hj hp
                    clear z1 z2 z3 hq1 hc0 hc1 HW10 HB10 HWD cj HG' HGEN HIN
                    cases b with
                    | true =>
                      have HT2 : Hid (true = true → roots N R2 < roots N R) := fun _ => by
                        have h1 := HROOTS.out
                        have h2 := HT.out rfl
                        split at h1 <;> omega
                      go_wp2
                      go_roundw
                      case rel => exact ⟨k + 1, true, R2, putB ib' vq, by go_num, rfl, by omega, HW11.out, HGN.out, HIN2.out, fun h => (by cases h), HT2.out, HB11.out⟩
                      case measure => simp [intOf]; omega
                    | false =>
                      cases t with
                      | true =>
                        have HT2 : Hid (true = true → roots N R2 < roots N R) := fun _ => by
                          have h1 := HROOTS.out
                          have h2 := (HF.out rfl).1
                          rw [h2] at h1
                          simp only [if_true] at h1
                          omega
                        go_wp2
                        go_roundw
                        case rel => exact ⟨k + 1, true, R2, putB ib' vq, by go_num, rfl, by omega, HW11.out, HGN.out, HIN2.out, fun h => (by cases h), HT2.out, HB11.out⟩
                        case measure => simp [intOf]; omega
                      | false =>
                        exfalso
                        have h1 := HIFF.out.2 ⟨HIG.out, by
                          have h2 := HAP.out
                          rw [HEA.out] at h2
                          rw [(HF.out rfl).1]; exact h2⟩
                        cases h1
                · have hkM2 : k = M := by omega
                  subst hkM2
                  have hkz : ¬ (k : Int) < k := by omega
                  have HDN : Hid (b = false → ∀ j : Nat, j < i → R' (eAt l j).a.toNat = R' (eAt l j).b.toNat) := fun hb j hj => by
                    obtain ⟨h1, h2⟩ := HF.out hb
                    rw [h1]
                    exact lo_none (R := R) HG.out (fun k' hk' => by rw [HLO.out]; exact h2 k' (by rw [HMF.out]; exact hk')) (by rw [HN.out]; exact hj)
                  have HGB : Hid (b = true → roots N R' + 1 ≤ gk - 1) := fun hb => by
                    have h1 := HT.out hb
                    omega
                  go_wp2
                  go_roundg (gk - 1)
                  case measure => omega
                  case rel => exact ⟨b, R', ib', rfl, HW.out, HGEN.out, HIN.out, HDN.out, HGB.out⟩
end Go.Proofs.YtpaoiaogcckibaaDoor
