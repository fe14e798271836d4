/- core.Heap of path.far: Pop, walked. Conditions: at most 10000 things. -/
import Derived.Test.YtmcfhiddhifdcaaDoorHeapFarP
namespace Go.Proofs.YtmcfhiddhifdcaaDoor
open Go.RowKit
def frPopOK (w : World) (base p n g c : Nat) (ys : List Fr) (x : Fr) (_ : Unit) (e : Ending) (w' : World) : Prop :=
  e = .returned x.val ∧ ∃ zs, frHeap w' base p n (some ⟨g, 0, none⟩) c zs (.func (.func 23) #[] #[]) ∧ HeapOrd nearerB zs ∧ (x :: zs).Perm ys ∧ Keeps (frBl p (some ⟨g, 0, none⟩)) w w'
theorem frHeap.cut {w : World} {base p n g c : Nat} {ys : List Fr} {FV : Value} (h : frHeap w base p (n + 1) (some ⟨g, 0, none⟩) c ys FV) :
    frHeap (w.setCell ⟨p, 0, none⟩ (.slice (some ⟨g, 0, none⟩) n c)) base p n (some ⟨g, 0, none⟩) c (ys.take n) FV := by
  have e := h.ne
  have hl := h.len
  refine ⟨h.row.set_ 0 _, ?_, h.at_⟩
  have h1 := ownsRow_setCell_other (a := ⟨p, 0, none⟩) h.own (by simp only [Value.ownBlock, ne_eq, Option.some.injEq]; exact e) (.slice (some ⟨g, 0, none⟩) n c)
  obtain ⟨e1, e2⟩ := h1
  refine ⟨by rw [fr_len, List.length_take]; omega, ?_⟩
  rcases e2 with ⟨e3, _⟩ | ⟨g', cap', cur, hv, hb, hg, hnc, hcm, hcs, htk⟩
  · simp at e3
  · simp only [Value.slice.injEq, Option.some.injEq, Addr.mk.injEq, and_true, true_and] at hv
    obtain ⟨rfl, rfl⟩ := hv
    refine Or.inr ⟨g, c, cur, rfl, hb, hg, by omega, hcm, hcs, ?_⟩
    have e4 : frRow (ys.take n) = (frRow ys).take (n * 3) := by
      have e5 : ys = ys.take n ++ ys.drop n := (List.take_append_drop n ys).symm
      conv => rhs; rw [e5]
      have e6 : frRow (ys.take n ++ ys.drop n) = frRow (ys.take n) ++ frRow (ys.drop n) := by unfold frRow; simp only [threes_append]
      rw [e6, List.take_left' (by rw [fr_len, List.length_take]; omega)]
    rw [e4, ← htk, List.take_take, Nat.min_eq_left (by omega)]
set_option maxHeartbeats 8000000 in
set_option maxRecDepth 100000 in
theorem fr_pop {w : World} {base p n g c : Nat} {ys : List Fr} (h : frHeap w base p (n + 1) (some ⟨g, 0, none⟩) c ys (.func (.func 23) #[] #[])) (ho : HeapOrd nearerB ys) (hm : n ≤ 10000)
    (hf : ∀ W : World, Keeps (frBl p (some ⟨g, 0, none⟩)) w W → ∀ x y : Fr, Calls Tryd.prog 23 (#[x.val, y.val] ++ #[]) W fun e w' => e = .returned (.bool (nearerB x y)) ∧ Below W.heap.size W w') :
    Calls Tryd.prog 25 #[.pointer (some ⟨p, 0, none⟩)] w (frPopOK w base p n g c ys ys[0]! ()) := by
  have H := Lib.hid h
  have HO := Lib.hid ho
  have HFF := Lib.hid hf
  have hpl := h.row.lt
  have hgl := h.gl.2
  obtain ⟨ex, hex⟩ : ∃ z, z = ys[0]! := ⟨_, rfl⟩
  have cx := h.get (k := 0) (by omega)
  rw [← hex] at cx
  have HX := Lib.hid hex
  rw [← hex]
  clear hex
  obtain ⟨x0, x1, x2⟩ := ex
  obtain ⟨cx0, cx1, cx2⟩ := cx
  simp only [Nat.zero_mul, Nat.zero_add] at cx0 cx1 cx2
  have hc0 : ∀ O, (w.alloc O).cell? ⟨p, 0, none⟩ = some (.slice (some ⟨g, 0, none⟩) (n + 1) c) := fun O => (h.row.alloc O).cell 0
  have hc00 : ∀ O O', ((w.alloc O).alloc O').cell? ⟨p, 0, none⟩ = some (.slice (some ⟨g, 0, none⟩) (n + 1) c) := fun O O' => ((h.row.alloc O).alloc O').cell 0
  have hcx0 : ∀ O, (w.alloc O).cell? ⟨g, 0, none⟩ = some (.int .i64 x0) := fun O => (World.cell?_alloc_lt w O ⟨g, 0, none⟩ hgl).trans cx0
  have hcx1 : ∀ O, (w.alloc O).cell? ⟨g, 1, none⟩ = some (.int .i64 x1) := fun O => (World.cell?_alloc_lt w O ⟨g, 1, none⟩ hgl).trans cx1
  have hcx2 : ∀ O, (w.alloc O).cell? ⟨g, 2, none⟩ = some (.int .i64 x2) := fun O => (World.cell?_alloc_lt w O ⟨g, 2, none⟩ hgl).trans cx2
  have HR0 : Hid (Row ((w.alloc (.cells #[.int .i64 0, .int .i64 0, .int .i64 0] 52)).alloc (.cells #[.int .i64 x0, .int .i64 x1, .int .i64 x2] 52)) w.heap.size 52 [.int .i64 0, .int .i64 0, .int .i64 0]) := (Row.new w 52 #[.int .i64 0, .int .i64 0, .int .i64 0]).alloc _
  have HR1 : Hid (Row ((w.alloc (.cells #[.int .i64 0, .int .i64 0, .int .i64 0] 52)).alloc (.cells #[.int .i64 x0, .int .i64 x1, .int .i64 x2] 52)) (w.heap.size + 1) 52 [.int .i64 x0, .int .i64 x1, .int .i64 x2]) := by
    have := Row.new (w.alloc (.cells #[.int .i64 0, .int .i64 0, .int .i64 0] 52)) 52 #[.int .i64 x0, .int .i64 x1, .int .i64 x2]
    show Row _ _ _ _
    simpa using this
  have HH1 : Hid (frHeap ((w.alloc (.cells #[.int .i64 0, .int .i64 0, .int .i64 0] 52)).alloc (.cells #[.int .i64 x0, .int .i64 x1, .int .i64 x2] 52)) base p (n + 1) (some ⟨g, 0, none⟩) c ys (.func (.func 23) #[] #[])) := h.keeps (bs := []) (((Keeps.refl _ _).alloc _).alloc _) (by simp) (fun _ _ => by simp)
  have HK1 : Hid (Keeps (frBl p (some ⟨g, 0, none⟩)) w ((w.alloc (.cells #[.int .i64 0, .int .i64 0, .int .i64 0] 52)).alloc (.cells #[.int .i64 x0, .int .i64 x1, .int .i64 x2] 52))) := ((Keeps.refl _ _).alloc _).alloc _
  have hw0 : IntKind.i64.wrap ((n : Int) + 1 - 1) = (n : Int) := by rw [IntKind.wrap_i64]; omega
  have hp0 : 0 < n + 1 := by omega
  have hcap : (n : Int) + 1 ≤ (c : Int) := by
    rcases h.own.2 with ⟨e3, _⟩ | ⟨g', cap', cur, hv, hb, hg, hnc, hcm, hcs, htk⟩
    · simp at e3
    · simp only [Value.slice.injEq, Option.some.injEq, Addr.mk.injEq, and_true, true_and] at hv
      omega
  have hcap2 : (n : Int) ≤ (c : Int) := by omega
  have hcap3 : n ≤ c := by omega
  have hnn : (0 : Int) ≤ (n : Int) := by omega
  have hn1 : (n : Int) < (n : Int) + 1 := by omega
  clear h ho hf cx0 cx1 cx2
  go_enter Tryd.func25, Tryd.ntmps25
  go_wp2
  generalize (w.alloc (.cells #[.int .i64 0, .int .i64 0, .int .i64 0] 52)).alloc (.cells #[.int .i64 x0, .int .i64 x1, .int .i64 x2] 52) = W1 at HR0 HR1 HH1 HK1 ⊢
  clear hc0 hc00 hcx0 hcx1 hcx2
  have hx0 := HH1.out.c0
  have cl := HH1.out.get (k := n) (by omega)
  obtain ⟨el, hel⟩ : ∃ z, z = ys[n]! := ⟨_, rfl⟩
  rw [← hel] at cl
  have HEL := Lib.hid hel
  clear hel
  obtain ⟨l0, l1, l2⟩ := el
  obtain ⟨cl0, cl1, cl2⟩ := cl
  simp only at cl0 cl1 cl2
  have cz := HH1.out.get (k := 0) (by omega)
  obtain ⟨cz0, cz1, cz2⟩ := cz
  simp only [Nat.zero_mul, Nat.zero_add] at cz0 cz1 cz2
  have fz0 := HH1.out.free 0
  have fz1 := HH1.out.free 1
  have fz2 := HH1.out.free 2
  have hput := (HH1.out.put 0 ⟨l0, l1, l2⟩).drew
  simp only [Nat.zero_mul, Nat.zero_add] at hput
  have HH2 := Lib.hid hput
  have HR02 : Hid (Row (((W1.setCell ⟨g, 0, none⟩ (.int .i64 l0)).setCell ⟨g, 1, none⟩ (.int .i64 l1)).setCell ⟨g, 2, none⟩ (.int .i64 l2)).drew w.heap.size 52 [.int .i64 0, .int .i64 0, .int .i64 0]) := (((HR0.out.far (p := ⟨g, 0, none⟩) (by show w.heap.size ≠ g; omega) _).far (p := ⟨g, 1, none⟩) (by show w.heap.size ≠ g; omega) _).far (p := ⟨g, 2, none⟩) (by show w.heap.size ≠ g; omega) _).drew
  have HR12 : Hid (Row (((W1.setCell ⟨g, 0, none⟩ (.int .i64 l0)).setCell ⟨g, 1, none⟩ (.int .i64 l1)).setCell ⟨g, 2, none⟩ (.int .i64 l2)).drew (w.heap.size + 1) 52 [.int .i64 x0, .int .i64 x1, .int .i64 x2]) := (((HR1.out.far (p := ⟨g, 0, none⟩) (by show w.heap.size + 1 ≠ g; omega) _).far (p := ⟨g, 1, none⟩) (by show w.heap.size + 1 ≠ g; omega) _).far (p := ⟨g, 2, none⟩) (by show w.heap.size + 1 ≠ g; omega) _).drew
  have HK2 : Hid (Keeps (frBl p (some ⟨g, 0, none⟩)) w (((W1.setCell ⟨g, 0, none⟩ (.int .i64 l0)).setCell ⟨g, 1, none⟩ (.int .i64 l1)).setCell ⟨g, 2, none⟩ (.int .i64 l2)).drew) := (((HK1.out.setCell (Or.inl (by simp [frBl])) _).setCell (Or.inl (by simp [frBl])) _).setCell (Or.inl (by simp [frBl])) _).drew
  clear hput
  go_region
  generalize (((W1.setCell ⟨g, 0, none⟩ (.int .i64 l0)).setCell ⟨g, 1, none⟩ (.int .i64 l1)).setCell ⟨g, 2, none⟩ (.int .i64 l2)).drew = W2 at HH2 HR02 HR12 HK2 ⊢
  clear hx0 cl0 cl1 cl2 cz0 cz1 cz2 fz0 fz1 fz2 HR0 HR1 HH1 HK1
  have hx0 := HH2.out.c0
  have hfp := HH2.out.row.frozen 0
  have HH3 : Hid (frHeap (W2.setCell ⟨p, 0, none⟩ (.slice (some ⟨g, 0, none⟩) n c)) base p n (some ⟨g, 0, none⟩) c (popped ys) (.func (.func 23) #[] #[])) := by
    have h1 := HH2.out.cut
    have e : (ys.set 0 ⟨l0, l1, l2⟩).take n = popped ys := by
      unfold popped
      rw [show ys.length - 1 = n by have := H.out.len; omega, ← HEL.out]
    rw [e] at h1; exact h1
  have HR03 : Hid (Row (W2.setCell ⟨p, 0, none⟩ (.slice (some ⟨g, 0, none⟩) n c)) w.heap.size 52 [.int .i64 0, .int .i64 0, .int .i64 0]) := HR02.out.far (by show w.heap.size ≠ p; omega) _
  have HR13 : Hid (Row (W2.setCell ⟨p, 0, none⟩ (.slice (some ⟨g, 0, none⟩) n c)) (w.heap.size + 1) 52 [.int .i64 x0, .int .i64 x1, .int .i64 x2]) := HR12.out.far (by show w.heap.size + 1 ≠ p; omega) _
  have HK3 : Hid (Keeps (frBl p (some ⟨g, 0, none⟩)) w (W2.setCell ⟨p, 0, none⟩ (.slice (some ⟨g, 0, none⟩) n c))) := HK2.out.setCell (Or.inl (by simp [frBl])) _
  go_wp2
  generalize W2.setCell ⟨p, 0, none⟩ (.slice (some ⟨g, 0, none⟩) n c) = W3 at HH3 HR03 HR13 HK3 ⊢
  clear hx0 hfp HH2 HR02 HR12 HK2 hw0 hp0 hn1 HEL
  go_loopw [5] (fun i wr => ∃ (k : Nat) (zs : List Fr), i = .int .i64 (k : Int) ∧ k ≤ n ∧ Hid (DownAt nearerB zs k) ∧ Hid ((⟨x0, x1, x2⟩ :: zs).Perm ys) ∧ Hid (frHeap wr base p n (some ⟨g, 0, none⟩) c zs (.func (.func 23) #[] #[])) ∧ Hid (Row wr w.heap.size 52 [.int .i64 0, .int .i64 0, .int .i64 0]) ∧ Hid (Row wr (w.heap.size + 1) 52 [.int .i64 x0, .int .i64 x1, .int .i64 x2]) ∧ Hid (Keeps (frBl p (some ⟨g, 0, none⟩)) w wr)) (fun i _ => n - (intOf i).toNat)
  case atStart => exact ⟨0, popped ys, rfl, by omega, DownAt.start HO.out, by rw [HX.out]; exact popped_perm ys (by have := H.out.len; omega), HH3.out, HR03.out, HR13.out, HK3.out⟩
  case round =>
    clear HH3 HR03 HR13 HK3
    obtain ⟨k, zs, rfl, hk, HD, HPM, HH, HR0, HR1, HK⟩ := hrel
    have hkz : (k : Int) ≤ n := by omega
    have hfin : HeapOrd nearerB zs → ∀ W, frHeap W base p n (some ⟨g, 0, none⟩) c zs (.func (.func 23) #[] #[]) → Keeps (frBl p (some ⟨g, 0, none⟩)) w W → Row W w.heap.size 52 [.int .i64 0, .int .i64 0, .int .i64 0] → frPopOK w base p n g c ys ⟨x0, x1, x2⟩ () (.returned (Fr.val ⟨x0, x1, x2⟩)) (((W.setCell ⟨w.heap.size, 0, none⟩ (.int .i64 x0)).setCell ⟨w.heap.size, 1, none⟩ (.int .i64 x1)).setCell ⟨w.heap.size, 2, none⟩ (.int .i64 x2)) :=
      fun h1 W h2 h3 h4 => ⟨rfl, zs, h2.keeps (bs := [w.heap.size]) ((((Keeps.refl _ _).setCell (Or.inl (by simp)) _).setCell (Or.inl (by simp)) _).setCell (Or.inl (by simp)) _) (by simp; omega) (fun q hq => by simp only [Value.ownBlock, Option.some.injEq] at hq; simp; omega), h1, HPM.out, (((h3.setCell (Or.inr (Nat.le_refl _)) _).setCell (Or.inr (Nat.le_refl _)) _).setCell (Or.inr (Nat.le_refl _)) _)⟩
    have HFIN := Lib.hid hfin
    clear hfin
    by_cases h1 : 2 * k + 1 < n
    · have h1z : 2 * (k : Int) + 1 < n := by omega
      obtain ⟨low, hlow⟩ : ∃ l, l = lower nearerB zs k := ⟨_, rfl⟩
      have hlo := lower_ok nearerB_first (ys := zs) (i := k) (by rw [HH.out.len]; exact h1)
      rw [← hlow, HH.out.len] at hlo
      obtain ⟨hlo1, hlo2, hlo3, hlo4⟩ := hlo
      have HLOW := Lib.hid hlow
      obtain ⟨b, hb⟩ : ∃ b : Bool, b = decide (2 * k + 1 + 1 < n ∧ nearerB zs[2 * k + 1 + 1]! zs[2 * k + 1]! = true) := ⟨_, rfl⟩
      have HB := Lib.hid hb
      have HBT : Hid (b = true → low = 2 * k + 1 + 1) := fun e => by
        rw [hlow]; unfold lower; rw [HH.out.len, if_pos (of_decide_eq_true (hb.symm.trans e))]
      have HBF : Hid (b = false → low = 2 * k + 1) := fun e => by
        rw [hlow]; unfold lower; rw [HH.out.len, if_neg (of_decide_eq_false (hb.symm.trans e))]
      have hloz : (low : Int) < n := by omega
      have h1d : decide ((n : Int) ≤ 2 * (k : Int) + 1) = false := decide_eq_false (by omega)
      obtain ⟨s, hs⟩ : ∃ s, s = 2 * k + 1 := ⟨_, rfl⟩
      have hsz : 2 * (k : Int) + 1 = (s : Int) := by omega
      have HS := Lib.hid hs
      have h1e : decide ((n : Int) ≤ (s : Int)) = false := decide_eq_false (by omega)
      have h1f : decide (n ≤ s) = false := decide_eq_false (by omega)
      clear hlow hb hlo2 hs hlo4
      go_upto_region 9 with fail
      try rw [hsz]
      have hsn : s < n := by have := HS.out; omega
      clear hsz h1z h1d h1e h1f
      go_cut [72] from 47 to 72 (fun v wx => v = .bool b ∧ Hid (frHeap wx base p n (some ⟨g, 0, none⟩) c zs (.func (.func 23) #[] #[])) ∧ Hid (Row wx w.heap.size 52 [.int .i64 0, .int .i64 0, .int .i64 0]) ∧ Hid (Row wx (w.heap.size + 1) 52 [.int .i64 x0, .int .i64 x1, .int .i64 x2]) ∧ Hid (Keeps (frBl p (some ⟨g, 0, none⟩)) w wx))
      case first =>
        by_cases h2 : 2 * k + 1 + 1 < n
        · have h2z : 2 * (k : Int) + 1 + 1 < n := by omega
          obtain ⟨r, hr⟩ : ∃ r, r = s + 1 := ⟨_, rfl⟩
          have hrn : r < n := by have := HS.out; omega
          have hrt : ((s : Int) + 1).toNat = r := by omega
          have hr0 : (0 : Int) ≤ (s : Int) + 1 := by omega
          have hr1 : (s : Int) + 1 < n := by omega
          have hrw : IntKind.i64.wrap ((s : Int) + 1) = (s : Int) + 1 := by rw [IntKind.wrap_i64]; omega
          have hs0 : (0 : Int) ≤ (s : Int) := by omega
          have hs1 : (s : Int) < n := by omega
          have hx0 := HH.out.c0
          have hx1 := HH.out.c1
          obtain ⟨er, her⟩ : ∃ z, z = zs[r]! := ⟨_, rfl⟩
          have cr := HH.out.get (k := r) (by omega)
          rw [← her] at cr
          have HEr := Lib.hid her
          clear her
          obtain ⟨r0, r1, r2⟩ := er
          obtain ⟨cr0, cr1, cr2⟩ := cr
          simp only at cr0 cr1 cr2
          obtain ⟨es, hes⟩ : ∃ z, z = zs[s]! := ⟨_, rfl⟩
          have cs := HH.out.get (k := s) (by omega)
          rw [← hes] at cs
          have HEs := Lib.hid hes
          clear hes
          obtain ⟨s0, s1, s2⟩ := es
          obtain ⟨cs0, cs1, cs2⟩ := cs
          simp only at cs0 cs1 cs2
          have HCF := Lib.hid (HFF.out wr.drew HK.out.drew ⟨r0, r1, r2⟩ ⟨s0, s1, s2⟩)
          have HBE : Hid (b = nearerB ⟨r0, r1, r2⟩ ⟨s0, s1, s2⟩) := by
            show b = _
            rw [HB.out, HEr.out, HEs.out, hr, HS.out]
            cases hq : nearerB zs[2 * k + 1 + 1]! zs[2 * k + 1]! with
            | true => exact decide_eq_true ⟨h2, rfl⟩
            | false => exact decide_eq_false (fun e => by cases e.2)
          clear hr HB HBT HBF h2z
          rw [← HBE.out] at HCF
          go_region_held3 (fun W => W.cell? ⟨p, 0, none⟩ = some (.slice (some ⟨g, 0, none⟩) n c) ∧ W.cell? ⟨p, 1, none⟩ = some (.func (.func 23) #[] #[]) ∧ W.cell? ⟨g, r * 3, none⟩ = some (.int .i64 r0) ∧ W.cell? ⟨g, r * 3 + 1, none⟩ = some (.int .i64 r1) ∧ W.cell? ⟨g, r * 3 + 2, none⟩ = some (.int .i64 r2) ∧ W.cell? ⟨g, s * 3, none⟩ = some (.int .i64 s0) ∧ W.cell? ⟨g, s * 3 + 1, none⟩ = some (.int .i64 s1) ∧ W.cell? ⟨g, s * 3 + 2, none⟩ = some (.int .i64 s2)) (first | go_keep | (go_split_ands; refine ⟨?_, ?_, ?_, ?_, ?_, ?_, ?_, ?_⟩ <;> assumption)) (first | (go_at_call 23; refine HCF.out.mono ?_; rintro e w2 ⟨rfl, hb2⟩; have h2 := HH.out.drew.step hb2; have d0 := h2.c0; have d1 := h2.c1; have dr := h2.get (k := r) (by omega); rw [← HEr.out] at dr; obtain ⟨dr0, dr1, dr2⟩ := dr; have ds := h2.get (k := s) (by omega); rw [← HEs.out] at ds; obtain ⟨ds0, ds1, ds2⟩ := ds))
          have HH2 := Lib.hid h2
          have HK2 : Hid (Keeps (frBl p (some ⟨g, 0, none⟩)) w w2) := HK.out.drew.trans (Keeps.ofBelow hb2)
          have HR02 : Hid (Row w2 w.heap.size 52 [.int .i64 0, .int .i64 0, .int .i64 0]) := HR0.out.drew.step hb2
          have HR12 : Hid (Row w2 (w.heap.size + 1) 52 [.int .i64 x0, .int .i64 x1, .int .i64 x2]) := HR1.out.drew.step hb2
          clear h2 hb2
          go_wp2
          go_meet
          exact ⟨rfl, HH2, HR02, HR12, HK2⟩
        · have h2z : ¬ (s : Int) + 1 < n := by have := HS.out; omega
          have h2d : decide ((s : Int) + 1 < n) = false := decide_eq_false h2z
          have HBE : Hid (b = false) := HB.out.trans (decide_eq_false (fun e => h2 e.1))
          have hw1 : IntKind.i64.wrap ((s : Int) + 1) = (s : Int) + 1 := by rw [IntKind.wrap_i64]; omega
          clear HB HBT HBF
          go_quiet (fail)
          go_wp2
          go_meet
          exact ⟨by rw [HBE.out], HH.out.drewN _, HR0.out.drewN _, HR1.out.drewN _, HK.out.drewN _⟩
      case rest =>
      clear HB
      obtain ⟨rfl, HH2, HR02, HR12, HK2⟩ := hcut
      clear HH HR0 HR1 HK
      go_upto_if 72 with fail
      go_cut [6] from 47 to 74 (fun v wx => v = .int .i64 (low : Int) ∧ wc = wx)
      case first =>
        cases b with
        | true =>
          have HL := Lib.hid (HBT.out rfl)
          have hw1 : IntKind.i64.wrap ((s : Int) + 1) = (s : Int) + 1 := by rw [IntKind.wrap_i64]; omega
          clear HBT HBF
          go_wp2
          go_meet
          exact ⟨int_eq (by have := HL.out; have := HS.out; omega), rfl⟩
        | false =>
          have HL := Lib.hid (HBF.out rfl)
          clear HBT HBF
          go_wp2
          go_meet
          exact ⟨int_eq (by have := HL.out; have := HS.out; omega), rfl⟩
      case rest =>
      clear HBT HBF
      obtain ⟨rfl, rfl⟩ := hcut
      have hx0 := HH2.out.c0
      have hx1 := HH2.out.c1
      obtain ⟨el, hel⟩ : ∃ z, z = zs[low]! := ⟨_, rfl⟩
      have cl := HH2.out.get (k := low) (by omega)
      rw [← hel] at cl
      have HEl := Lib.hid hel
      clear hel
      obtain ⟨l0, l1, l2⟩ := el
      obtain ⟨cl0, cl1, cl2⟩ := cl
      simp only at cl0 cl1 cl2
      obtain ⟨ek, hek⟩ : ∃ z, z = zs[k]! := ⟨_, rfl⟩
      have ck := HH2.out.get (k := k) (by omega)
      rw [← hek] at ck
      have HEk := Lib.hid hek
      clear hek
      obtain ⟨k0, k1, k2⟩ := ek
      obtain ⟨ck0, ck1, ck2⟩ := ck
      simp only at ck0 ck1 ck2
      have b1 : (0 : Int) ≤ (k : Int) := by omega
      have b2 : (k : Int) < (n : Int) := by omega
      have b3 : (0 : Int) ≤ (low : Int) := by omega
      have HCF := Lib.hid (HFF.out wc.drew HK2.out.drew ⟨l0, l1, l2⟩ ⟨k0, k1, k2⟩)
      cases hlt : nearerB ⟨l0, l1, l2⟩ ⟨k0, k1, k2⟩ with
      | true =>
        rw [hlt] at HCF
        have HL := Lib.hid hlt
        clear hlt
        go_wp2
        go_region_held3 (fun W => W.cell? ⟨p, 0, none⟩ = some (.slice (some ⟨g, 0, none⟩) n c) ∧ W.cell? ⟨p, 1, none⟩ = some (.func (.func 23) #[] #[]) ∧ W.cell? ⟨g, low * 3, none⟩ = some (.int .i64 l0) ∧ W.cell? ⟨g, low * 3 + 1, none⟩ = some (.int .i64 l1) ∧ W.cell? ⟨g, low * 3 + 2, none⟩ = some (.int .i64 l2) ∧ W.cell? ⟨g, k * 3, none⟩ = some (.int .i64 k0) ∧ W.cell? ⟨g, k * 3 + 1, none⟩ = some (.int .i64 k1) ∧ W.cell? ⟨g, k * 3 + 2, none⟩ = some (.int .i64 k2)) (first | go_keep | (go_split_ands; refine ⟨?_, ?_, ?_, ?_, ?_, ?_, ?_, ?_⟩ <;> assumption)) (first | (go_at_call 23; refine HCF.out.mono ?_; rintro e w2 ⟨rfl, hb2⟩; have h2 := HH2.out.drew.step hb2; have d0 := h2.c0; have d1 := h2.c1; have dl := h2.get (k := low) (by omega); rw [← HEl.out] at dl; obtain ⟨dl0, dl1, dl2⟩ := dl; have dk := h2.get (k := k) (by omega); rw [← HEk.out] at dk; obtain ⟨dk0, dk1, dk2⟩ := dk))
        have HH3 := Lib.hid h2
        have HK3 : Hid (Keeps (frBl p (some ⟨g, 0, none⟩)) w w2) := HK2.out.drew.trans (Keeps.ofBelow hb2)
        have HR03 : Hid (Row w2 w.heap.size 52 [.int .i64 0, .int .i64 0, .int .i64 0]) := HR02.out.drew.step hb2
        have HR13 : Hid (Row w2 (w.heap.size + 1) 52 [.int .i64 x0, .int .i64 x1, .int .i64 x2]) := HR12.out.drew.step hb2
        clear h2 hb2 hx0 hx1 cl0 cl1 cl2 ck0 ck1 ck2 HH2 HK2 HR02 HR12 HCF
        have hpa := HH3.out.put k ⟨l0, l1, l2⟩
        have hpb := hpa.put low ⟨k0, k1, k2⟩
        have HPB := Lib.hid hpb.drew
        have fl0 := HH3.out.free (low * 3)
        have fl1 := HH3.out.free (low * 3 + 1)
        have fl2 := HH3.out.free (low * 3 + 2)
        have fk0 := HH3.out.free (k * 3)
        have fk1 := HH3.out.free (k * 3 + 1)
        have fk2 := HH3.out.free (k * 3 + 2)
        have hcq := hpa.get (k := low) (by omega)
        have hzq : (zs.set k ⟨l0, l1, l2⟩)[low]! = ⟨l0, l1, l2⟩ := by rw [gset _ _ _ _ (by have := HH3.out.len; omega), if_neg (by omega)]; exact HEl.out.symm
        rw [hzq] at hcq
        obtain ⟨eq0, eq1, eq2⟩ := hcq
        simp only at eq0 eq1 eq2
        clear hpa hpb hzq
        go_wp2
        go_region
        have HK4 : Hid (Keeps (frBl p (some ⟨g, 0, none⟩)) w ((((((w2.setCell ⟨g, k * 3, none⟩ (.int .i64 l0)).setCell ⟨g, k * 3 + 1, none⟩ (.int .i64 l1)).setCell ⟨g, k * 3 + 2, none⟩ (.int .i64 l2)).setCell ⟨g, low * 3, none⟩ (.int .i64 k0)).setCell ⟨g, low * 3 + 1, none⟩ (.int .i64 k1)).setCell ⟨g, low * 3 + 2, none⟩ (.int .i64 k2)).drew) := ((((((HK3.out.setCell (Or.inl (by simp [frBl])) _).setCell (Or.inl (by simp [frBl])) _).setCell (Or.inl (by simp [frBl])) _).setCell (Or.inl (by simp [frBl])) _).setCell (Or.inl (by simp [frBl])) _).setCell (Or.inl (by simp [frBl])) _).drew
        have HR04 : Hid (Row ((((((w2.setCell ⟨g, k * 3, none⟩ (.int .i64 l0)).setCell ⟨g, k * 3 + 1, none⟩ (.int .i64 l1)).setCell ⟨g, k * 3 + 2, none⟩ (.int .i64 l2)).setCell ⟨g, low * 3, none⟩ (.int .i64 k0)).setCell ⟨g, low * 3 + 1, none⟩ (.int .i64 k1)).setCell ⟨g, low * 3 + 2, none⟩ (.int .i64 k2)).drew w.heap.size 52 [.int .i64 0, .int .i64 0, .int .i64 0]) := ((((((HR03.out.far (p := ⟨g, k * 3, none⟩) (by show w.heap.size ≠ g; omega) _).far (p := ⟨g, k * 3 + 1, none⟩) (by show w.heap.size ≠ g; omega) _).far (p := ⟨g, k * 3 + 2, none⟩) (by show w.heap.size ≠ g; omega) _).far (p := ⟨g, low * 3, none⟩) (by show w.heap.size ≠ g; omega) _).far (p := ⟨g, low * 3 + 1, none⟩) (by show w.heap.size ≠ g; omega) _).far (p := ⟨g, low * 3 + 2, none⟩) (by show w.heap.size ≠ g; omega) _).drew
        have HR14 : Hid (Row ((((((w2.setCell ⟨g, k * 3, none⟩ (.int .i64 l0)).setCell ⟨g, k * 3 + 1, none⟩ (.int .i64 l1)).setCell ⟨g, k * 3 + 2, none⟩ (.int .i64 l2)).setCell ⟨g, low * 3, none⟩ (.int .i64 k0)).setCell ⟨g, low * 3 + 1, none⟩ (.int .i64 k1)).setCell ⟨g, low * 3 + 2, none⟩ (.int .i64 k2)).drew (w.heap.size + 1) 52 [.int .i64 x0, .int .i64 x1, .int .i64 x2]) := ((((((HR13.out.far (p := ⟨g, k * 3, none⟩) (by show w.heap.size + 1 ≠ g; omega) _).far (p := ⟨g, k * 3 + 1, none⟩) (by show w.heap.size + 1 ≠ g; omega) _).far (p := ⟨g, k * 3 + 2, none⟩) (by show w.heap.size + 1 ≠ g; omega) _).far (p := ⟨g, low * 3, none⟩) (by show w.heap.size + 1 ≠ g; omega) _).far (p := ⟨g, low * 3 + 1, none⟩) (by show w.heap.size + 1 ≠ g; omega) _).far (p := ⟨g, low * 3 + 2, none⟩) (by show w.heap.size + 1 ≠ g; omega) _).drew
        generalize ((((((w2.setCell ⟨g, k * 3, none⟩ (.int .i64 l0)).setCell ⟨g, k * 3 + 1, none⟩ (.int .i64 l1)).setCell ⟨g, k * 3 + 2, none⟩ (.int .i64 l2)).setCell ⟨g, low * 3, none⟩ (.int .i64 k0)).setCell ⟨g, low * 3 + 1, none⟩ (.int .i64 k1)).setCell ⟨g, low * 3 + 2, none⟩ (.int .i64 k2)).drew = w3 at HPB HK4 HR04 HR14 ⊢
        clear fl0 fl1 fl2 fk0 fk1 fk2 eq0 eq1 eq2
        go_wp2
        go_roundw
        case rel =>
          have hln := HH3.out.len
          have e1 : (zs.set k ⟨l0, l1, l2⟩).set low ⟨k0, k1, k2⟩ = swapped zs k (lower nearerB zs k) := by unfold swapped; rw [← HLOW.out, ← HEk.out, ← HEl.out]
          refine ⟨low, swapped zs k (lower nearerB zs k), rfl, by omega, ?_, ((swapped_perm zs (by omega) (by rw [← HLOW.out]; omega)).cons _).trans HPM.out, ?_, HR04, HR14, HK4⟩
          · have := DownAt.step nearerB_first HD.out (by omega) (by rw [← HLOW.out, ← HEk.out, ← HEl.out]; exact HL.out)
            rw [← HLOW.out] at this ⊢; exact this
          · rw [← e1]; exact HPB
        case measure => simp [intOf]; omega
      | false =>
        rw [hlt] at HCF
        have HL := Lib.hid hlt
        clear hlt
        go_wp2
        go_region_held3 (fun W => W.cell? ⟨p, 0, none⟩ = some (.slice (some ⟨g, 0, none⟩) n c) ∧ W.cell? ⟨p, 1, none⟩ = some (.func (.func 23) #[] #[]) ∧ W.cell? ⟨g, low * 3, none⟩ = some (.int .i64 l0) ∧ W.cell? ⟨g, low * 3 + 1, none⟩ = some (.int .i64 l1) ∧ W.cell? ⟨g, low * 3 + 2, none⟩ = some (.int .i64 l2) ∧ W.cell? ⟨g, k * 3, none⟩ = some (.int .i64 k0) ∧ W.cell? ⟨g, k * 3 + 1, none⟩ = some (.int .i64 k1) ∧ W.cell? ⟨g, k * 3 + 2, none⟩ = some (.int .i64 k2)) (first | go_keep | (go_split_ands; refine ⟨?_, ?_, ?_, ?_, ?_, ?_, ?_, ?_⟩ <;> assumption)) (first | (go_at_call 23; refine HCF.out.mono ?_; rintro e w2 ⟨rfl, hb2⟩; have h2 := HH2.out.drew.step hb2; have d0 := h2.c0; have d1 := h2.c1; have dl := h2.get (k := low) (by omega); rw [← HEl.out] at dl; obtain ⟨dl0, dl1, dl2⟩ := dl; have dk := h2.get (k := k) (by omega); rw [← HEk.out] at dk; obtain ⟨dk0, dk1, dk2⟩ := dk))
        have HH3 := Lib.hid h2
        have HK3 : Hid (Keeps (frBl p (some ⟨g, 0, none⟩)) w w2) := HK2.out.drew.trans (Keeps.ofBelow hb2)
        have HR0 : Hid (Row w2 w.heap.size 52 [.int .i64 0, .int .i64 0, .int .i64 0]) := HR02.out.drew.step hb2
        have HR1 : Hid (Row w2 (w.heap.size + 1) 52 [.int .i64 x0, .int .i64 x1, .int .i64 x2]) := HR12.out.drew.step hb2
        clear h2 hb2 hx0 hx1 cl0 cl1 cl2 ck0 ck1 ck2 HH2 HK2 HR02 HR12 HCF
        clear d0 d1 dl0 dl1 dl2 dk0 dk1 dk2
        have r0 := HR0.out.cell 0
        have r1 := HR0.out.cell 1
        have r2 := HR0.out.cell 2
        have s0 := HR0.out.frozen 0
        have s1 := HR0.out.frozen 1
        have s2 := HR0.out.frozen 2
        have t0 := HR1.out.cell 0
        have t1 := HR1.out.cell 1
        have t2 := HR1.out.cell 2
        simp only [List.getElem?_cons_zero, List.getElem?_cons_succ] at r0 t0 r1 t1 r2 t2
        have HRF : Row (((w2.setCell ⟨w.heap.size, 0, none⟩ (.int .i64 x0)).setCell ⟨w.heap.size, 1, none⟩ (.int .i64 x1)).setCell ⟨w.heap.size, 2, none⟩ (.int .i64 x2)) w.heap.size 52 [.int .i64 x0, .int .i64 x1, .int .i64 x2] := (((HR0.out.set_ 0 (.int .i64 x0)).set_ 1 (.int .i64 x1)).set_ 2 (.int .i64 x2))
        have u0 := HRF.cell 0
        have u1 := HRF.cell 1
        have u2 := HRF.cell 2
        simp only [List.getElem?_cons_zero, List.getElem?_cons_succ] at u0 u1 u2
        clear HRF
        go_wp2
        exact bodyPost_ret (v := .agg #[.int .i64 x0, .int .i64 x1, .int .i64 x2]) (by simp [results, Tryd.results25, go_sem, u0, u1, u2]) rfl (HFIN.out (HD.out.stay nearerB_first (by rw [HH3.out.len]; omega) (by rw [← HLOW.out, ← HEl.out, ← HEk.out]; exact HL.out)) w2 HH3.out HK3.out HR0.out)
    · have h1z : ¬ 2 * (k : Int) + 1 < n := by omega
      have r0 := HR0.out.cell 0
      have r1 := HR0.out.cell 1
      have r2 := HR0.out.cell 2
      have s0 := HR0.out.frozen 0
      have s1 := HR0.out.frozen 1
      have s2 := HR0.out.frozen 2
      have t0 := HR1.out.cell 0
      have t1 := HR1.out.cell 1
      have t2 := HR1.out.cell 2
      simp only [List.getElem?_cons_zero, List.getElem?_cons_succ] at r0 t0 r1 t1 r2 t2
      have HRF : Row (((wr.setCell ⟨w.heap.size, 0, none⟩ (.int .i64 x0)).setCell ⟨w.heap.size, 1, none⟩ (.int .i64 x1)).setCell ⟨w.heap.size, 2, none⟩ (.int .i64 x2)) w.heap.size 52 [.int .i64 x0, .int .i64 x1, .int .i64 x2] := (((HR0.out.set_ 0 (.int .i64 x0)).set_ 1 (.int .i64 x1)).set_ 2 (.int .i64 x2))
      have u0 := HRF.cell 0
      have u1 := HRF.cell 1
      have u2 := HRF.cell 2
      simp only [List.getElem?_cons_zero, List.getElem?_cons_succ] at u0 u1 u2
      clear HRF
      go_wp2
      exact bodyPost_ret (v := .agg #[.int .i64 x0, .int .i64 x1, .int .i64 x2]) (by simp [results, Tryd.results25, go_sem, u0, u1, u2]) rfl (HFIN.out (HD.out.none (by rw [HH.out.len]; omega)) wr HH.out HK.out HR0.out)
end Go.Proofs.YtmcfhiddhifdcaaDoor
