/- What span.Prim tells: what is wrong with a graph, or its forest. Conditions: lengths are such that slices can have. -/
import Derived.Test.YtfbnecnhalnmeaaPrimI
namespace Go.Proofs.Ytfbnecnhalnmeaa
open Go.RowKit Go.Shelf
attribute [local go_sem] Oper.semAt_some
set_option maxRecDepth 100000 in
theorem prim_bad (N : Int) (A : Option Addr) (n c : Nat) (l : List Edge) (w : World) (hA : Cells w w.heap.size A (edges l)) (hn : l.length = n) (hm : n ≤ 9223372036854775807) (he : graphErr N l ≠ 0) :
    Calls Try.prog 13 #[graphV N A n c] w fun e w' => e = .returned (.tuple #[.slice none 0 0, .iface 63 (.int .i64 (graphErr N l))]) ∧ Below w.heap.size w w' := by
  have hb0 : Below w.heap.size w (w.alloc (.cells #[.int .i64 N, .slice A n c] 24)) := (Below.refl _ _).alloc (Nat.le_refl _) _
  have c1 := spanCheck N A n c l _ (hA.step hb0) hn hm
  rw [errV_bad he] at c1
  unfold graphV at c1 ⊢
  have C1 := Lib.hid c1
  have HB0 := Lib.hid hb0
  clear hn c1 hb0 he hA
  go_enter Try.func13, Try.ntmps13
  go_wp2_with fail
  refine C1.out.mono ?_
  rintro e w1 ⟨rfl, hb1⟩
  have HB1 : Hid (Below w.heap.size w w1) := HB0.out.trans (hb1.mono (by simp))
  clear hb1 C1 HB0
  go_wp2
  go_ret2
  exact ⟨rfl, HB1.out⟩
/-- between two rounds -/
def PrI (w : World) (N : Nat) (A : Option Addr) (n c gb H hbx I ibx : Nat) (l : List Edge) (m : Nat) (a : Act) (W : World) : Prop :=
  ∃ (k : Nat) (V ib : Nat → Bool) (Ds : List Nat) (u0 u2 u3 u4 u7 u8 u9 u10 u11 u12 u13 u14 u15 u16 u17 u18 u19 u20 u21 u22 u23 u24 u27 u28 u29 u30 u31 u32 u33 u34 u35 u36 u37 u38 u39 u40 u41 u42 u43 u44 u45 u46 u47 u48 u49 u50 u51 u52 u53 u54 u55 u56 u57 u58 u59 u60 u61 u62 u63 u64 u65 u66 u67 u68 u69 u70 u71 u72 u73 u74 u75 u76 : Value), m = N - k ∧ k ≤ N ∧ a = { tmps := #[u0, .pointer (some ⟨gb, 0, none⟩), u2, u3, u4, .pointer (some ⟨hbx, 0, none⟩), .pointer (some ⟨ibx, 0, none⟩), u7, u8, u9, u10, u11, u12, u13, u14, u15, u16, u17, u18, u19, u20, u21, u22, u23, u24, .int .i64 (N : Int), .int .i64 (k : Int), u27, u28, u29, u30, u31, u32, u33, u34, u35, u36, u37, u38, u39, u40, u41, u42, u43, u44, u45, u46, u47, u48, u49, u50, u51, u52, u53, u54, u55, u56, u57, u58, u59, u60, u61, u62, u63, u64, u65, u66, u67, u68, u69, u70, u71, u72, u73, u74, u75, u76], defers := Ds.map markOf } ∧ Hid (PrW w N A n c gb H hbx I ibx W V ib) ∧ Hid (PD N l V k ib) ∧ Hid (MarksOpen w.heap.size Ds W)
set_option maxHeartbeats 16000000 in
set_option maxRecDepth 100000 in
theorem prim_ok (N : Nat) (A : Option Addr) (n c : Nat) (l : List Edge) (w : World) (hA : Cells w w.heap.size A (edges l)) (hn : l.length = n) (hg : graphErr N l = 0) :
    Calls Try.prog 13 #[graphV N A n c] w (KruskalOK w N l) := by
  obtain ⟨⟨hN0, hN1⟩, hl40, hed⟩ := graphErr_ok hg
  have hn40 : n ≤ 40 := by omega
  have hN : N ≤ 16 := by omega
  have HGE := Lib.hid hg
  have HN := Lib.hid hn
  have HA := Lib.hid hA
  have hb0 : Below w.heap.size w (w.alloc (.cells #[.int .i64 (N : Int), .slice A n c] 24)) := (Below.refl _ _).alloc (Nat.le_refl _) _
  have c1 := spanCheck N A n c l _ (hA.step hb0) hn (by omega)
  have HR0 : Hid (Row (w.alloc (.cells #[.int .i64 (N : Int), .slice A n c] 24)) w.heap.size 24 [.int .i64 (N : Int), .slice A n c]) := Row.new _ _ _
  rw [hg, errV_zero] at c1
  unfold graphV at c1 ⊢
  have C1 := Lib.hid c1
  have HB0 := Lib.hid hb0
  have hmb := Lib.hid (make_row 41 4 (.bool false) 1 Try.underlying41 info_bool rfl N (by omega) (by omega))
  have hmn := Lib.hid (make_row 41 4 (.bool false) 1 Try.underlying41 info_bool rfl n (by omega) (by omega))
  clear hn c1 hb0 hg hl40 hed hN0 hN1 hA
  refine calls_of_marks Try.func13 rfl ?_
  simp only [Try.ntmps13, List.size_toArray, List.length_cons, List.length_nil, Nat.reduceAdd, Nat.reduceSub, Array.replicate_succ, Array.replicate_zero, List.push_toArray, List.append_toArray, List.nil_append, List.cons_append]
  go_wp2_with fail
  refine C1.out.mono ?_
  rintro e w1 ⟨rfl, hb1⟩
  have HB1 : Hid (Below w.heap.size w w1) := HB0.out.trans (hb1.mono (by simp))
  have HR1 := Lib.hid (HR0.out.step hb1)
  have hq0 := HR1.out.cell 0
  have hq1 := HR1.out.cell 1
  have hlt1 := HR1.out.lt
  have hmk := hmb.out
  clear hb1 C1 HB0 HR0
  go_upto_region 5 with fail
  have hmk2 := hmn.out
  obtain ⟨w2, hw2⟩ : ∃ z, z = (w1.alloc (.cells (madeCells #[.bool false] N) 4)).alloc (.cells #[.slice (some ⟨w1.heap.size, 0, none⟩) N N] 41) := ⟨_, rfl⟩
  have hH : Row w2 w1.heap.size 4 (bRow N fun _ => false) := by rw [hw2, ← bRow_none]; exact (Row.made _ _ _ _).alloc _
  have hHX : Row w2 (w1.heap.size + 1) 41 [.slice (some ⟨w1.heap.size, 0, none⟩) N N] := by
    have h := Row.new (w1.alloc (.cells (madeCells #[.bool false] N) 4)) 41 #[.slice (some ⟨w1.heap.size, 0, none⟩) N N]
    rw [World.size_alloc] at h; rw [hw2]; exact h
  have hs2 : w2.heap.size = w1.heap.size + 2 := by rw [hw2]; simp
  have hb12 : Below w1.heap.size w1 w2 := by rw [hw2]; exact ((Below.refl _ _).alloc (Nat.le_refl _) _).alloc (by simp) _
  have HR2 := Lib.hid (HR1.out.step hb12)
  have HB2 : Hid (Below w.heap.size w w2) := HB1.out.trans (hb12.mono HB1.out.size)
  rw [← hw2]
  obtain ⟨H, hHe⟩ : ∃ z, z = w1.heap.size := ⟨_, rfl⟩
  rw [← hHe] at hH hHX hs2 hlt1
  rw [← hHe]
  have HH2 := Lib.hid hH
  have HHX2 := Lib.hid hHX
  have hq2 := HR2.out.cell 0
  have hq3 := HR2.out.cell 1
  have HS2 := Lib.hid hs2
  clear hw2 hb12 hHe hH hHX hq0 hq1 HR1 HB1 hmk hmb hs2
  go_upto_region 6 with fail
  obtain ⟨w3, hw3⟩ : ∃ z, z = (w2.alloc (.cells (madeCells #[.bool false] n) 4)).alloc (.cells #[.slice (some ⟨w2.heap.size, 0, none⟩) n n] 41) := ⟨_, rfl⟩
  have hI : Row w3 w2.heap.size 4 (bRow n fun _ => false) := by rw [hw3, ← bRow_none]; exact (Row.made _ _ _ _).alloc _
  have hIX : Row w3 (w2.heap.size + 1) 41 [.slice (some ⟨w2.heap.size, 0, none⟩) n n] := by
    have h := Row.new (w2.alloc (.cells (madeCells #[.bool false] n) 4)) 41 #[.slice (some ⟨w2.heap.size, 0, none⟩) n n]
    rw [World.size_alloc] at h; rw [hw3]; exact h
  have hs3 : w3.heap.size = w2.heap.size + 2 := by rw [hw3]; simp
  have hb23 : Below w2.heap.size w2 w3 := by rw [hw3]; exact ((Below.refl _ _).alloc (Nat.le_refl _) _).alloc (by simp) _
  have HB3 : Hid (Below w.heap.size w w3) := HB2.out.trans (hb23.mono HB2.out.size)
  have HW : Hid (PrW w N A n c w.heap.size H (H + 1) w2.heap.size (w2.heap.size + 1) w3 (fun _ => false) (fun _ => false)) :=
    ⟨HR2.out.step hb23, HH2.out.step hb23, HHX2.out.step hb23, hI, hIX, HB3.out, by have := HS2.out; omega⟩
  rw [← hw3]
  obtain ⟨I, hIe⟩ : ∃ z, z = w2.heap.size := ⟨_, rfl⟩
  rw [← hIe] at HW hs3
  rw [← hIe]
  have HS3 := Lib.hid hs3
  have hq4 := HW.out.g.cell 0
  clear hw3 hb23 hIe hI hIX hq2 hq3 HR2 HB2 HH2 HHX2 hmk2 hmn HB3 hs3 HS2
  obtain ⟨gb, hgb⟩ : ∃ z, z = w.heap.size := ⟨_, rfl⟩
  obtain ⟨hbx, hhb⟩ : ∃ z, z = H + 1 := ⟨_, rfl⟩
  obtain ⟨ibx, hib⟩ : ∃ z, z = I + 1 := ⟨_, rfl⟩
  have HW' : Hid (PrW w N A n c gb H hbx I ibx w3 (fun _ => false) (fun _ => false)) := by rw [hgb, hhb, hib]; exact HW.out
  rw [← hgb] at hq4
  rw [← hgb, ← hhb, ← hib]
  clear HW hgb hhb hib
  go_wp2
  refine wp_loop_ghost_k (PrI w N A n c gb H hbx I ibx l) N ?_ ?_
  · exact ⟨0, fun _ => false, fun _ => false, [], _, _, _, _, _, _, _, _, _, _, _, _, _, _, _, _, _, _, _, _, _, _, _, _, _, _, _, _, _, _, _, _, _, _, _, _, _, _, _, _, _, _, _, _, _, _, _, _, _, _, _, _, _, _, _, _, _, _, _, _, _, _, _, _, _, _, _, _, _, _, _, _, rfl, by omega, rfl, HW'.out, PD.start, MarksOpen.nil _ _⟩
  · intro nn a W hI J K hJ hK
    clear HW' hq4
    obtain ⟨k, V, ib, Ds, u0, u2, u3, u4, u7, u8, u9, u10, u11, u12, u13, u14, u15, u16, u17, u18, u19, u20, u21, u22, u23, u24, u27, u28, u29, u30, u31, u32, u33, u34, u35, u36, u37, u38, u39, u40, u41, u42, u43, u44, u45, u46, u47, u48, u49, u50, u51, u52, u53, u54, u55, u56, u57, u58, u59, u60, u61, u62, u63, u64, u65, u66, u67, u68, u69, u70, u71, u72, u73, u74, u75, u76, rfl, hk, rfl, HW, HPD, HM⟩ := hI
    have HJ := Lib.hid hJ
    have HK := Lib.hid hK
    clear hJ hK
    by_cases hkN : k < N
    · have hkz : (k : Int) < N := by omega
      have c2 := Lib.hid (in_new gb W)
      go_wp2_with fail
      refine c2.out.mono ?_
      rintro e W1 ⟨rfl, hh, hb1⟩
      obtain ⟨W2, hW2⟩ : ∃ z, z = (W1.alloc (.cells #[.pointer (some ⟨W.heap.size, 0, none⟩)] 69)).alloc (.cells #[.func (.func 35) #[] #[.pointer (some ⟨hbx, 0, none⟩), .pointer (some ⟨gb, 0, none⟩), .pointer (some ⟨W1.heap.size, 0, none⟩)]] 71) := ⟨_, rfl⟩
      have hpx : Row W2 W1.heap.size 69 [.pointer (some ⟨W.heap.size, 0, none⟩)] := by rw [hW2]; exact (Row.new W1 _ #[.pointer (some ⟨W.heap.size, 0, none⟩)]).alloc _
      have hgx : Row W2 (W1.heap.size + 1) 71 [.func (.func 35) #[] #[.pointer (some ⟨hbx, 0, none⟩), .pointer (some ⟨gb, 0, none⟩), .pointer (some ⟨W1.heap.size, 0, none⟩)]] := by
        have h := Row.new (W1.alloc (.cells #[.pointer (some ⟨W.heap.size, 0, none⟩)] 69)) 71 #[.func (.func 35) #[] #[.pointer (some ⟨hbx, 0, none⟩), .pointer (some ⟨gb, 0, none⟩), .pointer (some ⟨W1.heap.size, 0, none⟩)]]
        rw [World.size_alloc] at h; rw [hW2]; exact h
      have hk12 : Keeps [] W1 W2 := by rw [hW2]; exact ((Keeps.refl _ _).alloc _).alloc _
      have hk2 : Keeps [] W W2 := (Keeps.ofBelow hb1).trans hk12
      have hpp : ibx < W.heap.size := HW.out.ix.lt
      have hp1 : W.heap.size < W1.heap.size := hh.row.lt
      have HS : Hid (PrH w N A n c gb H hbx I ibx W.heap.size W1.heap.size (W1.heap.size + 1) W2 V ib 0 none 0 []) :=
        ⟨HW.out.kept hk2 (fun x hx => by simp at hx), hh.keeps hk12 (by simp) (fun _ _ => by simp), hpx, hgx, by omega⟩
      have HM2 : Hid (MarksOpen w.heap.size Ds W2) := HM.out.others (hk2.others (fun b hb => by simp at hb))
      have hst := store_func (.func 35) #[.pointer (some ⟨hbx, 0, none⟩), .pointer (some ⟨gb, 0, none⟩), .pointer (some ⟨W1.heap.size, 0, none⟩)] (W1.alloc (.cells #[.pointer (some ⟨W.heap.size, 0, none⟩)] 69)) 71
      rw [World.size_alloc] at hst
      go_upto_region 11 with fail
      rw [← hW2]
      clear hst hW2 hpx hgx hk12 hk2 hh hb1 c2 HW HM
      obtain ⟨gbx, hgbx⟩ : ∃ z, z = W1.heap.size + 1 := ⟨_, rfl⟩
      rw [← hgbx] at HS ⊢
      obtain ⟨pbx, hpbx⟩ : ∃ z, z = W1.heap.size := ⟨_, rfl⟩
      rw [← hpbx] at HS hp1 ⊢
      obtain ⟨p, hpe⟩ : ∃ z, z = W.heap.size := ⟨_, rfl⟩
      rw [← hpe] at HS hp1 hpp ⊢
      clear hpe hpbx hgbx
      have hcx := HS.out.w.hx.cell 0
      have hck := HS.out.w.h.cell k
      rw [bRow_at hkN] at hck
      obtain ⟨bk, hbk⟩ : ∃ z, z = V k := ⟨_, rfl⟩
      rw [← hbk] at hck
      have HBK := Lib.hid hbk
      clear hbk
      go_upto_if 36 with fail
      clear hcx hck
      go_cut [39] from 37 to 39 (fun v wx => ∃ (Vc : Nat → Bool) (nh : Nat) (Vr : Option Addr) (cr : Nat) (zs : List Int), Hid (PrH w N A n c gb H hbx I ibx p pbx gbx wx Vc ib nh Vr cr zs) ∧ Hid (HeapOrd (ltB l) zs) ∧ Hid (PI N l V Vc k ib zs) ∧ Hid (Vc k = true) ∧ Hid (MarksOpen w.heap.size Ds wx))
      case first =>
        cases bk with
        | true =>
          have HV : Hid (V k = true) := HBK.out.symm
          clear HBK
          go_wp2
          go_meet
          exact ⟨V, 0, none, 0, [], HS.out, HeapOrd.nil, HPD.out.none, HV.out, HM2.out⟩
        | false =>
          have HV : Hid (V k = false) := HBK.out.symm
          clear HBK
          have hgc := HS.out.gx.cell 0
          have c3 := Lib.hid (HS.out.grow (a := k) HGE.out HN.out HA.out HeapOrd.nil (fun y hy => by simp at hy) (by omega) hkN)
          go_wp2_with fail
          refine c3.out.mono ?_
          rintro e W3 ⟨rfl, nh', Vr', cr', zs', h1, h2, h3, h4⟩
          have H1 := Lib.hid h1
          have H2 := Lib.hid h2
          have H3 := Lib.hid h3
          have HM3 : Hid (MarksOpen w.heap.size Ds W3) := HM2.out.others (h4.others (fun b hb => by
            rcases List.mem_cons.1 hb with rfl | hb
            · exact HS.out.w.h.isCells
            · exact in_cells HS.out.heap b hb))
          clear h1 h2 h3 h4 c3 hgc
          go_wp2
          go_meet
          exact ⟨had1 V k, nh', Vr', cr', zs', H1.out, H2.out, (HPD.out.begin HGE.out HV.out).perm (by have := H3.out; rw [← HN.out] at this; simpa using this.symm), by show had1 V k k = true; simp [had1], HM3.out⟩
      case rest =>
      clear HS HM2 HBK
      obtain ⟨Vc, nh, Vr, cr, zs, HS, HO, HPI, HVK, HM⟩ := hcut
      have hpc := HS.out.px.cell 0
      go_wp2_with fail
      have hlt : ∀ D ∈ Ds, D < wc.heap.size := fun D hD => lt_of_block (HM.out.2 D hD).2
      have HLT := Lib.hid hlt
      have hB : w.heap.size ≤ wc.heap.size := HS.out.w.below.size
      have HI0 : Hid (PrRI Ds w N A n c gb H hbx I ibx p pbx gbx l V k (100 * (N - cntH N Vc) + nh) wc) := ⟨Vc, ib, nh, Vr, cr, zs, HS.out, HO.out, HPI.out, HVK.out, fun D hD => (HM.out.2 D hD).2, rfl⟩
      clear hpc HS HO HPI HVK
      refine wp_rangeA (γ := Int) (gf := 37) (la := #[.pointer (some ⟨p, 0, none⟩)]) (encs := fun x => #[.int .i64 x]) rfl (enters_of Try.func37 (by kernel_rfl) rfl) (fun _ => rfl)
        (PrRI Ds w N A n c gb H hbx I ibx p pbx gbx l V k) (PrRG Ds w N A n c gb H hbx I ibx p pbx gbx l V k) (PrRF Ds w N A n c gb H hbx I ibx p pbx gbx l V k) (fun _ _ => False) (pr_iter Ds w N A n c gb H hbx I ibx p pbx gbx l V k HN.out hn40 HA.out)
        (prRI_own hB hlt) (prRF_own hB hlt) ?ownX _ HI0.out
        (fun a0 m x a' W => a' = { tmps := (a0.tmps.setIfInBounds 42 (.int .i64 x)).setIfInBounds 10 (.int .i64 x), defers := [] } ∧ PrRG Ds w N A n c gb H hbx I ibx p pbx gbx l V k m x W)
        ?ownA ?assign ?body ?done ?stop
      case ownX =>
        intro cc m W W' row hx _ _
        exact hx.elim
      case ownA =>
        rintro m x a' u W W' row ⟨h1, h2⟩ hg hr
        exact ⟨h1, prRG_own hB hlt m x () W W' row h2 hg hr⟩
      case assign =>
        intro lp m x W K2 hG hK2
        have HK2 := Lib.hid (fun a' h => hK2 a' W (KeepsFrom.refl _ _) ⟨h, hG⟩)
        clear hK2 hG hlt
        gi_wp2
        refine HK2.out _ ?_
        rfl
      case done =>
        rintro D W2 hD ⟨V2, ib2, Vr2, cr2, hw, hi, hv, hmk⟩ hd
        have HPD2 : Hid (PD N l V2 (k + 1) ib2) := (hi.done HGE.out (fun x hx => hi.sub x (HPD.out.low x hx))).more hv
        have HM2 : Hid (MarksOpen w.heap.size (D :: Ds) W2) := MarksOpen.more ⟨HM.out.1, fun E hE => ⟨(HM.out.2 E hE).1, hmk E hE⟩⟩ (Nat.le_trans hB hD) (fun hm => by have := HLT.out D hm; omega) hd
        have HW2 := Lib.hid hw.w
        clear hw hi hv hmk hd hlt HI0 HM HPD
        go_wp2
        exact HK.out _ _ (Handed.intro (N - (k + 1)) (by omega) (HJ.out _ _ _ ⟨k + 1, V2, ib2, D :: Ds, _, _, _, _, _, _, _, _, _, _, _, _, _, _, _, _, _, _, _, _, _, _, _, _, _, _, _, _, _, _, _, _, _, _, _, _, _, _, _, _, _, _, _, _, _, _, _, _, _, _, _, _, _, _, _, _, _, _, _, _, _, _, _, _, _, _, _, _, _, _, _, _, rfl, by omega, rfl, HW2.out, HPD2.out, HM2.out⟩))
      case stop =>
        intro D cc W2 _ hx _
        exact hx.elim
      case body =>
        rintro lp m x a' W ⟨rfl, Vb, ib2, nh2, Vr2, cr2, zs2, hw, ho, hi, hle, hv, hmk, hm⟩
        have HI := Lib.hid hi
        have HO := Lib.hid ho
        have HLE := Lib.hid hle
        have HVB := Lib.hid hv
        have HMK := Lib.hid hmk
        obtain ⟨⟨hx0, hx1⟩, _⟩ := hi.heap x (by simp)
        obtain ⟨q, rfl⟩ : ∃ q : Nat, x = q := ⟨x.toNat, by omega⟩
        have hqn : q < n := by have := HN.out; omega
        have hqz : (q : Int) < n := by omega
        obtain ⟨be, off, ea, eb, et, rfl, hbb, hx, hc0, hc1, hc2⟩ := edges_at HA.out (show q < l.length by rw [HN.out]; exact hqn)
        obtain ⟨⟨xa0, xa1⟩, ⟨xb0, xb1⟩, _⟩ := (graphErr_ok HGE.out).2.2 _ (List.mem_of_getElem? hx)
        simp only at xa0 xa1 xb0 xb1
        obtain ⟨xa, rfl⟩ : ∃ z : Nat, ea = z := ⟨ea.toNat, by omega⟩
        obtain ⟨xb, rfl⟩ : ∃ z : Nat, eb = z := ⟨eb.toNat, by omega⟩
        have hxa : xa < N := by omega
        have hxb : xb < N := by omega
        have HEA : Hid (eAt l q = ⟨xa, xb, et⟩) := eAt_of hx
        rw [← hw.w.below.cell hbb] at hc0 hc1 hc2
        have hg1 := hw.w.g.cell 1
        have hbW : Below W.heap.size W (W.alloc (.cells #[.int .i64 (xa : Int), .int .i64 (xb : Int), .int .i64 et] 33)) := (Below.refl _ _).alloc (Nat.le_refl _) _
        have HS0 := Lib.hid (hw.step hbW)
        have HE0 := Lib.hid (Row.new W 33 #[.int .i64 (xa : Int), .int .i64 (xb : Int), .int .i64 et])
        have HK0 : Hid (KeepsFrom wc.heap.size W (W.alloc (.cells #[.int .i64 (xa : Int), .int .i64 (xb : Int), .int .i64 et] 33))) := (KeepsOthers.alloc _ _).from _
        have HMK0 : Hid (MarksAt Ds (W.alloc (.cells #[.int .i64 (xa : Int), .int .i64 (xb : Int), .int .i64 et] 33))) := hmk.others (KeepsOthers.alloc _ _)
        have hcnt := cntH_le N Vb
        have hIW := hw.w.i.lt
        have hlz2 := hw.heap.len
        have hlp2 := hi.len
        have HZS : Hid (∀ y ∈ zs2, 0 ≤ y ∧ y < (n : Int)) := fun y hy => by
          have := (hi.heap y (by simp [hy])).1
          have := HN.out
          omega
        have hnh2 : nh2 ≤ 40 := by
          simp only [List.length_cons] at hlp2
          have := HN.out
          omega
        clear hw ho hi hle hv hmk hx hbW HI0 HM HPD hlt
        simp only [List.setIfInBounds_toArray, List.set_cons_succ, List.set_cons_zero]
        gi_upto_region 16 with fail
        obtain ⟨E, hEe⟩ : ∃ z, z = W.heap.size := ⟨_, rfl⟩
        have HEI : Hid (E ≠ I) := by show ¬ _; omega
        rw [← hEe] at HE0
        rw [← hEe]
        clear hEe hc0 hc1 hc2 hg1 hIW
        generalize W.alloc (.cells #[.int .i64 (xa : Int), .int .i64 (xb : Int), .int .i64 et] 33) = v0 at HS0 HE0 HK0 HMK0 ⊢
        have e0 := HE0.out.cell 0
        have e1 := HE0.out.cell 1
        have hcx := HS0.out.w.hx.cell 0
        have hva := HS0.out.w.h.cell xa
        rw [bRow_at hxa] at hva
        have hvb := HS0.out.w.h.cell xb
        rw [bRow_at hxb] at hvb
        have hix := HS0.out.w.ix.cell 0
        have hiq := HS0.out.w.i.cell q
        rw [bRow_at hqn] at hiq
        have hif := HS0.out.w.i.frozen q
        cases hqa : Vb xa with
        | false =>
          have HVV : Hid (Vb xa = false) := hqa
          rw [hqa] at hva
          clear hqa
          gi_upto_region 18 with fail
          have HS1 := Lib.hid (HS0.out.put q)
          have HE1 : Hid (Row (v0.setCell ⟨I, q, none⟩ (.bool true)) E 33 [.int .i64 (xa : Int), .int .i64 (xb : Int), .int .i64 et]) := HE0.out.far (by show E ≠ I; exact HEI.out) _
          have HK1 : Hid (KeepsFrom wc.heap.size W (v0.setCell ⟨I, q, none⟩ (.bool true))) := HK0.out.trans ((KeepsOthers.setCell _ _ _).from _)
          have HMK1 : Hid (MarksAt Ds (v0.setCell ⟨I, q, none⟩ (.bool true))) := HMK0.out.others (KeepsOthers.setCell _ _ _)
          clear e0 e1 hcx hva hvb hix hiq hif HS0 HE0 HK0 HMK0
          generalize v0.setCell ⟨I, q, none⟩ (.bool true) = v1 at HS1 HE1 HK1 HMK1 ⊢
          have e0 := HE1.out.cell 0
          have e1 := HE1.out.cell 1
          have hgc := HS1.out.gx.cell 0
          have c4 := Lib.hid (HS1.out.grow (a := xa) HGE.out HN.out HA.out HO.out HZS.out (by omega) hxa)
          gi_wp2_with fail
          refine ⟨trivial, ?_⟩
          refine (CallsIn.inRound lp ((callsIn_wide (n := 0)).2 c4.out)).mono ?_
          rintro e v2 ⟨rfl, nh', Vr', cr', zs', h1, h2, h3, h4⟩
          have hoth := h4.others (fun b hb => by
            rcases List.mem_cons.1 hb with rfl | hb
            · exact HS1.out.w.h.isCells
            · exact in_cells HS1.out.heap b hb)
          have HPT : Hid (PI N l V (had1 Vb xa) k (putB ib2 q) zs') := (PI.take HI.out HGE.out HLE.out (a := xa) (b := xb) (by rw [HEA.out]; exact Or.inl ⟨rfl, rfl⟩) HVV.out).perm (by rw [HN.out]; exact h3.symm)
          have HR1 := Lib.hid h1
          have HR2 := Lib.hid h2
          have HK2 : Hid (KeepsFrom wc.heap.size W v2) := HK1.out.trans (hoth.from _)
          have HMK2 : Hid (MarksAt Ds v2) := HMK1.out.others hoth
          have hlz := h1.heap.len
          have hlp := HPT.out.len
          have hcm := cntH_more (n := N) hxa HVV.out
          have hcl := cntH_le N (had1 Vb xa)
          have HVK2 : Hid (had1 Vb xa k = true) := by show had1 _ _ _ = true; unfold had1; split <;> first | rfl | exact HVB.out
          clear h1 h2 h3 h4 hoth c4 e0 e1 hgc
          gi_wp2
          exact ⟨HK2.out, 100 * (N - cntH N (had1 Vb xa)) + nh', by have := HN.out; omega, had1 Vb xa, putB ib2 q, nh', Vr', cr', zs', HR1.out, HR2.out, HPT.out, HVK2.out, HMK2.out, rfl⟩
        | true =>
          have HVA : Hid (Vb xa = true) := hqa
          rw [hqa] at hva
          clear hqa
          cases hqb : Vb xb with
          | false =>
            have HVV : Hid (Vb xb = false) := hqb
            rw [hqb] at hvb
            clear hqb
            gi_upto_region 21 with fail
            have HS1 := Lib.hid (HS0.out.put q)
            have HE1 : Hid (Row (v0.setCell ⟨I, q, none⟩ (.bool true)) E 33 [.int .i64 (xa : Int), .int .i64 (xb : Int), .int .i64 et]) := HE0.out.far (by show E ≠ I; exact HEI.out) _
            have HK1 : Hid (KeepsFrom wc.heap.size W (v0.setCell ⟨I, q, none⟩ (.bool true))) := HK0.out.trans ((KeepsOthers.setCell _ _ _).from _)
            have HMK1 : Hid (MarksAt Ds (v0.setCell ⟨I, q, none⟩ (.bool true))) := HMK0.out.others (KeepsOthers.setCell _ _ _)
            clear e0 e1 hcx hva hvb hix hiq hif HS0 HE0 HK0 HMK0
            generalize v0.setCell ⟨I, q, none⟩ (.bool true) = v1 at HS1 HE1 HK1 HMK1 ⊢
            have e0 := HE1.out.cell 0
            have e1 := HE1.out.cell 1
            have hgc := HS1.out.gx.cell 0
            have c4 := Lib.hid (HS1.out.grow (a := xb) HGE.out HN.out HA.out HO.out HZS.out (by omega) hxb)
            gi_wp2_with fail
            refine ⟨trivial, ?_⟩
            refine (CallsIn.inRound lp ((callsIn_wide (n := 0)).2 c4.out)).mono ?_
            rintro e v2 ⟨rfl, nh', Vr', cr', zs', h1, h2, h3, h4⟩
            have hoth := h4.others (fun b hb => by
              rcases List.mem_cons.1 hb with rfl | hb
              · exact HS1.out.w.h.isCells
              · exact in_cells HS1.out.heap b hb)
            have HPT : Hid (PI N l V (had1 Vb xb) k (putB ib2 q) zs') := (PI.take HI.out HGE.out HLE.out (a := xb) (b := xa) (by rw [HEA.out]; exact Or.inr ⟨rfl, rfl⟩) HVV.out).perm (by rw [HN.out]; exact h3.symm)
            have HR1 := Lib.hid h1
            have HR2 := Lib.hid h2
            have HK2 : Hid (KeepsFrom wc.heap.size W v2) := HK1.out.trans (hoth.from _)
            have HMK2 : Hid (MarksAt Ds v2) := HMK1.out.others hoth
            have hlz := h1.heap.len
            have hlp := HPT.out.len
            have hcm := cntH_more (n := N) hxb HVV.out
            have hcl := cntH_le N (had1 Vb xb)
            have HVK2 : Hid (had1 Vb xb k = true) := by show had1 _ _ _ = true; unfold had1; split <;> first | rfl | exact HVB.out
            clear h1 h2 h3 h4 hoth c4 e0 e1 hgc
            gi_wp2
            exact ⟨HK2.out, 100 * (N - cntH N (had1 Vb xb)) + nh', by have := HN.out; omega, had1 Vb xb, putB ib2 q, nh', Vr', cr', zs', HR1.out, HR2.out, HPT.out, HVK2.out, HMK2.out, rfl⟩
          | true =>
            have HVV : Hid (Vb xb = true) := hqb
            rw [hqb] at hvb
            clear hqb
            gi_wp2
            exact ⟨HK0.out, 100 * (N - cntH N Vb) + nh2, by omega, Vb, ib2, nh2, Vr2, cr2, zs2, HS0.out, HO.out, PI.fall HI.out (by rw [HEA.out]; exact HVA.out) (by rw [HEA.out]; exact HVV.out), HVB.out, HMK0.out, rfl⟩
    · have hkN2 : k = N := by omega
      subst hkN2
      have hkz : ¬ (k : Int) < k := by omega
      have hxi := HW.out.ix.cell 0
      have c9 := Lib.hid (those_ (some ⟨I, 0, none⟩) n n ib W HW.out.i.cells hn40)
      have HFOR : Hid (insOf n ib = forest k l) := by
        show _ = _
        have h := HPD.out.all HGE.out
        rw [HN.out] at h; exact h
      rw [HFOR.out] at c9
      go_wp2_with fail
      refine c9.out.mono ?_
      rintro e w9 ⟨V9, cv, rfl, hown, hb9⟩
      have HO9 : Hid (w9.ownsRow w.heap.size 3 1 (.slice V9 (forest k l).length cv) (forest k l).length (ints (forest k l))) := own_base hown HW.out.below.size
      have HB9 : Hid (Below w.heap.size w w9) := HW.out.below.trans (hb9.mono HW.out.below.size)
      have HM9 : Hid (MarksOpen w.heap.size Ds w9) := HM.out.others ((Keeps.ofBelow hb9 : Keeps [] W w9).others (fun b hb => by simp at hb))
      clear hown hb9 c9 hxi
      go_wp2
      refine leaves_marks (fun W => W.ownsRow w.heap.size 3 1 (.slice V9 (forest k l).length cv) (forest k l).length (ints (forest k l)) ∧ Below w.heap.size w W) w.heap.size ?_ ?_ Ds w9 HM9.out ⟨HO9.out, HB9.out⟩
      · rintro D W ⟨h1, h2⟩ hD hd
        exact ⟨own_abides h1 (grownBy_putObj' _ D (.deferred none)) (fun r e => by cases e; exact ⟨_, hd, rfl⟩), below_abides h2 (grownBy_putObj' _ D (.deferred none)) (Nat.le_refl _) (fun r e => by cases e; exact hD)⟩
      · rintro W ⟨h1, h2⟩
        exact ⟨.tuple #[.slice V9 (forest k l).length cv, .nilIface], by simp [results, Try.f13, go_sem], V9, cv, rfl, h1, h2⟩
end Go.Proofs.Ytfbnecnhalnmeaa
