/- span.Prim's grow, walked: a node is had, and its edges to what is not had come into the heap. Conditions: the graph is one that may be. -/
import Derived.Test.YtpaoiaogcckibaaDoorHeapIntQ
import Derived.Test.YtpaoiaogcckibaaDoorRangeA
import Derived.Sort.LoopGhostIn
import Derived.Test.YtpaoiaogcckibaaDoorPrimP
import Derived.Test.YtpaoiaogcckibaaDoorLighter
import Derived.Test.YtpaoiaogcckibaaDoorBRow
namespace Go.Proofs.YtpaoiaogcckibaaDoor
open Go.RowKit Go.Shelf
theorem in_lenOf {w : World} {base p n c : Nat} {V : Option Addr} {ys : List Int} {FV : Value} (h : inHeap w base p n V c ys FV) :
    Calls Tryd.prog 122 #[.pointer (some ⟨p, 0, none⟩)] w fun e w' => e = .returned (.int .i64 n) ∧ w = w' := by
  have hc := h.c0
  clear h
  go_enter Tryd.func122, Tryd.ntmps122
  go_wp2
  go_ret
  exact ⟨rfl, rfl⟩
theorem in_new (gb : Nat) (w : World) :
    Calls Tryd.prog 101 #[(.func (.func 102) #[] #[.pointer (some ⟨gb, 0, none⟩)]), .slice none 0 0] w fun e w' => e = .returned (.pointer (some ⟨w.heap.size, 0, none⟩)) ∧ inHeap w' w.heap.size w.heap.size 0 none 0 [] (.func (.func 102) #[] #[.pointer (some ⟨gb, 0, none⟩)]) ∧ Below w.heap.size w w' := by
  have HR : Hid (Row (w.alloc (.cells #[.slice none 0 0, (.func (.func 102) #[] #[.pointer (some ⟨gb, 0, none⟩)])] 172)) w.heap.size 172 [.slice none 0 0, (.func (.func 102) #[] #[.pointer (some ⟨gb, 0, none⟩)])]) := Row.new _ _ _
  have HB0 : Hid (Below w.heap.size w (w.alloc (.cells #[.slice none 0 0, (.func (.func 102) #[] #[.pointer (some ⟨gb, 0, none⟩)])] 172))) := (Below.refl _ _).alloc (Nat.le_refl _) _
  go_enter Tryd.func101, Tryd.ntmps101
  go_wp2
  refine wp_loop_rounds 1 ?_
  rw [rounds_succ]
  go_wp2
  go_ret
  exact ⟨rfl, ⟨HR.out, World.ownsRow_nil _ _ _ _, Nat.le_refl _⟩, HB0.out⟩
theorem in_cells {w : World} {base p n c : Nat} {V : Option Addr} {ys : List Int} {FV : Value} (h : inHeap w base p n V c ys FV) : ∀ b ∈ inBl p V, ∀ o : Obj, w.heap[b]? = some o → o.isCells = true := by
  intro b hb
  rcases List.mem_cons.1 hb with rfl | hb
  · exact h.row.isCells
  · cases V with
    | none => simp at hb
    | some a =>
      simp only [List.mem_singleton] at hb
      subst hb
      exact own_isCells h.own rfl
theorem in_abides {w w' : World} {row : Option Nat} {base p n c : Nat} {V : Option Addr} {ys : List Int} {FV : Value} (h : inHeap w base p n V c ys FV) (hg : w.grownBy w' row) (hr : ∀ r, row = some r → ∃ o : Obj, w.heap[r]? = some o ∧ o.isCells = false) : inHeap w' base p n V c ys FV :=
  ⟨row_abides h.row hg hr, own_abides h.own hg hr, h.at_⟩
attribute [local go_sem] Oper.semAt_some
set_option maxHeartbeats 4000000 in
set_option maxRecDepth 100000 in
theorem in_iter {base p gb : Nat} {P : Int → Prop} {lt : Int → Int → Bool} (hlt : Firsts lt) {I : Nat → World → Prop} {G : Nat → Int → World → Prop} {Fin : World → Prop}
    (hI : ∀ m W, I m W → ∃ nh V c zs, inHeap W base p nh V c zs (.func (.func 102) #[] #[.pointer (some ⟨gb, 0, none⟩)]) ∧ HeapOrd lt zs ∧ nh ≤ 10000 ∧ (∀ y ∈ zs, P y) ∧ (∀ W1, Keeps (inBl p V) W W1 → ∀ x y : Int, P x → P y → Calls Tryd.prog 102 (#[.int .i64 x, .int .i64 y] ++ #[.pointer (some ⟨gb, 0, none⟩)]) W1 fun e w' => e = .returned (.bool (lt x y)) ∧ Below W1.heap.size W1 w') ∧ (nh = 0 → Fin W) ∧
      (∀ k g, nh = k + 1 → V = some ⟨g, 0, none⟩ → ∀ W1 zs', inHeap W1 base p k V c zs' (.func (.func 102) #[] #[.pointer (some ⟨gb, 0, none⟩)]) → HeapOrd lt zs' → (zs[0]! :: zs').Perm zs → (∀ y ∈ zs', lt y zs[0]! = false) → Keeps (inBl p V) W W1 → G m zs[0]! W1)) :
    IterK Tryd.prog 105 #[.pointer (some ⟨p, 0, none⟩)] (fun x : Int => #[.int .i64 x]) I G Fin := by
  have HLT := Lib.hid hlt
  clear hlt
  intro l K Jx hK hY m W hi hk
  refine callsIn_of_wp Tryd.func105 rfl trivial ?_ rfl
  simp only [Tryd.ntmps105, List.size_toArray, List.length_cons, List.length_nil, Nat.reduceAdd, Nat.reduceSub, Array.replicate_succ, Array.replicate_zero, List.push_toArray, List.append_toArray, List.nil_append, List.cons_append]
  gi_wp2
  gi_loopg [4] m (fun gh _ wr => ∃ m', m' ≤ gh ∧ Hid (I m' wr) ∧ Hid (K wr))
  case atStart => exact ⟨m, Nat.le_refl _, hi, hk⟩
  case round =>
    clear hi hk
    obtain ⟨m', hm', HI, HK⟩ := hrel
    obtain ⟨nh, V, c, zs, hh, ho, hnh, hps, hcf, hfin, hnext⟩ := hI m' wr HI.out
    have HH := Lib.hid hh
    have HO := Lib.hid ho
    have HNEXT := Lib.hid hnext
    have HFIN := Lib.hid hfin
    have HPS := Lib.hid hps
    have HCF := Lib.hid hcf
    have HYY := Lib.hid hY
    have c1 := Lib.hid (in_lenOf hh)
    clear hh ho hnext hfin hI hY hps hcf
    by_cases hz : nh = 0
    · subst hz
      gi_wp2_with fail
      refine ⟨trivial, ?_⟩
      refine ((callsIn_wide (n := 1)).2 c1.out).mono ?_
      rintro e w' ⟨rfl, rfl⟩
      gi_wp2
      go_end0
      exact ⟨⟨_, rfl⟩, Or.inl ⟨HFIN.out (by simp), HK.out⟩⟩
    · obtain ⟨k, rfl⟩ : ∃ k, nh = k + 1 := ⟨nh - 1, by omega⟩
      obtain ⟨g, cg, hgg, _, _⟩ := HH.out.own.form (by omega)
      simp only [Value.slice.injEq, true_and] at hgg
      obtain ⟨rfl, rfl⟩ := hgg
      have hkz : (0 : Int) < (k : Int) + 1 := by omega
      have hkz2 : (0 : Int) < ((k + 1 : Nat) : Int) := by omega
      have c2 := Lib.hid (in_pop HLT.out HH.out HO.out (by omega) HPS.out HCF.out)
      obtain ⟨ex, hex⟩ : ∃ z, z = zs[0]! := ⟨_, rfl⟩
      have HEX := Lib.hid hex
      rw [← hex] at c2
      clear hex HCF HPS
      gi_wp2_with fail
      refine ⟨trivial, ?_⟩
      refine ((callsIn_wide (n := 1)).2 c1.out).mono ?_
      rintro e w' ⟨rfl, rfl⟩
      gi_wp2_with fail
      refine ⟨trivial, ?_⟩
      refine ((callsIn_wide (n := 1)).2 c2.out).mono ?_
      rintro e w2 ⟨rfl, zs', hh2, ho2, hp2, hk2⟩
      have hle : ∀ y ∈ zs', lt y zs[0]! = false := fun y hy => by
        have hm : y ∈ zs := by
          have := hp2.mem_iff.1 (List.mem_cons_of_mem _ hy)
          exact this
        obtain ⟨j, hj, rfl⟩ := List.getElem_of_mem hm
        have := HO.out.least HLT.out j hj
        rw [List.getElem!_eq_getElem?_getD, List.getElem?_eq_getElem hj] at this
        exact this
      have hg2 := HNEXT.out k g rfl rfl w2 zs' hh2 ho2 (by rw [← HEX.out]; exact hp2) hle hk2
      rw [← HEX.out] at hg2
      have hK2 : K w2 := hK _ _ HK.out (hk2.others (in_cells HH.out))
      obtain ⟨fn, tmps, assign, body, hy, hR⟩ := HYY.out m' ex w2 hg2 hK2
      clear hh2 ho2 hp2 hk2 hle hg2 hK2 c1 c2 HH HO HNEXT HI HK
      gi_wp2
      refine hR.mono ?_
      rintro e W' (⟨rfl, m2, hm2, hi2, hk2⟩ | ⟨rfl, hJx⟩)
      · have HI2 := Lib.hid hi2
        have HK2 := Lib.hid hk2
        clear hi2 hk2 hy hR
        gi_wp2
        gi_roundg m2
        case measure => omega
        case rel => exact ⟨m2, Nat.le_refl _, HI2.out, HK2.out⟩
      · have HJ := Lib.hid hJx
        clear hJx hy hR
        gi_wp2
        refine bodyPost_ret (results_none rfl _ _ _) rfl ?_
        exact ⟨⟨_, rfl⟩, Or.inr HJ.out⟩
end Go.Proofs.YtpaoiaogcckibaaDoor
namespace Go.Proofs.YtpaoiaogcckibaaDoor
open Go.RowKit
theorem Keeps.onto {bs cs : List Nat} {w w1 w2 : World} (h : Keeps bs w w1) (k : Keeps cs w1 w2) (hs : ∀ x ∈ cs, x ∈ bs ∨ w.heap.size ≤ x) : Keeps bs w w2 :=
  ⟨k.os.trans h.os, k.tape.trans h.tape, k.output.trans h.output, Nat.le_trans h.size k.size, fun i hi hn => (k.block i (Nat.lt_of_lt_of_le hi h.size) (fun hm => by
    rcases hs i hm with h1 | h1
    · exact hn h1
    · omega)).trans (h.block i hi hn)⟩
theorem grown_filter (l : List Edge) (V : Nat → Bool) (a : Int) (k : Nat) : (upto (k + 1)).filter (grown l V a) = (upto k).filter (grown l V a) ++ (if grown l V a (k : Int) = true then [(k : Int)] else []) := by
  unfold upto
  rw [List.range_succ, List.map_append, List.filter_append]
  congr 1
  cases h : grown l V a k <;> simp [h]
def GrowOK (w : World) (base p N n H gb : Nat) (a : Nat) (l : List Edge) (Vh : Nat → Bool) (ys : List Int) (VV : Option Addr) (e : Ending) (w' : World) : Prop :=
  e = .returned (.tuple #[]) ∧ ∃ nh' V' c' zs, inHeap w' base p nh' V' c' zs (.func (.func 102) #[] #[.pointer (some ⟨gb, 0, none⟩)]) ∧ HeapOrd (ltB l) zs ∧ zs.Perm (ys ++ (upto n).filter (grown l (had1 Vh a) a)) ∧ Row w' H 4 (bRow N (had1 Vh a)) ∧ Keeps (H :: inBl p VV) w w' ∧ (∀ x ∈ inBl p V', x ∈ inBl p VV ∨ w.heap.size ≤ x)
set_option maxHeartbeats 8000000 in
set_option maxRecDepth 100000 in
theorem grow_ {w : World} {B N n c a gb hbx H pbx base p nh cv : Nat} {A VV : Option Addr} {l : List Edge} {Vh : Nat → Bool} {ys : List Int} (hg : graphErr N l = 0) (hn : l.length = n) (hA : Cells w B A (edges l))
    (hgr : Row w gb 40 [.int .i64 (N : Int), .slice A n c]) (hhx : Row w hbx 103 [.slice (some ⟨H, 0, none⟩) N N]) (hH : Row w H 4 (bRow N Vh)) (hpx : Row w pbx 144 [.pointer (some ⟨p, 0, none⟩)])
    (hh : inHeap w base p nh VV cv ys (.func (.func 102) #[] #[.pointer (some ⟨gb, 0, none⟩)])) (ho : HeapOrd (ltB l) ys) (hys : ∀ y ∈ ys, 0 ≤ y ∧ y < (n : Int)) (hnh : nh ≤ 1000)
    (hlow : B ≤ gb ∧ gb < H ∧ H < hbx ∧ hbx < base ∧ base ≤ pbx) (hpp : pbx ≠ p) (ha : a < N) :
    Calls Tryd.prog 103 #[.int .i64 (a : Int), .pointer (some ⟨hbx, 0, none⟩), .pointer (some ⟨gb, 0, none⟩), .pointer (some ⟨pbx, 0, none⟩)] w (GrowOK w base p N n H gb a l Vh ys VV) := by
  obtain ⟨_, hl40, hed⟩ := graphErr_ok hg
  have hn40 : n ≤ 40 := by omega
  have HN := Lib.hid hn
  have HED := Lib.hid hed
  have HG := Lib.hid hgr
  have HHX := Lib.hid hhx
  have HA := Lib.hid hA
  have HYS := Lib.hid hys
  have HPX := Lib.hid hpx
  have haz : (a : Int) < N := by omega
  have ha0 : (0 : Int) ≤ a := by omega
  have hq := hhx.cell 0
  have hca := hH.cell a
  rw [bRow_at ha] at hca
  have hfa := hH.frozen a
  have hbB := hh.at_
  have HHp := Lib.hid hh
  have HO := Lib.hid ho
  have hbw : base < w.heap.size := Nat.lt_of_le_of_lt hh.at_ hh.row.lt
  have hblk := Lib.hid (fun x hx => (in_blk hh x hx).1)
  have hk1 : Keeps (H :: inBl p VV) w (w.setCell ⟨H, a, none⟩ (.bool true)) := (Keeps.refl _ _).setCell (Or.inl (by simp)) _
  have HH1 : Hid (Row (w.setCell ⟨H, a, none⟩ (.bool true)) H 4 (bRow N (had1 Vh a))) := by
    show Row _ _ _ _
    unfold had1
    rw [← bRow_set]
    exact hH.set_ a _
  have HP1 : Hid (inHeap (w.setCell ⟨H, a, none⟩ (.bool true)) base p nh VV cv ys (.func (.func 102) #[] #[.pointer (some ⟨gb, 0, none⟩)])) :=
    hh.keeps (bs := [H]) ((Keeps.refl _ _).setCell (Or.inl (by simp)) _) (by simp; omega) (fun g hg2 => by
      have := in_blk hh g (by
        cases VV with
        | none => simp [Value.ownBlock] at hg2
        | some q => simp only [Value.ownBlock, Option.some.injEq] at hg2; simp [inBl, hg2])
      simp; omega)
  have hq1 : (w.setCell ⟨H, a, none⟩ (.bool true)).cell? ⟨gb, 1, none⟩ = some (.slice A n c) := (hgr.far (p := ⟨H, a, none⟩) (by show gb ≠ H; omega) _).cell 1
  have HK1 := Lib.hid hk1
  have HPXN : Hid (pbx ∉ H :: inBl p VV) := fun hm => by
    rcases List.mem_cons.1 hm with h | hm
    · omega
    · rcases List.mem_cons.1 hm with h | hm
      · exact hpp h
      · cases VV with
        | none => simp at hm
        | some q =>
          simp only [List.mem_singleton] at hm
          exact own_ne_row hh.own hpx (by decide) (by rw [hm]; rfl)
  obtain ⟨V1, hV1⟩ : ∃ z, z = had1 Vh a := ⟨_, rfl⟩
  have HV1 := Lib.hid hV1
  rw [← hV1] at HH1
  clear hn hed hgr hhx hH hpx hh ho hys hk1 hA hl40 hV1
  go_enter Tryd.func103, Tryd.ntmps103
  go_wp2
  generalize w.setCell ⟨H, a, none⟩ (.bool true) = w1 at HH1 HP1 HK1 ⊢
  clear hq hca hfa hq1
  go_loopw [13] (fun i wr => ∃ (k nh2 c2 : Nat) (V2 : Option Addr) (zs : List Int), i = .int .i64 (k : Int) ∧ k ≤ n ∧ Hid (inHeap wr base p nh2 V2 c2 zs (.func (.func 102) #[] #[.pointer (some ⟨gb, 0, none⟩)])) ∧ Hid (HeapOrd (ltB l) zs) ∧ Hid (zs.Perm (ys ++ (upto k).filter (grown l V1 a))) ∧ Hid (Keeps (H :: inBl p VV) w wr) ∧ Hid (Row wr H 4 (bRow N V1)) ∧ Hid (∀ x ∈ inBl p V2, x ∈ inBl p VV ∨ w.heap.size ≤ x)) (fun i _ => n - (intOf i).toNat)
  case atStart => exact ⟨0, nh, cv, VV, ys, rfl, by omega, HP1.out, HO.out, by show List.Perm _ _; simp [upto], HK1.out, HH1.out, fun x hx => Or.inl hx⟩
  case round =>
    clear HP1 HK1 HH1
    obtain ⟨k, nh2, c2, V2, zs, rfl, hk, HP, HZO, HZP, HK, HH, HV⟩ := hrel
    by_cases hkn : k < n
    · have hkz : (k : Int) < n := by omega
      have hAr := HK.out.cells HA.out (by omega) (fun x hx => by
        rcases List.mem_cons.1 hx with rfl | hx
        · omega
        · have := hblk.out x hx; omega)
      obtain ⟨be, off, ea, eb, et, rfl, hbb, hx, hc0, hc1, hc2⟩ := edges_at hAr (show k < l.length by rw [HN.out]; exact hkn)
      obtain ⟨⟨xa0, xa1⟩, ⟨xb0, xb1⟩, _⟩ := HED.out _ (List.mem_of_getElem? hx)
      simp only at xa0 xa1 xb0 xb1
      obtain ⟨xa, rfl⟩ : ∃ z : Nat, ea = z := ⟨ea.toNat, by omega⟩
      obtain ⟨xb, rfl⟩ : ∃ z : Nat, eb = z := ⟨eb.toNat, by omega⟩
      have hxa : xa < N := by omega
      have hxb : xb < N := by omega
      have HEA : Hid (eAt l k = ⟨xa, xb, et⟩) := eAt_of hx
      have hlen2 : nh2 ≤ 1000 + n := by
        have h1 := HP.out.len
        have h2 := HZP.out.length_eq
        have h3 := HHp.out.len
        rw [List.length_append] at h2
        have h4 := List.length_filter_le (grown l V1 a) (upto k)
        rw [upto_len] at h4
        omega
      go_upto_region 4 with fail
      have HE0 : Hid (Row (wr.alloc (.cells #[.int .i64 (xa : Int), .int .i64 (xb : Int), .int .i64 et] 101)) wr.heap.size 101 [.int .i64 (xa : Int), .int .i64 (xb : Int), .int .i64 et]) := Row.new wr 101 #[.int .i64 (xa : Int), .int .i64 (xb : Int), .int .i64 et]
      have HK0 : Hid (Keeps (H :: inBl p VV) w (wr.alloc (.cells #[.int .i64 (xa : Int), .int .i64 (xb : Int), .int .i64 et] 101))) := HK.out.alloc _
      have HH0 : Hid (Row (wr.alloc (.cells #[.int .i64 (xa : Int), .int .i64 (xb : Int), .int .i64 et] 101)) H 4 (bRow N V1)) := HH.out.alloc _
      have HP0 : Hid (inHeap (wr.alloc (.cells #[.int .i64 (xa : Int), .int .i64 (xb : Int), .int .i64 et] 101)) base p nh2 V2 c2 zs (.func (.func 102) #[] #[.pointer (some ⟨gb, 0, none⟩)])) := HP.out.keeps (bs := []) ((Keeps.refl _ _).alloc _) (by simp) (fun _ _ => by simp)
      obtain ⟨E, hEe⟩ : ∃ z, z = wr.heap.size := ⟨_, rfl⟩
      rw [← hEe] at HE0
      rw [← hEe]
      clear hEe hc0 hc1 hc2 HP HK HH hAr hx
      generalize wr.alloc (.cells #[.int .i64 (xa : Int), .int .i64 (xb : Int), .int .i64 et] 101) = v0 at HE0 HK0 HH0 HP0 ⊢
      have e0 := HE0.out.cell 0
      have e1 := HE0.out.cell 1
      have hfa := HH0.out.cell xa
      rw [bRow_at hxa] at hfa
      have hfb := HH0.out.cell xb
      rw [bRow_at hxb] at hfb
      have hq0 : v0.cell? ⟨hbx, 0, none⟩ = some (.slice (some ⟨H, 0, none⟩) N N) := (HK0.out.row HHX.out (fun hm => by
        rcases List.mem_cons.1 hm with h | h
        · omega
        · have := hblk.out _ h; omega)).cell 0
      obtain ⟨bG, hbG⟩ : ∃ z, z = grown l V1 a (k : Int) := ⟨_, rfl⟩
      have HBG : Hid (bG = decide ((xa = a ∧ V1 xb = false) ∨ (xb = a ∧ V1 xa = false))) := by
        show _ = _
        rw [hbG]
        unfold grown
        rw [HEA.out]
        simp only [Int.toNat_natCast, Int.natCast_inj]
      have HBF : Hid (bG = grown l V1 a (k : Int)) := hbG
      clear hbG
      go_cut [43] from 18 to 43 (fun v wx => v = .bool bG ∧ v0 = wx)
      case first =>
        cases hva : V1 xa <;> cases hvb : V1 xb <;> rw [hva] at hfa <;> rw [hvb] at hfb <;> rw [hva, hvb] at HBG <;> clear hva hvb <;> (
          by_cases h1 : xa = a
          · subst h1
            by_cases h2 : xb = xa
            · subst h2
              first
              | (exfalso; rw [hfa] at hfb; simp at hfb; done)
              | (go_wp2
                 go_meet
                 refine ⟨?_, rfl⟩
                 rw [HBG.out]
                 simp)
            · have z2 : ((xb : Int) == (xa : Int)) = false := by simp; omega
              go_wp2
              go_meet
              refine ⟨?_, rfl⟩
              rw [HBG.out]
              simp [h2]
          · have z1 : ((xa : Int) == (a : Int)) = false := by simp; omega
            by_cases h2 : xb = a
            · subst h2
              go_wp2
              go_meet
              refine ⟨?_, rfl⟩
              rw [HBG.out]
              simp [h1]
            · have z2 : ((xb : Int) == (a : Int)) = false := by simp; omega
              go_wp2
              go_meet
              refine ⟨?_, rfl⟩
              rw [HBG.out]
              simp [h1, h2])
      case rest =>
      obtain ⟨rfl, rfl⟩ := hcut
      have HGF := Lib.hid (grown_filter l V1 a k)
      clear hfa hfb hq0 HBG
      cases bG with
      | true =>
        have HF1 : Hid ((upto (k + 1)).filter (grown l V1 a) = (upto k).filter (grown l V1 a) ++ [(k : Int)]) := by show _ = _; rw [HGF.out, if_pos HBF.out.symm]
        have hpx0 := (HK0.out.row HPX.out HPXN.out).cell 0
        have hP : (0 ≤ (k : Int) ∧ (k : Int) < n) ∧ ∀ y ∈ zs, 0 ≤ y ∧ y < (n : Int) := ⟨by omega, fun y hy => by
          rcases List.mem_append.1 (HZP.out.mem_iff.1 hy) with h | h
          · exact HYS.out y h
          · have := (mem_upto _ _).1 (List.mem_filter.1 h).1
            omega⟩
        have hblk2 := Lib.hid (fun x hx => (in_blk HP0.out x hx).1)
        have hcf : ∀ W : World, Keeps (inBl p V2) v0 W → ∀ x y : Int, (0 ≤ x ∧ x < (n : Int)) → (0 ≤ y ∧ y < (n : Int)) → Calls Tryd.prog 102 (#[.int .i64 x, .int .i64 y] ++ #[.pointer (some ⟨gb, 0, none⟩)]) W fun e w' => e = .returned (.bool (ltB l x y)) ∧ Below W.heap.size W w' := fun W hW x y hx hy => by
          obtain ⟨i, rfl⟩ : ∃ i : Nat, x = i := ⟨x.toNat, by omega⟩
          obtain ⟨j, rfl⟩ : ∃ j : Nat, y = j := ⟨y.toNat, by omega⟩
          have hB1 : B ≤ v0.heap.size := by have := HK0.out.size; omega
          have hA0 := HK0.out.cells HA.out (by omega) (fun x hx => by
            rcases List.mem_cons.1 hx with rfl | hx
            · omega
            · have := hblk.out x hx; omega)
          have hA1 := hW.cells hA0 hB1 (fun x hx => by have := hblk2.out x hx; omega)
          have hg0 := HK0.out.row HG.out (fun hm => by
            rcases List.mem_cons.1 hm with h | h
            · omega
            · have := hblk.out _ h; omega)
          have hg1 := hW.row hg0 (fun hm => by have := hblk2.out _ hm; omega)
          exact primLess _ n c gb i j l W (hA1.more (by have := hW.size; omega)) HN.out (hg1.cell 1) (by omega) (by omega) (by omega)
        have c7 := Lib.hid (in_push (P := fun x => 0 ≤ x ∧ x < (n : Int)) (ltB_first l) (k : Int) HP0.out HZO.out (by omega) hP hcf)
        have hsz0 := HK0.out.size
        clear HGF HBF HE0 hP hcf
        go_wp2_with fail
        refine c7.out.mono ?_
        rintro e w5 ⟨rfl, g, c', zs', h2, ho2, hp2, hk2, hgm⟩
        have HK5 : Hid (Keeps (H :: inBl p VV) w w5) := HK0.out.onto hk2 (fun x hx => (HV.out x hx).imp (fun h => List.mem_cons_of_mem _ h) id)
        have HH5 : Hid (Row w5 H 4 (bRow N V1)) := hk2.row HH0.out (fun hm => by have := hblk2.out _ hm; omega)
        have HV5 : Hid (∀ x ∈ inBl p (some ⟨g, 0, none⟩), x ∈ inBl p VV ∨ w.heap.size ≤ x) := fun x hx => by
          simp only [inBl, List.mem_cons, List.not_mem_nil, or_false] at hx
          rcases hx with rfl | rfl
          · exact Or.inl (by simp [inBl])
          · rcases hgm with h | h
            · exact HV.out _ h
            · right; omega
        have HP5 := Lib.hid h2
        have HO5 := Lib.hid ho2
        have HZ5 : Hid (zs'.Perm (ys ++ (upto (k + 1)).filter (grown l V1 a))) := by
          show List.Perm _ _
          rw [HF1.out, ← List.append_assoc]
          exact hp2.trans ((HZP.out.cons _).trans (List.perm_append_singleton _ _).symm)
        clear h2 ho2 hp2 hk2 hgm c7 hpx0 HP0 HK0 HH0
        go_wp2
        go_roundw
        case rel => exact ⟨k + 1, nh2 + 1, c', _, zs', by go_num, by omega, HP5.out, HO5.out, HZ5.out, HK5.out, HH5.out, HV5.out⟩
        case measure => simp [intOf]; omega
      | false =>
        have HF1 : Hid ((upto (k + 1)).filter (grown l V1 a) = (upto k).filter (grown l V1 a)) := by show _ = _; rw [HGF.out, if_neg (by rw [← HBF.out]; simp), List.append_nil]
        clear HGF HBF HE0
        go_wp2
        go_roundw
        case rel => exact ⟨k + 1, nh2, c2, V2, zs, by go_num, by omega, HP0.out, HZO.out, by show List.Perm _ _; rw [HF1.out]; exact HZP.out, HK0.out, HH0.out, HV.out⟩
        case measure => simp [intOf]; omega
    · have hkn2 : k = n := by omega
      subst hkn2
      have hkz : ¬ (k : Int) < k := by omega
      go_wp2
      go_end0
      exact ⟨rfl, nh2, V2, c2, zs, HP.out, HZO.out, by rw [← HV1.out]; exact HZP.out, by rw [← HV1.out]; exact HH.out, HK.out, HV.out⟩
end Go.Proofs.YtpaoiaogcckibaaDoor
