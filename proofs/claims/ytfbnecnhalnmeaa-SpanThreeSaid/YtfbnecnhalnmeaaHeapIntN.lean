/- core.Heap of int: Len, NewHeap of nothing, All, walked. Conditions: at most 10000 things. -/
import Derived.Test.YtfbnecnhalnmeaaHeapIntQ
import Derived.Test.YtfbnecnhalnmeaaRange
import Derived.Sort.LoopGhostIn
namespace Go.Proofs.Ytfbnecnhalnmeaa
open Go.RowKit Go.Shelf
theorem in_lenOf {w : World} {base p n c : Nat} {V : Option Addr} {ys : List Int} {FV : Value} (h : inHeap w base p n V c ys FV) :
    Calls Try.prog 45 #[.pointer (some ⟨p, 0, none⟩)] w fun e w' => e = .returned (.int .i64 n) ∧ w = w' := by
  have hc := h.c0
  clear h
  go_enter Try.func45, Try.ntmps45
  go_wp2
  go_ret
  exact ⟨rfl, rfl⟩
theorem in_new (gb : Nat) (w : World) :
    Calls Try.prog 33 #[(.func (.func 34) #[] #[.pointer (some ⟨gb, 0, none⟩)]), .slice none 0 0] w fun e w' => e = .returned (.pointer (some ⟨w.heap.size, 0, none⟩)) ∧ inHeap w' w.heap.size w.heap.size 0 none 0 [] (.func (.func 34) #[] #[.pointer (some ⟨gb, 0, none⟩)]) ∧ Below w.heap.size w w' := by
  have HR : Hid (Row (w.alloc (.cells #[.slice none 0 0, (.func (.func 34) #[] #[.pointer (some ⟨gb, 0, none⟩)])] 85)) w.heap.size 85 [.slice none 0 0, (.func (.func 34) #[] #[.pointer (some ⟨gb, 0, none⟩)])]) := Row.new _ _ _
  have HB0 : Hid (Below w.heap.size w (w.alloc (.cells #[.slice none 0 0, (.func (.func 34) #[] #[.pointer (some ⟨gb, 0, none⟩)])] 85))) := (Below.refl _ _).alloc (Nat.le_refl _) _
  go_enter Try.func33, Try.ntmps33
  go_wp2
  refine wp_loop_rounds 1 ?_
  rw [rounds_succ]
  go_wp2
  go_ret
  exact ⟨rfl, ⟨HR.out, World.ownsRow_nil _ _ _ _, Nat.le_refl _⟩, HB0.out⟩
theorem in_cells {w : World} {base p n c : Nat} {V : Option Addr} {ys : List Int} {FV : Value} (h : inHeap w base p n V c ys FV) : ∀ b ∈ inBl p V, ∀ o : Obj, w.heap[b]? = some o → o.isCells = true := by
  intro b hb
  rcases List.mem_cons.1 hb with rfl | hb
  · exact h.row.isCells
  · cases V with
    | none => simp at hb
    | some a =>
      simp only [List.mem_singleton] at hb
      subst hb
      exact own_isCells h.own rfl
theorem in_abides {w w' : World} {row : Option Nat} {base p n c : Nat} {V : Option Addr} {ys : List Int} {FV : Value} (h : inHeap w base p n V c ys FV) (hg : w.grownBy w' row) (hr : ∀ r, row = some r → ∃ o : Obj, w.heap[r]? = some o ∧ o.isCells = false) : inHeap w' base p n V c ys FV :=
  ⟨row_abides h.row hg hr, own_abides h.own hg hr, h.at_⟩
attribute [local go_sem] Oper.semAt_some
set_option maxHeartbeats 4000000 in
set_option maxRecDepth 100000 in
theorem in_iter {base p gb : Nat} {P : Int → Prop} {lt : Int → Int → Bool} (hlt : Firsts lt) {I : Nat → World → Prop} {G : Nat → Int → World → Prop} {Fin : World → Prop}
    (hI : ∀ m W, I m W → ∃ nh V c zs, inHeap W base p nh V c zs (.func (.func 34) #[] #[.pointer (some ⟨gb, 0, none⟩)]) ∧ HeapOrd lt zs ∧ nh ≤ 10000 ∧ (∀ y ∈ zs, P y) ∧ (∀ W1, Keeps (inBl p V) W W1 → ∀ x y : Int, P x → P y → Calls Try.prog 34 (#[.int .i64 x, .int .i64 y] ++ #[.pointer (some ⟨gb, 0, none⟩)]) W1 fun e w' => e = .returned (.bool (lt x y)) ∧ Below W1.heap.size W1 w') ∧ (nh = 0 → Fin W) ∧
      (∀ k g, nh = k + 1 → V = some ⟨g, 0, none⟩ → ∀ W1 zs', inHeap W1 base p k V c zs' (.func (.func 34) #[] #[.pointer (some ⟨gb, 0, none⟩)]) → HeapOrd lt zs' → (zs[0]! :: zs').Perm zs → (∀ y ∈ zs', lt y zs[0]! = false) → Keeps (inBl p V) W W1 → G m zs[0]! W1)) :
    IterK Try.prog 37 #[.pointer (some ⟨p, 0, none⟩)] (fun x : Int => #[.int .i64 x]) I G Fin := by
  have HLT := Lib.hid hlt
  clear hlt
  intro l K Jx hK hY m W hi hk
  refine callsIn_of_wp Try.func37 rfl trivial ?_ rfl
  simp only [Try.ntmps37, List.size_toArray, List.length_cons, List.length_nil, Nat.reduceAdd, Nat.reduceSub, Array.replicate_succ, Array.replicate_zero, List.push_toArray, List.append_toArray, List.nil_append, List.cons_append]
  gi_wp2
  gi_loopg [4] m (fun gh _ wr => ∃ m', m' ≤ gh ∧ Hid (I m' wr) ∧ Hid (K wr))
  case atStart => exact ⟨m, Nat.le_refl _, hi, hk⟩
  case round =>
    clear hi hk
    obtain ⟨m', hm', HI, HK⟩ := hrel
    obtain ⟨nh, V, c, zs, hh, ho, hnh, hps, hcf, hfin, hnext⟩ := hI m' wr HI.out
    have HH := Lib.hid hh
    have HO := Lib.hid ho
    have HNEXT := Lib.hid hnext
    have HFIN := Lib.hid hfin
    have HPS := Lib.hid hps
    have HCF := Lib.hid hcf
    have HYY := Lib.hid hY
    have c1 := Lib.hid (in_lenOf hh)
    clear hh ho hnext hfin hI hY hps hcf
    by_cases hz : nh = 0
    · subst hz
      gi_wp2_with fail
      refine ⟨trivial, ?_⟩
      refine ((callsIn_wide (n := 1)).2 c1.out).mono ?_
      rintro e w' ⟨rfl, rfl⟩
      gi_wp2
      go_end0
      exact ⟨⟨_, rfl⟩, Or.inl ⟨HFIN.out (by simp), HK.out⟩⟩
    · obtain ⟨k, rfl⟩ : ∃ k, nh = k + 1 := ⟨nh - 1, by omega⟩
      obtain ⟨g, cg, hgg, _, _⟩ := HH.out.own.form (by omega)
      simp only [Value.slice.injEq, true_and] at hgg
      obtain ⟨rfl, rfl⟩ := hgg
      have hkz : (0 : Int) < (k : Int) + 1 := by omega
      have hkz2 : (0 : Int) < ((k + 1 : Nat) : Int) := by omega
      have c2 := Lib.hid (in_pop HLT.out HH.out HO.out (by omega) HPS.out HCF.out)
      obtain ⟨ex, hex⟩ : ∃ z, z = zs[0]! := ⟨_, rfl⟩
      have HEX := Lib.hid hex
      rw [← hex] at c2
      clear hex HCF HPS
      gi_wp2_with fail
      refine ⟨trivial, ?_⟩
      refine ((callsIn_wide (n := 1)).2 c1.out).mono ?_
      rintro e w' ⟨rfl, rfl⟩
      gi_wp2_with fail
      refine ⟨trivial, ?_⟩
      refine ((callsIn_wide (n := 1)).2 c2.out).mono ?_
      rintro e w2 ⟨rfl, zs', hh2, ho2, hp2, hk2⟩
      have hle : ∀ y ∈ zs', lt y zs[0]! = false := fun y hy => by
        have hm : y ∈ zs := by
          have := hp2.mem_iff.1 (List.mem_cons_of_mem _ hy)
          exact this
        obtain ⟨j, hj, rfl⟩ := List.getElem_of_mem hm
        have := HO.out.least HLT.out j hj
        rw [List.getElem!_eq_getElem?_getD, List.getElem?_eq_getElem hj] at this
        exact this
      have hg2 := HNEXT.out k g rfl rfl w2 zs' hh2 ho2 (by rw [← HEX.out]; exact hp2) hle hk2
      rw [← HEX.out] at hg2
      have hK2 : K w2 := hK _ _ HK.out (hk2.others (in_cells HH.out))
      obtain ⟨fn, tmps, assign, body, hy, hR⟩ := HYY.out m' ex w2 hg2 hK2
      clear hh2 ho2 hp2 hk2 hle hg2 hK2 c1 c2 HH HO HNEXT HI HK
      gi_wp2
      refine hR.mono ?_
      rintro e W' (⟨rfl, m2, hm2, hi2, hk2⟩ | ⟨rfl, hJx⟩)
      · have HI2 := Lib.hid hi2
        have HK2 := Lib.hid hk2
        clear hi2 hk2 hy hR
        gi_wp2
        gi_roundg m2
        case measure => omega
        case rel => exact ⟨m2, Nat.le_refl _, HI2.out, HK2.out⟩
      · have HJ := Lib.hid hJx
        clear hJx hy hR
        gi_wp2
        refine bodyPost_ret (results_none rfl _ _ _) rfl ?_
        exact ⟨⟨_, rfl⟩, Or.inr HJ.out⟩
end Go.Proofs.Ytfbnecnhalnmeaa
