/- core.Heap's All over narrow.at, as an iterator: the first one is taken out and handed over, until none is left. Conditions: at most 10000 things. -/
import Derived.Test.YtpaoiaogcckibaaDoorHeapNrQ
import Derived.Test.YtpaoiaogcckibaaDoorHeapNrN
import Derived.Test.YtpaoiaogcckibaaDoorRangeA
import Derived.Sort.LoopGhostIn
namespace Go.Proofs.YtpaoiaogcckibaaDoor
open Go.RowKit Go.Shelf
attribute [local go_sem] Oper.semAt_some
theorem nr_cells {w : World} {base p n c : Nat} {V : Option Addr} {ys : List Nr} {FV : Value} (h : nrHeap w base p n V c ys FV) : ∀ b ∈ nrBl p V, ∀ o : Obj, w.heap[b]? = some o → o.isCells = true := by
  intro b hb
  rcases List.mem_cons.1 hb with rfl | hb
  · exact h.row.isCells
  · cases V with
    | none => simp at hb
    | some a =>
      simp only [List.mem_singleton] at hb
      subst hb
      exact own_isCells h.own rfl
theorem nr_abides {w w' : World} {row : Option Nat} {base p n c : Nat} {V : Option Addr} {ys : List Nr} {FV : Value} (h : nrHeap w base p n V c ys FV) (hg : w.grownBy w' row) (hr : ∀ r, row = some r → ∃ o : Obj, w.heap[r]? = some o ∧ o.isCells = false) : nrHeap w' base p n V c ys FV :=
  ⟨row_abides h.row hg hr, own_abides h.own hg hr, h.at_⟩
set_option maxHeartbeats 4000000 in
set_option maxRecDepth 100000 in
theorem nr_iter {base p : Nat} {I : Nat → World → Prop} {G : Nat → Nr → World → Prop} {Fin : World → Prop}
    (hI : ∀ m W, I m W → ∃ nh V c zs, nrHeap W base p nh V c zs (.func (.func 75) #[] #[]) ∧ HeapOrd lessB zs ∧ nh ≤ 10000 ∧ (nh = 0 → Fin W) ∧
      (∀ k g, nh = k + 1 → V = some ⟨g, 0, none⟩ → ∀ W1 zs', nrHeap W1 base p k V c zs' (.func (.func 75) #[] #[]) → HeapOrd lessB zs' → (zs[0]! :: zs').Perm zs → (∀ y ∈ zs', lessB y zs[0]! = false) → Keeps (nrBl p V) W W1 → G m zs[0]! W1)) :
    IterK Tryd.prog 76 #[.pointer (some ⟨p, 0, none⟩)] (fun x => #[x.val]) I G Fin := by
  intro l K Jx hK hY m W hi hk
  refine callsIn_of_wp Tryd.func76 rfl trivial ?_ rfl
  simp only [Tryd.ntmps76, List.size_toArray, List.length_cons, List.length_nil, Nat.reduceAdd, Nat.reduceSub, Array.replicate_succ, Array.replicate_zero, List.push_toArray, List.append_toArray, List.nil_append, List.cons_append]
  gi_wp2
  gi_loopg [4] m (fun gh _ wr => ∃ m', m' ≤ gh ∧ Hid (I m' wr) ∧ Hid (K wr))
  case atStart => exact ⟨m, Nat.le_refl _, hi, hk⟩
  case round =>
    clear hi hk
    obtain ⟨m', hm', HI, HK⟩ := hrel
    obtain ⟨nh, V, c, zs, hh, ho, hnh, hfin, hnext⟩ := hI m' wr HI.out
    have HH := Lib.hid hh
    have HO := Lib.hid ho
    have HNEXT := Lib.hid hnext
    have HFIN := Lib.hid hfin
    have HYY := Lib.hid hY
    have c1 := Lib.hid (nr_lenOf hh)
    clear hh ho hnext hfin hI hY
    by_cases hz : nh = 0
    · subst hz
      gi_wp2_with fail
      refine ⟨trivial, ?_⟩
      refine ((callsIn_wide (n := 1)).2 c1.out).mono ?_
      rintro e w' ⟨rfl, rfl⟩
      gi_wp2
      go_end0
      exact ⟨⟨_, rfl⟩, Or.inl ⟨HFIN.out (by simp), HK.out⟩⟩
    · obtain ⟨k, rfl⟩ : ∃ k, nh = k + 1 := ⟨nh - 1, by omega⟩
      obtain ⟨g, cg, hgg, _, _⟩ := HH.out.own.form (by omega)
      simp only [Value.slice.injEq, true_and] at hgg
      obtain ⟨rfl, rfl⟩ := hgg
      have hkz : (0 : Int) < (k : Int) + 1 := by omega
      have hkz2 : (0 : Int) < ((k + 1 : Nat) : Int) := by omega
      have c2 := Lib.hid (nr_pop HH.out HO.out (by omega) (fun W _ x y => less_ x y W))
      obtain ⟨ex, hex⟩ : ∃ z, z = zs[0]! := ⟨_, rfl⟩
      have HEX := Lib.hid hex
      rw [← hex] at c2
      clear hex
      gi_wp2_with fail
      refine ⟨trivial, ?_⟩
      refine ((callsIn_wide (n := 1)).2 c1.out).mono ?_
      rintro e w' ⟨rfl, rfl⟩
      gi_wp2_with fail
      refine ⟨trivial, ?_⟩
      refine ((callsIn_wide (n := 1)).2 c2.out).mono ?_
      rintro e w2 ⟨rfl, zs', hh2, ho2, hp2, hk2⟩
      have hle : ∀ y ∈ zs', lessB y zs[0]! = false := fun y hy => by
        have hm : y ∈ zs := by
          have := hp2.mem_iff.1 (List.mem_cons_of_mem _ hy)
          exact this
        obtain ⟨j, hj, rfl⟩ := List.getElem_of_mem hm
        have := HO.out.least lessB_first j hj
        rw [List.getElem!_eq_getElem?_getD, List.getElem?_eq_getElem hj] at this
        exact this
      have hg2 := HNEXT.out k g rfl rfl w2 zs' hh2 ho2 (by rw [← HEX.out]; exact hp2) hle hk2
      rw [← HEX.out] at hg2
      have hK2 : K w2 := hK _ _ HK.out (hk2.others (nr_cells HH.out))
      obtain ⟨fn, tmps, assign, body, hy, hR⟩ := HYY.out m' ex w2 hg2 hK2
      clear hh2 ho2 hp2 hk2 hle hg2 hK2 c1 c2 HH HO HNEXT HI HK
      gi_wp2
      refine hR.mono ?_
      rintro e W' (⟨rfl, m2, hm2, hi2, hk2⟩ | ⟨rfl, hJx⟩)
      · have HI2 := Lib.hid hi2
        have HK2 := Lib.hid hk2
        clear hi2 hk2 hy hR
        gi_wp2
        gi_roundg m2
        case measure => omega
        case rel => exact ⟨m2, Nat.le_refl _, HI2.out, HK2.out⟩
      · have HJ := Lib.hid hJx
        clear hJx hy hR
        gi_wp2
        refine bodyPost_ret (results_none rfl _ _ _) rfl ?_
        exact ⟨⟨_, rfl⟩, Or.inr HJ.out⟩
end Go.Proofs.YtpaoiaogcckibaaDoor
