/- What narrow.Least answers. Conditions: lengths are such that slices can have. -/
import Derived.Test.YtpaoiaogcckibaaDoorHeapNrR
import Derived.Test.YtpaoiaogcckibaaDoorLeastBad
import Derived.Test.YtpaoiaogcckibaaDoorRangeA
import Derived.Test.YtpaoiaogcckibaaDoorBRow
import Derived.Sort.CutIn
namespace Go.Proofs.YtpaoiaogcckibaaDoor
open Go.RowKit Go.Shelf
attribute [local go_sem] Oper.semAt_some
/-- where things lie -/
structure LsW (w : World) (N b : Nat) (A : Option Addr) (n c D P p base : Nat) (W : World) (nh : Nat) (V : Option Addr) (ch : Nat) (zs : List Nr) (f : Nat → Bool) : Prop where
  g : Row W w.heap.size 40 [.int .i64 (N : Int), .slice A n c]
  rb : Row W (w.heap.size + 1) 3 [.int .i64 (b : Int)]
  r0 : Row W (w.heap.size + 1 + 1) 3 [.int .i64 0]
  r1 : Row W (w.heap.size + 1 + 1 + 1) 25 [.nilIface]
  had : Row W D 4 (bRow N f)
  hd : Row W (D + 1) 103 [.slice (some ⟨D, 0, none⟩) N N]
  hp : Row W P 104 [.pointer (some ⟨p, 0, none⟩)]
  heap : nrHeap W base p nh V ch zs (.func (.func 75) #[] #[])
  below : Below w.heap.size w W
  low : w.heap.size + 4 ≤ D ∧ D + 2 ≤ base
theorem perm_snoc {α : Type} {a b c : List α} {y : α} (h : a.Perm b) (hp : c.Perm (y :: a)) : c.Perm (b ++ [y]) := hp.trans ((h.cons y).trans (List.perm_append_singleton y b).symm)
section
variable {w W W' : World} {N b n c D P p base nh ch : Nat} {A V : Option Addr} {zs : List Nr} {f : Nat → Bool}
theorem LsW.abides {row : Option Nat} (h : LsW w N b A n c D P p base W nh V ch zs f) (hg : W.grownBy W' row) (hr : ∀ r, row = some r → w.heap.size ≤ r ∧ ∃ o : Obj, W.heap[r]? = some o ∧ o.isCells = false) : LsW w N b A n c D P p base W' nh V ch zs f :=
  have hr2 : ∀ r, row = some r → ∃ o : Obj, W.heap[r]? = some o ∧ o.isCells = false := fun r e => (hr r e).2
  ⟨row_abides h.g hg hr2, row_abides h.rb hg hr2, row_abides h.r0 hg hr2, row_abides h.r1 hg hr2, row_abides h.had hg hr2, row_abides h.hd hg hr2, row_abides h.hp hg hr2, nr_abides h.heap hg hr2, below_abides h.below hg (Nat.le_refl _) (fun r e => (hr r e).1), h.low⟩
theorem LsW.step (h : LsW w N b A n c D P p base W nh V ch zs f) (hb : Below W.heap.size W W') : LsW w N b A n c D P p base W' nh V ch zs f :=
  ⟨h.g.step hb, h.rb.step hb, h.r0.step hb, h.r1.step hb, h.had.step hb, h.hd.step hb, h.hp.step hb, h.heap.step hb, h.below.trans (hb.mono h.below.size), h.low⟩
/-- what the heap's own blocks are not -/
theorem LsW.apart (h : LsW w N b A n c D P p base W nh V ch zs f) : P ∉ nrBl p V := by
  intro hm
  rcases List.mem_cons.1 hm with e | hm
  · have h1 := h.hp
    have h2 := h.heap.row
    unfold Row at h1 h2
    rw [e, h2] at h1
    simp at h1
  · cases V with
    | none => simp at hm
    | some a =>
      simp only [List.mem_singleton] at hm
      exact own_ne_row h.heap.own h.hp (by decide) (by simp [Value.ownBlock, hm])
theorem LsW.over (h : LsW w N b A n c D P p base W nh V ch zs f) : ∀ x ∈ nrBl p V, w.heap.size + 6 ≤ x ∧ D + 2 ≤ x := fun x hx => by
  have := nr_blk h.heap x hx
  have := h.low
  omega
/-- the heap has turned -/
theorem LsW.heaped {W' : World} {nh' ch' : Nat} {V' : Option Addr} {zs' : List Nr} (h : LsW w N b A n c D P p base W nh V ch zs f) (hk : Keeps (nrBl p V) W W') (hh : nrHeap W' base p nh' V' ch' zs' (.func (.func 75) #[] #[])) : LsW w N b A n c D P p base W' nh' V' ch' zs' f := by
  have ho := h.over
  have hl := h.low
  exact ⟨hk.row h.g (fun hm => by have := ho _ hm; omega), hk.row h.rb (fun hm => by have := ho _ hm; omega), hk.row h.r0 (fun hm => by have := ho _ hm; omega), hk.row h.r1 (fun hm => by have := ho _ hm; omega), hk.row h.had (fun hm => by have := ho _ hm; omega), hk.row h.hd (fun hm => by have := ho _ hm; omega), hk.row h.hp h.apart, hh, h.below.trans (hk.below (fun x hx => by have := ho x hx; omega) h.below.size), hl⟩
/-- a node is had -/
theorem LsW.hads (h : LsW w N b A n c D P p base W nh V ch zs f) (x : Nat) : LsW w N b A n c D P p base (W.setCell ⟨D, x, none⟩ (.bool true)) nh V ch zs (fun i => if i = x then true else f i) := by
  have hl := h.low
  have ho := h.over
  refine ⟨h.g.far (by show _ ≠ D; omega) _, h.rb.far (by show _ ≠ D; omega) _, h.r0.far (by show _ ≠ D; omega) _, h.r1.far (by show _ ≠ D; omega) _, ?_, h.hd.far (by show _ ≠ D; omega) _, h.hp.far ?_ _, ?_, h.below.setCell (by show _ ≤ D; omega) _, hl⟩
  · rw [← bRow_set]; exact h.had.set_ x _
  · show P ≠ D
    intro e
    have h1 := h.hp
    have h2 := h.had
    unfold Row at h1 h2
    rw [e, h2] at h1
    simp at h1
  · exact h.heap.keeps (bs := [D]) ((Keeps.refl _ _).setCell (Or.inl (by simp)) _) (fun hm => by have := ho p (by simp [nrBl]); simp at hm; omega) (fun g hg hm => by
      have := (h.heap.own.lt g hg).1
      simp at hm; omega)
end
def LsI (w : World) (N a b : Nat) (A : Option Addr) (n c D P p base : Nat) (l : List Edge) (m : Nat) (W : World) : Prop :=
  ∃ nh V ch zs out, LsW w N b A n c D P p base W nh V ch zs (fun v => (out v).isSome) ∧ HeapOrd lessB zs ∧ NI N (arcs2 l) a out zs ∧ out b = none ∧ nh ≤ 1 + 80 * many2 N out ∧ m = 100 * (N - many2 N out) + nh
def LsG (w : World) (N a b : Nat) (A : Option Addr) (n c D P p base : Nat) (l : List Edge) (m : Nat) (x : Nr) (W : World) : Prop :=
  ∃ nh V ch zs out, LsW w N b A n c D P p base W nh V ch zs (fun v => (out v).isSome) ∧ HeapOrd lessB zs ∧ NI N (arcs2 l) a out (x :: zs) ∧ (∀ y ∈ zs, lessB y x = false) ∧ out b = none ∧ nh ≤ 80 * many2 N out ∧ m = 100 * (N - many2 N out) + (nh + 1)
def LsF (w : World) (N a b : Nat) (A : Option Addr) (n c D P p base : Nat) (l : List Edge) (W : World) : Prop :=
  ∃ V ch out, LsW w N b A n c D P p base W 0 V ch [] (fun v => (out v).isSome) ∧ NI N (arcs2 l) a out [] ∧ out b = none
def LsX (w : World) (N a b : Nat) (l : List Edge) : Code → World → Prop
  | .ret, W => ∃ v, LeastIs N l a b v ∧ Row W (w.heap.size + 1 + 1) 3 [.int .i64 v] ∧ Row W (w.heap.size + 1 + 1 + 1) 25 [.nilIface] ∧ Below w.heap.size w W
  | _, _ => False
theorem ls_iter (w : World) (N a b : Nat) (A : Option Addr) (n c D P p base : Nat) (l : List Edge) (hN : N ≤ 16) :
    IterK Tryd.prog 76 #[.pointer (some ⟨p, 0, none⟩)] (fun x => #[x.val]) (LsI w N a b A n c D P p base l) (LsG w N a b A n c D P p base l) (LsF w N a b A n c D P p base l) := by
  refine nr_iter (base := base) ?_
  rintro m W ⟨nh, V, ch, zs, out, hw, ho, hi, hb, hf, hm⟩
  have hml := many2_le N out
  refine ⟨nh, V, ch, zs, hw.heap, ho, by omega, fun h0 => ?_, fun k g hk hV W1 zs' hh1 ho1 hp1 hle hk1 => ?_⟩
  · subst h0
    have hz : zs = [] := List.eq_nil_of_length_eq_zero hw.heap.len
    subst hz
    exact ⟨V, ch, out, hw, hi, hb⟩
  · subst hk
    exact ⟨k, V, ch, zs', out, hw.heaped hk1 hh1, ho1, hi.perm hp1.symm, hle, hb, by omega, by omega⟩
set_option maxHeartbeats 8000000 in
set_option maxRecDepth 100000 in
theorem least_ok (N : Nat) (A : Option Addr) (n c : Nat) (a b : Nat) (l : List Edge) (w : World) (hA : Cells w w.heap.size A (edges l)) (hn : l.length = n) (hg : graphErr N l = 0) (ha : a < N) (hb : b < N) :
    Calls Tryd.prog 23 #[graphV N A n c, .int .i64 (a : Int), .int .i64 (b : Int)] w fun e w' => ((∃ v, e = .returned (.tuple #[.int .i64 v, .nilIface]) ∧ LeastIs N l a b v) ∨ (e = .returned (.tuple #[.int .i64 0, .iface 91 (.int .i64 5)]) ∧ ∀ m, ¬ By N l m a b)) ∧ Below w.heap.size w w' := by
  obtain ⟨⟨hN0, hN1⟩, hl40, hed⟩ := graphErr_ok hg
  obtain ⟨w1, hw1⟩ : ∃ z, z = (((w.alloc (.cells #[.int .i64 N, .slice A n c] 40)).alloc (.cells #[.int .i64 b] 3)).alloc (.cells #[.int .i64 0] 3)).alloc (.cells #[.nilIface] 25) := ⟨_, rfl⟩
  have hb0 : Below w.heap.size w w1 := by rw [hw1]; exact ((((Below.refl _ _).alloc (Nat.le_refl _) _).alloc (by simp) _).alloc (by simp; omega) _).alloc (by simp; omega) _
  have hg1 : Row w1 w.heap.size 40 [.int .i64 N, .slice A n c] := by rw [hw1]; exact (((Row.new w _ _).alloc _).alloc _).alloc _
  have hsz : w1.heap.size = w.heap.size + 4 := by rw [hw1]; simp
  have h2 : Row w1 (w.heap.size + 1) 3 [.int .i64 b] := by
    have h := ((Row.new (w.alloc (.cells #[.int .i64 N, .slice A n c] 40)) 3 #[.int .i64 b]).alloc (.cells #[.int .i64 0] 3)).alloc (.cells #[.nilIface] 25)
    rw [World.size_alloc] at h; rw [hw1]; exact h
  have h3 : Row w1 (w.heap.size + 1 + 1) 3 [.int .i64 0] := by
    have h := (Row.new ((w.alloc (.cells #[.int .i64 N, .slice A n c] 40)).alloc (.cells #[.int .i64 b] 3)) 3 #[.int .i64 0]).alloc (.cells #[.nilIface] 25)
    rw [World.size_alloc, World.size_alloc] at h; rw [hw1]; exact h
  have h4 : Row w1 (w.heap.size + 1 + 1 + 1) 25 [.nilIface] := by
    have h := Row.new (((w.alloc (.cells #[.int .i64 N, .slice A n c] 40)).alloc (.cells #[.int .i64 b] 3)).alloc (.cells #[.int .i64 0] 3)) 25 #[.nilIface]
    rw [World.size_alloc, World.size_alloc, World.size_alloc] at h; rw [hw1]; exact h
  have c1 := spanCheck N A n c l w1 ((hA.below hb0 (Nat.le_refl _)).more (by omega)) hn (by omega)
  rw [hg, errV_zero] at c1
  unfold graphV at c1 ⊢
  have C1 := Lib.hid c1
  have HB0 := Lib.hid hb0
  have HG1 := Lib.hid hg1
  have H2 := Lib.hid h2
  have H3 := Lib.hid h3
  have H4 := Lib.hid h4
  have HED := Lib.hid hed
  have HN := Lib.hid hn
  have HGE := Lib.hid hg
  have hn40 : n ≤ 40 := by omega
  have hN16 : N ≤ 16 := by omega
  have hq0 := hg1.cell 0
  have hq1 := hg1.cell 1
  have HMK := Lib.hid (make_row 103 4 (.bool false) 1 Tryd.underlying103 info_bool rfl N (by omega) (by omega))
  clear c1 hb0 hg1 h2 h3 h4 hed hn hg hl40 hN0 hN1
  refine calls_of_marks Tryd.func23 rfl ?_
  simp only [Tryd.ntmps23, List.size_toArray, List.length_cons, List.length_nil, Nat.reduceAdd, Nat.reduceSub, Array.replicate_succ, Array.replicate_zero, List.push_toArray, List.append_toArray, List.nil_append, List.cons_append]
  go_upto_region 1 with fail
  rw [← hw1]
  clear hw1
  go_wp2_with fail
  refine C1.out.mono ?_
  rintro e w2 ⟨rfl, hb2⟩
  have HB2 : Hid (Below w.heap.size w w2) := HB0.out.trans (hb2.mono (by omega))
  have K1 := Lib.hid (HG1.out.step hb2)
  have K2 := Lib.hid (H2.out.step hb2)
  have K3 := Lib.hid (H3.out.step hb2)
  have K4 := Lib.hid (H4.out.step hb2)
  have hs2 : w.heap.size + 4 ≤ w2.heap.size := by have := hb2.size; omega
  clear C1 hb2 H2 H3 H4 HG1 hq0 hq1 HB0 hsz
  have k1 := K1.out.cell 0
  have k2 := K2.out.cell 0
  have i1 : inB a 0 ((N : Int) - 1) = true := inB_true (by omega)
  have i2 : inB b 0 ((N : Int) - 1) = true := inB_true (by omega)
  have hwx : IntKind.i64.wrap ((N : Int) - 1) = (N : Int) - 1 := by rw [IntKind.wrap_i64]; omega
  have hmk := HMK.out
  clear HMK
  go_upto_region 7 with (go_at_call 73; refine (within _ _ _ _).mono ?_; rintro e w' ⟨rfl, rfl⟩)
  obtain ⟨D, hD⟩ : ∃ z, z = w2.heap.size := ⟨_, rfl⟩
  obtain ⟨w3, hw3⟩ : ∃ z, z = (w2.alloc (.cells (madeCells #[.bool false] N) 4)).alloc (.cells #[.slice (some ⟨w2.heap.size, 0, none⟩) N N] 103) := ⟨_, rfl⟩
  have hd3 : Row w3 w2.heap.size 4 (bRow N fun _ => false) := by rw [hw3, ← bRow_none]; exact (Row.made _ _ _ _).alloc _
  have he3 : Row w3 (w2.heap.size + 1) 103 [.slice (some ⟨w2.heap.size, 0, none⟩) N N] := by
    have h := Row.new (w2.alloc (.cells (madeCells #[.bool false] N) 4)) 103 #[.slice (some ⟨w2.heap.size, 0, none⟩) N N]
    rw [World.size_alloc] at h; rw [hw3]; exact h
  have hs3 : w3.heap.size = w2.heap.size + 2 := by rw [hw3]; simp
  have hb23 : Below w2.heap.size w2 w3 := by rw [hw3]; exact ((Below.refl _ _).alloc (Nat.le_refl _) _).alloc (by simp) _
  have HB3 : Hid (Below w.heap.size w w3) := HB2.out.trans (hb23.mono (by omega))
  have K13 := Lib.hid (K1.out.step hb23)
  have K23 := Lib.hid (K2.out.step hb23)
  have K33 := Lib.hid (K3.out.step hb23)
  have K43 := Lib.hid (K4.out.step hb23)
  have HD3 := Lib.hid hd3
  have HE3 := Lib.hid he3
  rw [← hw3, ← hD]
  rw [← hD] at HD3 HE3 hs2 hs3
  have hc5 := (Row.new w3 107 #[.int .i64 0, .int .i64 (a : Int)]).cells
  rw [hs3] at hc5
  have c5 := nr_new (w := w3.alloc (.cells #[.int .i64 0, .int .i64 (a : Int)] 107)) (X := some ⟨D + 2, 0, none⟩) (m := 1) (cx := 1) (l := [⟨0, a⟩]) hc5 rfl (by omega) (fun W _ x y => less_ x y W)
  have C5 := Lib.hid c5
  clear hw3 hD hc5 hb23 hd3 he3 c5 k1 k2 K1 K2 K3 K4 HB2 hmk i1 i2 hwx
  go_wp2_with fail
  refine C5.out.mono ?_
  rintro e w5 ⟨p, V, ch, zs, rfl, hh, ho, hp, hb5⟩
  obtain ⟨Bs, hBs⟩ : ∃ Bs, Bs = (w3.alloc (.cells #[.int .i64 0, .int .i64 (a : Int)] 107)).heap.size := ⟨_, rfl⟩
  have hBs3 : Bs = w3.heap.size + 1 := by rw [hBs]; simp
  rw [← hBs] at hh hb5
  have hb35 : Below w3.heap.size w3 w5 := ((Below.refl _ _).alloc (Nat.le_refl _) _).trans (hb5.mono (by omega))
  have hb36 : Below w3.heap.size w3 (w5.alloc (.cells #[.pointer (some ⟨p, 0, none⟩)] 104)) := hb35.alloc hb35.size _
  have hsz5 := hb35.size
  have HW : Hid (LsW w N b A n c D w5.heap.size p Bs (w5.alloc (.cells #[.pointer (some ⟨p, 0, none⟩)] 104)) 1 V ch zs (fun _ => false)) :=
    ⟨K13.out.step hb36, K23.out.step hb36, K33.out.step hb36, K43.out.step hb36, HD3.out.step hb36, HE3.out.step hb36, Row.new _ _ _, hh.step ((Below.refl _ _).alloc (Nat.le_refl _) _), HB3.out.trans (hb36.mono (by omega)), by omega, by omega⟩
  have HO := Lib.hid ho
  have HP := Lib.hid hp
  clear C5 hh ho hp hb5 hb35 hBs K13 K23 K33 K43 HD3 HE3 HB3 hb36
  have hmany : many2 N (fun _ => none) = 0 := by unfold many2; simp
  have hI0 : LsI w N a b A n c D w5.heap.size p Bs l (100 * N + 1) (w5.alloc (.cells #[.pointer (some ⟨p, 0, none⟩)] 104)) :=
    ⟨1, V, ch, zs, fun _ => none, HW.out, HO.out, (NI.start ha).perm HP.out.symm, rfl, by omega, by omega⟩
  have HI0 := Lib.hid hI0
  have hwB : w.heap.size ≤ (w5.alloc (.cells #[.pointer (some ⟨p, 0, none⟩)] 104)).heap.size := by simp; omega
  have hs5 : D + 2 ≤ w5.heap.size := by omega
  have hB1 : D + 2 ≤ Bs := by omega
  clear hI0 hmany HW HO HP hBs3 hs3 hsz5
  go_wp2_with fail
  refine wp_rangeA (γ := Nr) (gf := 76) (la := #[.pointer (some ⟨p, 0, none⟩)]) (encs := fun x => #[x.val]) rfl (enters_of Tryd.func76 (by kernel_rfl) rfl) (fun _ => rfl)
    (LsI w N a b A n c D w5.heap.size p Bs l) (LsG w N a b A n c D w5.heap.size p Bs l) (LsF w N a b A n c D w5.heap.size p Bs l) (LsX w N a b l) (ls_iter w N a b A n c D w5.heap.size p Bs l hN16)
    ?ownI ?ownF ?ownX (100 * N + 1) HI0.out
    (fun a0 m x a' W => ∃ q, w5.heap.size + 1 ≤ q ∧ Row W q 107 [.int .i64 x.most, .int .i64 x.node] ∧ a' = { tmps := (a0.tmps.setIfInBounds 43 x.val).setIfInBounds 11 (.pointer (some ⟨q, 0, none⟩)), defers := [] } ∧
      ∃ nh V ch zs out, q ∉ nrBl p V ∧ LsW w N b A n c D w5.heap.size p Bs W nh V ch zs (fun v => (out v).isSome) ∧ HeapOrd lessB zs ∧ NI N (arcs2 l) a out (x :: zs) ∧ (∀ y ∈ zs, lessB y x = false) ∧ out b = none ∧ nh ≤ 80 * many2 N out ∧ m = 100 * (N - many2 N out) + (nh + 1))
    ?ownA ?assign ?body ?done ?stop
  case ownI =>
    rintro m W W' row ⟨nh, V, ch, zs, out, hw, r⟩ hg hr
    exact ⟨nh, V, ch, zs, out, hw.abides hg (fun r e => ⟨Nat.le_trans hwB (hr r e).1, (hr r e).2⟩), r⟩
  case ownF =>
    rintro m W W' row ⟨V, ch, out, hw, r⟩ hg hr
    exact ⟨V, ch, out, hw.abides hg (fun r e => ⟨Nat.le_trans hwB (hr r e).1, (hr r e).2⟩), r⟩
  case ownX =>
    intro cc m W W' row hx hg hr
    cases cc with
    | ret =>
      obtain ⟨v, h1, h2, h3, h4⟩ := hx
      exact ⟨v, h1, row_abides h2 hg (fun r e => (hr r e).2), row_abides h3 hg (fun r e => (hr r e).2), below_abides h4 hg (Nat.le_refl _) (fun r e => Nat.le_trans hwB (hr r e).1)⟩
    | _ => exact hx.elim
  case ownA =>
    rintro m x a' _ W W' row ⟨q, h1, h2, h3, nh, V, ch, zs, out, hqa, hw, r⟩ hg hr
    exact ⟨q, h1, row_abides h2 hg (fun r e => (hr r e).2), h3, nh, V, ch, zs, out, hqa, hw.abides hg (fun r e => ⟨Nat.le_trans hwB (hr r e).1, (hr r e).2⟩), r⟩
  case assign =>
    intro lp m x W K hG hK
    have HK := Lib.hid hK
    obtain ⟨nh, V, ch, zs, out, hw, r⟩ := hG
    have hnew := Row.new W 107 #[.int .i64 x.most, .int .i64 x.node]
    have hbn : Below W.heap.size W (W.alloc (.cells #[.int .i64 x.most, .int .i64 x.node] 107)) := (Below.refl _ _).alloc (Nat.le_refl _) _
    have hfin := fun a' h => HK.out a' (W.alloc (.cells #[.int .i64 x.most, .int .i64 x.node] 107)) ((KeepsOthers.alloc _ _).from _) ⟨W.heap.size, (by have := hw.hp.lt; omega), hnew, h, nh, V, ch, zs, out, (fun hm => by have := (nr_blk hw.heap _ hm).2; omega), hw.step hbn, r⟩
    have HF := Lib.hid hfin
    clear hK HK hw r hnew hbn hfin
    unfold Nr.val
    gi_wp2
    exact HF.out _ rfl
  case body =>
    rintro lp m ⟨xm, xn⟩ a' W ⟨q, hq, hxr, rfl, nh, V, ch, zs, out, hqa, hw, ho, hi, hle, hob, hnh, hm⟩
    have HQA := Lib.hid hqa
    obtain ⟨⟨hx0, hxN⟩, _, hm0, hm1⟩ := hi.soundH ⟨xm, xn⟩ (by simp)
    simp only at hx0 hxN hm0 hm1
    obtain ⟨xn, rfl⟩ : ∃ k : Nat, xn = k := ⟨xn.toNat, by omega⟩
    have hxn : xn < N := by omega
    have hml := many2_le N out
    have HX := Lib.hid hxr
    have HW := Lib.hid hw
    have HO := Lib.hid ho
    have HI := Lib.hid hi
    have HL := Lib.hid hle
    have HOB := Lib.hid hob
    have kx0 := hxr.cell 0
    have kx1 := hxr.cell 1
    have kb := hw.rb.cell 0
    have kh := hw.hd.cell 0
    have kf := hw.had.cell xn
    rw [bRow_at hxn] at kf
    clear hxr hw ho hi hle hob hqa HI0
    simp only [List.setIfInBounds_toArray, List.set_cons_succ, List.set_cons_zero]
    by_cases hxb : xn = b
    · have hxbz : ((xn : Int) == (b : Int)) = true := by simp [hxb]
      have k3 := HW.out.r0.cell 0
      have k4 := HW.out.r1.cell 0
      have f3 := HW.out.r0.frozen 0
      have f4 := HW.out.r1.frozen 0
      gi_wp2
      obtain ⟨r3, r4⟩ := stored (v1 := .int .i64 xm) (v2 := .nilIface) HW.out.r0 HW.out.r1
      exact ⟨((KeepsOthers.setCell _ _ _).trans (KeepsOthers.setCell _ _ _)).from _, xm, HI.out.found HL.out (by show ((xn : Nat) : Int) = b; rw [hxb]) HOB.out, r3, r4, stored_below HW.out.below (by omega)⟩
    · have hxbz : ((xn : Int) == (b : Int)) = false := by simp; omega
      cases hox : (out xn).isSome with
      | true =>
        rw [hox] at kf
        gi_wp2
        obtain ⟨pq, hpq⟩ := Option.isSome_iff_exists.1 hox
        exact ⟨KeepsFrom.refl _ _, 100 * (N - many2 N out) + nh, by omega, nh, V, ch, zs, out, HW.out, HO.out, HI.out.old (by simpa using hpq), HOB.out, by omega, rfl⟩
      | false =>
        rw [hox] at kf
        have ff := HW.out.had.frozen xn
        have HOX := Lib.hid hox
        clear hox
        gi_upto_region 14 with fail
        have HW2 := Lib.hid (HW.out.hads xn)
        have HX2 : Hid (Row (W.setCell ⟨D, xn, none⟩ (.bool true)) q 107 [.int .i64 xm, .int .i64 (xn : Int)]) := HX.out.far (by show q ≠ D; have := HW.out.had.lt; have := HW.out.low; have := HW.out.heap.row.lt; have := HW.out.heap.at_; omega) _
        have HK2 : Hid (KeepsFrom (w5.heap.size + 1) W (W.setCell ⟨D, xn, none⟩ (.bool true))) := (KeepsOthers.setCell _ _ _).from _
        clear kf ff kx0 kx1 kb kh HW HX
        generalize W.setCell ⟨D, xn, none⟩ (.bool true) = W2 at HW2 HX2 HK2 ⊢
        have kg := HW2.out.g.cell 1
        gi_wp2
        gi_loopw [62] (fun i wr => ∃ (k nh' ch' : Nat) (V' : Option Addr) (zs' : List Nr), i = .int .i64 (k : Int) ∧ k ≤ n ∧ nh' ≤ nh + 2 * k ∧ Hid (LsW w N b A n c D w5.heap.size p Bs wr nh' V' ch' zs' (fun i => if i = xn then true else (out i).isSome)) ∧ Hid (HeapOrd lessB zs') ∧ Hid (zs'.Perm (zs ++ pushes2 (arcs2 (l.take k)) ⟨xm, xn⟩)) ∧ Hid (q ∉ nrBl p V') ∧ Hid (Row wr q 107 [.int .i64 xm, .int .i64 (xn : Int)]) ∧ Hid (KeepsFrom (w5.heap.size + 1) W wr)) (fun i _ => n - (intOf i).toNat)
        case atStart => exact ⟨0, nh, ch, V, zs, rfl, by omega, by omega, HW2.out, HO.out, by show List.Perm _ _; simp [arcs2, pushes2], HQA.out, HX2.out, HK2.out⟩
        case round =>
          clear HW2 HX2 HK2 HO HQA kg
          obtain ⟨k, nh', ch', V', zs', rfl, hk, hnh', HW, HO, HP, HQ, HX, HK⟩ := hrel
          by_cases hkn : k < n
          · have hknz : (k : Int) < n := by omega
            obtain ⟨be, off, ea, eb, et, rfl, hbb, hx, hc0, hc1, hc2⟩ := edges_at hA (show k < l.length by rw [HN.out]; exact hkn)
            have HTK := Lib.hid (arcs2_take hx)
            rw [← HW.out.below.cell hbb] at hc0 hc1 hc2
            clear hx
            gi_upto_region 17 with fail
            have hnw := Row.new wr 101 #[.int .i64 ea, .int .i64 eb, .int .i64 et]
            have hbn : Below wr.heap.size wr (wr.alloc (.cells #[.int .i64 ea, .int .i64 eb, .int .i64 et] 101)) := (Below.refl _ _).alloc (Nat.le_refl _) _
            have HW0 := Lib.hid (HW.out.step hbn)
            have HX0 := Lib.hid (HX.out.step hbn)
            have HK0 := Lib.hid (HK.out.trans ((KeepsOthers.alloc wr (.cells #[.int .i64 ea, .int .i64 eb, .int .i64 et] 101)).from _))
            have HE0 : Hid (wr.heap.size ∉ nrBl p V') := fun hm => by have := (nr_blk HW.out.heap _ hm).2; omega
            have HR0 := Lib.hid hnw
            obtain ⟨bx, hbx⟩ : ∃ z, z = wr.heap.size := ⟨_, rfl⟩
            rw [← hbx] at HE0 HR0
            have HP0 : Hid (zs'.Perm (zs ++ pushes2 (arcs2 (l.take k)) ⟨xm, xn⟩)) := HP.out
            have HO0 := Lib.hid HO.out
            have HQ0 := Lib.hid HQ.out
            have hml2 : nh' ≤ 10000 := by omega
            clear hnw hbn HW HX HK HP HO HQ hc0 hc1 hc2
            rw [← hbx]
            generalize wr.alloc (.cells #[.int .i64 ea, .int .i64 eb, .int .i64 et] 101) = v0 at HW0 HX0 HK0 HR0 ⊢
            clear hbx
            have kx0 := HX0.out.cell 0
            have kx1 := HX0.out.cell 1
            have kp := HW0.out.hp.cell 0
            have e0 := HR0.out.cell 0
            have e1 := HR0.out.cell 1
            have e2 := HR0.out.cell 2
            by_cases hmt : xm < et
            · have HMX : Hid (max xm et = et) := by show _ = _; omega
              by_cases t1 : ea = xn
              · have t1d : (ea == (xn : Int)) = true := by simpa using t1
                have HT1 := Lib.hid t1
                clear t1
                have cp1 := Lib.hid (nr_push (⟨et, eb⟩ : Nr) HW0.out.heap HO0.out (by omega) (fun W _ x y => less_ x y W))
                gi_wp2_with fail
                refine ⟨trivial, ?_⟩
                refine (CallsIn.inRound lp ((callsIn_wide (n := 0)).2 cp1.out)).mono ?_
                rintro e v1 ⟨rfl, g1, c1, zs1, hh1, ho1, hp1, hk1, hg1⟩
                have HW1 := Lib.hid (HW0.out.heaped hk1 hh1)
                have HO1 := Lib.hid ho1
                have HP1 := Lib.hid (perm_snoc HP0.out hp1)
                have HQ1 : Hid (q ∉ nrBl p (some ⟨g1, 0, none⟩)) := fun hm => by
                  rcases List.mem_cons.1 hm with e | e
                  · exact HQ0.out (by rw [e]; simp [nrBl])
                  · simp at e
                    rcases hg1 with h | h
                    · exact HQ0.out (by rw [e]; exact h)
                    · have := HX0.out.lt; omega
                have HX1 := Lib.hid (hk1.row HX0.out HQ0.out)
                have HK1 := Lib.hid (HK0.out.trans (hk1.from (nr_cells HW0.out.heap)))
                have HR1 := Lib.hid (hk1.row HR0.out HE0.out)
                have HE1 : Hid (bx ∉ nrBl p (some ⟨g1, 0, none⟩)) := fun hm => by
                  rcases List.mem_cons.1 hm with e | e
                  · exact HE0.out (by rw [e]; simp [nrBl])
                  · simp at e
                    rcases hg1 with h | h
                    · exact HE0.out (by rw [e]; exact h)
                    · have := HR0.out.lt; omega
                clear kx0 kx1 kp e0 e1 e2 cp1 hh1 ho1 hp1 hk1 hg1 HW0 HO0 HP0 HQ0 HX0 HK0 HR0 HE0
                have kx0 := HX1.out.cell 0
                have kx1 := HX1.out.cell 1
                have kp := HW1.out.hp.cell 0
                have e0 := HR1.out.cell 0
                have e1 := HR1.out.cell 1
                have e2 := HR1.out.cell 2
                by_cases t2 : eb = xn
                · have t2d : (eb == (xn : Int)) = true := by simpa using t2
                  have HT2 := Lib.hid t2
                  clear t2
                  have cp2 := Lib.hid (nr_push (⟨et, ea⟩ : Nr) HW1.out.heap HO1.out (by omega) (fun W _ x y => less_ x y W))
                  gi_wp2_with fail
                  refine ⟨trivial, ?_⟩
                  refine (CallsIn.inRound lp ((callsIn_wide (n := 0)).2 cp2.out)).mono ?_
                  rintro e v2 ⟨rfl, g2, c2, zs2, hh2, ho2, hp2, hk2, hg2⟩
                  have HW2 := Lib.hid (HW1.out.heaped hk2 hh2)
                  have HO2 := Lib.hid ho2
                  have HP2 := Lib.hid (perm_snoc HP1.out hp2)
                  have HQ2 : Hid (q ∉ nrBl p (some ⟨g2, 0, none⟩)) := fun hm => by
                    rcases List.mem_cons.1 hm with e | e
                    · exact HQ1.out (by rw [e]; simp [nrBl])
                    · simp at e
                      rcases hg2 with h | h
                      · exact HQ1.out (by rw [e]; exact h)
                      · have := HX1.out.lt; omega
                  have HX2 := Lib.hid (hk2.row HX1.out HQ1.out)
                  have HK2 := Lib.hid (HK1.out.trans (hk2.from (nr_cells HW1.out.heap)))
                  clear kx0 kx1 kp e0 e1 e2 cp2 hh2 ho2 hp2 hk2 hg2
                  gi_wp2
                  go_roundw
                  case rel => exact ⟨k + 1, nh' + 1 + 1, c2, some ⟨g2, 0, none⟩, zs2, by go_num, by omega, by omega, HW2.out, HO2.out, by show List.Perm _ _; rw [HTK.out, pushes2_snoc, pushes2_snoc, if_pos HT1.out, if_pos HT2.out, HMX.out]; simpa using HP2.out, HQ2.out, HX2.out, HK2.out⟩
                  case measure => simp [intOf]; omega
                · have t2d : (eb == (xn : Int)) = false := by simpa using t2
                  have HT2 := Lib.hid t2
                  clear t2
                  gi_wp2
                  go_roundw
                  case rel => exact ⟨k + 1, nh' + 1, c1, some ⟨g1, 0, none⟩, zs1, by go_num, by omega, by omega, HW1.out, HO1.out, by show List.Perm _ _; rw [HTK.out, pushes2_snoc, pushes2_snoc, if_pos HT1.out, if_neg HT2.out, HMX.out, List.append_nil]; simpa using HP1.out, HQ1.out, HX1.out, HK1.out⟩
                  case measure => simp [intOf]; omega
              · have t1d : (ea == (xn : Int)) = false := by simpa using t1
                have HT1 := Lib.hid t1
                clear t1
                by_cases t2 : eb = xn
                · have t2d : (eb == (xn : Int)) = true := by simpa using t2
                  have HT2 := Lib.hid t2
                  clear t2
                  have cp1 := Lib.hid (nr_push (⟨et, ea⟩ : Nr) HW0.out.heap HO0.out (by omega) (fun W _ x y => less_ x y W))
                  gi_wp2_with fail
                  refine ⟨trivial, ?_⟩
                  refine (CallsIn.inRound lp ((callsIn_wide (n := 0)).2 cp1.out)).mono ?_
                  rintro e v1 ⟨rfl, g1, c1, zs1, hh1, ho1, hp1, hk1, hg1⟩
                  have HW1 := Lib.hid (HW0.out.heaped hk1 hh1)
                  have HO1 := Lib.hid ho1
                  have HP1 := Lib.hid (perm_snoc HP0.out hp1)
                  have HQ1 : Hid (q ∉ nrBl p (some ⟨g1, 0, none⟩)) := fun hm => by
                    rcases List.mem_cons.1 hm with e | e
                    · exact HQ0.out (by rw [e]; simp [nrBl])
                    · simp at e
                      rcases hg1 with h | h
                      · exact HQ0.out (by rw [e]; exact h)
                      · have := HX0.out.lt; omega
                  have HX1 := Lib.hid (hk1.row HX0.out HQ0.out)
                  have HK1 := Lib.hid (HK0.out.trans (hk1.from (nr_cells HW0.out.heap)))
                  clear kx0 kx1 kp e0 e1 e2 cp1 hh1 ho1 hp1 hk1 hg1
                  gi_wp2
                  go_roundw
                  case rel => exact ⟨k + 1, nh' + 1, c1, some ⟨g1, 0, none⟩, zs1, by go_num, by omega, by omega, HW1.out, HO1.out, by show List.Perm _ _; rw [HTK.out, pushes2_snoc, pushes2_snoc, if_neg HT1.out, if_pos HT2.out, HMX.out, List.append_nil]; simpa using HP1.out, HQ1.out, HX1.out, HK1.out⟩
                  case measure => simp [intOf]; omega
                · have t2d : (eb == (xn : Int)) = false := by simpa using t2
                  have HT2 := Lib.hid t2
                  clear t2
                  gi_wp2
                  go_roundw
                  case rel => exact ⟨k + 1, nh', ch', V', zs', by go_num, by omega, by omega, HW0.out, HO0.out, by show List.Perm _ _; rw [HTK.out, pushes2_snoc, pushes2_snoc, if_neg HT1.out, if_neg HT2.out, List.append_nil, List.append_nil]; exact HP0.out, HQ0.out, HX0.out, HK0.out⟩
                  case measure => simp [intOf]; omega
            · have HMX : Hid (max xm et = xm) := by show _ = _; omega
              by_cases t1 : ea = xn
              · have t1d : (ea == (xn : Int)) = true := by simpa using t1
                have HT1 := Lib.hid t1
                clear t1
                have cp1 := Lib.hid (nr_push (⟨xm, eb⟩ : Nr) HW0.out.heap HO0.out (by omega) (fun W _ x y => less_ x y W))
                gi_wp2_with fail
                refine ⟨trivial, ?_⟩
                refine (CallsIn.inRound lp ((callsIn_wide (n := 0)).2 cp1.out)).mono ?_
                rintro e v1 ⟨rfl, g1, c1, zs1, hh1, ho1, hp1, hk1, hg1⟩
                have HW1 := Lib.hid (HW0.out.heaped hk1 hh1)
                have HO1 := Lib.hid ho1
                have HP1 := Lib.hid (perm_snoc HP0.out hp1)
                have HQ1 : Hid (q ∉ nrBl p (some ⟨g1, 0, none⟩)) := fun hm => by
                  rcases List.mem_cons.1 hm with e | e
                  · exact HQ0.out (by rw [e]; simp [nrBl])
                  · simp at e
                    rcases hg1 with h | h
                    · exact HQ0.out (by rw [e]; exact h)
                    · have := HX0.out.lt; omega
                have HX1 := Lib.hid (hk1.row HX0.out HQ0.out)
                have HK1 := Lib.hid (HK0.out.trans (hk1.from (nr_cells HW0.out.heap)))
                have HR1 := Lib.hid (hk1.row HR0.out HE0.out)
                have HE1 : Hid (bx ∉ nrBl p (some ⟨g1, 0, none⟩)) := fun hm => by
                  rcases List.mem_cons.1 hm with e | e
                  · exact HE0.out (by rw [e]; simp [nrBl])
                  · simp at e
                    rcases hg1 with h | h
                    · exact HE0.out (by rw [e]; exact h)
                    · have := HR0.out.lt; omega
                clear kx0 kx1 kp e0 e1 e2 cp1 hh1 ho1 hp1 hk1 hg1 HW0 HO0 HP0 HQ0 HX0 HK0 HR0 HE0
                have kx0 := HX1.out.cell 0
                have kx1 := HX1.out.cell 1
                have kp := HW1.out.hp.cell 0
                have e0 := HR1.out.cell 0
                have e1 := HR1.out.cell 1
                have e2 := HR1.out.cell 2
                by_cases t2 : eb = xn
                · have t2d : (eb == (xn : Int)) = true := by simpa using t2
                  have HT2 := Lib.hid t2
                  clear t2
                  have cp2 := Lib.hid (nr_push (⟨xm, ea⟩ : Nr) HW1.out.heap HO1.out (by omega) (fun W _ x y => less_ x y W))
                  gi_wp2_with fail
                  refine ⟨trivial, ?_⟩
                  refine (CallsIn.inRound lp ((callsIn_wide (n := 0)).2 cp2.out)).mono ?_
                  rintro e v2 ⟨rfl, g2, c2, zs2, hh2, ho2, hp2, hk2, hg2⟩
                  have HW2 := Lib.hid (HW1.out.heaped hk2 hh2)
                  have HO2 := Lib.hid ho2
                  have HP2 := Lib.hid (perm_snoc HP1.out hp2)
                  have HQ2 : Hid (q ∉ nrBl p (some ⟨g2, 0, none⟩)) := fun hm => by
                    rcases List.mem_cons.1 hm with e | e
                    · exact HQ1.out (by rw [e]; simp [nrBl])
                    · simp at e
                      rcases hg2 with h | h
                      · exact HQ1.out (by rw [e]; exact h)
                      · have := HX1.out.lt; omega
                  have HX2 := Lib.hid (hk2.row HX1.out HQ1.out)
                  have HK2 := Lib.hid (HK1.out.trans (hk2.from (nr_cells HW1.out.heap)))
                  clear kx0 kx1 kp e0 e1 e2 cp2 hh2 ho2 hp2 hk2 hg2
                  gi_wp2
                  go_roundw
                  case rel => exact ⟨k + 1, nh' + 1 + 1, c2, some ⟨g2, 0, none⟩, zs2, by go_num, by omega, by omega, HW2.out, HO2.out, by show List.Perm _ _; rw [HTK.out, pushes2_snoc, pushes2_snoc, if_pos HT1.out, if_pos HT2.out, HMX.out]; simpa using HP2.out, HQ2.out, HX2.out, HK2.out⟩
                  case measure => simp [intOf]; omega
                · have t2d : (eb == (xn : Int)) = false := by simpa using t2
                  have HT2 := Lib.hid t2
                  clear t2
                  gi_wp2
                  go_roundw
                  case rel => exact ⟨k + 1, nh' + 1, c1, some ⟨g1, 0, none⟩, zs1, by go_num, by omega, by omega, HW1.out, HO1.out, by show List.Perm _ _; rw [HTK.out, pushes2_snoc, pushes2_snoc, if_pos HT1.out, if_neg HT2.out, HMX.out, List.append_nil]; simpa using HP1.out, HQ1.out, HX1.out, HK1.out⟩
                  case measure => simp [intOf]; omega
              · have t1d : (ea == (xn : Int)) = false := by simpa using t1
                have HT1 := Lib.hid t1
                clear t1
                by_cases t2 : eb = xn
                · have t2d : (eb == (xn : Int)) = true := by simpa using t2
                  have HT2 := Lib.hid t2
                  clear t2
                  have cp1 := Lib.hid (nr_push (⟨xm, ea⟩ : Nr) HW0.out.heap HO0.out (by omega) (fun W _ x y => less_ x y W))
                  gi_wp2_with fail
                  refine ⟨trivial, ?_⟩
                  refine (CallsIn.inRound lp ((callsIn_wide (n := 0)).2 cp1.out)).mono ?_
                  rintro e v1 ⟨rfl, g1, c1, zs1, hh1, ho1, hp1, hk1, hg1⟩
                  have HW1 := Lib.hid (HW0.out.heaped hk1 hh1)
                  have HO1 := Lib.hid ho1
                  have HP1 := Lib.hid (perm_snoc HP0.out hp1)
                  have HQ1 : Hid (q ∉ nrBl p (some ⟨g1, 0, none⟩)) := fun hm => by
                    rcases List.mem_cons.1 hm with e | e
                    · exact HQ0.out (by rw [e]; simp [nrBl])
                    · simp at e
                      rcases hg1 with h | h
                      · exact HQ0.out (by rw [e]; exact h)
                      · have := HX0.out.lt; omega
                  have HX1 := Lib.hid (hk1.row HX0.out HQ0.out)
                  have HK1 := Lib.hid (HK0.out.trans (hk1.from (nr_cells HW0.out.heap)))
                  clear kx0 kx1 kp e0 e1 e2 cp1 hh1 ho1 hp1 hk1 hg1
                  gi_wp2
                  go_roundw
                  case rel => exact ⟨k + 1, nh' + 1, c1, some ⟨g1, 0, none⟩, zs1, by go_num, by omega, by omega, HW1.out, HO1.out, by show List.Perm _ _; rw [HTK.out, pushes2_snoc, pushes2_snoc, if_neg HT1.out, if_pos HT2.out, HMX.out, List.append_nil]; simpa using HP1.out, HQ1.out, HX1.out, HK1.out⟩
                  case measure => simp [intOf]; omega
                · have t2d : (eb == (xn : Int)) = false := by simpa using t2
                  have HT2 := Lib.hid t2
                  clear t2
                  gi_wp2
                  go_roundw
                  case rel => exact ⟨k + 1, nh', ch', V', zs', by go_num, by omega, by omega, HW0.out, HO0.out, by show List.Perm _ _; rw [HTK.out, pushes2_snoc, pushes2_snoc, if_neg HT1.out, if_neg HT2.out, List.append_nil, List.append_nil]; exact HP0.out, HQ0.out, HX0.out, HK0.out⟩
                  case measure => simp [intOf]; omega
          · have hkn2 : k = n := by omega
            subst hkn2
            have hknz : ¬ (k : Int) < k := by omega
            have HP2 : Hid (zs'.Perm (zs ++ pushes2 (arcs2 l) ⟨xm, xn⟩)) := by
              have h := HP.out
              rw [List.take_of_length_le (by rw [HN.out]; omega)] at h; exact h
            have HNI : Hid (NI N (arcs2 l) a (settle2 out ⟨xm, xn⟩) zs') := (NI.new (arcs2_ok HED.out) HI.out HL.out (by have := HOX.out; simpa using this)).perm HP2.out.symm
            have HM : Hid (many2 N (settle2 out ⟨xm, xn⟩) = many2 N out + 1) := many2_more (by simpa using hxn) (by have := HOX.out; simpa using this)
            have HF : Hid ((fun i => if i = xn then true else (out i).isSome) = fun v => (settle2 out ⟨xm, xn⟩ v).isSome) := by
              show _ = _
              funext v
              unfold settle2
              simp only [Int.toNat_natCast]
              split <;> simp
            have HOB2 : Hid (settle2 out ⟨xm, xn⟩ b = none) := by
              show _ = _
              unfold settle2
              simp only [Int.toNat_natCast]
              rw [if_neg (by omega)]; exact HOB.out
            have hml3 := many2_le N (settle2 out ⟨xm, xn⟩)
            gi_wp2
            have hw9 := HW.out
            rw [HF.out] at hw9
            refine ⟨HK.out, 100 * (N - many2 N (settle2 out ⟨xm, xn⟩)) + nh', ?_, nh', V', ch', zs', settle2 out ⟨xm, xn⟩, hw9, HO.out, HNI.out, HOB2.out, ?_, rfl⟩
            · have := HM.out; omega
            · have := HM.out; omega
  case done =>
    rintro K W hK ⟨V, ch, out, hw, hi, hob⟩ hd
    have HW := Lib.hid hw
    have k3 := hw.r0.cell 0
    have k4 := hw.r1.cell 0
    have f3 := hw.r0.frozen 0
    have f4 := hw.r1.frozen 0
    have HLOST := Lib.hid (hi.lost hob)
    have HD := Lib.hid hd
    have HB := Lib.hid hw.below
    obtain ⟨r3, r4⟩ := stored (v1 := .int .i64 0) (v2 := .iface 91 (.int .i64 5)) hw.r0 hw.r1
    have HR3 := Lib.hid r3
    have HR4 := Lib.hid r4
    have HDD := Lib.hid (((KeepsOthers.setCell W ⟨w.heap.size + 1 + 1, 0, none⟩ (.int .i64 0)).trans (KeepsOthers.setCell _ ⟨w.heap.size + 1 + 1 + 1, 0, none⟩ (.iface 91 (.int .i64 5)))).same K _ hd rfl)
    clear hw hi hob hd HI0 r3 r4 HW
    go_wp2
    refine ⟨by simp, .inl ⟨_, _, rfl, run_takeDeferred HDD.out, ?_⟩⟩
    have q3 := (row_abides HR3.out (grownBy_putObj' _ K (.deferred none)) (fun r e => by cases e; exact ⟨_, HDD.out, rfl⟩)).cell 0
    have q4 := (row_abides HR4.out (grownBy_putObj' _ K (.deferred none)) (fun r e => by cases e; exact ⟨_, HDD.out, rfl⟩)).cell 0
    refine ⟨.tuple #[.int .i64 0, .iface 91 (.int .i64 5)], by simp [results, Tryd.f23, go_sem, q3, q4], Or.inr ⟨rfl, HLOST.out⟩, below_abides (stored_below HB.out (by omega)) (grownBy_putObj' _ K (.deferred none)) (Nat.le_refl _) (fun r e => by cases e; exact Nat.le_trans hwB hK)⟩
  case stop =>
    intro K cc W hK hx hd
    cases cc with
    | ret =>
      obtain ⟨v, h1, h2, h3, h4⟩ := hx
      have HD := Lib.hid hd
      have HV := Lib.hid h1
      have HR3 := Lib.hid h2
      have HR4 := Lib.hid h3
      have HB := Lib.hid h4
      clear hd HI0 h1 h2 h3 h4
      go_wp2
      refine ⟨by simp, .inl ⟨_, _, rfl, run_takeDeferred HD.out, ?_⟩⟩
      have q3 := (row_abides HR3.out (grownBy_putObj' _ K (.deferred none)) (fun r e => by cases e; exact ⟨_, HD.out, rfl⟩)).cell 0
      have q4 := (row_abides HR4.out (grownBy_putObj' _ K (.deferred none)) (fun r e => by cases e; exact ⟨_, HD.out, rfl⟩)).cell 0
      refine ⟨.tuple #[.int .i64 v, .nilIface], by simp [results, Tryd.f23, go_sem, q3, q4], Or.inl ⟨v, rfl, HV.out⟩, below_abides HB.out (grownBy_putObj' _ K (.deferred none)) (Nat.le_refl _) (fun r e => by cases e; exact Nat.le_trans hwB hK)⟩
    | _ => exact hx.elim
end Go.Proofs.YtpaoiaogcckibaaDoor
