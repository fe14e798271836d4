/- What moore.Pick answers: what is wrong with jobs, or those that are picked (Moore, Hodgson). Conditions: lengths are such that slices can have. -/
import Derived.Test.YtpaoiaogcckibaaDoorHeapTakR
import Derived.Test.YtpaoiaogcckibaaDoorMooreQ
import Derived.Test.YtpaoiaogcckibaaDoorSortInts
import Derived.Test.YtpaoiaogcckibaaDoorRangeA
import Derived.Test.YtpaoiaogcckibaaDoorRegionIn
import Derived.Deep.RegionHeld3
import Derived.Deep.DeepCutAuto
namespace Go.Proofs.YtpaoiaogcckibaaDoor
open Go.RowKit Go.Shelf
attribute [local go_sem] Oper.semAt_some
/-- the same, with the document's own words -/
def PickF (w : World) (l : List Job) (e : Ending) (w' : World) : Prop :=
  ∃ (ys S : List Int) (V : Option Addr) (c : Nat), (IsOrd l.length ys ∧ S.Perm (mooreS l ys)) ∧ ys.Pairwise (Ahead (dueC l) id) ∧ Picks (jobAt l) ys l.length S ∧ e = .returned (.tuple #[.slice V S.length c, .nilIface]) ∧ w'.ownsRow w.heap.size 3 1 (.slice V S.length c) S.length (ints S) ∧ S.Pairwise (· < ·) ∧ Below w.heap.size w w'
def PickOK (w : World) (l : List Job) (e : Ending) (w' : World) : Prop :=
  ∃ (ys S : List Int) (V : Option Addr) (c : Nat), IsOrd l.length ys ∧ ys.Pairwise (Ahead (dueC l) id) ∧ Picks (jobAt l) ys l.length S ∧ e = .returned (.tuple #[.slice V S.length c, .nilIface]) ∧ w'.ownsRow w.heap.size 3 1 (.slice V S.length c) S.length (ints S) ∧ S.Pairwise (· < ·) ∧ Below w.heap.size w w'
set_option maxHeartbeats 4000000 in
set_option maxRecDepth 100000 in
theorem pick_bad (A : Option Addr) (n c : Nat) (l : List Job) (w : World) (hA : Cells w w.heap.size A (jobs l)) (hn : l.length = n) (hm : n ≤ 9223372036854775807) (he : jobErr l ≠ 0) :
    Calls Tryd.prog 58 #[.slice A n c] w fun e w' => e = .returned (.tuple #[.slice none 0 0, .iface 91 (.int .i64 (jobErr l))]) ∧ Below w.heap.size w w' := by
  have c1 := Lib.hid (dueOrder_bad A n c l w hA hn hm he)
  clear hA hn he
  refine calls_of_marks Tryd.func58 rfl ?_
  simp only [Tryd.ntmps58, List.size_toArray, List.length_cons, List.length_nil, Nat.reduceAdd, Nat.reduceSub, Array.replicate_succ, Array.replicate_zero, List.push_toArray, List.append_toArray, List.nil_append, List.cons_append]
  go_wp2_with fail
  refine c1.out.mono ?_
  rintro e w1 ⟨rfl, hb1⟩
  have HB := Lib.hid hb1
  clear hb1 c1
  go_wp2
  exact ⟨.tuple #[.slice none 0 0, .iface 91 (.int .i64 (jobErr l))], by simp [results, Tryd.f58, go_sem], rfl, HB.out.alloc HB.out.size _⟩
theorem field_taken (a b : Value) (w : World) : (Instr.field 135 (.agg #[a, b]) 0).run Tryd.prog w = .ok a w := by kernel_rfl
theorem own_baseM {w : World} {b b' e size n : Nat} {v : Value} {xs : List Value} (h : w.ownsRow b e size v n xs) (hb : b' ≤ b) : w.ownsRow b' e size v n xs := by
  obtain ⟨h1, h2⟩ := h
  refine ⟨h1, ?_⟩
  rcases h2 with h2 | ⟨g, cap, cur, rfl, hg, r⟩
  · exact Or.inl h2
  · exact Or.inr ⟨g, cap, cur, rfl, by omega, r⟩
/-- where things lie -/
structure PkW (w : World) (n : Nat) (ys : List Int) (g O p base : Nat) (W : World) (nh : Nat) (V : Option Addr) (ch : Nat) (zs : List Tk) : Prop where
  ord : W.ownsRow w.heap.size 3 1 (.slice (some ⟨g, 0, none⟩) n n) n (ints ys)
  box : Row W O 29 [.slice (some ⟨g, 0, none⟩) n n]
  heap : tkHeap W base p nh V ch zs (.func (.func 93) #[] #[])
  below : Below w.heap.size w W
  low : w.heap.size ≤ O ∧ O < base ∧ g < base
section
variable {w W W' : World} {n g O p base nh ch : Nat} {ys : List Int} {V : Option Addr} {zs : List Tk}
theorem PkW.over (h : PkW w n ys g O p base W nh V ch zs) : ∀ x ∈ tkBl p V, base ≤ x := fun x hx => (tk_blk h.heap x hx).1
theorem PkW.heaped {nh' ch' : Nat} {V' : Option Addr} {zs' : List Tk} (h : PkW w n ys g O p base W nh V ch zs) (hk : Keeps (tkBl p V) W W') (hh : tkHeap W' base p nh' V' ch' zs' (.func (.func 93) #[] #[])) : PkW w n ys g O p base W' nh' V' ch' zs' := by
  have ho := h.over
  have hl := h.low
  exact ⟨hk.own h.ord (fun q hq hm => by simp [Value.ownBlock] at hq; have := ho _ hm; omega), hk.row h.box (fun hm => by have := ho _ hm; omega), hh, h.below.trans (hk.below (fun x hx => by have := ho x hx; omega) h.below.size), hl⟩
theorem PkW.kept {bs : List Nat} {B : Nat} (h : PkW w n ys g O p base W nh V ch zs) (hk : Keeps bs W W') (hn : ∀ x ∈ bs, B ≤ x) (hB : base ≤ B) (hf : ∀ x ∈ tkBl p V, x < B) : PkW w n ys g O p base W' nh V ch zs := by
  have hl := h.low
  refine ⟨hk.own h.ord (fun q hq hm => by simp [Value.ownBlock] at hq; have := hn _ hm; omega), hk.row h.box (fun hm => by have := hn _ hm; omega), h.heap.keeps hk (fun hm => by have := hn _ hm; have := hf p (by simp [tkBl]); omega) (fun q hq hm => ?_), h.below.trans (hk.below (fun x hx => by have := hn x hx; omega) h.below.size), hl⟩
  have h1 := hn _ hm
  have h2 := hf q (by
    cases V with
    | none => simp [Value.ownBlock] at hq
    | some a => simp only [Value.ownBlock, Option.some.injEq] at hq; simp [tkBl, hq])
  omega
theorem PkW.step (h : PkW w n ys g O p base W nh V ch zs) (hb : Below W.heap.size W W') : PkW w n ys g O p base W' nh V ch zs :=
  ⟨(Keeps.ofBelow hb : Keeps [] W W').own h.ord (fun _ _ hm => by simp at hm), h.box.step hb, h.heap.step hb, h.below.trans (hb.mono h.below.size), h.low⟩
theorem PkW.abides {row : Option Nat} (h : PkW w n ys g O p base W nh V ch zs) (hg : W.grownBy W' row) (hr : ∀ r, row = some r → w.heap.size ≤ r ∧ ∃ o : Obj, W.heap[r]? = some o ∧ o.isCells = false) : PkW w n ys g O p base W' nh V ch zs :=
  have hr2 : ∀ r, row = some r → ∃ o : Obj, W.heap[r]? = some o ∧ o.isCells = false := fun r e => (hr r e).2
  ⟨own_abides h.ord hg hr2, row_abides h.box hg hr2, tk_abides h.heap hg hr2, below_abides h.below hg (Nat.le_refl _) (fun r e => (hr r e).1), h.low⟩
theorem PkW.at_ {k : Nat} {y : Int} (h : PkW w n ys g O p base W nh V ch zs) (hk : k < n) (hy : ys[k]? = some y) : W.cell? ⟨g, k, none⟩ = some (.int .i64 y) :=
  (h.ord.cellAt k (by omega)).trans (by simp [ints, hy])
end
theorem sum_bound : ∀ zs : List Tk, (∀ z ∈ zs, 0 ≤ z.time ∧ z.time ≤ 1000) → 0 ≤ nowOf zs ∧ nowOf zs ≤ 1000 * (zs.length : Int)
  | [], _ => by simp [nowOf]
  | z :: zs, h => by
    have h1 := sum_bound zs fun y hy => h y (by simp [hy])
    have h2 := h z (by simp)
    unfold nowOf at *
    simp only [List.map_cons, List.sum_cons, List.length_cons]
    omega
theorem PickI.bound {l : List Job} {ys : List Int} {k : Nat} {zs : List Tk} (h : PickI l ys k zs) (hl : jobErr l = 0) (ho : IsOrd l.length ys) (hk : k ≤ ys.length) : (∀ z ∈ zs, 0 ≤ z.time ∧ z.time ≤ 1000) ∧ 0 ≤ nowOf zs ∧ nowOf zs ≤ 1000 * (zs.length : Int) := by
  have h1 : ∀ z ∈ zs, 0 ≤ z.time ∧ z.time ≤ 1000 := fun z hz => by
    obtain ⟨h2, h3, h4⟩ := h.times z hz
    have h5 : z.place.toNat < ys.length := by omega
    rw [List.getElem!_eq_getElem?_getD, List.getElem?_eq_getElem h5] at h2
    have h6 := (jobs_ok hl ho _ (List.getElem_mem h5)).1
    simp only [Option.getD_some] at h2
    omega
  exact ⟨h1, sum_bound zs h1⟩
/-- the last loop: what is handed out so far, what is still in the heap -/
structure PkO (w : World) (n : Nat) (ys : List Int) (g O p base B : Nat) (S0 : List Int) (W : World) (nh : Nat) (V : Option Addr) (ch : Nat) (zs qs : List Tk) (xs : List Int) (Vo : Option Addr) (co : Nat) : Prop where
  pk : PkW w n ys g O p base W nh V ch zs
  ob : Row W B 29 [.slice Vo xs.length co]
  oo : W.ownsRow B 3 1 (.slice Vo xs.length co) xs.length (ints xs)
  fit : ∀ x ∈ tkBl p V, x < B
  lo : base ≤ B
  ho : HeapOrd laterB zs
  per : (xs ++ idxs ys qs).Perm S0
  plc : ∀ z ∈ qs, 0 ≤ z.place ∧ z.place < n
  few : nh ≤ 16 ∧ xs.length + qs.length ≤ 16
section
variable {w W W' : World} {n g O p base B nh ch co : Nat} {ys S0 xs : List Int} {V Vo : Option Addr} {zs qs : List Tk}
theorem PkO.step (h : PkO w n ys g O p base B S0 W nh V ch zs qs xs Vo co) (hb : Below W.heap.size W W') : PkO w n ys g O p base B S0 W' nh V ch zs qs xs Vo co :=
  ⟨h.pk.step hb, h.ob.step hb, (Keeps.ofBelow hb : Keeps [] W W').own h.oo (fun _ _ hm => by simp at hm), h.fit, h.lo, h.ho, h.per, h.plc, h.few⟩
theorem PkO.abides {row : Option Nat} (h : PkO w n ys g O p base B S0 W nh V ch zs qs xs Vo co) (hg : W.grownBy W' row) (hr : ∀ r, row = some r → w.heap.size ≤ r ∧ ∃ o : Obj, W.heap[r]? = some o ∧ o.isCells = false) : PkO w n ys g O p base B S0 W' nh V ch zs qs xs Vo co :=
  have hr2 : ∀ r, row = some r → ∃ o : Obj, W.heap[r]? = some o ∧ o.isCells = false := fun r e => (hr r e).2
  ⟨h.pk.abides hg hr, row_abides h.ob hg hr2, own_abides h.oo hg hr2, h.fit, h.lo, h.ho, h.per, h.plc, h.few⟩
end
def PkI (w : World) (n : Nat) (ys : List Int) (g O p base B : Nat) (S0 : List Int) (m : Nat) (W : World) : Prop := ∃ V ch zs xs Vo co, PkO w n ys g O p base B S0 W m V ch zs zs xs Vo co
def PkG (w : World) (n : Nat) (ys : List Int) (g O p base B : Nat) (S0 : List Int) (m : Nat) (x : Tk) (W : World) : Prop := ∃ k V ch zs xs Vo co, m = k + 1 ∧ PkO w n ys g O p base B S0 W k V ch zs (x :: zs) xs Vo co
def PkF (w : World) (n : Nat) (ys : List Int) (g O p base B : Nat) (S0 : List Int) (W : World) : Prop := ∃ V ch xs Vo co, PkO w n ys g O p base B S0 W 0 V ch [] [] xs Vo co
theorem pk_iter (w : World) (n : Nat) (ys : List Int) (g O p base B : Nat) (S0 : List Int) :
    IterK Tryd.prog 96 #[.pointer (some ⟨p, 0, none⟩)] (fun x => #[x.val]) (PkI w n ys g O p base B S0) (PkG w n ys g O p base B S0) (PkF w n ys g O p base B S0) := by
  refine tk_iter (base := base) ?_
  rintro m W ⟨V, ch, zs, xs, Vo, co, h⟩
  refine ⟨m, V, ch, zs, h.pk.heap, h.ho, by have := h.few; omega, fun h0 => ?_, fun k g' hk hV W1 zs' hh1 ho1 hp1 hle hk1 => ?_⟩
  · subst h0
    have hz : zs = [] := List.eq_nil_of_length_eq_zero h.pk.heap.len
    subst hz
    exact ⟨V, ch, xs, Vo, co, h⟩
  · subst hk
    have hf := h.fit
    refine ⟨k, V, ch, zs', xs, Vo, co, rfl, h.pk.heaped hk1 hh1, hk1.row h.ob (fun hm => by have := hf _ hm; omega), hk1.own h.oo (fun q hq hm => by have := (h.oo.lt q hq).1; have := hf _ hm; omega), hf, h.lo, ho1, ?_, fun z hz => h.plc z (hp1.mem_iff.1 hz), ?_⟩
    · exact (List.Perm.append_left xs (idxs_perm hp1)).trans h.per
    · have h1 := h.few
      have h2 := hp1.length_eq
      omega
set_option maxHeartbeats 8000000 in
set_option maxRecDepth 100000 in
theorem pick_okF (A : Option Addr) (n c : Nat) (l : List Job) (w : World) (hA : Cells w w.heap.size A (jobs l)) (hn : l.length = n) (hm : n ≤ 9223372036854775807) (he : jobErr l = 0) :
    Calls Tryd.prog 58 #[.slice A n c] w (PickF w l) := by
  have c1 := Lib.hid (dueOrder_ok A n c l w hA hn hm he)
  have hl16 : n ≤ 16 := by have := (jobErr_ok he).1; omega
  have HE := Lib.hid he
  have HN := Lib.hid hn
  clear hn he hm
  refine calls_of_marks Tryd.func58 rfl ?_
  simp only [Tryd.ntmps58, List.size_toArray, List.length_cons, List.length_nil, Nat.reduceAdd, Nat.reduceSub, Array.replicate_succ, Array.replicate_zero, List.push_toArray, List.append_toArray, List.nil_append, List.cons_append]
  go_wp2_with fail
  refine c1.out.mono ?_
  rintro e w1 ⟨g, ys, rfl, hio, hpw, hown, hb1⟩
  have HIO := Lib.hid hio
  have HPW := Lib.hid hpw
  have HB1 := Lib.hid hb1
  have HOWN := Lib.hid hown
  have hgl := (hown.lt g rfl).2
  have hsz1 := hb1.size
  clear hio hpw hown hb1 c1
  go_upto_region 4 with fail
  have HX2 : Hid (Row (w1.alloc (.cells #[.slice (some ⟨g, 0, none⟩) n n] 29)) w1.heap.size 29 [.slice (some ⟨g, 0, none⟩) n n]) := Row.new _ _ _
  have hb2 : Below w1.heap.size w1 (w1.alloc (.cells #[.slice (some ⟨g, 0, none⟩) n n] 29)) := (Below.refl _ _).alloc (Nat.le_refl _) _
  have hsz2 : (w1.alloc (.cells #[.slice (some ⟨g, 0, none⟩) n n] 29)).heap.size = w1.heap.size + 1 := by simp
  have HB2 := Lib.hid hb2
  clear hb2
  generalize w1.alloc (.cells #[.slice (some ⟨g, 0, none⟩) n n] 29) = w2 at HX2 hsz2 HB2 ⊢
  have c2 := Lib.hid (tk_new (w := w2) (X := none) (m := 0) (cx := 0) (l := []) Cells.nil rfl (by omega) (fun W _ x y => later_ x y W))
  go_wp2_with fail
  refine c2.out.mono ?_
  rintro e w3 ⟨p, V, ch, zs, rfl, hh, ho, hp, hb3⟩
  have hz : zs = [] := List.Perm.eq_nil hp
  subst hz
  have hPW : PkW w n ys g w1.heap.size p w2.heap.size w3 0 V ch [] :=
    ⟨(Keeps.ofBelow (hb3.mono (show w1.heap.size ≤ w2.heap.size by omega) |> fun h => HB2.out.trans h) : Keeps [] w1 w3).own HOWN.out (fun _ _ hm => by simp at hm), HX2.out.step hb3, hh, HB1.out.trans ((HB2.out.trans (hb3.mono (by omega))).mono hsz1), by omega, by omega, by omega⟩
  have HPW2 := Lib.hid hPW
  have HPI : Hid (PickI l ys 0 []) := PickI.start HE.out (by rw [HN.out]; exact HIO.out)
  have HHO := Lib.hid ho
  obtain ⟨base, hbase⟩ : ∃ z, z = w2.heap.size := ⟨_, rfl⟩
  rw [← hbase] at HPW2
  clear c2 hh ho hp hb3 hPW HX2 HB2 HB1 HOWN hgl
  have hbx := HPW2.out.box.cell 0
  go_wp2
  go_loopw [7, 23] (fun nv i wr => ∃ (k nh ch : Nat) (V : Option Addr) (zs : List Tk), i = .int .i64 (k : Int) ∧ nv = .int .i64 (nowOf zs) ∧ k ≤ n ∧ Hid (PkW w n ys g w1.heap.size p base wr nh V ch zs) ∧ Hid (HeapOrd laterB zs) ∧ Hid (PickI l ys k zs)) (fun _ i _ => n - (intOf i).toNat)
  case atStart => exact ⟨0, 0, ch, V, [], rfl, rfl, by omega, HPW2.out, HHO.out, HPI.out⟩
  case round =>
    clear HPW2 HPI HHO hbx
    obtain ⟨k, nh, ch, V, zs, rfl, rfl, hk, HW, HO, HP⟩ := hrel
    have hyl : ys.length = n := HIO.out.1
    have hioL : IsOrd l.length ys := by rw [HN.out]; exact HIO.out
    have hbd := HP.out.bound HE.out hioL (by omega)
    have hln := HP.out.len (by omega)
    have hnh := HW.out.heap.len
    obtain ⟨now, hnow⟩ : ∃ z, z = nowOf zs := ⟨_, rfl⟩
    rw [← hnow]
    rw [← hnow] at hbd
    by_cases hlt : k < n
    · have hlz : (k : Int) < n := by omega
      have hky : k < ys.length := by omega
      have hyk : ys[k]? = some ys[k] := List.getElem?_eq_getElem hky
      obtain ⟨y, hy⟩ : ∃ y, y = ys[k] := ⟨_, rfl⟩
      rw [← hy] at hyk
      have hin := HIO.out.2.1 y (List.mem_of_getElem? hyk)
      obtain ⟨z, rfl⟩ : ∃ z : Nat, y = z := ⟨y.toNat, by omega⟩
      have hzn : z < n := by omega
      obtain ⟨b, off, t, d, v, rfl, hbb, hx, hc0, hc1, hc2⟩ := jobs_at hA (show z < l.length by rw [HN.out]; exact hzn)
      have hjob : jobAt l (z : Int) = ⟨t, d, v⟩ := by simp [jobAt, List.getD, hx]
      have hjo := jobs_ok HE.out hioL (z : Int) (List.mem_of_getElem? hyk)
      rw [hjob] at hjo
      obtain ⟨⟨ht0, ht1⟩, hd0, hd1⟩ := hjo
      simp only at ht0 ht1 hd0 hd1
      have HC0 := Lib.hid hc0
      have HC1 := Lib.hid hc1
      have HBB := Lib.hid hbb
      rw [← HW.out.below.cell hbb] at hc0 hc1
      have hcy := HW.out.at_ hlt hyk
      have HYK := Lib.hid hyk
      have HJ := Lib.hid hjob
      have HNOW := Lib.hid hnow
      have HIOL := Lib.hid hioL
      have cp := Lib.hid (tk_push (⟨t, (k : Int)⟩ : Tk) HW.out.heap HO.out (by omega) (fun W _ x y => later_ x y W))
      obtain ⟨hb1, hb2, hb3⟩ := hbd
      clear hy hyk hx hjob hc2 hin hioL hnow hb1
      go_wp2_with fail
      refine cp.out.mono ?_
      rintro e v1 ⟨rfl, g1, c1, zs1, hh1, ho1, hp1, hk1, hg1⟩
      have HW1 := Lib.hid (HW.out.heaped hk1 hh1)
      have HO1 := Lib.hid ho1
      have HP1 := Lib.hid hp1
      have hN1 : nowOf zs1 = now + t := by rw [nowOf_perm hp1, HNOW.out]; simp [nowOf]; omega
      have HN1 := Lib.hid hN1
      have hb1' := sum_bound zs1
      have HBZ : Hid (∀ z ∈ zs1, 0 ≤ z.time ∧ z.time ≤ 1000) := fun q hq => by
        rcases List.mem_cons.1 (hp1.mem_iff.1 hq) with rfl | hq
        · show 0 ≤ t ∧ t ≤ 1000; omega
        · exact (HP.out.bound HE.out HIOL.out (by omega)).1 q hq
      have hc0 := (HW1.out.below.cell (p := ⟨b, off + z * 3, none⟩) HBB.out).trans HC0.out
      have hc1 := (HW1.out.below.cell (p := ⟨b, off + z * 3 + 1, none⟩) HBB.out).trans HC1.out
      have hw1 : IntKind.i64.wrap (now + t) = now + t := by rw [IntKind.wrap_i64]; omega
      clear cp hh1 ho1 hp1 hk1 hg1 hN1 hb1' hcy
      by_cases hd : d < now + t
      · obtain ⟨ex, hex⟩ : ∃ z, z = zs1[0]! := ⟨_, rfl⟩
        have hlen1 := HW1.out.heap.len
        have hexm : ex ∈ zs1 := by
          rw [hex, List.getElem!_eq_getElem?_getD, List.getElem?_eq_getElem (show 0 < zs1.length by omega)]
          exact List.getElem_mem _
        have hxb := HBZ.out ex hexm
        have cq := tk_pop HW1.out.heap HO1.out (by omega) (fun W _ x y => later_ x y W)
        rw [← hex] at cq
        obtain ⟨xt, xp⟩ := ex
        have CQ : Hid (Calls Tryd.prog 95 #[.pointer (some ⟨p, 0, none⟩)] v1 fun e w' => e = .returned (.agg #[.int .i64 xt, .int .i64 xp]) ∧ ∃ zs2, tkHeap w' base p nh (some ⟨g1, 0, none⟩) c1 zs2 (.func (.func 93) #[] #[]) ∧ HeapOrd laterB zs2 ∧ ((⟨xt, xp⟩ : Tk) :: zs2).Perm zs1 ∧ Keeps (tkBl p (some ⟨g1, 0, none⟩)) v1 w') := cq
        have HEX := Lib.hid hex
        simp only at hxb
        have hw2 : IntKind.i64.wrap (now + t - xt) = now + t - xt := by rw [IntKind.wrap_i64]; omega
        clear cq hex hexm
        go_wp2_with fail
        refine CQ.out.mono ?_
        rintro e v2 ⟨rfl, zs2, hh2, ho2, hp2, hk2⟩
        have HW2 := Lib.hid (HW1.out.heaped hk2 hh2)
        have HO2 := Lib.hid ho2
        have HLE : Hid (∀ y ∈ zs2, laterB y ⟨xt, xp⟩ = false) := fun y hy => by
          have hm : y ∈ zs1 := hp2.mem_iff.1 (List.mem_cons_of_mem _ hy)
          obtain ⟨j, hj, rfl⟩ := List.getElem_of_mem hm
          have := HO1.out.least laterB_first j hj
          rw [List.getElem!_eq_getElem?_getD, List.getElem?_eq_getElem hj, ← HEX.out] at this
          exact this
        have HP2 : Hid (PickI l ys (k + 1) zs2) := PickI.drop HP.out HE.out HIOL.out HPW.out HYK.out (by rw [HJ.out]; exact HP1.out) (by rw [HJ.out, HN1.out]; exact hd) hp2 HLE.out
        have HN2 : Hid (nowOf zs2 = now + t - xt) := by
          have h1 := nowOf_perm hp2
          rw [HN1.out] at h1
          simp only [nowOf, List.map_cons, List.sum_cons] at h1 ⊢
          show _ = _
          omega
        clear hh2 ho2 hp2 hk2 CQ
        have hfld : ∀ w : World, (Instr.field 135 (.agg #[.int .i64 xt, .int .i64 xp]) 0).run Tryd.prog w = .ok (.int .i64 xt) w := fun w => field_taken _ _ w
        generalize Value.agg #[.int .i64 xt, .int .i64 xp] = AG at hfld ⊢
        go_wp2
        go_roundw
        case rel => exact ⟨k + 1, nh, c1, some ⟨g1, 0, none⟩, zs2, by go_num, by rw [HN2.out], by omega, HW2.out, HO2.out, HP2.out⟩
        case measure => simp [intOf]; omega
      · have HP2 : Hid (PickI l ys (k + 1) zs1) := PickI.add HP.out HE.out HIOL.out HPW.out HYK.out (by rw [HJ.out]; exact HP1.out) (by rw [HJ.out, HN1.out]; show now + t ≤ d; omega)
        go_wp2
        go_roundw
        case rel => exact ⟨k + 1, nh + 1, c1, some ⟨g1, 0, none⟩, zs1, by go_num, by rw [HN1.out], by omega, HW1.out, HO1.out, HP2.out⟩
        case measure => simp [intOf]; omega
    · have hkn : k = n := by omega
      subst hkn
      have hlz : ¬ (k : Int) < k := by omega
      have hplc := fun z hz => (HP.out.times z hz).2
      have hsz := HW.out.below.size
      have hI0 : PkI w k ys g w1.heap.size p base wr.heap.size (idxs ys zs) nh (wr.alloc (.cells #[.slice none 0 0] 29)) :=
        ⟨V, ch, zs, [], none, 0, HW.out.step ((Below.refl _ _).alloc (Nat.le_refl _) _), Row.new _ _ _, World.ownsRow_nil _ _ _ _, fun x hx => (tk_blk HW.out.heap x hx).2, Nat.le_trans HW.out.heap.at_ (Nat.le_of_lt HW.out.heap.row.lt), HO.out, List.Perm.refl _, hplc, by simp only [List.length_nil]; omega⟩
      have HI0 := Lib.hid hI0
      have HIOL := Lib.hid hioL
      have HYL := Lib.hid hyl
      have hPk := HP.out.picks
      have HPK := Lib.hid hPk
      have HSM := Lib.hid HP.out.same
      clear hnow hbd hI0 hplc hioL hyl hPk hln hnh HW HO HP
      go_wp2_with fail
      refine wp_rangeA (γ := Tk) (gf := 96) (la := #[.pointer (some ⟨p, 0, none⟩)]) (encs := fun x => #[x.val]) rfl (enters_of Tryd.func96 (by kernel_rfl) rfl) (fun _ => rfl)
        (PkI w k ys g w1.heap.size p base wr.heap.size (idxs ys zs)) (PkG w k ys g w1.heap.size p base wr.heap.size (idxs ys zs)) (PkF w k ys g w1.heap.size p base wr.heap.size (idxs ys zs)) (fun _ _ => False) (pk_iter w k ys g w1.heap.size p base wr.heap.size (idxs ys zs))
        ?ownI ?ownF ?ownX nh HI0.out
        (fun a0 m x a' W => ∃ q, wr.heap.size + 1 ≤ q ∧ Row W q 135 [.int .i64 x.time, .int .i64 x.place] ∧ a' = { tmps := (a0.tmps.setIfInBounds 59 x.val).setIfInBounds 11 (.pointer (some ⟨q, 0, none⟩)), defers := [] } ∧
          ∃ k' V ch zs' xs Vo co, m = k' + 1 ∧ PkO w k ys g w1.heap.size p base wr.heap.size (idxs ys zs) W k' V ch zs' (x :: zs') xs Vo co)
        ?ownA ?assign ?body ?done ?stop
      case ownI =>
        rintro m W W' row ⟨V, ch, zs', xs, Vo, co, h⟩ hg hr
        exact ⟨V, ch, zs', xs, Vo, co, h.abides hg (fun r e => ⟨Nat.le_trans (by simp; omega) (hr r e).1, (hr r e).2⟩)⟩
      case ownF =>
        rintro m W W' row ⟨V, ch, xs, Vo, co, h⟩ hg hr
        exact ⟨V, ch, xs, Vo, co, h.abides hg (fun r e => ⟨Nat.le_trans (by simp; omega) (hr r e).1, (hr r e).2⟩)⟩
      case ownX => exact fun _ _ _ _ _ hx _ _ => hx
      case ownA =>
        rintro m x a' _ W W' row ⟨q, h1, h2, h3, k', V, ch, zs', xs, Vo, co, h4, h⟩ hg hr
        exact ⟨q, h1, row_abides h2 hg (fun r e => (hr r e).2), h3, k', V, ch, zs', xs, Vo, co, h4, h.abides hg (fun r e => ⟨Nat.le_trans (by simp; omega) (hr r e).1, (hr r e).2⟩)⟩
      case assign =>
        intro lp m x W K hG hK
        have HK := Lib.hid hK
        obtain ⟨k', V, ch, zs', xs, Vo, co, hmk, h⟩ := hG
        have hnew := Row.new W 135 #[.int .i64 x.time, .int .i64 x.place]
        have hbn : Below W.heap.size W (W.alloc (.cells #[.int .i64 x.time, .int .i64 x.place] 135)) := (Below.refl _ _).alloc (Nat.le_refl _) _
        have hfin := fun a' e => HK.out a' (W.alloc (.cells #[.int .i64 x.time, .int .i64 x.place] 135)) ((KeepsOthers.alloc _ _).from _) ⟨W.heap.size, (by have := h.ob.lt; omega), hnew, e, k', V, ch, zs', xs, Vo, co, hmk, h.step hbn⟩
        have HF := Lib.hid hfin
        clear hK HK h hnew hbn hfin
        unfold Tk.val
        gi_wp2
        exact HF.out _ rfl
      case body =>
        rintro lp m ⟨xt, xp⟩ a' W ⟨q, hq, hxr, rfl, k', V, ch, zs', xs, Vo, co, rfl, h⟩
        obtain ⟨hp0, hp1⟩ := h.plc ⟨xt, xp⟩ (by simp)
        simp only at hp0 hp1
        obtain ⟨xp, rfl⟩ : ∃ z : Nat, xp = z := ⟨xp.toNat, by omega⟩
        have hpk : xp < k := by omega
        have hpy : ys[xp]? = some ys[xp]! := by
          have hlt : xp < ys.length := by rw [HYL.out]; exact hpk
          rw [List.getElem!_eq_getElem?_getD, List.getElem?_eq_getElem hlt]; rfl
        obtain ⟨y, hy⟩ : ∃ z, z = ys[xp]! := ⟨_, rfl⟩
        rw [← hy] at hpy
        have kx1 := hxr.cell 1
        have kb := h.ob.cell 0
        have kf := h.ob.frozen 0
        have kO := h.pk.box.cell 0
        have kg := h.pk.at_ hpk hpy
        have HH := Lib.hid h
        have HY := Lib.hid hy
        have HXR := Lib.hid hxr
        have hoo := h.oo
        have hfit := h.fit
        have hBq : q ≠ wr.heap.size := by omega
        have hBg : g ≠ wr.heap.size := by have := h.pk.low; have := h.lo; omega
        have hBO : w1.heap.size ≠ wr.heap.size := by have := h.pk.low; have := h.lo; omega
        have hqr := hxr
        have hown9 := own_ne_row h.oo h.ob (by decide)
        have hownq := own_ne_row h.oo hxr (by decide)
        have hfew := h.few
        have HOd : Hid ((W.drew.alloc (.cells #[.int .i64 y] 3)).ownsRow wr.heap.size 3 1 (.slice Vo xs.length co) xs.length (ints xs)) := World.ownsRow.alloc (w := W.drew) hoo _
        have HFIN : Hid (∀ (g9 c9 : Nat) (w9 : World), w9.ownsRow wr.heap.size 3 1 (.slice (some ⟨g9, 0, none⟩) (xs.length + 1) c9) (xs.length + 1) (ints xs ++ [.int .i64 y]) → Below wr.heap.size (W.drew.alloc (.cells #[.int .i64 y] 3)) w9 → wr.heap.size ≤ g9 → (W.drew.alloc (.cells #[.int .i64 y] 3)).grownBy w9 (Value.slice Vo xs.length co).ownBlock → (some g9 = (Value.slice Vo xs.length co).ownBlock ∨ g9 = (W.drew.alloc (.cells #[.int .i64 y] 3)).heap.size) →
            (fun W2 => W2.cell? ⟨w1.heap.size, 0, none⟩ = some (.slice (some ⟨g, 0, none⟩) k k) ∧ W2.cell? ⟨q, 1, none⟩ = some (.int .i64 (xp : Int)) ∧ W2.cell? ⟨g, xp, none⟩ = some (.int .i64 y)) w9 ∧ w9.cell? ⟨wr.heap.size, 0, none⟩ = some (.slice Vo xs.length co) ∧ w9.frozen? ⟨wr.heap.size, 0, none⟩ = false ∧
            ((fun W2 => W2.cell? ⟨w1.heap.size, 0, none⟩ = some (.slice (some ⟨g, 0, none⟩) k k) ∧ W2.cell? ⟨q, 1, none⟩ = some (.int .i64 (xp : Int)) ∧ W2.cell? ⟨g, xp, none⟩ = some (.int .i64 y)) (w9.setCell ⟨wr.heap.size, 0, none⟩ (.slice (some ⟨g9, 0, none⟩) (xs.length + 1) c9)) ∧ KeepsFrom (wr.heap.size + 1) W (w9.setCell ⟨wr.heap.size, 0, none⟩ (.slice (some ⟨g9, 0, none⟩) (xs.length + 1) c9)) ∧ PkI w k ys g w1.heap.size p base wr.heap.size (idxs ys zs) k' (w9.setCell ⟨wr.heap.size, 0, none⟩ (.slice (some ⟨g9, 0, none⟩) (xs.length + 1) c9)))) := by
          intro g9 c9 w9 ho9 hb9 hg9 hgr9 hat9
          obtain ⟨bs, hbs⟩ : ∃ bs : List Nat, bs = match (Value.slice Vo xs.length co).ownBlock with | some g => [g] | none => [] := ⟨_, rfl⟩
          have hbm : ∀ x, x ∈ bs ↔ (Value.slice Vo xs.length co).ownBlock = some x := fun x => by
            rw [hbs]
            cases (Value.slice Vo xs.length co).ownBlock with
            | none => simp
            | some g => simp [eq_comm]
          have hK9 : Keeps bs W w9 := (((Keeps.refl bs W).drew).alloc _).trans (Keeps.ofGrown hgr9 (fun r hr => Or.inl ((hbm r).2 hr)))
          have hn9 : ∀ x ∈ bs, wr.heap.size ≤ x := fun x hx => (hoo.lt x ((hbm x).1 hx)).1
          have pk9 := h.pk.kept hK9 hn9 h.lo hfit
          have ob9 := hK9.row h.ob (fun hm => hown9 ((hbm _).1 hm))
          have xr9 := hK9.row hxr (fun hm => hownq ((hbm _).1 hm))
          have pk10 := pk9.kept (bs := [wr.heap.size]) ((Keeps.refl _ _).setCell (p := ⟨wr.heap.size, 0, none⟩) (Or.inl (by simp)) (.slice (some ⟨g9, 0, none⟩) (xs.length + 1) c9)) (fun x hx => by simp at hx; omega) h.lo hfit
          refine ⟨⟨pk9.box.cell 0, xr9.cell 1, pk9.at_ hpk hpy⟩, ob9.cell 0, ob9.frozen 0, ⟨pk10.box.cell 0, (xr9.far (p := ⟨wr.heap.size, 0, none⟩) hBq _).cell 1, pk10.at_ hpk hpy⟩, ?_, ?_⟩
          · exact (hK9.from (fun b hb => own_isCells hoo ((hbm b).1 hb))).trans ((KeepsOthers.setCell _ _ _).from _)
          · refine ⟨V, ch, zs', xs ++ [y], some ⟨g9, 0, none⟩, c9, pk10, ?_, ?_, hfit, h.lo, h.ho, ?_, fun z hz => h.plc z (by simp [hz]), ?_⟩
            · have := ob9.set_ 0 (.slice (some ⟨g9, 0, none⟩) (xs.length + 1) c9)
              rw [List.length_append]; exact this
            · have := ownsRow_setCell_other (a := ⟨wr.heap.size, 0, none⟩) ho9 (own_ne_row ho9 ob9 (by decide)) (.slice (some ⟨g9, 0, none⟩) (xs.length + 1) c9)
              rw [List.length_append, ints_append]; exact this
            · have := h.per
              unfold idxs at this ⊢
              simp only [List.map_cons, Int.toNat_natCast] at this
              rw [← hy] at this
              simpa using this
            · have := h.few
              simp only [List.length_append, List.length_cons, List.length_nil] at this ⊢
              omega
        have HSA : Hid ((fun W2 => W2.cell? ⟨w1.heap.size, 0, none⟩ = some (.slice (some ⟨g, 0, none⟩) k k) ∧ W2.cell? ⟨q, 1, none⟩ = some (.int .i64 (xp : Int)) ∧ W2.cell? ⟨g, xp, none⟩ = some (.int .i64 y)) (W.drew.alloc (.cells #[.int .i64 y] 3))) := ⟨(h.pk.box.alloc _).cell 0, (hxr.alloc _).cell 1, (World.cell?_alloc_lt W _ ⟨g, xp, none⟩ (by have := (h.pk.ord.lt g rfl).2; exact this)).trans kg⟩
        have kba : (W.drew.alloc (.cells #[.int .i64 y] 3)).cell? ⟨wr.heap.size, 0, none⟩ = some (.slice Vo xs.length co) := (h.ob.alloc _).cell 0
        have hfw := hfew.2
        have hBl := h.ob.lt
        clear h hxr hqr hpy hy HI0 hoo hfit hown9 hownq hfew
        simp only [List.setIfInBounds_toArray, List.set_cons_succ, List.set_cons_zero]
        gi_wp2
        refine region_in (fun W2 => W2.cell? ⟨w1.heap.size, 0, none⟩ = some (.slice (some ⟨g, 0, none⟩) k k) ∧ W2.cell? ⟨q, 1, none⟩ = some (.int .i64 (xp : Int)) ∧ W2.cell? ⟨g, xp, none⟩ = some (.int .i64 y)) (by kernel_rfl) (by kernel_rfl) (by rintro ⟨_, _, h⟩; exact h) ⟨kO, kx1, kg⟩ (fun hS0 => ?_)
        refine takeL (v := .pointer (some ⟨q, 1, none⟩)) 2 rfl (by kernel_rfl) (by kernel_rfl) (by kernel_rfl) (fun _ _ _ h => h) (by rfl) (fun W2 hS2 => ?_) hS0 ?_
        · obtain ⟨s1, s2, s3⟩ := hS2; go_simp
        simp only [Act.put, List.setIfInBounds_toArray, List.set_cons_zero, List.set_cons_succ]
        refine takeL (v := .slice (some ⟨g, 0, none⟩) k k) 1 rfl (by kernel_rfl) (by kernel_rfl) (by kernel_rfl) (fun _ _ _ h => h) (by rfl) (fun W2 hS2 => ?_) hS0 ?_
        · obtain ⟨s1, s2, s3⟩ := hS2; go_simp
        simp only [Act.put, List.setIfInBounds_toArray, List.set_cons_zero, List.set_cons_succ]
        refine takeL (v := .int .i64 (xp : Int)) 3 rfl (by kernel_rfl) (by kernel_rfl) (by kernel_rfl) (fun _ _ _ h => h) (by rfl) (fun W2 hS2 => ?_) hS0 ?_
        · obtain ⟨s1, s2, s3⟩ := hS2; go_simp
        simp only [Act.put, List.setIfInBounds_toArray, List.set_cons_zero, List.set_cons_succ]
        refine takeL (v := .pointer (some ⟨g, xp, none⟩)) 4 rfl (by kernel_rfl) (by kernel_rfl) (by kernel_rfl) (fun _ _ _ h => h) (by rfl) (fun W2 hS2 => ?_) hS0 ?_
        · obtain ⟨s1, s2, s3⟩ := hS2; go_simp
        simp only [Act.put, List.setIfInBounds_toArray, List.set_cons_zero, List.set_cons_succ]
        refine takeL (v := .int .i64 y) 5 rfl (by kernel_rfl) (by kernel_rfl) (by kernel_rfl) (fun _ _ _ h => h) (by rfl) (fun W2 hS2 => ?_) hS0 ?_
        · obtain ⟨s1, s2, s3⟩ := hS2; go_simp
        simp only [Act.put, List.setIfInBounds_toArray, List.set_cons_zero, List.set_cons_succ]
        refine step2L 0 6 rfl rfl (by kernel_rfl) (by rfl) (by rfl) (fun K hK => ?_) (fun K hK => ?_)
        · have HK := Lib.hid hK
          clear hK
          go_simp
          refine HK.out _ _ hS0 (fun _ => ?_)
          clear HK K
          refine stepL 6 rfl (by kernel_rfl) (by rfl) (fun K hK => ?_)
          have HK := Lib.hid hK
          clear hK
          go_simp
          refine HK.out _ _ HSA.out (fun _ => ?_)
          clear HK K
          refine stepL 7 rfl (by kernel_rfl) (by rfl) (fun K hK => ?_)
          refine op_push _ (.tmp 60) (.tmp 66) 29 rfl wr.heap.size 3 1 8 _ Tryd.underlying29 info_int rfl (by omega) Vo xs.length co (ints xs) rfl (HOd.out) W.heap.size 1 [.int .i64 y] rfl rfl (fun j u hu => ((Row.new _ _ _).cell j).trans hu) (by intro u hu; simp at hu; subst hu; rfl) (by omega) (by omega) (by simp; omega) ?_
          intro g9 c9 w9 ho9 hb9 hg9 hgr9 hat9
          obtain ⟨S9, kb9, kf9, F9⟩ := HFIN.out g9 c9 w9 ho9 hb9 hg9 hgr9 hat9
          have F9 := Lib.hid F9
          refine hK _ _ S9 (fun _ => ?_)
          clear hK ho9 hb9 hg9 hgr9 hat9
          refine stepL 8 rfl (by kernel_rfl) (by rfl) (fun K hK => ?_)
          have HK := Lib.hid hK
          clear hK
          go_simp
          refine HK.out _ _ F9.out.1 (fun _ => ?_)
          refine wpAnyH_done (by kernel_rfl) ?_ _
          gi_wp2
          exact ⟨by rw [World.size_alloc]; exact F9.out.2.1, k', Nat.lt_succ_self _, F9.out.2.2⟩
        · have HK := Lib.hid hK
          clear hK
          go_simp
          refine HK.out _ _ HSA.out (fun _ => ?_)
          clear HK K
          refine stepL 0 rfl (by kernel_rfl) (by rfl) (fun K hK => ?_)
          have HK := Lib.hid hK
          clear hK
          go_simp
          refine HK.out _ _ HSA.out (fun _ => ?_)
          clear HK K
          refine stepL 7 rfl (by kernel_rfl) (by rfl) (fun K hK => ?_)
          refine op_push _ (.tmp 60) (.tmp 66) 29 rfl wr.heap.size 3 1 8 _ Tryd.underlying29 info_int rfl (by omega) Vo xs.length co (ints xs) rfl (HOd.out) W.heap.size 1 [.int .i64 y] rfl rfl (fun j u hu => ((Row.new _ _ _).cell j).trans hu) (by intro u hu; simp at hu; subst hu; rfl) (by omega) (by omega) (by simp; omega) ?_
          intro g9 c9 w9 ho9 hb9 hg9 hgr9 hat9
          obtain ⟨S9, kb9, kf9, F9⟩ := HFIN.out g9 c9 w9 ho9 hb9 hg9 hgr9 hat9
          have F9 := Lib.hid F9
          refine hK _ _ S9 (fun _ => ?_)
          clear hK ho9 hb9 hg9 hgr9 hat9
          refine stepL 8 rfl (by kernel_rfl) (by rfl) (fun K hK => ?_)
          have HK := Lib.hid hK
          clear hK
          go_simp
          refine HK.out _ _ F9.out.1 (fun _ => ?_)
          refine wpAnyH_done (by kernel_rfl) ?_ _
          gi_wp2
          exact ⟨by rw [World.size_alloc]; exact F9.out.2.1, k', Nat.lt_succ_self _, F9.out.2.2⟩
      case done =>
        rintro D W hD ⟨V, ch, xs, Vo, co, h⟩ hd
        have hper : xs.Perm (idxs ys zs) := by simpa [idxs] using h.per
        have hlx : xs.length = (idxs ys zs).length := hper.length_eq
        have kb := h.ob.cell 0
        have hrp : (risen xs).Perm (idxs ys zs) := (risen_perm xs).trans hper
        have hpk2 := HPK.out.perm hrp.symm
        have HSM2 := Lib.hid (hrp.trans HSM.out)
        have hrise : (risen xs).Pairwise (· < ·) := by
          have h1 := risen_sorted xs
          have h2 := List.nodup_iff_pairwise_ne.1 hpk2.nodup
          exact (h1.and h2).imp fun ⟨a, b⟩ => by omega
        have hx16 : xs.length ≤ 1000 := by have := h.few; omega
        have c8 := Lib.hid (sortInts h.oo hx16)
        have HPK2 := Lib.hid hpk2
        have HRISE := Lib.hid hrise
        have HD := Lib.hid hd
        have HB := Lib.hid h.pk.below
        have HOO := Lib.hid h.oo
        have HNE : Hid (∀ r, (Value.slice Vo xs.length co).ownBlock = some r → r ≠ D) := fun r hr e => by
          rcases h.oo.2 with ⟨e2, _⟩ | ⟨g', cap', cur, e2, _, hh, _⟩
          · rw [e2] at hr; simp [Value.ownBlock] at hr
          · rw [e2] at hr
            simp only [Value.ownBlock, Option.some.injEq] at hr
            rw [hr, e] at hh
            rw [hd] at hh
            cases hh
        obtain ⟨sx, hsx⟩ : ∃ z, z = xs.length := ⟨_, rfl⟩
        rw [← hsx] at kb c8 HOO HNE
        have HSX := Lib.hid hsx
        have HOB : Hid (Row W wr.heap.size 29 [.slice Vo sx co]) := by rw [hsx]; exact h.ob
        have HNB : Hid ((Value.slice Vo sx co).ownBlock ≠ some wr.heap.size) := own_ne_row HOO.out HOB.out (by decide)
        clear h hd hper hlx hrp hpk2 hrise HI0 hsx hx16
        go_wp2_with fail
        refine c8.out.mono ?_
        rintro e W9 ⟨rfl, ho9, hg9⟩
        have hd9 : W9.heap[D]? = some (.deferred (some [])) := (hg9.block D (lt_of_block HD.out) (fun e => HNE.out D e.symm rfl)).trans HD.out
        have kb9 := (HOB.out.grown hg9 (fun e => HNB.out e.symm)).cell 0
        have HB9 : Hid (Below w.heap.size w W9) := HB.out.grown hg9 HB.out.size (fun q hq => by have := (HOO.out.lt q hq).1; omega)
        have HO9 := Lib.hid ho9
        have HD9 := Lib.hid hd9
        clear kb ho9 hg9 hd9 c8 HOB HNB HOO HB HD HNE
        go_wp2
        refine ⟨by simp, .inl ⟨_, _, rfl, run_takeDeferred HD9.out, ?_⟩⟩
        have hsR : (risen xs).length = sx := by rw [risen_len, HSX.out]
        refine ⟨.tuple #[.slice Vo sx co, .nilIface], by simp [results, Tryd.f58, go_sem], ys, risen xs, Vo, co, ⟨HIOL.out, by have h := HSM2.out; rwa [List.take_of_length_le (by have := HIOL.out.1; have := HN.out; omega)] at h⟩, HPW.out, by rw [HN.out]; exact HPK2.out, by rw [hsR], ?_, HRISE.out, below_abides HB9.out (grownBy_putObj' _ D (.deferred none)) (Nat.le_refl _) (fun r e => by cases e; exact Nat.le_trans (by simp; omega) hD)⟩
        rw [hsR]
        exact own_abides (own_baseM HO9.out (by omega)) (grownBy_putObj' _ D (.deferred none)) (fun r e => by cases e; exact ⟨_, HD9.out, rfl⟩)
      case stop => exact fun _ _ _ _ hx _ => hx.elim
theorem pick_ok (A : Option Addr) (n c : Nat) (l : List Job) (w : World) (hA : Cells w w.heap.size A (jobs l)) (hn : l.length = n) (hm : n ≤ 9223372036854775807) (he : jobErr l = 0) :
    Calls Tryd.prog 58 #[.slice A n c] w (PickOK w l) :=
  (pick_okF A n c l w hA hn hm he).mono fun _ _ ⟨ys, S, V, c, h1, h2, h3, h4, h5, h6, h7⟩ => ⟨ys, S, V, c, h1.1, h2, h3, h4, h5, h6, h7⟩
end Go.Proofs.YtpaoiaogcckibaaDoor
