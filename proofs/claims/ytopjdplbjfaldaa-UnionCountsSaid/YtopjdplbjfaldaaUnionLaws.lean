/- The walks of the laws on groups. Conditions: lengths are such that slices can have. -/
import Derived.Test.YtopjdplbjfaldaaJoined
namespace Go.Proofs.Ytopjdplbjfaldaa
open Go.RowKit

/-- what joined leaves, whatever it is given -/
theorem joined_yes (n : Int) (A : Option Addr) (m c : Nat) (back : Bool) (rs : List RV) (w : World) (hA : RowsAt w w.heap.size A rs) (hl : rs.length = m) (hrl : ∀ r ∈ rs, r.xs.length ≤ 9223372036854775807) (hc : CanJoin n rs) :
    Calls Try.prog 12 #[.int .i64 n, .slice A m c, .bool back] w (JoinedYes w n.toNat (seqOf back rs)) := by
  obtain ⟨⟨h0, h1⟩, h2, h3⟩ := hc
  obtain ⟨k, rfl⟩ : ∃ k : Nat, n = k := ⟨n.toNat, by omega⟩
  cases back with
  | true => exact (joined_walktrue k A m c rs w hA hl (by omega) (by omega) hrl).mono fun e w' h => h.1 h3
  | false => exact (joined_walkfalse k A m c rs w hA hl (by omega) (by omega) hrl).mono fun e w' h => h.1 h3
theorem joined_no (n : Int) (A : Option Addr) (m c : Nat) (back : Bool) (rs : List RV) (w : World) (hA : RowsAt w w.heap.size A rs) (hl : rs.length = m) (hmm : m ≤ 9223372036854775807) (hrl : ∀ r ∈ rs, r.xs.length ≤ 9223372036854775807) (hc : ¬ CanJoin n rs) :
    Calls Try.prog 12 #[.int .i64 n, .slice A m c, .bool back] w (JoinedNo w) := by
  by_cases hn : 0 ≤ n ∧ n ≤ 60
  · obtain ⟨k, rfl⟩ : ∃ k : Nat, n = k := ⟨n.toNat, by omega⟩
    by_cases hm : 60 < m
    · exact joined_badL k A m c back w (by omega) hm hmm
    · have h3 : ¬ ∀ r ∈ rs, 2 ≤ r.xs.length := fun h => hc ⟨hn, by omega, h⟩
      cases back with
      | true => exact (joined_walktrue k A m c rs w hA hl (by omega) (by omega) hrl).mono fun e w' h => h.2 h3
      | false => exact (joined_walkfalse k A m c rs w hA hl (by omega) (by omega) hrl).mono fun e w' h => h.2 h3
  · exact joined_badN n A m c back w hn

theorem UG.roots {w : World} {base p n cu cs : Nat} {U S : Option Addr} {R : Nat → Nat} (h : UG w base p n U cu S cs R) : roots n R = (groupsOf R n).length := by
  have := firsts_roots (n := n) (R := R) (fun x hx => h.lt hx) (fun x hx => h.idem hx)
  unfold Go.Proofs.Ytopjdplbjfaldaa.roots groupsOf
  rw [List.length_map, this]
theorem seq_resp {n : Nat} {rs : List RV} {f : Nat → Nat} (b1 b2 : Bool) (h : Resp n (seqOf b1 rs) f) : Resp n (seqOf b2 rs) f := by
  have key : ∀ b, Resp n (seqOf b rs) f ↔ ∀ x y : Nat, x < n → y < n → (∃ r ∈ rs, pairOf r = ((x : Int), (y : Int)) ∨ pairOf r = ((y : Int), (x : Int))) → f x = f y := fun b => by
    constructor
    · rintro h x y hx hy ⟨r, hr, e | e⟩
      · cases b with
        | true => exact (h y x hy hx (by simp only [seqOf, if_true, List.mem_reverse, List.mem_map]; exact ⟨r, hr, by rw [e]⟩)).symm
        | false => exact h x y hx hy (by simp only [seqOf, Bool.false_eq_true, if_false, List.mem_map]; exact ⟨r, hr, e⟩)
      · cases b with
        | true => exact h x y hx hy (by simp only [seqOf, if_true, List.mem_reverse, List.mem_map]; exact ⟨r, hr, by rw [e]⟩)
        | false => exact (h y x hy hx (by simp only [seqOf, Bool.false_eq_true, if_false, List.mem_map]; exact ⟨r, hr, e⟩)).symm
    · intro h x y hx hy hm
      cases b with
      | true =>
        simp only [seqOf, if_true, List.mem_reverse, List.mem_map] at hm
        obtain ⟨r, hr, e⟩ := hm
        simp only [Prod.mk.injEq] at e
        exact h x y hx hy ⟨r, hr, Or.inr (Prod.ext e.2 e.1)⟩
      | false =>
        simp only [seqOf, Bool.false_eq_true, if_false, List.mem_map] at hm
        obtain ⟨r, hr, e⟩ := hm
        exact h x y hx hy ⟨r, hr, Or.inl e⟩
  exact (key b2).2 ((key b1).1 h)

def factRows (g0 : Nat) : List RV := [⟨some ⟨g0, 0, none⟩, 2, [0, 2]⟩]
theorem fact_groups {R : Nat → Nat} (h : Gen 3 (seqOf false (factRows 0)) R) : groupsOf R 3 = [[0, 2], [1]] := by
  have h0 : Gen 3 (seqOf false (factRows 0)) (fun x => if x = 2 then 0 else x) := by
    refine ⟨fun a b ha hb hm => ?_, fun f hf z hz => ?_⟩
    · simp [seqOf, factRows, pairOf] at hm
      have : a = 0 := by omega
      have : b = 2 := by omega
      subst a b; rfl
    · have := hf 0 2 (by omega) (by omega) (by simp [seqOf, factRows, pairOf])
      by_cases e : z = 2
      · subst e; simp [this]
      · simp [e]
  have hk := h.kernel h0 h0.resp h.resp
  rw [(groups_same hk 3 (Nat.le_refl _)).1]
  decide
theorem groups_len {R : Nat → Nat} {k : Nat} : ∀ g ∈ groupsOf R k, g.length ≤ k := fun g hg => by
  obtain ⟨r, _, rfl⟩ := List.mem_map.1 hg
  unfold members
  rw [List.length_map]
  have := List.length_filter_le (fun x => R x == r) (List.range k)
  simpa using this

set_option maxHeartbeats 4000000 in
set_option maxRecDepth 100000 in
theorem unionFact (w : World) : Calls Try.prog 11 #[] w fun e w' => e = .returned (.bool true) ∧ Below w.heap.size w w' := by
  have r1 := Row.new w 3 #[.int .i64 0, .int .i64 2]
  have r2 := Row.new (w.alloc (.cells #[.int .i64 0, .int .i64 2] 3)) 35 #[.slice (some ⟨w.heap.size, 0, none⟩) 2 2]
  have hR : RowsAt ((w.alloc (.cells #[.int .i64 0, .int .i64 2] 3)).alloc (.cells #[.slice (some ⟨w.heap.size, 0, none⟩) 2 2] 35)) ((w.alloc (.cells #[.int .i64 0, .int .i64 2] 3)).alloc (.cells #[.slice (some ⟨w.heap.size, 0, none⟩) 2 2] 35)).heap.size (some ⟨w.heap.size + 1, 0, none⟩) (factRows w.heap.size) := by
    refine ⟨?_, fun r hr => ?_⟩
    · have := r2.cells; simp at this ⊢; exact this
    · simp [factRows] at hr; subst hr
      exact (r1.alloc _).cells
  have c1 := Lib.hid (joined_yes 3 (some ⟨w.heap.size + 1, 0, none⟩) 1 1 false (factRows w.heap.size) _ hR rfl (by simp [factRows]) ⟨by omega, by simp [factRows], by simp [factRows]⟩)
  clear r1 r2 hR
  go_enter Try.func11, Try.ntmps11
  go_wp2_with fail
  refine c1.out.mono ?_
  rintro e w1 ⟨p, U, cu, S, cs, R, rfl, hu, hg, hb⟩
  have HG := Lib.hid (fact_groups (R := R) hg)
  have HB := Lib.hid hb
  have c2 := Lib.hid (many_ hu)
  have hr : Hid (roots 3 R = 2) := by
    show _ = _
    rw [show roots 3 R = (groupsOf R 3).length from hu.roots, HG.out]; rfl
  have c3 := Lib.hid (all_ hu)
  clear hu hg hb c1
  go_wp2_with fail
  refine c2.out.mono ?_
  rintro e w2 ⟨rfl, rfl⟩
  rw [show ((roots (Int.toNat 3) R : Nat) : Int) = 2 by have := hr.out; rw [show Int.toNat 3 = 3 from rfl, this]; rfl]
  go_wp2_with fail
  refine c3.out.mono ?_
  rintro e w3 ⟨O, co, rs, rfl, hR3, hX3, hU3, hK3⟩
  have hX : rs.map RV.xs = [[0, 2], [1]] := hX3.trans HG.out
  have hl : rs.length = 2 := by have := congrArg List.length hX; simpa using this
  have HB3 := Lib.hid (HB.out.trans (hK3.below (fun x hx => (hU3.base_le x hx).1) HB.out.size))
  have hb6 : Below w3.heap.size w3 (((w3.alloc (.cells #[.int .i64 0, .int .i64 2] 3)).alloc (.cells #[.int .i64 1] 3)).alloc (.cells #[.slice (some ⟨w3.heap.size, 0, none⟩) 2 2, .slice (some ⟨w3.heap.size + 1, 0, none⟩) 1 1] 35)) :=
    (((Below.refl _ _).alloc (Nat.le_refl _) _).alloc (by simp) _).alloc (by simp; omega) _
  have r1 := Row.new w3 3 #[.int .i64 0, .int .i64 2]
  have r2 := Row.new (w3.alloc (.cells #[.int .i64 0, .int .i64 2] 3)) 3 #[.int .i64 1]
  have r3 := Row.new ((w3.alloc (.cells #[.int .i64 0, .int .i64 2] 3)).alloc (.cells #[.int .i64 1] 3)) 35 #[.slice (some ⟨w3.heap.size, 0, none⟩) 2 2, .slice (some ⟨w3.heap.size + 1, 0, none⟩) 1 1]
  have hS : RowsAt (((w3.alloc (.cells #[.int .i64 0, .int .i64 2] 3)).alloc (.cells #[.int .i64 1] 3)).alloc (.cells #[.slice (some ⟨w3.heap.size, 0, none⟩) 2 2, .slice (some ⟨w3.heap.size + 1, 0, none⟩) 1 1] 35))
      (((w3.alloc (.cells #[.int .i64 0, .int .i64 2] 3)).alloc (.cells #[.int .i64 1] 3)).alloc (.cells #[.slice (some ⟨w3.heap.size, 0, none⟩) 2 2, .slice (some ⟨w3.heap.size + 1, 0, none⟩) 1 1] 35)).heap.size
      (some ⟨w3.heap.size + 2, 0, none⟩) [⟨some ⟨w3.heap.size, 0, none⟩, 2, [0, 2]⟩, ⟨some ⟨w3.heap.size + 1, 0, none⟩, 1, [1]⟩] := by
    refine ⟨?_, fun r hr => ?_⟩
    · have := r3.cells; simp at this ⊢; exact this
    · simp at hr
      rcases hr with rfl | rfl
      · exact ((r1.alloc _).alloc _).cells
      · have := (r2.alloc (.cells #[.slice (some ⟨w3.heap.size, 0, none⟩) 2 2, .slice (some ⟨w3.heap.size + 1, 0, none⟩) 1 1] 35)).cells
        simp at this ⊢; exact this
  have hxl : ∀ r ∈ rs, r.xs.length ≤ 9223372036854775807 := fun r hr => by
    have hm : r.xs ∈ rs.map RV.xs := List.mem_map_of_mem hr
    rw [hX] at hm; simp at hm; rcases hm with h | h <;> rw [h] <;> simp
  have c4 := Lib.hid (rows_same O (some ⟨w3.heap.size + 2, 0, none⟩) 2 co 2 2 rs _ _ (hR3.reads.step hb6) hl (by omega) hS rfl hxl)
  have hE : Hid (eqR (rs.map RV.xs) ([(⟨some ⟨w3.heap.size, 0, none⟩, 2, [0, 2]⟩ : RV), ⟨some ⟨w3.heap.size + 1, 0, none⟩, 1, [1]⟩].map RV.xs) = true) := eqR_true hX
  have HB6 := Lib.hid hb6
  rw [hl]
  clear r1 r2 r3 hS hR3 hX3 hU3 hK3 hX hl hxl hb6
  go_wp2_with fail
  refine c4.out.mono ?_
  rintro e w5 ⟨rfl, q, rfl⟩
  rw [hE.out]
  go_wp2
  go_ret
  exact ⟨rfl, (((Below.refl _ _).alloc (Nat.le_refl _) _).alloc (by simp) _).trans ((below_drewN (HB3.out.trans (HB6.out.mono HB3.out.size)) q).mono (by simp; omega))⟩

theorem AllOK.shape {w w' : World} {base p n cu cs : Nat} {U S : Option Addr} {R : Nat → Nat} {rs : List RV} (h : rs.map RV.xs = groupsOf R n) (hn : n ≤ 60) : ∀ r ∈ rs, r.xs.length ≤ 9223372036854775807 := fun r hr => by
  have hm : r.xs ∈ rs.map RV.xs := List.mem_map_of_mem hr
  rw [h] at hm
  have := groups_len _ hm; omega

set_option maxHeartbeats 4000000 in
set_option maxRecDepth 100000 in
theorem unionOrderW (n : Int) (A : Option Addr) (m c : Nat) (rs : List RV) (w : World) (_ : -9223372036854775808 ≤ n ∧ n ≤ 9223372036854775807) (hA : RowsAt w w.heap.size A rs) (hl : rs.length = m) (hm : m * 24 ≤ 140737488351232) (hrl : ∀ r ∈ rs, r.xs.length ≤ 9223372036854775807) :
    Calls Try.prog 3 #[.int .i64 n, .slice A m c] w fun e w' => e = .returned (.bool true) ∧ Below w.heap.size w w' := by
  have c0 := Lib.hid (unionFact w)
  by_cases hc : CanJoin n rs
  · have HC := Lib.hid hc
    have HL := Lib.hid hl
    have HRL := Lib.hid hrl
    clear hc hl hrl
    go_enter Try.func3, Try.ntmps3
    go_wp2_with fail
    refine c0.out.mono ?_
    rintro e w1 ⟨rfl, hb1⟩
    have c1 := Lib.hid (joined_yes n A m c false rs w1 (hA.step hb1) HL.out HRL.out HC.out)
    have HB1 := Lib.hid hb1
    clear c0 hb1
    go_wp2_with fail
    refine c1.out.mono ?_
    rintro e w2 ⟨p, U, cu, S, cs, R, rfl, hu, hg, hb2⟩
    have HB2 := Lib.hid (HB1.out.trans (hb2.mono HB1.out.size))
    have c2 := Lib.hid (joined_yes n A m c true rs w2 (hA.step HB2.out) HL.out HRL.out HC.out)
    have HG := Lib.hid hg
    have HU := Lib.hid hu
    have hs2 := hb2.size
    clear c1 hb2 hu hg
    go_wp2_with fail
    refine c2.out.mono ?_
    rintro e w3 ⟨p', U', cu', S', cs', R', rfl, hu', hg', hb3⟩
    have hn60 : n.toNat ≤ 60 := hu'.few
    have hker := HG.out.kernel hg' (seq_resp true false hg'.resp) (seq_resp false true HG.out.resp)
    have hgr := (groups_same hker n.toNat (Nat.le_refl _)).1
    have HU3 := Lib.hid (HU.out.below hb3 (fun x hx => by have := (HU.out.base_le x hx).2; omega) (Nat.le_refl _))
    have HV3 := Lib.hid hu'
    have HB3 := Lib.hid (HB2.out.trans (hb3.mono HB2.out.size))
    have hs3 := hb3.size
    have hroots : roots n.toNat R = roots n.toNat R' := by rw [HU3.out.roots, HV3.out.roots, hgr]
    have HRT := Lib.hid hroots
    have HGR := Lib.hid hgr
    have hdis : ∀ x ∈ ugs p' U' S', x ∉ ugs p U S := fun x hx hm => by
      have h1 := (HV3.out.base_le x hx).1
      have h2 := (HU.out.base_le x hm).2
      omega
    have HDIS := Lib.hid hdis
    have HBU : Hid (∀ x ∈ ugs p U S, w.heap.size ≤ x) := fun x hx => by
      have := (HU.out.base_le x hx).1
      have := HB1.out.size
      omega
    have HBV : Hid (∀ x ∈ ugs p' U' S', w2.heap.size ≤ x ∧ x < w3.heap.size) := fun x hx => HV3.out.base_le x hx
    have cm1 := Lib.hid (many_ HU3.out)
    have cm2 := Lib.hid (many_ HV3.out)
    clear c2 hu' hg' hb3 hker hgr hroots hdis HU
    go_wp2_with fail
    refine cm1.out.mono ?_
    rintro e w4 ⟨rfl, rfl⟩
    go_wp2_with fail
    refine cm2.out.mono ?_
    rintro e w4 ⟨rfl, rfl⟩
    rw [HRT.out]
    have c3 := Lib.hid (all_ HU3.out)
    clear cm1 cm2
    go_wp2_with fail
    refine c3.out.mono ?_
    rintro e w4 ⟨O, co, ss, rfl, hR4, hX4, hU4, hK4⟩
    have HV4 := Lib.hid (HV3.out.keeps hK4 HDIS.out)
    have c4 := Lib.hid (all_ HV4.out)
    have HR4 := Lib.hid hR4
    have HX4 := Lib.hid hX4
    have hs4 := hK4.size
    have HB4 := Lib.hid (HB3.out.trans (hK4.below HBU.out HB3.out.size))
    clear c3 hR4 hX4 hU4 hK4
    go_wp2_with fail
    refine c4.out.mono ?_
    rintro e w5 ⟨O', co', ss', rfl, hR5, hX5, hU5, hK5⟩
    have hR45 := HR4.out.keeps hK5 (fun x hx => by have := (HBV.out x hx).2; omega)
    have HB5 := Lib.hid (HB4.out.trans (hK5.below (fun x hx => by have := (HBV.out x hx).1; have := HB2.out.size; omega) HB4.out.size))
    have heq : ss.map RV.xs = ss'.map RV.xs := by rw [HX4.out, hX5, HGR.out]
    have hlen : ss.length = ss'.length := by have := congrArg List.length heq; simpa using this
    have hsl : ss.length ≤ 60 := by
      have := congrArg List.length HX4.out
      simp only [List.length_map, groupsOf] at this
      have := firsts_len R n.toNat; omega
    have c5 := Lib.hid (rows_same O O' ss.length co ss.length co' ss ss' w5 hR45.reads rfl (by omega) hR5.reads hlen.symm (AllOK.shape (w := w) (w' := w) (base := 0) (p := 0) (cu := 0) (cs := 0) (U := none) (S := none) HX4.out hn60))
    have hE : Hid (eqR (ss.map RV.xs) (ss'.map RV.xs) = true) := eqR_true heq
    rw [← hlen]
    clear c4 hR5 hX5 hU5 hK5 hR45 heq hlen hsl
    go_wp2_with fail
    refine c5.out.mono ?_
    rintro e w6 ⟨rfl, q, rfl⟩
    rw [hE.out]
    go_wp2
    go_ret
    exact ⟨rfl, below_drewN HB5.out q⟩
  · have HC := Lib.hid hc
    have HL := Lib.hid hl
    have HRL := Lib.hid hrl
    clear hc hl hrl
    go_enter Try.func3, Try.ntmps3
    go_wp2_with fail
    refine c0.out.mono ?_
    rintro e w1 ⟨rfl, hb1⟩
    have c1 := Lib.hid (joined_no n A m c false rs w1 (hA.step hb1) HL.out (by omega) HRL.out HC.out)
    have HB1 := Lib.hid hb1
    clear c0 hb1
    go_wp2_with fail
    refine c1.out.mono ?_
    rintro e w2 ⟨v, rfl, hb2⟩
    have HB2 := Lib.hid (HB1.out.trans (hb2.mono HB1.out.size))
    have c2 := Lib.hid (joined_no n A m c true rs w2 (hA.step HB2.out) HL.out (by omega) HRL.out HC.out)
    clear c1 hb2
    go_wp2_with fail
    refine c2.out.mono ?_
    rintro e w3 ⟨v', rfl, hb3⟩
    have HB3 := Lib.hid (HB2.out.trans (hb3.mono HB2.out.size))
    clear c2 hb3
    go_wp2
    go_ret
    exact ⟨rfl, HB3.out⟩
end Go.Proofs.Ytopjdplbjfaldaa
