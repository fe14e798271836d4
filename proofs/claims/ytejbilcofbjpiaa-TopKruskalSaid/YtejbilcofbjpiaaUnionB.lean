/- What union.Groups' Join and Same answer. Conditions: at most 60 things. -/
import Derived.Test.YtejbilcofbjpiaaUnion
namespace Go.Proofs.Ytejbilcofbjpiaa
open Go.RowKit

/-- are two numbers both things of the groups? -/
def inG (n : Nat) (a b : Int) : Bool := decide (0 ≤ a ∧ a < n ∧ 0 ≤ b ∧ b < n)
theorem inG_true {n : Nat} {a b : Int} (h : 0 ≤ a ∧ a < n ∧ 0 ≤ b ∧ b < n) : inG n a b = true := decide_eq_true h
theorem inG_false {n : Nat} {a b : Int} (h : ¬ (0 ≤ a ∧ a < n ∧ 0 ≤ b ∧ b < n)) : inG n a b = false := decide_eq_false h

theorem in_ {w : World} {p n cu : Nat} {U : Option Addr} (a b : Int) (hc : w.cell? ⟨p, 0, none⟩ = some (.slice U n cu)) (_hm : n ≤ 60) :
    Calls Try.prog 19 #[.pointer (some ⟨p, 0, none⟩), .int .i64 a, .int .i64 b] w fun e w' => e = .returned (.bool (inG n a b)) ∧ w = w' := by
  by_cases h1 : 0 ≤ a
  · by_cases h2 : a < n
    · by_cases h3 : 0 ≤ b
      · by_cases h4 : b < n
        · have H := Lib.hid (inG_true ⟨h1, h2, h3, h4⟩)
          go_enter Try.func19, Try.ntmps19
          go_wp2
          go_ret
          exact ⟨ret_bool H.out.symm, rfl⟩
        · have H := Lib.hid (inG_false (fun h : 0 ≤ a ∧ a < n ∧ 0 ≤ b ∧ b < n => h4 h.2.2.2))
          go_enter Try.func19, Try.ntmps19
          go_wp2
          go_ret
          exact ⟨ret_bool H.out.symm, rfl⟩
      · have H := Lib.hid (inG_false (fun h : 0 ≤ a ∧ a < n ∧ 0 ≤ b ∧ b < n => h3 h.2.2.1))
        go_enter Try.func19, Try.ntmps19
        go_wp2
        go_ret
        exact ⟨ret_bool H.out.symm, rfl⟩
    · have H := Lib.hid (inG_false (fun h : 0 ≤ a ∧ a < n ∧ 0 ≤ b ∧ b < n => h2 h.2.1))
      go_enter Try.func19, Try.ntmps19
      go_wp2
      go_ret
      exact ⟨ret_bool H.out.symm, rfl⟩
  · have H := Lib.hid (inG_false (fun h : 0 ≤ a ∧ a < n ∧ 0 ≤ b ∧ b < n => h1 h.1))
    go_enter Try.func19, Try.ntmps19
    go_wp2
    go_ret
    exact ⟨ret_bool H.out.symm, rfl⟩

/-- the groups as a whole: R leads to the one that stands for a group -/
structure UG (w : World) (base p n : Nat) (U : Option Addr) (cu : Nat) (S : Option Addr) (cs : Nat) (R : Nat → Nat) : Prop where
  ex : ∃ up size rk K, UF w base p n U cu S cs up size (roots n R) ∧ Rep n up R rk K ∧ ∀ i, i < n → size i ≤ 2 ^ (n - roots n R)
  few : n ≤ 60
section
variable {w w' : World} {base p n cu cs : Nat} {U S : Option Addr} {R : Nat → Nat}
theorem UG.lt (h : UG w base p n U cu S cs R) {x : Nat} (hx : x < n) : R x < n := by obtain ⟨up, size, rk, K, _, h2, _⟩ := h.ex; exact h2.rep_lt x hx
theorem UG.idem (h : UG w base p n U cu S cs R) {x : Nat} (hx : x < n) : R (R x) = R x := by obtain ⟨up, size, rk, K, _, h2, _⟩ := h.ex; exact h2.idem hx
theorem UG.c0 (h : UG w base p n U cu S cs R) : w.cell? ⟨p, 0, none⟩ = some (.slice U n cu) := by obtain ⟨up, size, rk, K, h1, _, _⟩ := h.ex; exact h1.c0
theorem UG.c2 (h : UG w base p n U cu S cs R) : w.cell? ⟨p, 2, none⟩ = some (.int .i64 (roots n R)) := by obtain ⟨up, size, rk, K, h1, _, _⟩ := h.ex; exact h1.c2
/-- the blocks that the groups lie in -/
def ugs (p : Nat) (U : Option Addr) (S : Option Addr) : List Nat := p :: (match U with | some a => [a.block] | none => []) ++ (match S with | some a => [a.block] | none => [])
theorem UG.keeps {bs : List Nat} (h : UG w base p n U cu S cs R) (hk : Keeps bs w w') (hd : ∀ x ∈ ugs p U S, x ∉ bs) : UG w' base p n U cu S cs R := by
  obtain ⟨up, size, rk, K, h1, h2, h3⟩ := h.ex
  refine ⟨⟨up, size, rk, K, h1.keeps hk (hd p (by simp [ugs])) (fun g hg => ?_) (fun g hg => ?_), h2, h3⟩, h.few⟩
  · cases U with
    | none => simp [Value.ownBlock] at hg
    | some a => simp [Value.ownBlock] at hg; exact hd g (by simp [ugs, hg])
  · cases S with
    | none => simp [Value.ownBlock] at hg
    | some a => simp [Value.ownBlock] at hg; exact hd g (by simp [ugs, hg])
theorem UG.base_le (h : UG w base p n U cu S cs R) : ∀ x ∈ ugs p U S, base ≤ x ∧ x < w.heap.size := by
  obtain ⟨up, size, rk, K, h1, _, _⟩ := h.ex
  intro x hx
  unfold ugs at hx
  simp only [List.cons_append, List.mem_cons, List.mem_append] at hx
  rcases hx with rfl | hx | hx
  · exact ⟨h1.at_, h1.row.lt⟩
  · cases U with
    | none => simp at hx
    | some a =>
      simp at hx
      subst hx
      exact h1.up.lt a.block rfl
  · cases S with
    | none => simp at hx
    | some a =>
      simp at hx
      subst hx
      exact h1.sz.lt a.block rfl
theorem UG.nils (h : UG w base p n U cu S cs R) (hn : 0 < n) : ∃ gu gs, U = some ⟨gu, 0, none⟩ ∧ S = some ⟨gs, 0, none⟩ := by
  obtain ⟨up, size, rk, K, h1, _, _⟩ := h.ex
  obtain ⟨gu, gs, h2, h3, _⟩ := h1.places hn
  exact ⟨gu, gs, h2, h3⟩
end

theorem findG {w : World} {base p n cu cs a : Nat} {U S : Option Addr} {R : Nat → Nat} (h : UG w base p n U cu S cs R) (ha : a < n) :
    Calls Try.prog 20 #[.pointer (some ⟨p, 0, none⟩), .int .i64 (a : Int)] w fun e w' => e = .returned (.int .i64 (R a : Int)) ∧ UG w' base p n U cu S cs R ∧ Keeps (ugs p U S) w w' := by
  obtain ⟨up, size, rk, K, h1, h2, h3⟩ := h.ex
  obtain ⟨gu, gs, rfl, rfl, _⟩ := h1.places (by omega)
  refine (find_ h1 h2 ha h.few).mono ?_
  rintro e w' ⟨rfl, up', g1, g2, g3⟩
  exact ⟨rfl, ⟨⟨up', size, rk, K, g1, g2, h3⟩, h.few⟩, g3.more (by simp [ugs])⟩

set_option maxHeartbeats 1000000 in
theorem join_bad {w : World} {base p n cu cs : Nat} {U S : Option Addr} {R : Nat → Nat} (a b : Int) (h : UG w base p n U cu S cs R) (hin : inG n a b = false) :
    Calls Try.prog 8 #[.pointer (some ⟨p, 0, none⟩), .int .i64 a, .int .i64 b] w fun e w' => e = .returned (.tuple #[.bool false, .iface 54 (.int .i64 1)]) ∧ w = w' := by
  have c1 := Lib.hid (in_ a b h.c0 h.few)
  clear h
  go_enter Try.func8, Try.ntmps8
  go_wp2_with fail
  refine c1.out.mono ?_
  rintro e w1 ⟨rfl, rfl⟩
  rw [hin]
  go_wp2
  go_ret2
  exact ⟨rfl, rfl⟩

set_option maxHeartbeats 1000000 in
theorem join_same {w : World} {base p n cu cs a b : Nat} {U S : Option Addr} {R : Nat → Nat} (h : UG w base p n U cu S cs R) (ha : a < n) (hb : b < n) (hs : R a = R b) :
    Calls Try.prog 8 #[.pointer (some ⟨p, 0, none⟩), .int .i64 (a : Int), .int .i64 (b : Int)] w fun e w' => e = .returned (.tuple #[.bool false, .nilIface]) ∧ UG w' base p n U cu S cs R ∧ Keeps (ugs p U S) w w' := by
  have c1 := Lib.hid (in_ (a : Int) (b : Int) h.c0 h.few)
  have hin : Hid (inG n (a : Int) (b : Int) = true) := inG_true (by omega)
  have HS := Lib.hid hs
  have c2 := Lib.hid (findG h ha)
  clear h hs
  go_enter Try.func8, Try.ntmps8
  go_wp2_with fail
  refine c1.out.mono ?_
  rintro e w1 ⟨rfl, rfl⟩
  rw [hin.out]
  go_wp2_with fail
  refine c2.out.mono ?_
  rintro e w2 ⟨rfl, hu2, hk2⟩
  have c3 := Lib.hid (findG hu2 hb)
  clear hu2
  go_wp2_with fail
  refine c3.out.mono ?_
  rintro e w3 ⟨rfl, hu3, hk3⟩
  rw [HS.out]
  have HU := Lib.hid hu3
  have HK := Lib.hid (hk2.trans hk3)
  clear hu3 hk2 hk3 c1 c2 c3
  go_wp2
  go_ret2
  exact ⟨rfl, HU.out, HK.out⟩
end Go.Proofs.Ytejbilcofbjpiaa
