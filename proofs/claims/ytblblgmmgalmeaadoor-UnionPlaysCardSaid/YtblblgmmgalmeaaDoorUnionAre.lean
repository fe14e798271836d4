/- What union.Groups' Same answers. Conditions: none. -/
import Derived.Test.YtblblgmmgalmeaaDoorUnionNew
namespace Go.Proofs.YtblblgmmgalmeaaDoor
open Go.RowKit
set_option maxHeartbeats 1000000 in
theorem same_bad {w : World} {base p n cu cs : Nat} {U S : Option Addr} {R : Nat → Nat} (a b : Int) (h : UG w base p n U cu S cs R) (hin : inG n a b = false) :
    Calls Tryd.prog 12 #[.pointer (some ⟨p, 0, none⟩), .int .i64 a, .int .i64 b] w fun e w' => e = .returned (.tuple #[.bool false, .iface 38 (.int .i64 1)]) ∧ w = w' := by
  have c1 := Lib.hid (in_ a b h.c0 h.few)
  clear h
  go_enter Tryd.func12, Tryd.ntmps12
  go_wp2_with fail
  refine c1.out.mono ?_
  rintro e w1 ⟨rfl, rfl⟩
  rw [hin]
  go_wp2
  go_ret2
  exact ⟨rfl, rfl⟩

/-- are two things in one group? -/
def oneB (R : Nat → Nat) (a b : Nat) : Bool := decide (R a = R b)
set_option maxHeartbeats 1000000 in
theorem same_ok {w : World} {base p n cu cs a b : Nat} {U S : Option Addr} {R : Nat → Nat} (h : UG w base p n U cu S cs R) (ha : a < n) (hb : b < n) :
    Calls Tryd.prog 12 #[.pointer (some ⟨p, 0, none⟩), .int .i64 (a : Int), .int .i64 (b : Int)] w fun e w' => e = .returned (.tuple #[.bool (oneB R a b), .nilIface]) ∧ UG w' base p n U cu S cs R ∧ Keeps (ugs p U S) w w' := by
  have c1 := Lib.hid (in_ (a : Int) (b : Int) h.c0 h.few)
  have hin : Hid (inG n (a : Int) (b : Int) = true) := inG_true (by omega)
  have c2 := Lib.hid (findG h ha)
  have hq : ((R a : Int) == (R b : Int)) = oneB R a b := by
    unfold oneB
    by_cases e : R a = R b
    · rw [e]; simp
    · rw [beq_eq_false_iff_ne.2 (by omega)]; simp [e]
  obtain ⟨x, hx⟩ : ∃ x, R a = x := ⟨_, rfl⟩
  obtain ⟨y, hy⟩ : ∃ y, R b = y := ⟨_, rfl⟩
  rw [hx, hy] at hq
  have HXY := Lib.hid (And.intro hx hy)
  clear h hx hy
  go_enter Tryd.func12, Tryd.ntmps12
  go_wp2_with fail
  refine c1.out.mono ?_
  rintro e w1 ⟨rfl, rfl⟩
  rw [hin.out]
  go_wp2_with fail
  refine c2.out.mono ?_
  rintro e w2 ⟨rfl, hu2, hk2⟩
  have c3 := Lib.hid (findG hu2 hb)
  clear hu2
  go_wp2_with fail
  refine c3.out.mono ?_
  rintro e w3 ⟨rfl, hu3, hk3⟩
  rw [HXY.out.1, HXY.out.2]
  have HU := Lib.hid hu3
  have HK := Lib.hid (hk2.trans hk3)
  clear hu3 hk2 hk3 c1 c2 c3
  go_wp2
  go_ret2
  exact ⟨rfl, HU.out, HK.out⟩
end Go.Proofs.YtblblgmmgalmeaaDoor
