/- What core.Within computes, and words for memory that the walks share. Conditions: none. -/
import Derived.Test.YtejbilcofbjpiaaProg
import Derived.Test.YtejbilcofbjpiaaTypes
import Derived.WalkKit
import Derived.WalkSpells
import Derived.WalkLawsBesides
import Derived.Lib.Hide
import Derived.BigQuiet
import Derived.Deep.QuietTactic
import Derived.Outline
import Derived.Laws.OwnMore
import Derived.Deep.AppendLies
import Derived.Deep.RegionLaw
import Derived.Deep.Draws
import Derived.Maps.AppendAt
import Derived.Laws.Rows
import Derived.Deep.OwnRows
namespace Go.Proofs.Ytejbilcofbjpiaa
open Go.RowKit

theorem ret_bool {a b : Bool} (h : a = b) : Ending.returned (.bool a) = .returned (.bool b) := by rw [h]
theorem ret_int {k : IntKind} {a b : Int} (h : a = b) : Ending.returned (.int k a) = .returned (.int k b) := by rw [h]

theorem ret_two {a a' b b' : Value} (h : a = a') (k : b = b') : Ending.returned (.tuple #[a, b]) = .returned (.tuple #[a', b']) := by rw [h, k]
theorem int_eq {k : IntKind} {a b : Int} (h : a = b) : Value.int k a = .int k b := by rw [h]

/-- is a number between two others, both counted in? -/
def inB (n lo hi : Int) : Bool := decide (lo ≤ n ∧ n ≤ hi)
theorem inB_true {n lo hi : Int} (h : lo ≤ n ∧ n ≤ hi) : inB n lo hi = true := decide_eq_true h
theorem inB_false {n lo hi : Int} (h : ¬ (lo ≤ n ∧ n ≤ hi)) : inB n lo hi = false := decide_eq_false h
theorem of_inB {n lo hi : Int} (h : inB n lo hi = true) : lo ≤ n ∧ n ≤ hi := of_decide_eq_true h
theorem of_not_inB {n lo hi : Int} (h : inB n lo hi = false) : ¬ (lo ≤ n ∧ n ≤ hi) := of_decide_eq_false h

/-! ## Memory -/
/-- Behind a place that a slice names lie these cells, in a block below B (nothing is asked of the place of none). -/
def Cells (w : World) (B : Nat) (A : Option Addr) (xs : List Value) : Prop :=
  0 < xs.length → ∃ b off, A = some ⟨b, off, none⟩ ∧ b < B ∧ ∀ j u, xs[j]? = some u → w.cell? ⟨b, off + j, none⟩ = some u

theorem Cells.nil {w : World} {B : Nat} {A : Option Addr} : Cells w B A [] := fun h => absurd h (by simp)
theorem Cells.keep {w w' : World} {B : Nat} {A : Option Addr} {xs : List Value} (h : Cells w B A xs) (hk : ∀ p : Addr, p.block < B → w'.cell? p = w.cell? p) : Cells w' B A xs := fun hn => by
  obtain ⟨b, off, e, hb, hc⟩ := h hn
  exact ⟨b, off, e, hb, fun j u hu => (hk ⟨b, off + j, none⟩ hb).trans (hc j u hu)⟩
theorem Cells.more {w : World} {B B' : Nat} {A : Option Addr} {xs : List Value} (h : Cells w B A xs) (hB : B ≤ B') : Cells w B' A xs := fun hn => by
  obtain ⟨b, off, e, hb, hc⟩ := h hn
  exact ⟨b, off, e, by omega, hc⟩
theorem Cells.below {w w' : World} {B B' : Nat} {A : Option Addr} {xs : List Value} (h : Cells w B A xs) (hb : Below B' w w') (hB : B ≤ B') : Cells w' B A xs := h.keep fun _ hp => hb.cell (by omega)
theorem Cells.step {w w' : World} {A : Option Addr} {xs : List Value} (h : Cells w w.heap.size A xs) (hb : Below w.heap.size w w') : Cells w' w'.heap.size A xs := (h.below hb (Nat.le_refl _)).more hb.size
theorem _root_.Go.World.ownsRow.own {w : World} {base e c n : Nat} {size : Nat} {A : Option Addr} {xs : List Value} (h : w.ownsRow base e size (.slice A n c) n xs) (_ : 0 < size) : Cells w w.heap.size A xs := fun hn => by
  have hp : 0 < n := by
    rcases Nat.eq_zero_or_pos n with h0 | h0
    · have := h.1; simp [h0] at this; rw [this] at hn; simp at hn
    · exact h0
  obtain ⟨g, cap, hv, _, hlt⟩ := h.form hp
  have hA : A = some ⟨g, 0, none⟩ := by injection hv
  subst hA
  refine ⟨g, 0, rfl, hlt, fun j u hu => ?_⟩
  have := h.cells (g := g) rfl j u hu
  unfold Addr.add at this
  split at this
  · next h0 => subst h0; simpa using this
  · simpa using this

/-- a row of numbers -/
def ints (xs : List Int) : List Value := xs.map (Value.int .i64)
theorem ints_len (xs : List Int) : (ints xs).length = xs.length := by simp [ints]
theorem ints_at {w : World} {B k : Nat} {A : Option Addr} {xs : List Int} (h : Cells w B A (ints xs)) (hk : k < xs.length) :
    ∃ b off x, A = some ⟨b, off, none⟩ ∧ b < B ∧ xs[k]? = some x ∧ w.cell? ⟨b, off + k, none⟩ = some (.int .i64 x) := by
  obtain ⟨b, off, e, hb, hc⟩ := h (by rw [ints_len]; omega)
  exact ⟨b, off, xs[k], e, hb, List.getElem?_eq_getElem hk, hc k _ (by simp [ints, hk])⟩
/-- a row of pairs -/
def pairs (l : List (Int × Int)) : List Value := l.flatMap fun p => [.int .i64 p.1, .int .i64 p.2]
theorem pairs_len (l : List (Int × Int)) : (pairs l).length = l.length * 2 := by
  induction l with
  | nil => rfl
  | cons p l ih => simp only [pairs, List.flatMap_cons, List.length_append, List.length_cons, List.length_nil] at ih ⊢; omega
theorem pairs_get : ∀ (l : List (Int × Int)) (k : Nat) (p : Int × Int), l[k]? = some p → (pairs l)[k * 2]? = some (.int .i64 p.1) ∧ (pairs l)[k * 2 + 1]? = some (.int .i64 p.2) := by
  intro l
  induction l with
  | nil => intro k p h; simp at h
  | cons q l ih =>
    intro k p h
    cases k with
    | zero => simp at h; subst h; simp [pairs]
    | succ k =>
      have := ih k p (by simpa using h)
      rw [show (k + 1) * 2 = k * 2 + 1 + 1 by omega]
      simpa [pairs] using this
theorem pairs_at {w : World} {B k : Nat} {A : Option Addr} {l : List (Int × Int)} (h : Cells w B A (pairs l)) (hk : k < l.length) :
    ∃ b off x y, A = some ⟨b, off, none⟩ ∧ b < B ∧ l[k]? = some (x, y) ∧ w.cell? ⟨b, off + k * 2, none⟩ = some (.int .i64 x) ∧ w.cell? ⟨b, off + k * 2 + 1, none⟩ = some (.int .i64 y) := by
  obtain ⟨b, off, e, hb, hc⟩ := h (by rw [pairs_len]; omega)
  have hg := pairs_get l k l[k] (List.getElem?_eq_getElem hk)
  exact ⟨b, off, l[k].1, l[k].2, e, hb, List.getElem?_eq_getElem hk, hc _ _ hg.1, by rw [Nat.add_assoc]; exact hc _ _ hg.2⟩
/-- rows of threes -/
def threes {α : Type} (f : α → Int × Int × Int) (l : List α) : List Value := l.flatMap fun j => [.int .i64 (f j).1, .int .i64 (f j).2.1, .int .i64 (f j).2.2]
theorem threes_len {α : Type} (f : α → Int × Int × Int) (l : List α) : (threes f l).length = l.length * 3 := by
  induction l with
  | nil => rfl
  | cons p l ih => simp only [threes, List.flatMap_cons, List.length_append, List.length_cons, List.length_nil] at ih ⊢; omega
theorem threes_get {α : Type} (f : α → Int × Int × Int) : ∀ (l : List α) (k : Nat) (p : α), l[k]? = some p → (threes f l)[k * 3]? = some (.int .i64 (f p).1) ∧ (threes f l)[k * 3 + 1]? = some (.int .i64 (f p).2.1) ∧ (threes f l)[k * 3 + 2]? = some (.int .i64 (f p).2.2) := by
  intro l
  induction l with
  | nil => intro k p h; simp at h
  | cons q l ih =>
    intro k p h
    cases k with
    | zero => simp at h; subst h; simp [threes]
    | succ k =>
      have := ih k p (by simpa using h)
      rw [show (k + 1) * 3 = k * 3 + 1 + 1 + 1 by omega]
      simpa [threes] using this
theorem threes_append {α : Type} (f : α → Int × Int × Int) (a b : List α) : threes f (a ++ b) = threes f a ++ threes f b := by simp [threes]
theorem threes_at {α : Type} {f : α → Int × Int × Int} {w : World} {B k : Nat} {A : Option Addr} {l : List α} (h : Cells w B A (threes f l)) (hk : k < l.length) :
    ∃ b off j, A = some ⟨b, off, none⟩ ∧ b < B ∧ l[k]? = some j ∧ w.cell? ⟨b, off + k * 3, none⟩ = some (.int .i64 (f j).1) ∧ w.cell? ⟨b, off + k * 3 + 1, none⟩ = some (.int .i64 (f j).2.1) ∧ w.cell? ⟨b, off + k * 3 + 2, none⟩ = some (.int .i64 (f j).2.2) := by
  obtain ⟨b, off, e, hb, hc⟩ := h (by rw [threes_len]; omega)
  have hg := threes_get f l k l[k] (List.getElem?_eq_getElem hk)
  exact ⟨b, off, l[k], e, hb, List.getElem?_eq_getElem hk, hc _ _ hg.1, by rw [Nat.add_assoc]; exact hc _ _ hg.2.1, by rw [Nat.add_assoc]; exact hc _ _ hg.2.2⟩
/-- a row of jobs -/
def jobs (l : List Job) : List Value := threes (fun j => (j.time, j.due, j.weight)) l
theorem jobs_at {w : World} {B k : Nat} {A : Option Addr} {l : List Job} (h : Cells w B A (jobs l)) (hk : k < l.length) :
    ∃ b off t d v, A = some ⟨b, off, none⟩ ∧ b < B ∧ l[k]? = some ⟨t, d, v⟩ ∧ w.cell? ⟨b, off + k * 3, none⟩ = some (.int .i64 t) ∧ w.cell? ⟨b, off + k * 3 + 1, none⟩ = some (.int .i64 d) ∧ w.cell? ⟨b, off + k * 3 + 2, none⟩ = some (.int .i64 v) := by
  obtain ⟨b, off, j, e, hb, hj, h1, h2, h3⟩ := threes_at h hk
  exact ⟨b, off, j.time, j.due, j.weight, e, hb, hj, h1, h2, h3⟩
/-- a row of edges -/
def edges (l : List Edge) : List Value := threes (fun j => (j.a, j.b, j.weight)) l
theorem edges_at {w : World} {B k : Nat} {A : Option Addr} {l : List Edge} (h : Cells w B A (edges l)) (hk : k < l.length) :
    ∃ b off t d v, A = some ⟨b, off, none⟩ ∧ b < B ∧ l[k]? = some ⟨t, d, v⟩ ∧ w.cell? ⟨b, off + k * 3, none⟩ = some (.int .i64 t) ∧ w.cell? ⟨b, off + k * 3 + 1, none⟩ = some (.int .i64 d) ∧ w.cell? ⟨b, off + k * 3 + 2, none⟩ = some (.int .i64 v) := by
  obtain ⟨b, off, j, e, hb, hj, h1, h2, h3⟩ := threes_at h hk
  exact ⟨b, off, j.a, j.b, j.weight, e, hb, hj, h1, h2, h3⟩
theorem drop_at {α : Type} {l : List α} {k : Nat} {x : α} (h : l[k]? = some x) : l.drop k = x :: l.drop (k + 1) := by
  obtain ⟨hk, e⟩ := List.getElem?_eq_some_iff.1 h
  rw [List.drop_eq_getElem_cons hk, e]
theorem drop_end {α : Type} {l : List α} {k : Nat} (h : l.length ≤ k) : l.drop k = [] := List.drop_of_length_le h

/-- an error: none, or one of the program's -/
def errV (e : Int) : Value := if e = 0 then .nilIface else .iface 54 (.int .i64 e)
theorem errV_zero : errV 0 = .nilIface := rfl
theorem errV_bad {e : Int} (h : e ≠ 0) : errV e = .iface 54 (.int .i64 e) := if_neg h
theorem err_eq {a b : Int} (h : a = b) : Value.iface 54 (.int .i64 a) = .iface 54 (.int .i64 b) := by rw [h]
theorem ret_err {e : Int} (h : e = 0) : Ending.returned (errV e) = .returned .nilIface := by rw [h, errV_zero]
/-! ## A block that the call itself made -/
/-- block g is just these cells, of one type, none of them frozen -/
def Row (w : World) (g : Nat) (t : TypeId) (cs : List Value) : Prop := w.heap[g]? = some (.cells cs.toArray t (0, 0))
section
variable {w w' : World} {g : Nat} {t : TypeId} {cs : List Value}
theorem Row.lt (h : Row w g t cs) : g < w.heap.size := lt_of_block h
theorem Row.cell (h : Row w g t cs) (i : Nat) : w.cell? ⟨g, i, none⟩ = cs[i]? := by rw [cell_of_row w g i cs.toArray t (0, 0) h]; simp
theorem Row.frozen (h : Row w g t cs) (i : Nat) : w.frozen? ⟨g, i, none⟩ = false := frozen_of_row w g i _ t h
theorem Row.made (w : World) (t : TypeId) (z : Value) (n : Nat) : Row (w.alloc (.cells (madeCells #[z] n) t)) w.heap.size t (List.replicate n z) := by
  have h := heap_alloc_new w (.cells (madeCells #[z] n) t)
  have e : madeCells #[z] n = (List.replicate n z).toArray := by
    apply Array.toList_inj.1
    rw [toList_madeCells_one]
  unfold Row
  rw [h, e]
theorem Row.new (w : World) (t : TypeId) (cs : Array Value) : Row (w.alloc (.cells cs t)) w.heap.size t cs.toList := heap_alloc_new w _
theorem Row.drew (h : Row w g t cs) : Row w.drew g t cs := h
theorem Row.drewN (h : Row w g t cs) (n : Nat) : Row (w.drewN n) g t cs := h
theorem Row.alloc (h : Row w g t cs) (o : Obj) : Row (w.alloc o) g t cs := (Below.heap_alloc w o g h.lt).trans h
theorem Row.set_ (h : Row w g t cs) (i : Nat) (u : Value) : Row (w.setCell ⟨g, i, none⟩ u) g t (cs.set i u) := by
  unfold Row
  rw [heap_setCell_same w g i _ t u h]
  simp
theorem Row.far (h : Row w g t cs) {p : Addr} (hp : g ≠ p.block) (u : Value) : Row (w.setCell p u) g t cs := (heap_setCell_other w p g u hp).trans h
theorem Row.below {B : Nat} (h : Row w g t cs) (hb : Below B w w') (hg : g < B) : Row w' g t cs := (hb.block g hg).trans h
theorem Row.step (h : Row w g t cs) (hb : Below w.heap.size w w') : Row w' g t cs := h.below hb h.lt
theorem Row.grown {row : Option Nat} (h : Row w g t cs) (hb : w.grownBy w' row) (hg : some g ≠ row) : Row w' g t cs := (hb.block g h.lt hg).trans h
theorem Row.cells (h : Row w g t cs) : Cells w w.heap.size (some ⟨g, 0, none⟩) cs := fun _ => ⟨g, 0, rfl, h.lt, fun j u hu => by rw [Nat.zero_add, h.cell, hu]⟩
end

theorem quiet_l {P : Program} {f : FuncId} {args : Array Value} {w : World} {n : Nat} {v : Value} (h : Calls P f args (w.drewN n) fun e w' => e = .returned v ∧ w.drewN n = w') :
    Calls P f args (w.drewN n) fun e w'' => e = .returned v ∧ ∃ m, w'' = w.drewN m := h.mono fun _ _ ⟨he, hm⟩ => ⟨he, n, hm.symm⟩
theorem below_drewN {B : Nat} {a w : World} (h : Below B a w) (n : Nat) : Below B a (w.drewN n) := ⟨h.os, h.tape, h.output, h.size, h.block⟩

/-- what 'make' of n cells does, in whatever world -/
theorem make_row (t e : TypeId) (z : Value) (bytes : Nat) (ht : Try.prog.underlying t = some (.slice e)) (hinfo : (Try.prog.info? e).map (fun i => (i.zero, i.size, i.bytes)) = some (some z, 1, bytes)) (hz1 : z.cells = #[z])
    (n : Nat) (hn : bytes * n ≤ 281474976710656) (hm : n ≤ 9223372036854775807) (w : World) :
    (Instr.makeSlice t (.int .i64 (n : Int)) (.int .i64 (n : Int))).run Try.prog w = .ok (.slice (some ⟨w.heap.size, 0, none⟩) n n) (w.alloc (.cells (madeCells #[z] n) e)) :=
  run_make_row' t e z bytes ht hinfo hz1 _ _ n hn hm w
theorem info_bool : (Try.prog.info? 4).map (fun i => (i.zero, i.size, i.bytes)) = some (some (.bool false), 1, 1) := by kernel_rfl
theorem info_int : (Try.prog.info? 3).map (fun i => (i.zero, i.size, i.bytes)) = some (some (.int .i64 0), 1, 8) := by kernel_rfl
/-! ## Append to a slice of the call's own -/
theorem pairs_append (a b : List (Int × Int)) : pairs (a ++ b) = pairs a ++ pairs b := by simp [pairs]
theorem ints_append (a b : List Int) : ints (a ++ b) = ints a ++ ints b := by simp [ints]
theorem take_at {α : Type} {l : List α} {k : Nat} {x : α} (h : l[k]? = some x) : l.take (k + 1) = l.take k ++ [x] := by
  rw [List.take_add_one, h]; rfl

theorem op_push {o : Oper} {a : Act} {K : Act → World → Prop} {Q : Exit → Act → World → Prop} (w : World) (s x : Operand) (t : TypeId)
    (ho : o.op = .call { callee := .builtin .append, args := #[s, x], argTypes := #[t, t] })
    (base e size bytes : Nat) (z : Value) (ht : Try.prog.underlying t = some (.slice e)) (hinfo : (Try.prog.info? e).map (fun i => (i.zero, i.size, i.bytes)) = some (some z, size, bytes))
    (hzs : z.cells.size = size) (hsz : 0 < size)
    (A : Option Addr) (n c : Nat) (xs : List Value) (hs : a.eval s = .slice A n c) (hown : w.ownsRow base e size (.slice A n c) n xs)
    (g c' : Nat) (news : List Value) (hx : a.eval x = .slice (some ⟨g, 0, none⟩) 1 c') (hl : news.length = size) (hr : ∀ j u, news[j]? = some u → w.cell? ⟨g, j, none⟩ = some u) (h1 : ∀ u ∈ news, u.oneCell' = true)
    (hbytes : (n + 1) * bytes ≤ 140737488355328) (hm : n + 1 ≤ 9223372036854775807) (hbase : base ≤ w.heap.size)
    (h : ∀ g1 c1 w', w'.ownsRow base e size (.slice (some ⟨g1, 0, none⟩) (n + 1) c1) (n + 1) (xs ++ news) → Below base w w' → base ≤ g1 → w.grownBy w' (Value.slice A n c).ownBlock → (some g1 = (Value.slice A n c).ownBlock ∨ g1 = w.heap.size) → K (a.put o.dst (.slice (some ⟨g1, 0, none⟩) (n + 1) c1)) w') :
    o.wp Try.prog a w K Q := by
  obtain ⟨i, hi, hzz⟩ := Option.map_eq_some_iff.1 hinfo
  simp only [Prod.mk.injEq] at hzz
  obtain ⟨hz, h2, h3⟩ := hzz
  obtain ⟨v', w', hrun, hown', hg, _, hat⟩ := run_append_own_at (P := Try.prog) w base t o.type e i z size bytes ht hi hz h2 h3 hzs hsz (.slice A n c) n xs hown ⟨g, 0, none⟩ 1 c' news (by omega) (fun j u hu => by
    unfold Addr.add
    split
    · next hj => subst hj; exact hr 0 u hu
    · simpa using hr j u hu) h1 (by simp only [maxLen]; omega) hbytes hbase
  obtain ⟨g1, c1, rfl, hg1, _⟩ := hown'.form (by omega)
  unfold Oper.wp execOp
  simp only [ho, resolve, invoke, builtin, Sem.run_bind, Sem.run_pure, Result.andThen_ok, List.map_toArray, List.map_cons, List.map_nil, hs, hx, hrun]
  exact h g1 c1 w' hown' ((Below.refl _ _).grown hg hbase fun k hk => (hown.lt k hk).1) hg1 hg (by
    rcases hat with hat | hat
    · exact Or.inl hat
    · exact Or.inr (by simpa [Value.ownBlock] using hat))
theorem wp_push {ops : Array Oper} {rest : List Oper} {o : Oper} {a : Act} {Q : Exit → Act → World → Prop} (w : World) (hgd : o.guard = none) (s x : Operand) (t : TypeId)
    (ho : o.op = .call { callee := .builtin .append, args := #[s, x], argTypes := #[t, t] })
    (base e size bytes : Nat) (z : Value) (ht : Try.prog.underlying t = some (.slice e)) (hinfo : (Try.prog.info? e).map (fun i => (i.zero, i.size, i.bytes)) = some (some z, size, bytes))
    (hzs : z.cells.size = size) (hsz : 0 < size)
    (A : Option Addr) (n c : Nat) (xs : List Value) (hs : a.eval s = .slice A n c) (hown : w.ownsRow base e size (.slice A n c) n xs)
    (g c' : Nat) (news : List Value) (hx : a.eval x = .slice (some ⟨g, 0, none⟩) 1 c') (hl : news.length = size) (hr : ∀ j u, news[j]? = some u → w.cell? ⟨g, j, none⟩ = some u) (h1 : ∀ u ∈ news, u.oneCell' = true)
    (hbytes : (n + 1) * bytes ≤ 140737488355328) (hm : n + 1 ≤ 9223372036854775807) (hbase : base ≤ w.heap.size)
    (h : ∀ g1 c1 w', w'.ownsRow base e size (.slice (some ⟨g1, 0, none⟩) (n + 1) c1) (n + 1) (xs ++ news) → Below base w w' → base ≤ g1 → w.grownBy w' (Value.slice A n c).ownBlock → (some g1 = (Value.slice A n c).ownBlock ∨ g1 = w.heap.size) → wpList Try.prog ops Q rest (a.put o.dst (.slice (some ⟨g1, 0, none⟩) (n + 1) c1)) w') :
    wpList Try.prog ops Q (o :: rest) a w :=
  wpList_plain hgd fun _ hK => op_push w s x t ho base e size bytes z ht hinfo hzs hsz A n c xs hs hown g c' news hx hl hr h1 hbytes hm hbase fun g1 c1 w' a1 a2 a3 a4 a5 => hK _ _ (h g1 c1 w' a1 a2 a3 a4 a5)

/-- the same as one step of a region that draws its order -/
theorem step_push {ops : Array Oper} {o : Oper} {a : Act} {K : Act → World → Prop} {Q : Exit → Act → World → Prop} {E : Prop} (w : World) (hgd : o.guard = none) (s x : Operand) (t : TypeId)
    (ho : o.op = .call { callee := .builtin .append, args := #[s, x], argTypes := #[t, t] })
    (base e size bytes : Nat) (z : Value) (ht : Try.prog.underlying t = some (.slice e)) (hinfo : (Try.prog.info? e).map (fun i => (i.zero, i.size, i.bytes)) = some (some z, size, bytes))
    (hzs : z.cells.size = size) (hsz : 0 < size)
    (A : Option Addr) (n c : Nat) (xs : List Value) (hs : a.eval s = .slice A n c) (hown : w.ownsRow base e size (.slice A n c) n xs)
    (g c' : Nat) (news : List Value) (hx : a.eval x = .slice (some ⟨g, 0, none⟩) 1 c') (hl : news.length = size) (hr : ∀ j u, news[j]? = some u → w.cell? ⟨g, j, none⟩ = some u) (h1 : ∀ u ∈ news, u.oneCell' = true)
    (hbytes : (n + 1) * bytes ≤ 140737488355328) (hm : n + 1 ≤ 9223372036854775807) (hbase : base ≤ w.heap.size)
    (h : ∀ g1 c1 w', w'.ownsRow base e size (.slice (some ⟨g1, 0, none⟩) (n + 1) c1) (n + 1) (xs ++ news) → Below base w w' → base ≤ g1 → w.grownBy w' (Value.slice A n c).ownBlock → (some g1 = (Value.slice A n c).ownBlock ∨ g1 = w.heap.size) → K (a.put o.dst (.slice (some ⟨g1, 0, none⟩) (n + 1) c1)) w') :
    if Region.wanted o (yielded ops a.tmps) = true then Oper.wp Try.prog o a w K Q else E := by
  have hw : Region.wanted o (yielded ops a.tmps) = true := by simp [Region.wanted, hgd]
  rw [if_pos hw]
  exact op_push w s x t ho base e size bytes z ht hinfo hzs hsz A n c xs hs hown g c' news hx hl hr h1 hbytes hm hbase h
/-! ## Append of a whole slice -/
theorem run_append_nothing (w : World) (base t ty e : Nat) (size : Nat) (ht : Try.prog.underlying t = some (.slice e)) (i : TypeInfo) (hi : Try.prog.info? e = some i)
    (v : Value) (n : Nat) (xs : List Value) (hown : w.ownsRow base e size v n xs) (c : Nat) : (Builtin.append_ #[t, t] ty #[v, .slice none 0 c]).run Try.prog w = .ok v w := by
  rcases hown.2 with ⟨rfl, rfl⟩ | ⟨g, cap, cur, rfl, _, _, hnc, _⟩
  · simp [Builtin.append_, run_underlying ht, sizeOf, typeInfo, hi, Builtin.lenOf, Builtin.firstCells]
  · simp [Builtin.append_, run_underlying ht, sizeOf, typeInfo, hi, Builtin.lenOf, Builtin.firstCells, hnc, storeCells]
set_option maxRecDepth 100000 in
theorem op_cat {o : Oper} {a : Act} {K : Act → World → Prop} {Q : Exit → Act → World → Prop} (w : World) (s x : Operand) (t : TypeId)
    (ho : o.op = .call { callee := .builtin .append, args := #[s, x], argTypes := #[t, t] })
    (base e size bytes : Nat) (z : Value) (ht : Try.prog.underlying t = some (.slice e)) (hinfo : (Try.prog.info? e).map (fun i => (i.zero, i.size, i.bytes)) = some (some z, size, bytes))
    (hzs : z.cells.size = size) (hsz : 0 < size)
    (A : Option Addr) (n c : Nat) (xs : List Value) (hs : a.eval s = .slice A n c) (hown : w.ownsRow base e size (.slice A n c) n xs)
    (B : Nat) (X : Option Addr) (m c' : Nat) (news : List Value) (hx : a.eval x = .slice X m c') (hl : news.length = m * size) (hr : Cells w B X news) (h1 : ∀ u ∈ news, u.oneCell' = true)
    (hbytes : (n + m) * bytes ≤ 140737488355328) (hm : n + m ≤ 9223372036854775807) (hbase : base ≤ w.heap.size)
    (h : ∀ V c1 w', w'.ownsRow base e size (.slice V (n + m) c1) (n + m) (xs ++ news) → Below base w w' → w.grownBy w' (Value.slice A n c).ownBlock → K (a.put o.dst (.slice V (n + m) c1)) w') :
    o.wp Try.prog a w K Q := by
  obtain ⟨i, hi, hzz⟩ := Option.map_eq_some_iff.1 hinfo
  simp only [Prod.mk.injEq] at hzz
  obtain ⟨hz, h2, h3⟩ := hzz
  have key : ∃ v' w', (Builtin.append_ #[t, t] o.type #[.slice A n c, .slice X m c']).run Try.prog w = .ok v' w' ∧ w'.ownsRow base e size v' (n + m) (xs ++ news) ∧ w.grownBy w' (Value.slice A n c).ownBlock := by
    rcases X with _ | ad
    · have hm0 : m = 0 := by
        rcases Nat.eq_zero_or_pos m with h0 | h0
        · exact h0
        · obtain ⟨b, off, e0, _⟩ := hr (by rw [hl]; exact Nat.mul_pos h0 hsz)
          cases e0
      subst hm0
      have hn : news = [] := List.eq_nil_of_length_eq_zero (by simpa using hl)
      subst hn
      exact ⟨_, _, run_append_nothing w base t o.type e size ht i hi _ n xs hown c', by simpa using hown, World.grownBy.refl w _⟩
    · have hcells : ∀ j u, news[j]? = some u → w.cell? (ad.add j) = some u := by
        intro j u hu
        have hp : 0 < news.length := by have := (List.getElem?_eq_some_iff.1 hu).1; omega
        obtain ⟨b, off, e0, _, hc⟩ := hr hp
        injection e0 with e0
        subst e0
        unfold Addr.add
        split
        · next hj => subst hj; exact hc 0 u hu
        · exact hc j u hu
      obtain ⟨v', w', hrun, h4, h5, _, _⟩ := run_append_own_at (P := Try.prog) w base t o.type e i z size bytes ht hi hz h2 h3 hzs hsz (.slice A n c) n xs hown ad m c' news hl hcells h1 (by simp only [maxLen]; omega) hbytes hbase
      exact ⟨v', w', hrun, h4, h5⟩
  obtain ⟨v', w', hrun, h4, h5⟩ := key
  have hshape : ∃ V c1, v' = .slice V (n + m) c1 := by
    rcases h4.2 with ⟨rfl, h0⟩ | ⟨g, cap, cur, rfl, _⟩
    · exact ⟨none, 0, by rw [h0]⟩
    · exact ⟨_, _, rfl⟩
  obtain ⟨V, c1, rfl⟩ := hshape
  unfold Oper.wp execOp
  simp only [ho, resolve, invoke, builtin, Sem.run_bind, Sem.run_pure, Result.andThen_ok, List.map_toArray, List.map_cons, List.map_nil, hs, hx, hrun]
  exact h V c1 w' h4 ((Below.refl _ _).grown h5 hbase fun k hk => (hown.lt k hk).1) h5
theorem wp_cat {ops : Array Oper} {rest : List Oper} {o : Oper} {a : Act} {Q : Exit → Act → World → Prop} (w : World) (hgd : o.guard = none) (s x : Operand) (t : TypeId)
    (ho : o.op = .call { callee := .builtin .append, args := #[s, x], argTypes := #[t, t] })
    (base e size bytes : Nat) (z : Value) (ht : Try.prog.underlying t = some (.slice e)) (hinfo : (Try.prog.info? e).map (fun i => (i.zero, i.size, i.bytes)) = some (some z, size, bytes))
    (hzs : z.cells.size = size) (hsz : 0 < size)
    (A : Option Addr) (n c : Nat) (xs : List Value) (hs : a.eval s = .slice A n c) (hown : w.ownsRow base e size (.slice A n c) n xs)
    (B : Nat) (X : Option Addr) (m c' : Nat) (news : List Value) (hx : a.eval x = .slice X m c') (hl : news.length = m * size) (hr : Cells w B X news) (h1 : ∀ u ∈ news, u.oneCell' = true)
    (hbytes : (n + m) * bytes ≤ 140737488355328) (hm : n + m ≤ 9223372036854775807) (hbase : base ≤ w.heap.size)
    (h : ∀ V c1 w', w'.ownsRow base e size (.slice V (n + m) c1) (n + m) (xs ++ news) → Below base w w' → w.grownBy w' (Value.slice A n c).ownBlock → wpList Try.prog ops Q rest (a.put o.dst (.slice V (n + m) c1)) w') :
    wpList Try.prog ops Q (o :: rest) a w :=
  wpList_plain hgd fun _ hK => op_cat w s x t ho base e size bytes z ht hinfo hzs hsz A n c xs hs hown B X m c' news hx hl hr h1 hbytes hm hbase fun V c1 w' a1 a2 a3 => hK _ _ (h V c1 w' a1 a2 a3)
theorem step_cat {ops : Array Oper} {o : Oper} {a : Act} {K : Act → World → Prop} {Q : Exit → Act → World → Prop} {E : Prop} (w : World) (hgd : o.guard = none) (s x : Operand) (t : TypeId)
    (ho : o.op = .call { callee := .builtin .append, args := #[s, x], argTypes := #[t, t] })
    (base e size bytes : Nat) (z : Value) (ht : Try.prog.underlying t = some (.slice e)) (hinfo : (Try.prog.info? e).map (fun i => (i.zero, i.size, i.bytes)) = some (some z, size, bytes))
    (hzs : z.cells.size = size) (hsz : 0 < size)
    (A : Option Addr) (n c : Nat) (xs : List Value) (hs : a.eval s = .slice A n c) (hown : w.ownsRow base e size (.slice A n c) n xs)
    (B : Nat) (X : Option Addr) (m c' : Nat) (news : List Value) (hx : a.eval x = .slice X m c') (hl : news.length = m * size) (hr : Cells w B X news) (h1 : ∀ u ∈ news, u.oneCell' = true)
    (hbytes : (n + m) * bytes ≤ 140737488355328) (hm : n + m ≤ 9223372036854775807) (hbase : base ≤ w.heap.size)
    (h : ∀ V c1 w', w'.ownsRow base e size (.slice V (n + m) c1) (n + m) (xs ++ news) → Below base w w' → w.grownBy w' (Value.slice A n c).ownBlock → K (a.put o.dst (.slice V (n + m) c1)) w') :
    if Region.wanted o (yielded ops a.tmps) = true then Oper.wp Try.prog o a w K Q else E := by
  have hw : Region.wanted o (yielded ops a.tmps) = true := by simp [Region.wanted, hgd]
  rw [if_pos hw]
  exact op_cat w s x t ho base e size bytes z ht hinfo hzs hsz A n c xs hs hown B X m c' news hx hl hr h1 hbytes hm hbase h
theorem one_ints (xs : List Int) : ∀ u ∈ ints xs, u.oneCell' = true := fun u hu => by
  obtain ⟨x, _, rfl⟩ := List.mem_map.1 hu; rfl
theorem one_pairs (xs : List (Int × Int)) : ∀ u ∈ pairs xs, u.oneCell' = true := fun u hu => by
  obtain ⟨x, _, hx⟩ := List.mem_flatMap.1 hu
  simp at hx
  rcases hx with rfl | rfl <;> rfl
theorem one_threes {α : Type} (f : α → Int × Int × Int) (xs : List α) : ∀ u ∈ threes f xs, u.oneCell' = true := fun u hu => by
  obtain ⟨x, _, hx⟩ := List.mem_flatMap.1 hu
  simp at hx
  rcases hx with rfl | rfl | rfl <;> rfl
end Go.Proofs.Ytejbilcofbjpiaa
