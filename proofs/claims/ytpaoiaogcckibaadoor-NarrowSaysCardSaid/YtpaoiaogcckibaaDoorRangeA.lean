/- The law of a range over a function, what the rounds find being told of the frame that the loop begins in. Conditions: none. -/
import Derived.RangeFuncNested
import Derived.RangeFuncLeaves
import Derived.RangeFuncBound
import Derived.RangeFuncCalls
import Derived.Shelf.Abstract
import Derived.Shelf.RegionOpen
import Derived.WalkKit
import Derived.OwnWalkIn
import Derived.TacticsInMore
import Derived.LoopNIn
import Derived.LoopIn
import Derived.Test.YtpaoiaogcckibaaDoorKeeps
namespace Go.Proofs.YtpaoiaogcckibaaDoor
open Go.RowKit
/-- the iterator's contract: between two rounds I, a measure beside it; G: what holds when a thing is handed over; Fin: when all is over -/
def IterK {γ : Type} (P : Program) (gf : Nat) (la : Array Value) (encs : γ → Array Value) (I : Nat → World → Prop) (G : Nat → γ → World → Prop) (Fin : World → Prop) : Prop :=
  ∀ (l : Nat) (K Jx : World → Prop), (∀ A B, K A → KeepsOthers A B → K B) →
    (∀ m x W, G m x W → K W → YieldAt Fence.wide 1 P l (encs x) W fun e W' => (e = .returned (.bool true) ∧ ∃ m', m' < m ∧ I m' W' ∧ K W') ∨ (e = .returned (.bool false) ∧ Jx W')) →
    ∀ m W, I m W → K W → CallsIn Fence.wide 2 P gf (la ++ #[.func (.yield l) #[] #[]]) W fun e W' => (∃ v, e = .returned v) ∧ ((Fin W' ∧ K W') ∨ Jx W')
/-- how the body of a round may be left -/
def roundEnds (B : Nat) (I : Nat → World → Prop) (Ix : Code → World → Prop) (m : Nat) (W : World) : Exit → Act → World → Prop
  | .normal, _, W' => KeepsFrom B W W' ∧ ∃ m', m' < m ∧ I m' W'
  | .ret, _, W' => KeepsFrom B W W' ∧ Ix .ret W'
  | .exit id, _, W' => KeepsFrom B W W' ∧ Ix (.exit id) W'
  | .goto t, _, W' => KeepsFrom B W W' ∧ Ix (.goto t) W'
  | .panic _, _, _ => False
  | .outgrown, _, _ => False
theorem wp_range {P : Program} {γ : Type} {g : Operand} {ps : Array Tmp} {assign body : Code} {Q : Exit → Act → World → Prop} {a : Act} {w : World} {gf : Nat} {la : Array Value} (hg : a.eval g = .func (.func gf) la #[])
    (eg : ∀ args w, (callFunc gf args).run P w = .ok (.enter gf args) w) {encs : γ → Array Value} (hps : ∀ x, (encs x).size = ps.size)
    (I : Nat → World → Prop) (G : Nat → γ → World → Prop) (Fin : World → Prop) (Ix : Code → World → Prop) (hseq : IterK P gf la encs I G Fin)
    (hI : OwnFrom w.heap.size I) (hFin : OwnFrom w.heap.size fun (_ : Unit) W => Fin W) (hIx : ∀ c, OwnFrom w.heap.size fun (_ : Unit) W => Ix c W) (m0 : Nat) (h0 : I m0 w)
    (Ax : Nat → γ → Act → World → Prop) (hAx : ∀ m x a', OwnFrom w.heap.size fun (_ : Unit) W => Ax m x a' W)
    (hassign : ∀ (l m : Nat) (x : γ) (W : World) (K : Act → World → Prop), G m x W → (∀ a' W', KeepsFrom w.heap.size W W' → Ax m x a' W' → K a' W') →
      assign.wpIn (Fence.wide.inRound l) 1 P (Exit.then K (fun _ _ _ => False)) { tmps := (ps.zip (encs x)).foldl (fun t (p, v) => t.setIfInBounds p v) a.tmps, defers := [] } W)
    (hbody : ∀ (l m : Nat) (x : γ) (a' : Act) (W : World), Ax m x a' W → body.wpIn (Fence.wide.inRound l) 1 P (roundEnds w.heap.size I Ix m W) a' W)
    (hdone : ∀ (D : Nat) (W : World), w.heap.size ≤ D → Fin W → W.heap[D]? = some (.deferred (some [])) → Q .normal { a with defers := { target := .collected D, args := #[] } :: a.defers } W)
    (hstop : ∀ (D : Nat) (c : Code) (W : World), w.heap.size ≤ D → Ix c W → W.heap[D]? = some (.deferred (some [])) → c.wp P Q { a with defers := { target := .collected D, args := #[] } :: a.defers } W) :
    (Code.rangeFunc g ps assign body).wp P Q a w := by
  refine (wpIn_wide (n := 3)).1 (wpIn_rangeFunc ?_)
  intro fn hfn
  obtain ⟨rec, hrec⟩ : ∃ rec : LoopState → Option Code → Loop, rec = fun st pe => { state := st, pending := pe, fn, tmps := a.tmps, params := ps, assign, body, defers := w.heap.size } := ⟨_, rfl⟩
  obtain ⟨W1, hW1⟩ : ∃ W1, (w.alloc (.deferred (some []))).alloc (.loop (rec .ready none)) = W1 := ⟨_, rfl⟩
  have hL1 : W1.heap[w.heap.size + 1]? = some (.loop (rec .ready none)) := by
    rw [← hW1]; have := World.alloc_heap_new (w.alloc (.deferred (some []))) (.loop (rec .ready none)); rwa [World.size_alloc] at this
  have hK1 : W1.heap[w.heap.size]? = some (.deferred (some [])) := by
    rw [← hW1]; exact (Below.heap_alloc _ _ _ (by simp)).trans (World.alloc_heap_new w _)
  have hI1 : I m0 W1 := by rw [← hW1]; exact hI.alloc _ (hI.alloc _ h0)
  refine ⟨w.heap.size + 1, [{ target := .collected w.heap.size, args := #[] }], W1, { target := .fn (.func gf) #[], args := la ++ #[.func (.yield (w.heap.size + 1)) #[] #[]] }, W1, gf,
    la ++ #[.func (.yield (w.heap.size + 1)) #[] #[]], W1, ?_, ?_, ?_, ?_, fun _ => by omega, ?_⟩
  · rw [← hW1, hrec]; exact run_enterLoop_outer _ _ _ _ _
  · simp only [resolve, hg]
    simp [go_sem]
  · intro f' _; trivial
  · simp [invoke, go_sem, eg]
  · refine (hseq (w.heap.size + 1)
      (fun W => W.heap[w.heap.size + 1]? = some (.loop (rec .ready none)) ∧ W.heap[w.heap.size]? = some (.deferred (some [])))
      (fun W => ∃ c, Ix c W ∧ W.heap[w.heap.size + 1]? = some (.loop (rec .done (some c))) ∧ W.heap[w.heap.size]? = some (.deferred (some [])))
      (fun A B hk ho => ⟨ho.same _ _ hk.1 rfl, ho.same _ _ hk.2 rfl⟩) ?_ m0 W1 hI1 ⟨hL1, hK1⟩).mono ?_
    · rintro m x W hgx ⟨hl, hk⟩
      have hy := run_yield (P := P) (args := encs x) hl (by rw [hrec]; exact hps x)
      rw [hrec] at hy
      refine ⟨fn, _, assign, body, hy, roundIn_of_wpIn hfn (hassign _ m x W _ hgx ?_)⟩
      clear hy
      intro a' Wa hkfa hax
      replace hl := hkfa.same _ _ (by omega) hl rfl
      replace hk := hkfa.same _ _ (Nat.le_refl _) hk rfl
      have hlt : w.heap.size + 1 < Wa.heap.size := (Array.getElem?_eq_some_iff.1 hl).1
      refine ⟨_, run_beginRound hl (by rw [hrec]), ?_⟩
      have hl2 : (Wa.putObj (w.heap.size + 1) (.loop { rec .ready none with state := .busy })).heap[w.heap.size + 1]? = some (.loop { rec .ready none with state := .busy }) := World.putObj_heap_same hlt
      have hk2 : (Wa.putObj (w.heap.size + 1) (.loop { rec .ready none with state := .busy })).heap[w.heap.size]? = some (.deferred (some [])) := (World.putObj_heap_other (by omega)).trans hk
      refine wpIn_mono (hbody _ m x a' _ ((hAx m x a').putObj (s := ()) _ hax (by omega) hl rfl)) ?_
      have fin : ∀ (jump : Option Code) (W3 : World), KeepsFrom w.heap.size (Wa.putObj (w.heap.size + 1) (.loop { rec .ready none with state := .busy })) W3 →
          (Instr.endRound (w.heap.size + 1) jump).run P W3 = .ok (.bool jump.isNone) (W3.putObj (w.heap.size + 1) (.loop (rec (if jump.isNone then .ready else .done) jump))) ∧
          W3.heap[w.heap.size + 1]? = some (.loop { rec .ready none with state := .busy }) ∧
          (W3.putObj (w.heap.size + 1) (.loop (rec (if jump.isNone then .ready else .done) jump))).heap[w.heap.size + 1]? = some (.loop (rec (if jump.isNone then .ready else .done) jump)) ∧
          (W3.putObj (w.heap.size + 1) (.loop (rec (if jump.isNone then .ready else .done) jump))).heap[w.heap.size]? = some (.deferred (some [])) := fun jump W3 hk3 => by
        have hl3 := hk3.same _ _ (by omega) hl2 rfl
        have := run_endRound (P := P) jump hl3
        rw [hrec] at this ⊢
        exact ⟨this, by rw [hrec] at hl3; exact hl3, World.putObj_heap_same (Array.getElem?_eq_some_iff.1 hl3).1, (World.putObj_heap_other (by omega)).trans (hk3.same _ _ (Nat.le_refl _) hk2 rfl)⟩
      rintro e a3 W3 hp
      cases e with
      | normal =>
        obtain ⟨hk3, m', hm', hi3⟩ := hp
        obtain ⟨hr, hl3, hl4, hk4⟩ := fin none W3 hk3
        exact ⟨_, _, hr, .inl ⟨rfl, m', hm', hI.putObj _ hi3 (by omega) hl3 rfl, hl4, hk4⟩⟩
      | ret =>
        obtain ⟨hk3, hi3⟩ := hp
        obtain ⟨hr, hl3, hl4, hk4⟩ := fin (some .ret) W3 hk3
        exact ⟨_, _, hr, .inr ⟨rfl, .ret, (hIx _).putObj (s := ()) _ hi3 (by omega) hl3 rfl, hl4, hk4⟩⟩
      | exit id =>
        obtain ⟨hk3, hi3⟩ := hp
        obtain ⟨hr, hl3, hl4, hk4⟩ := fin (some (.exit id)) W3 hk3
        exact ⟨_, _, hr, .inr ⟨rfl, .exit id, (hIx _).putObj (s := ()) _ hi3 (by omega) hl3 rfl, hl4, hk4⟩⟩
      | goto t =>
        obtain ⟨hk3, hi3⟩ := hp
        obtain ⟨hr, hl3, hl4, hk4⟩ := fin (some (.goto t)) W3 hk3
        exact ⟨_, _, hr, .inr ⟨rfl, .goto t, (hIx _).putObj (s := ()) _ hi3 (by omega) hl3 rfl, hl4, hk4⟩⟩
      | panic ch => exact hp.elim
      | outgrown => exact hp.elim
    · rintro e W2 ⟨⟨v, rfl⟩, (⟨hi, hl, hk⟩ | ⟨c, hi, hl, hk⟩)⟩
      · exact ⟨none, _, by have := run_endLoop (P := P) hl (by rw [hrec]; simp); rw [hrec] at this; exact this, hdone _ _ (Nat.le_refl _) (hFin.putObj (s := ()) _ hi (by omega) hl rfl) ((World.putObj_heap_other (by omega)).trans hk)⟩
      · exact ⟨some c, _, by have := run_endLoop (P := P) hl (by rw [hrec]; simp); rw [hrec] at this; exact this, (wpIn_wide (n := 3)).2 (hstop _ c _ (Nat.le_refl _) ((hIx c).putObj (s := ()) _ hi (by omega) hl rfl) ((World.putObj_heap_other (by omega)).trans hk))⟩
/-- a function that holds such a statement: its contract from its body -/
theorem calls_of_marks {P : Program} {f : FuncId} {fn : Func} {c : Code} {args : Array Value} {w : World} {R : Ending → World → Prop} (hf : P.funcs[f]? = some fn) (hb : fn.body = some c)
    (h : c.wp P (bodyPostM Fence.wide 3 P fn R) { tmps := args ++ Array.replicate (fn.ntmps - args.size) undef, defers := [] } w) : Calls P f args w R :=
  (callsIn_wide (n := 3)).1 (callsIn_of_wp_marks hf hb trivial ((wpIn_wide (n := 3)).2 h))
/-! ## What abides the law's own book-keeping -/
section
variable {w w' : World} {row : Option Nat} {β : Type} {B : Nat}
theorem row_abides {g : Nat} {t : TypeId} {xs : List Value} (h : Row w g t xs) (hg : w.grownBy w' row) (hr : ∀ r, row = some r → ∃ o : Obj, w.heap[r]? = some o ∧ o.isCells = false) : Row w' g t xs :=
  h.grown hg fun e => by
    obtain ⟨o, ho, hc⟩ := hr g e.symm
    unfold Row at h
    rw [h] at ho
    injection ho with ho
    subst ho
    cases hc
theorem own_abides {base e size n : Nat} {v : Value} {xs : List Value} (h : w.ownsRow base e size v n xs) (hg : w.grownBy w' row) (hr : ∀ r, row = some r → ∃ o : Obj, w.heap[r]? = some o ∧ o.isCells = false) : w'.ownsRow base e size v n xs := by
  obtain ⟨h1, h2⟩ := h
  refine ⟨h1, ?_⟩
  rcases h2 with h2 | ⟨g, cap, cur, rfl, hb, hh, r⟩
  · exact Or.inl h2
  · refine Or.inr ⟨g, cap, cur, rfl, hb, ?_, r⟩
    rw [← hh]
    refine hg.block g (lt_of_block hh) fun e => ?_
    obtain ⟨o, ho, hc⟩ := hr g e.symm
    rw [hh] at ho
    injection ho with ho
    subst ho
    cases hc
theorem below_abides {n0 : Nat} {w0 : World} (h : Below n0 w0 w) (hg : w.grownBy w' row) (hn : n0 ≤ w0.heap.size) (hr : ∀ r, row = some r → n0 ≤ r) : Below n0 w0 w' := h.grown hg (Nat.le_trans hn h.size) hr
theorem Keeps.from {bs : List Nat} (h : Keeps bs w w') (hb : ∀ b ∈ bs, ∀ o : Obj, w.heap[b]? = some o → o.isCells = true) : KeepsFrom B w w' :=
  ⟨h.size, fun k o _ hk ho => by
    have hlt := lt_of_block hk
    by_cases hm : k ∈ bs
    · have := hb k hm o hk
      rw [this] at ho; cases ho
    · rw [h.block k hlt hm]; exact hk⟩
theorem Keeps.others {bs : List Nat} (h : Keeps bs w w') (hb : ∀ b ∈ bs, ∀ o : Obj, w.heap[b]? = some o → o.isCells = true) : KeepsOthers w w' :=
  ⟨h.size, fun k o hk ho => by
    have hlt := lt_of_block hk
    by_cases hm : k ∈ bs
    · have := hb k hm o hk
      rw [this] at ho; cases ho
    · rw [h.block k hlt hm]; exact hk⟩
theorem Row.isCells {g : Nat} {t : TypeId} {xs : List Value} (h : Row w g t xs) : ∀ o : Obj, w.heap[g]? = some o → o.isCells = true := fun o ho => by
  unfold Row at h
  rw [h] at ho
  injection ho with ho
  subst ho
  rfl
theorem own_isCells {base e size n g : Nat} {v : Value} {xs : List Value} (h : w.ownsRow base e size v n xs) (hv : v.ownBlock = some g) : ∀ o : Obj, w.heap[g]? = some o → o.isCells = true := fun o ho => by
  rcases h.2 with ⟨rfl, _⟩ | ⟨g', cap, cur, rfl, _, hh, _⟩
  · simp [Value.ownBlock] at hv
  · simp only [Value.ownBlock, Option.some.injEq] at hv
    subst hv
    rw [hh] at ho
    injection ho with ho
    subst ho
    rfl
end
end Go.Proofs.YtpaoiaogcckibaaDoor
namespace Go.Proofs.YtpaoiaogcckibaaDoor
open Go.RowKit
theorem wp_rangeA {P : Program} {γ : Type} {g : Operand} {ps : Array Tmp} {assign body : Code} {Q : Exit → Act → World → Prop} {a : Act} {w : World} {gf : Nat} {la : Array Value} (hg : a.eval g = .func (.func gf) la #[])
    (eg : ∀ args w, (callFunc gf args).run P w = .ok (.enter gf args) w) {encs : γ → Array Value} (hps : ∀ x, (encs x).size = ps.size)
    (I : Nat → World → Prop) (G : Nat → γ → World → Prop) (Fin : World → Prop) (Ix : Code → World → Prop) (hseq : IterK P gf la encs I G Fin)
    (hI : OwnFrom w.heap.size I) (hFin : OwnFrom w.heap.size fun (_ : Unit) W => Fin W) (hIx : ∀ c, OwnFrom w.heap.size fun (_ : Unit) W => Ix c W) (m0 : Nat) (h0 : I m0 w)
    (Ax : Act → Nat → γ → Act → World → Prop) (hAx : ∀ m x a', OwnFrom w.heap.size fun (_ : Unit) W => Ax a m x a' W)
    (hassign : ∀ (l m : Nat) (x : γ) (W : World) (K : Act → World → Prop), G m x W → (∀ a' W', KeepsFrom w.heap.size W W' → Ax a m x a' W' → K a' W') →
      assign.wpIn (Fence.wide.inRound l) 1 P (Exit.then K (fun _ _ _ => False)) { tmps := (ps.zip (encs x)).foldl (fun t (p, v) => t.setIfInBounds p v) a.tmps, defers := [] } W)
    (hbody : ∀ (l m : Nat) (x : γ) (a' : Act) (W : World), Ax a m x a' W → body.wpIn (Fence.wide.inRound l) 1 P (roundEnds w.heap.size I Ix m W) a' W)
    (hdone : ∀ (D : Nat) (W : World), w.heap.size ≤ D → Fin W → W.heap[D]? = some (.deferred (some [])) → Q .normal { a with defers := { target := .collected D, args := #[] } :: a.defers } W)
    (hstop : ∀ (D : Nat) (c : Code) (W : World), w.heap.size ≤ D → Ix c W → W.heap[D]? = some (.deferred (some [])) → c.wp P Q { a with defers := { target := .collected D, args := #[] } :: a.defers } W) :
    (Code.rangeFunc g ps assign body).wp P Q a w :=
  wp_range hg eg hps I G Fin Ix hseq hI hFin hIx m0 h0 (Ax a) hAx hassign hbody hdone hstop
end Go.Proofs.YtpaoiaogcckibaaDoor
