/- Plain lemmas on two machines: done backwards, and its bounds. Conditions: times are not below 0. -/
namespace Go.Proofs.YtpaoiaogcckibaaDoor
/-- the two machines: when the first and the second one are done behind one job more -/
def step (s : Int × Int) (p : Int × Int) : Int × Int := (s.1 + p.1, max (s.1 + p.1) s.2 + p.2)
def run (ps : List (Int × Int)) (s : Int × Int) : Int × Int := ps.foldl step s
def done (ps : List (Int × Int)) : Int := (run ps (0, 0)).2
def sa : List (Int × Int) → Int
  | [] => 0
  | p :: ps => p.1 + sa ps
def sb : List (Int × Int) → Int
  | [] => 0
  | p :: ps => p.2 + sb ps
def rev (ps : List (Int × Int)) : List (Int × Int) := (ps.map fun p => (p.2, p.1)).reverse
def Pos (ps : List (Int × Int)) : Prop := ∀ p ∈ ps, 0 ≤ p.1 ∧ 0 ≤ p.2

theorem if_max (a b : Int) : (if a < b then b else a) = max a b := by split <;> omega
theorem sa_append (ps qs : List (Int × Int)) : sa (ps ++ qs) = sa ps + sa qs := by
  induction ps with
  | nil => simp [sa]
  | cons p ps ih => simp [sa, ih]; omega
theorem sb_append (ps qs : List (Int × Int)) : sb (ps ++ qs) = sb ps + sb qs := by
  induction ps with
  | nil => simp [sb]
  | cons p ps ih => simp [sb, ih]; omega
theorem sa_rev (ps : List (Int × Int)) : sa (rev ps) = sb ps := by
  induction ps with
  | nil => rfl
  | cons p ps ih => simp [rev] at ih ⊢; rw [sa_append, ih]; simp [sa, sb]; omega
theorem run_one (ps : List (Int × Int)) : ∀ (a b : Int), (run ps (a, b)).1 = a + sa ps := by
  induction ps with
  | nil => intro a b; simp [run, sa]
  | cons p ps ih => intro a b; have := ih (a + p.1) (max (a + p.1) b + p.2); simp [run, step, sa] at this ⊢; rw [this]; omega
theorem run_snoc (ps : List (Int × Int)) (p : Int × Int) (s : Int × Int) : run (ps ++ [p]) s = step (run ps s) p := by simp [run]
theorem done_snoc (ps : List (Int × Int)) (p : Int × Int) : done (ps ++ [p]) = max (sa ps + p.1) (done ps) + p.2 := by
  have h := run_one ps 0 0
  unfold done; rw [run_snoc]; simp [step, h]
/-- from any time on at which the second machine is not ahead -/
theorem run_two (ps : List (Int × Int)) (hp : Pos ps) : ∀ (a b : Int), a ≤ b → (run ps (a, b)).2 = max (b + sb ps) (a + done ps) := by
  induction ps with
  | nil => intro a b h; simp [run, sb, done]; omega
  | cons p ps ih =>
    intro a b h
    have h0 := hp p (by simp)
    have hps : Pos ps := fun q hq => hp q (by simp [hq])
    have e1 := ih hps (a + p.1) (max (a + p.1) b + p.2) (by omega)
    have e0 := ih hps (0 + p.1) (max (0 + p.1) 0 + p.2) (by omega)
    have d : done (p :: ps) = (run ps (0 + p.1, max (0 + p.1) 0 + p.2)).2 := rfl
    have r : (run (p :: ps) (a, b)).2 = (run ps (a + p.1, max (a + p.1) b + p.2)).2 := rfl
    rw [r, e1, d, e0]; simp [sb]; omega
theorem done_cons (p : Int × Int) (ps : List (Int × Int)) (h0 : 0 ≤ p.1 ∧ 0 ≤ p.2) (hp : Pos ps) : done (p :: ps) = p.1 + max (p.2 + sb ps) (done ps) := by
  have e0 := run_two ps hp (0 + p.1) (max (0 + p.1) 0 + p.2) (by omega)
  have d : done (p :: ps) = (run ps (0 + p.1, max (0 + p.1) 0 + p.2)).2 := rfl
  rw [d, e0]; omega
theorem done_rev (ps : List (Int × Int)) (hp : Pos ps) : done (rev ps) = done ps := by
  induction ps with
  | nil => rfl
  | cons p ps ih =>
    have h0 := hp p (by simp)
    have hps : Pos ps := fun q hq => hp q (by simp [hq])
    have e : rev (p :: ps) = rev ps ++ [(p.2, p.1)] := by simp [rev]
    rw [e, done_snoc, sa_rev, ih hps, done_cons p ps h0 hps]; simp; omega
theorem done_bounds (ps : List (Int × Int)) (hp : Pos ps) : sa ps ≤ done ps ∧ sb ps ≤ done ps ∧ done ps ≤ sa ps + sb ps ∧ 0 ≤ sa ps ∧ 0 ≤ sb ps := by
  induction ps with
  | nil => simp [done, run, sa, sb]
  | cons p ps ih =>
    have h0 := hp p (by simp)
    have hps : Pos ps := fun q hq => hp q (by simp [hq])
    have := ih hps
    rw [done_cons p ps h0 hps]; simp [sa, sb]; omega
end Go.Proofs.YtpaoiaogcckibaaDoor
