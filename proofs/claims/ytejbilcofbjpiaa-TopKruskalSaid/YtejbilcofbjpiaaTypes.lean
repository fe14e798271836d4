/- The plain things that the laws speak of: a job, an edge. -/
namespace Go.Proofs.Ytejbilcofbjpiaa
structure Job where
  time : Int
  due : Int
  weight : Int
instance : Inhabited Job := ⟨⟨0, 0, 0⟩⟩
def InJob (x : Job) : Prop := (-9223372036854775808 ≤ x.time ∧ x.time ≤ 9223372036854775807) ∧ (-9223372036854775808 ≤ x.due ∧ x.due ≤ 9223372036854775807) ∧ (-9223372036854775808 ≤ x.weight ∧ x.weight ≤ 9223372036854775807)
structure Edge where
  a : Int
  b : Int
  weight : Int
instance : Inhabited Edge := ⟨⟨0, 0, 0⟩⟩
def InEdge (x : Edge) : Prop := (-9223372036854775808 ≤ x.a ∧ x.a ≤ 9223372036854775807) ∧ (-9223372036854775808 ≤ x.b ∧ x.b ≤ 9223372036854775807) ∧ (-9223372036854775808 ≤ x.weight ∧ x.weight ≤ 9223372036854775807)
end Go.Proofs.Ytejbilcofbjpiaa
