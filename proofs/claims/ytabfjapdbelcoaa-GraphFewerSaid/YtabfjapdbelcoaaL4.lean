/-
  graph.Without in plain Lean.
-/
import Derived.Test.YtabfjapdbelcoaaL3
import Derived.Test.YtabfjapdbelcoaaSkXA
namespace Go.Proofs.Ytabfjapdbelcoaa
open Go Go.Ab
set_option linter.unusedSimpArgs false
set_option linter.unusedVariables false

/-! ### Without -/
def wout (l : List ApiEdge) (ids : List Int) : List ApiEdge := l.filter fun e => !decide (e.ID ∈ ids)
theorem without_eq {l : List ApiEdge} (hl : l.length ≤ 100000) (ids : List Int) : graph_Without l ids = some (wout l ids) := by
  obtain ⟨m, h1, h2⟩ := forIx_run (ρ := List ApiEdge) (step := graph_Without_b3) (l := ids) (s := ([] : List (Int × Bool))) (fun k m => ∀ n, mget false m n = decide (n ∈ ids.take k)) (fun n => by simp [mget]) (fun k x m hk hI => by
    refine ⟨_, rfl, fun n => ?_⟩
    rw [mget_mset, take_succ_some hk, hI]
    by_cases h : x = n
    · simp [h]
    · have : ¬ n = x := fun e => h e.symm
      simp [h, this])
  rw [List.take_length] at h2
  unfold graph_Without
  rw [h1]
  show graph_Without_j1 l m = _
  unfold graph_Without_j1
  rw [forIx_collect (fun e => !decide (e.ID ∈ ids)) id (by omega) (fun k x s hx => by unfold graph_Without_b2; rw [h2]; rfl)]
  simp [Out.on, wout]
end Go.Proofs.Ytabfjapdbelcoaa
