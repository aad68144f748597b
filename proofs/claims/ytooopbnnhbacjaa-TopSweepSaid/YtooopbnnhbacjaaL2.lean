/-
  graph.Back in plain Lean.
-/
import Derived.Test.YtooopbnnhbacjaaL1
import Derived.Test.YtooopbnnhbacjaaSkXA
namespace Go.Proofs.Ytooopbnnhbacjaa
open Go Go.Ab
set_option linter.unusedSimpArgs false
set_option linter.unusedVariables false

theorem back_eq {l : List ApiEdge} (hl : l.length ≤ 100000) (f : List Int) : graph_Back l f = graph_Reach (turn l) f := by
  unfold graph_Back slices_Clone_sapi_Edge_api_Edge
  rw [chk_ok (by omega), Option.bind_some]
  obtain ⟨s, h1, h2, h3⟩ := forIx_run (ρ := List Int) (step := graph_Back_b1) (l := l) (s := l) (fun k s => s.length = l.length ∧ ∀ i e, l[i]? = some e → s[i]? = some (if i < k then turnE e else e)) ⟨rfl, fun i e h => by simpa using h⟩ (fun k x s hk ⟨i1, i2⟩ => by
    have hlt := (List.getElem?_eq_some_iff.1 hk).1
    have hx := i2 k x hk
    rw [if_neg (Nat.lt_irrefl k)] at hx
    refine ⟨(s.set k (ApiEdge.mk x.ID x.To x.To x.Cost)).set k (turnE x), ?_, by simp [i1], fun i e he => ?_⟩
    · unfold graph_Back_b1
      rw [idxL_nat hx, Option.bind_some]; rfl
    · rw [List.set_set]
      by_cases h : k = i
      · subst h
        rw [hk] at he; obtain rfl := Option.some.inj he
        rw [List.getElem?_set_self (by omega), if_pos (by omega)]
      · rw [List.getElem?_set_ne h, i2 i e he]
        by_cases h2 : i < k
        · rw [if_pos h2, if_pos (by omega)]
        · rw [if_neg h2, if_neg (by omega)])
  rw [h1]
  have : s = turn l := by
    apply List.ext_getElem?
    intro i
    unfold turn
    rw [List.getElem?_map]
    by_cases hi : i < l.length
    · have he := List.getElem?_eq_getElem hi
      rw [h3 i _ he, he, if_pos hi]; rfl
    · rw [List.getElem?_eq_none (by omega), List.getElem?_eq_none (by omega)]; rfl
  subst this
  show (graph_Reach (turn l) f).bind _ = _
  cases graph_Reach (turn l) f <;> rfl

end Go.Proofs.Ytooopbnnhbacjaa
