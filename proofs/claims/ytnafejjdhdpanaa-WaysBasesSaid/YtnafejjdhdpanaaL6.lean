/-
  The reference of layer 5 in plain Lean: Nodes.
-/
import Derived.Test.YtnafejjdhdpanaaL5
import Derived.Test.YtnafejjdhdpanaaSkXA
namespace Go.Proofs.Ytnafejjdhdpanaa
open Go Go.Ab
set_option linter.unusedSimpArgs false
set_option linter.unusedVariables false

theorem rNodes_eq {l : List ApiEdge} (hl : l.length ≤ 100000) : ∃ r, ref05_Nodes l = some r ∧ Inc r ∧ (∀ n, n ∈ r ↔ IsNode l n) ∧ r.length ≤ 200000 := by
  have hlen : ∀ (o : List Int), Inc o → (∀ n ∈ o, IsNode l n) → o.length ≤ 200000 := fun o ho hn => by
    have := nodup_len ho.nodup (b := l.map (·.From) ++ l.map (·.To)) fun n h => by
      obtain ⟨e, he, h⟩ := hn n h
      rcases h with rfl | rfl
      · exact List.mem_append.2 (.inl (List.mem_map_of_mem he))
      · exact List.mem_append.2 (.inr (List.mem_map_of_mem he))
    simp at this; omega
  have sub : ∀ k n, IsNode (l.take k) n → IsNode l n := fun k n ⟨e, he, h⟩ => ⟨e, List.mem_of_mem_take he, h⟩
  obtain ⟨s, h1, h2, h3⟩ := forIx_run (ρ := List Int) (step := ref05_Nodes_b1) (l := l) (s := []) (fun k s => Inc s ∧ ∀ x, x ∈ s ↔ IsNode (l.take k) x) ⟨List.Pairwise.nil, by simp [IsNode]⟩ (fun k e s hk ⟨i1, i2⟩ => by
    have := hlen s i1 fun n hn => sub k n ((i2 n).1 hn)
    obtain ⟨r, g1, g2, g3⟩ := put_eq i1 (by omega) e.From
    have : r.length ≤ 200001 := by
      by_cases hh : e.From ∈ s
      · rw [put_in i1 g2 g3 hh]; omega
      · rw [put_out i1 g2 g3 hh]; omega
    obtain ⟨q, g4, g5, g6⟩ := put_eq g2 (by omega) e.To
    refine ⟨q, by unfold ref05_Nodes_b1; rw [g1, Option.bind_some, g4]; rfl, g5, fun y => ?_⟩
    rw [g6, g3, i2]
    unfold IsNode
    rw [take_succ_some hk]
    constructor
    · rintro ((⟨x, hx, h⟩ | h) | h)
      · exact ⟨x, List.mem_append.2 (.inl hx), h⟩
      · exact ⟨e, by simp, .inl h⟩
      · exact ⟨e, by simp, .inr h⟩
    · rintro ⟨x, hx, h⟩
      rcases List.mem_append.1 hx with hx | hx
      · exact .inl (.inl ⟨x, hx, h⟩)
      · simp at hx; subst hx
        rcases h with h | h
        · exact .inl (.inr h)
        · exact .inr h)
  rw [List.take_length] at h3
  exact ⟨s, by unfold ref05_Nodes; rw [h1]; rfl, h2, h3, hlen s h2 fun n hn => (h3 n).1 hn⟩
end Go.Proofs.Ytnafejjdhdpanaa
