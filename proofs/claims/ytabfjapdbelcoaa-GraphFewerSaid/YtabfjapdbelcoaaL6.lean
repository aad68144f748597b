/-
  graph.Right in plain Lean.
-/
import Derived.Test.YtabfjapdbelcoaaL5
import Derived.Test.YtabfjapdbelcoaaSkX
namespace Go.Proofs.Ytabfjapdbelcoaa
open Go Go.Ab
set_option linter.unusedSimpArgs false
set_option linter.unusedVariables false

structure EdgeIn (e : ApiEdge) : Prop where
  from0 : 0 ≤ e.From
  from1 : e.From ≤ 9999
  to0 : 0 ≤ e.To
  to1 : e.To ≤ 9999
  cost0 : 0 ≤ e.Cost
  cost1 : e.Cost ≤ 1000000
theorem isNode_eq (n : Int) : graph_isNode n = some (decide (0 ≤ n ∧ n ≤ 9999)) := by
  unfold graph_isNode
  by_cases h : 0 ≤ n <;> simp [h]
theorem edgeIn_iff (e : ApiEdge) : EdgeIn e ↔ (0 ≤ e.From ∧ e.From ≤ 9999) ∧ (0 ≤ e.To ∧ e.To ≤ 9999) ∧ ¬ e.Cost < 0 ∧ ¬ 1000000 < e.Cost :=
  ⟨fun h => ⟨⟨h.from0, h.from1⟩, ⟨h.to0, h.to1⟩, by have := h.cost0; omega, by have := h.cost1; omega⟩, fun h => ⟨h.1.1, h.1.2, h.2.1.1, h.2.1.2, by omega, by omega⟩⟩
instance (e : ApiEdge) : Decidable (EdgeIn e) := decidable_of_iff _ (edgeIn_iff e).symm
theorem gright_b1 (k : Nat) (e : ApiEdge) (m : List (Int × Bool)) : graph_Right_b1 k e m = if EdgeIn e then (if mget false m e.ID = true then some (Out.ret 7) else some (Out.next (mset m e.ID true))) else some (Out.ret 2) := by
  unfold graph_Right_b1
  rw [isNode_eq, isNode_eq]
  simp only [Option.bind_some, edgeIn_iff]
  by_cases h1 : 0 ≤ e.From ∧ e.From ≤ 9999
  case neg => simp [h1]
  by_cases h2 : 0 ≤ e.To ∧ e.To ≤ 9999
  case neg => simp [h1, h2]
  by_cases h3 : e.Cost < 0
  case pos => simp [h1, h2, h3]
  by_cases h4 : 1000000 < e.Cost
  case pos => simp [h1, h2, h3, h4]
  rw [if_pos ⟨h1, h2, h3, h4⟩]
  cases h5 : mget false m e.ID <;> simp [h1, h2, h3, h4]
/-- what graph.Right accepts -/
structure GraphOK (l : List ApiEdge) : Prop where
  len : l.length ≤ 200
  edges : ∀ e ∈ l, EdgeIn e
  ids : (l.map (·.ID)).Nodup
/-- the first error of a list of edges; 0 if there is none -/
inductive GErr (l : List ApiEdge) : Int → Prop
  | long : 200 < l.length → GErr l 4
  | range (k : Nat) (e : ApiEdge) : l.length ≤ 200 → (∀ x ∈ l.take k, EdgeIn x) → ((l.take k).map (·.ID)).Nodup → l[k]? = some e → ¬ EdgeIn e → GErr l 2
  | twice (k : Nat) (e : ApiEdge) : l.length ≤ 200 → (∀ x ∈ l.take k, EdgeIn x) → ((l.take k).map (·.ID)).Nodup → l[k]? = some e → EdgeIn e → e.ID ∈ (l.take k).map (·.ID) → GErr l 7
  | ok : GraphOK l → GErr l 0
theorem gright_err (l : List ApiEdge) : ∃ r, graph_Right l = some r ∧ GErr l r := by
  unfold graph_Right
  by_cases h : (200 : Int) < ((l.length : Nat) : Int)
  · rw [decide_eq_true h]; exact ⟨4, rfl, .long (by omega)⟩
  rw [decide_eq_false h, cond_false]
  have hl : l.length ≤ 200 := by omega
  rcases forIx_inv (step := graph_Right_b1) (l := l) (s := ([] : List (Int × Bool))) (fun k m => (∀ x ∈ l.take k, EdgeIn x) ∧ ((l.take k).map (·.ID)).Nodup ∧ ∀ n, mget false m n = true ↔ n ∈ (l.take k).map (·.ID)) (fun r => GErr l r) ⟨by simp, by simp, by simp [mget]⟩ (fun k e m hk ⟨i1, i2, i3⟩ => by
    rw [gright_b1]
    by_cases he : EdgeIn e
    · rw [if_pos he]
      by_cases hd : mget false m e.ID = true
      · rw [if_pos hd]; exact .inr ⟨7, rfl, .twice k e hl i1 i2 hk he ((i3 _).1 hd)⟩
      · rw [if_neg hd]
        refine .inl ⟨_, rfl, fun x hx => ?_, ?_, fun n => ?_⟩
        · rw [take_succ_some hk] at hx
          rcases List.mem_append.1 hx with hx | hx
          · exact i1 x hx
          · simp at hx; subst hx; exact he
        · rw [take_succ_some hk, List.map_append, List.nodup_append]
          refine ⟨i2, by simp, fun a ha b hb => ?_⟩
          simp at hb; subst hb
          exact fun e' => hd ((i3 _).2 (e' ▸ ha))
        · rw [mget_mset, take_succ_some hk, List.map_append, List.mem_append]
          by_cases hn : e.ID = n
          · simp [hn]
          · rw [if_neg hn, i3]
            exact ⟨.inl, fun h => h.elim id fun h => by simp at h; exact absurd h.symm hn⟩
    · rw [if_neg he]; exact .inr ⟨2, rfl, .range k e hl i1 i2 hk he⟩) with ⟨m, e, i1, i2, _⟩ | ⟨r, e, hr⟩
  · rw [e]
    rw [List.take_length] at i1 i2
    exact ⟨0, rfl, .ok ⟨hl, i1, i2⟩⟩
  · rw [e]; exact ⟨r, rfl, hr⟩
theorem GErr.zero {l : List ApiEdge} {r : Int} (h : GErr l r) : r = 0 ↔ GraphOK l := by
  cases h with
  | long h => exact ⟨fun e => by omega, fun g => by have := g.len; omega⟩
  | range k e h1 h2 h3 h4 h5 => exact ⟨fun e => by omega, fun g => absurd (g.edges e (List.mem_of_getElem? h4)) h5⟩
  | twice k e h1 h2 h3 h4 h5 h6 =>
    refine ⟨fun e => by omega, fun g => ?_⟩
    exfalso
    have := g.ids
    have hlt := (List.getElem?_eq_some_iff.1 h4).1
    rw [← List.take_append_drop k (l.map (·.ID)), List.nodup_append] at this
    refine this.2.2 e.ID (by rw [← List.map_take]; exact h6) e.ID ?_ rfl
    rw [← List.map_drop, List.drop_eq_getElem_cons hlt]
    have : l[k] = e := by rw [List.getElem?_eq_getElem hlt] at h4; exact Option.some.inj h4
    rw [this]; simp
  | ok g => exact ⟨fun _ => g, fun _ => rfl⟩
theorem gright_ok (l : List ApiEdge) : ∃ r, graph_Right l = some r ∧ (r = 0 ↔ GraphOK l) := by
  obtain ⟨r, h1, h2⟩ := gright_err l
  exact ⟨r, h1, h2.zero⟩
end Go.Proofs.Ytabfjapdbelcoaa
