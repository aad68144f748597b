/-
  ways.Home in plain Lean: from which nodes a base is reached by listed runs.
-/
import Derived.Test.YtooopbnnhbacjaaL4
namespace Go.Proofs.Ytooopbnnhbacjaa
open Go Go.Ab
set_option linter.unusedSimpArgs false
set_option linter.unusedVariables false

theorem contains_eq (l : List Int) (v : Int) : slices_Contains_sint_int l v = some (decide (v ∈ l)) := by
  unfold slices_Contains_sint_int slices_Index_sint_int
  rcases forIx_inv (step := slices_Index_sint_int_b1 v) (l := l) (s := ()) (fun k _ => v ∉ l.take k) (fun r => v ∈ l ∧ 0 ≤ r) (by simp) (fun k x u hk hI => by
    unfold slices_Index_sint_int_b1
    by_cases e : v = x
    · rw [decide_eq_true e]; exact .inr ⟨_, rfl, e ▸ List.mem_of_getElem? hk, by omega⟩
    · rw [decide_eq_false e]
      refine .inl ⟨(), rfl, ?_⟩
      rw [take_succ_some hk]; simp [hI, e]) with ⟨u, h1, h2⟩ | ⟨r, h1, h2, h3⟩
  · rw [List.take_length] at h2
    rw [h1, decide_eq_false h2]; rfl
  · rw [h1, decide_eq_true h2]
    show some (decide (0 ≤ r)) = some true
    rw [decide_eq_true h3]
def runE (x : ApiRun) : ApiEdge := ⟨x.ID, x.From, x.To, x.Length⟩
def downE (m : ApiMap) (runs : List Int) : List ApiEdge := (m.Runs.filter fun x => decide (x.ID ∈ runs)).map runE
theorem mem_downE {m : ApiMap} {runs : List Int} {e : ApiEdge} : e ∈ downE m runs ↔ ∃ x ∈ m.Runs, x.ID ∈ runs ∧ runE x = e := by
  unfold downE
  simp only [List.mem_map, List.mem_filter, decide_eq_true_eq, and_assoc]
theorem node_in {m : ApiMap} (M : MapOK m) {n : Int} (h : (nodeF m n).2 = true) : 1 ≤ n ∧ n ≤ 9999 := by
  obtain ⟨h1, h2⟩ := nodeF_true h
  have := (M.nodes _ h1).1
  rw [h2] at this; exact this
theorem down_nodes {m : ApiMap} (M : MapOK m) {runs : List Int} {e : ApiEdge} (h : e ∈ downE m runs) : (nodeF m e.From).2 = true ∧ (nodeF m e.To).2 = true ∧ 10 ≤ e.Cost ∧ e.Cost ≤ 20000 := by
  obtain ⟨x, hx, _, rfl⟩ := mem_downE.1 h
  have := M.runs x hx
  exact ⟨this.2.2.1, this.2.1, this.1.2.2.2.2.1, this.1.2.2.2.2.2⟩
theorem down_len {m : ApiMap} (M : MapOK m) (runs : List Int) : (downE m runs).length ≤ 64 := by
  unfold downE; rw [List.length_map]; exact Nat.le_trans (List.length_filter_le _ _) M.lenR
theorem down_eq {m : ApiMap} (M : MapOK m) (runs : List Int) : terrain_Down m runs = some (downE m runs) := by
  have := M.lenR
  unfold terrain_Down
  rw [forIx_collect (fun x => decide (x.ID ∈ runs)) runE (by omega) (fun k x s hx => by unfold terrain_Down_b1; rw [contains_eq]; rfl)]; rfl
/-- the same edges, whatever their IDs and costs -/
def SameFT (a b : List ApiEdge) : Prop := a.map (fun e => (e.From, e.To)) = b.map (fun e => (e.From, e.To))
theorem SameFT.rch {a b : List ApiEdge} (h : SameFT a b) {S : Int → Prop} {n : Int} (hr : Rch a S n) : Rch b S n := by
  induction hr with
  | base h => exact .base h
  | @step e he _ ih =>
    have : (e.From, e.To) ∈ a.map fun e => (e.From, e.To) := List.mem_map.2 ⟨e, he, rfl⟩
    rw [h] at this
    obtain ⟨e', he', hh⟩ := List.mem_map.1 this
    rw [Prod.mk.injEq] at hh
    rw [← hh.2]
    exact .step he' (by rw [hh.1]; exact ih)
theorem SameFT.turn {a b : List ApiEdge} (h : SameFT a b) : SameFT (turn a) (turn b) := by
  unfold SameFT Proofs.Ytooopbnnhbacjaa.turn at *
  rw [List.map_map, List.map_map]
  have e : ∀ l : List ApiEdge, l.map ((fun e : ApiEdge => (e.From, e.To)) ∘ turnE) = (l.map fun e => (e.From, e.To)).map Prod.swap := fun l => by rw [List.map_map]; rfl
  rw [e, e, h]
theorem join_part (l s : List ApiEdge) (hl : s.length + l.length ≤ 100000) : ∃ s', forIx ways_join_b2 0 l s = some (.next s') ∧ SameFT s' (s ++ l) := by
  obtain ⟨s', h1, h2⟩ := forIx_run (ρ := Out (List ApiEdge) (List ApiEdge)) (step := ways_join_b2) (l := l) (s := s) (fun k t => SameFT t (s ++ l.take k)) (by simp [SameFT]) (fun k e t hk hI => by
    have hlt := (List.getElem?_eq_some_iff.1 hk).1
    have hlen := congrArg List.length hI
    simp at hlen
    refine ⟨_, by unfold ways_join_b2; rw [chk_ok (by omega)], ?_⟩
    unfold SameFT at *
    rw [take_succ_some hk, ← List.append_assoc, List.map_append, List.map_append, hI]; rfl)
  rw [List.take_length] at h2
  exact ⟨s', h1, h2⟩
theorem SameFT.len {a b : List ApiEdge} (h : SameFT a b) : a.length = b.length := by
  have := congrArg List.length h; simpa using this
theorem join1 {a : List ApiEdge} (ha : a.length ≤ 1000) : ∃ r, ways_join [a] = some r ∧ SameFT r a := by
  obtain ⟨s1, h1, h2⟩ := join_part a [] (by simp; omega)
  refine ⟨s1, ?_, by simpa using h2⟩
  unfold ways_join forIx ways_join_b1
  rw [h1]; rfl

def HH (m : ApiMap) (runs : List Int) (n : Int) : Prop := Rch (turn (downE m runs)) (· ∈ m.Bases) n
structure IncList (P : Int → Prop) (r : List Int) : Prop where
  inc : Inc r
  mem : ∀ n, n ∈ r ↔ P n
theorem IncList.unique {P : Int → Prop} {r r' : List Int} (h : IncList P r) (h' : IncList P r') : r = r' := inc_ext h.inc h'.inc fun n => by rw [h.mem, h'.mem]
theorem bases64 {m : ApiMap} (M : MapOK m) : ∀ n ∈ m.Bases, I64 n := fun n hn => by have := node_in M (M.bases n hn); exact ⟨by omega, by omega⟩
theorem home_eq {m : ApiMap} (M : MapOK m) (runs : List Int) : ∃ r, ways_Home m runs = some r ∧ IncList (HH m runs) r := by
  have hb := M.lenB
  have h2 := down_len M runs
  obtain ⟨j, e1, e2⟩ := join1 (a := downE m runs) (by omega)
  have hl := e2.len
  obtain ⟨r, e3, e4⟩ := reach_eq (l := turn j) (f := m.Bases) (by simp [turn]; omega) (by omega) (fun e he => by
    have he := mem_turn.1 he
    have : ((turnE e).From, (turnE e).To) ∈ j.map fun e => (e.From, e.To) := List.mem_map.2 ⟨_, he, rfl⟩
    rw [e2] at this
    obtain ⟨e', he', hh⟩ := List.mem_map.1 this
    rw [Prod.mk.injEq] at hh
    have : e.To = e'.From := hh.1.symm
    rw [this]
    have := node_in M (down_nodes M he').1; exact ⟨by omega, by omega⟩) (bases64 M)
  refine ⟨r, ?_, e4.inc, fun n => ?_⟩
  · unfold ways_Home
    rw [down_eq M, Option.bind_some, e1, Option.bind_some, back_eq (by omega), e3]; rfl
  · rw [e4.mem]; exact ⟨fun h => e2.turn.rch h, fun h => SameFT.rch e2.turn.symm h⟩
end Go.Proofs.Ytooopbnnhbacjaa
