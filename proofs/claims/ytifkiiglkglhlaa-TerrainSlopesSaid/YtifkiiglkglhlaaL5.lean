/-
  The law TerrainSlopes of layer 10 in plain Lean.
-/
import Derived.Test.YtifkiiglkglhlaaL4
namespace Go.Proofs.Ytifkiiglkglhlaa
open Go Go.Ab
set_option linter.unusedSimpArgs false
set_option linter.unusedVariables false

theorem all_eq (m : ApiMap) (hl : m.Runs.length ≤ 100000) : ref10_All m = some (m.Runs.map (·.ID)) := by
  unfold ref10_All
  rw [forIx_collect (ρ := List Int) (step := ref10_All_b1) (fun _ => true) (fun x : ApiRun => x.ID) (by omega) (fun k x s _ => rfl), List.filter_eq_self.2 (fun _ _ => rfl)]; rfl
theorem allLifts_eq (m : ApiMap) (hl : m.Lifts.length ≤ 100000) : ref10_AllLifts m = some (m.Lifts.map (·.ID)) := by
  unfold ref10_AllLifts
  rw [forIx_collect (ρ := List Int) (step := ref10_AllLifts_b1) (fun _ => true) (fun x : ApiLift => x.ID) (by omega) (fun k x s _ => rfl), List.filter_eq_self.2 (fun _ _ => rfl)]; rfl
/-- the edges lead down (up), each between two nodes of the map -/
def Slopes (m : ApiMap) (down : Bool) (e : ApiEdge) : Prop := (nodeF m e.From).2 = true ∧ (nodeF m e.To).2 = true ∧ if down = true then (nodeF m e.To).1.Alt < (nodeF m e.From).1.Alt else (nodeF m e.From).1.Alt < (nodeF m e.To).1.Alt
theorem sloped_true {m : ApiMap} {l : List ApiEdge} {down : Bool} (hg : GraphOK l) (hs : ∀ e ∈ l, Slopes m down e) : law10_sloped m l down = some true := by
  unfold law10_sloped
  obtain ⟨r, h1, h2⟩ := order_eq (l := l) (by have := hg.len; omega)
  obtain ⟨r', h3, h4⟩ := gright_ok l
  have hr : r.2 = 0 := by
    cases down with
    | true => exact h2.ranked (fun n => -(nodeF m n).1.Alt) fun e he => by have := (hs e he).2.2; simp only [if_true] at this; omega
    | false => exact h2.ranked (fun n => (nodeF m n).1.Alt) fun e he => by have := (hs e he).2.2; simpa using this
  rw [h1, Option.bind_some, h3, Option.bind_some, h4.2 hg, hr]
  have : forIx (law10_sloped_b1 m down) 0 l () = some (.next ()) := by
    rw [forIx_all]
    intro i e he
    obtain ⟨a, b, c⟩ := hs e (List.mem_of_getElem? he)
    unfold law10_sloped_b1
    rw [terrain_Node_eq, terrain_Node_eq]
    simp only [Option.bind_some, a, b]
    cases down with
    | true =>
      simp only [if_true] at c
      rw [decide_eq_false (show ¬ (nodeF m e.From).1.Alt = (nodeF m e.To).1.Alt by omega), decide_eq_true c]; rfl
    | false =>
      simp only [Bool.false_eq_true, if_false] at c
      rw [decide_eq_false (show ¬ (nodeF m e.From).1.Alt = (nodeF m e.To).1.Alt by omega), decide_eq_false (show ¬ (nodeF m e.To).1.Alt < (nodeF m e.From).1.Alt by omega)]; rfl
  rw [this]; rfl
theorem node_range {m : ApiMap} (h : MapOK m) {n : Int} (hn : (nodeF m n).2 = true) : 0 ≤ n ∧ n ≤ 9999 := by
  have h1 := nodeF_true hn
  have h2 := (h.nodes _ h1.1).1
  rw [h1.2] at h2
  omega
theorem law10_TerrainSlopes_true (m : ApiMap) (_ : OkApiMap m) : law10_TerrainSlopes m = some true := by
  unfold law10_TerrainSlopes
  rw [alive10, light_eq]
  simp only [Option.bind_some, Bool.not_true, cond_false]
  by_cases hl : m.Nodes.length ≤ 70 ∧ m.Lifts.length ≤ 70 ∧ m.Runs.length ≤ 70 ∧ m.Bases.length ≤ 70
  case neg => rw [decide_eq_false hl]; rfl
  rw [decide_eq_true hl]
  obtain ⟨r, h1, _, h2⟩ := right_ok m
  rw [h1]
  simp only [Option.bind_some, Bool.not_true, cond_false]
  by_cases hr : r = 0
  case neg => rw [decide_eq_true hr]; rfl
  have hm := h2.1 hr
  have lr := hm.lenR
  have ll := hm.lenL
  rw [decide_eq_false (by simp [hr]), cond_false, all_eq m (by omega), allLifts_eq m (by omega)]
  simp only [Option.bind_some]
  rw [down_eq m _ (by omega), up_eq m _ (by omega)]
  have fr : (m.Runs.filter fun x => decide (x.ID ∈ m.Runs.map (·.ID))) = m.Runs := List.filter_eq_self.2 fun x hx => decide_eq_true (List.mem_map_of_mem hx)
  have fl : (m.Lifts.filter fun x => decide (x.ID ∈ m.Lifts.map (·.ID))) = m.Lifts := List.filter_eq_self.2 fun x hx => decide_eq_true (List.mem_map_of_mem hx)
  rw [fr, fl]
  simp only [Option.bind_some, List.length_map, decide_true, cond_true]
  have s1 : law10_sloped m (m.Runs.map runEdge) true = some true := by
    refine sloped_true ⟨by simp; omega, fun e he => ?_, ?_⟩ fun e he => ?_
    · obtain ⟨x, hx, rfl⟩ := List.mem_map.1 he
      obtain ⟨n1, n2⟩ := hm.runs x hx
      have a := node_range hm n2.1
      have b := node_range hm n2.2.1
      have c := n1.2.2.2.2
      exact ⟨b.1, b.2, a.1, a.2, by show 0 ≤ x.Length; omega, by show x.Length ≤ 1000000; omega⟩
    · rw [List.map_map]
      refine List.Pairwise.imp (R := fun a b : Int => a < b) (fun h e => by omega) ?_
      rw [List.pairwise_map]
      exact rising_pairwise hm.runsR
    · obtain ⟨x, hx, rfl⟩ := List.mem_map.1 he
      obtain ⟨n1, n2⟩ := hm.runs x hx
      exact ⟨n2.2.1, n2.1, n2.2.2⟩
  have s2 : law10_sloped m (m.Lifts.map liftEdge) false = some true := by
    refine sloped_true ⟨by simp; omega, fun e he => ?_, ?_⟩ fun e he => ?_
    · obtain ⟨x, hx, rfl⟩ := List.mem_map.1 he
      obtain ⟨n1, n2, _⟩ := hm.lifts x hx
      have a := node_range hm n2.1
      have b := node_range hm n2.2.1
      have c := n1.2.2.1
      exact ⟨a.1, a.2, b.1, b.2, by show 0 ≤ x.Length; omega, by show x.Length ≤ 1000000; omega⟩
    · rw [List.map_map]
      refine List.Pairwise.imp (R := fun a b : Int => a < b) (fun h e => by omega) ?_
      rw [List.pairwise_map]
      exact rising_pairwise hm.liftsR
    · obtain ⟨x, hx, rfl⟩ := List.mem_map.1 he
      obtain ⟨n1, n2, _⟩ := hm.lifts x hx
      exact ⟨n2.1, n2.2.1, n2.2.2⟩
  rw [s1, s2]; rfl
end Go.Proofs.Ytifkiiglkglhlaa
