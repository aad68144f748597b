/-
  GraphFewer in plain Lean.
-/
import Derived.Test.YtabfjapdbelcoaaL12
namespace Go.Proofs.Ytabfjapdbelcoaa
open Go Go.Ab
set_option linter.unusedSimpArgs false
set_option linter.unusedVariables false

theorem GraphOK.wout {l : List ApiEdge} (g : GraphOK l) (ids : List Int) : GraphOK (wout l ids) := by
  refine ⟨Nat.le_trans (List.length_filter_le _ _) g.len, fun e he => g.edges e (List.mem_filter.1 he).1, ?_⟩
  exact g.ids.sublist (List.Sublist.map _ List.filter_sublist)
theorem law05_GraphFewer_true (l : List ApiEdge) (ids : List Int) (ends : Arr2Int) (h : OkL OkApiEdge l) (hi : OkL I64 ids) (he : OkArr2Int ends) : law05_GraphFewer l ids ends = some true := by
  obtain ⟨b, h1, h2⟩ := right_eq l
  unfold law05_GraphFewer
  rw [alive05, h1]
  simp only [Option.bind_some, Bool.not_true, cond_false]
  cases b with
  | false => rfl
  | true =>
    have g := h2.1 rfl
    have gw := g.wout ids
    have hlen := g.len
    simp only [Bool.not_true, cond_false]
    by_cases h60 : (60 : Int) < ((ids.length : Nat) : Int)
    · rw [decide_eq_true h60]; rfl
    rw [decide_eq_false h60, cond_false]
    have i2 : ∀ n ∈ [ends.e0, ends.e1], I64 n := by simp; exact he
    obtain ⟨r, e1, e2⟩ := gright_err (wout l ids)
    have hr : r = 0 := e2.zero.2 gw
    subst hr
    obtain ⟨a, f1, f2⟩ := gw.reach (f := [ends.e0, ends.e1]) (by simp) i2
    obtain ⟨c, f3, f4⟩ := g.reach (f := [ends.e0, ends.e1]) (by simp) i2
    obtain ⟨p, s1, s2⟩ := shortest_eq gw.gc ends.e0 ends.e1
    obtain ⟨q, s3, s4⟩ := shortest_eq g.gc ends.e0 ends.e1
    have sub : ∀ e ∈ wout l ids, e ∈ l := fun e he => (List.mem_filter.1 he).1
    have b1 : forIx (law05_GraphFewer_b1 c) 0 a () = some (.next ()) := forIx_all.2 fun i x hx => by
      have := (f2.mem x).1 (List.mem_of_getElem? hx)
      have hc : x ∈ c := (f4.mem x).2 (this.mono sub fun n h => h)
      unfold law05_GraphFewer_b1
      rw [rHas_eq, Option.bind_some, decide_eq_true hc]; rfl
    rw [without_eq (by omega), Option.bind_some, rWithout_eq (by omega), Option.bind_some, rSameEdges_eq, Option.bind_some]
    simp only [decide_true, Bool.not_true, cond_false, e1, Option.bind_some, ne_eq, not_true, decide_false, f1, f3, b1, Out.on, s1, s3]
    cases s2 with
    | none => rfl
    | @some pp ids1 hb hp =>
      obtain ⟨es, k1, k2⟩ := hb.walk
      cases s4 with
      | none hno => exact absurd (k1.mono sub) (hno es)
      | @some qq ids2 hb2 hp2 =>
        have := hb2.least es (k1.mono sub)
        rw [← k2] at this
        simp only [Bool.not_true, cond_false, cond_true]
        rw [decide_eq_true (by unfold lexle at this; omega)]
end Go.Proofs.Ytabfjapdbelcoaa
