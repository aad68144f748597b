/-
  Flows and cuts in plain Lean: no flow is worth more than a cut, and a cut that is saturated is worth as much as the flow.
-/
import Derived.Test.YtacfmeobdobhhaaL1
namespace Go.Proofs.Ytacfmeobdobhhaa
open Go Go.Ab
set_option linter.unusedSimpArgs false
set_option linter.unusedVariables false

theorem sum_if {L : List Int} (h : L.Nodup) (a x : Int) : (L.map fun n => if a = n then x else 0).sum = if a ∈ L then x else 0 := by
  induction L with
  | nil => simp
  | cons b L ih =>
    rw [List.nodup_cons] at h
    rw [List.map_cons, List.sum_cons, ih h.2]
    by_cases e : a = b
    · subst e; simp [h.1]
    · simp [e]
theorem sum_sub (L : List Int) (g h : Int → Int) : (L.map fun n => g n - h n).sum = (L.map g).sum - (L.map h).sum := by
  induction L with
  | nil => simp
  | cons b L ih => simp only [List.map_cons, List.sum_cons, ih]; omega
theorem sum_add (L : List Int) (g h : Int → Int) : (L.map fun n => g n + h n).sum = (L.map g).sum + (L.map h).sum := by
  induction L with
  | nil => simp
  | cons b L ih => simp only [List.map_cons, List.sum_cons, ih]; omega
theorem sum_zero {L : List Int} {g : Int → Int} (h : ∀ n ∈ L, g n = 0) : (L.map g).sum = 0 := by
  induction L with
  | nil => simp
  | cons b L ih => rw [List.map_cons, List.sum_cons, h b (by simp), ih fun n hn => h n (List.mem_cons_of_mem _ hn)]; rfl

/-- what leads out of a set, less what leads into it -/
def acrossL (S : Int → Bool) : List ApiEdge → List Int → Int
  | e :: l, x :: f => ((if S e.From = true then x else 0) - (if S e.To = true then x else 0)) + acrossL S l f
  | _, _ => 0
/-- the capacity of the edges that lead out of a set -/
def capS (S : Int → Bool) : List ApiEdge → Int
  | e :: l => (if S e.From = true ∧ S e.To = false then e.Cost else 0) + capS S l
  | [] => 0

theorem sum_net {L : List Int} (h : L.Nodup) : ∀ (l : List ApiEdge) (f : List Int), (L.map fun n => netL l f n).sum = acrossL (fun n => decide (n ∈ L)) l f
  | [], f => by simp only [netL, acrossL]; exact sum_zero fun _ _ => rfl
  | e :: l, [] => by simp only [netL, acrossL]; exact sum_zero fun _ _ => rfl
  | e :: l, x :: f => by
    simp only [netL, acrossL]
    rw [sum_add, sum_net h l f]
    unfold con
    rw [sum_sub, sum_if h, sum_if h]
    simp only [decide_eq_true_eq]
theorem acrossL_congr {S T : Int → Bool} : ∀ (l : List ApiEdge) (f : List Int), (∀ e ∈ l, S e.From = T e.From ∧ S e.To = T e.To) → acrossL S l f = acrossL T l f
  | [], f, _ => by simp [acrossL]
  | e :: l, [], _ => by simp [acrossL]
  | e :: l, x :: f, h => by
    have := h e (by simp)
    simp only [acrossL, this.1, this.2, acrossL_congr l f fun e' he => h e' (List.mem_cons_of_mem _ he)]
theorem netL_none : ∀ (l : List ApiEdge) (f : List Int) (n : Int), (∀ e ∈ l, e.From ≠ n ∧ e.To ≠ n) → netL l f n = 0
  | [], f, n, _ => by simp [netL]
  | e :: l, [], n, _ => by simp [netL]
  | e :: l, x :: f, n, h => by
    have := h e (by simp)
    simp only [netL, con, if_neg this.1, if_neg this.2, netL_none l f n fun e' he => h e' (List.mem_cons_of_mem _ he)]; rfl
/-- the nodes of the edges, each once, and s -/
def nodesOf (l : List ApiEdge) (s : Int) : List Int := (s :: (l.map (·.From) ++ l.map (·.To))).eraseDups

theorem Flow.zero {l : List ApiEdge} {f : List Int} {s t : Int} (h : Flow l f s t) {n : Int} (h1 : n ≠ s) (h2 : n ≠ t) : netL l f n = 0 := by
  by_cases hn : ∃ e ∈ l, n = e.From ∨ n = e.To
  · obtain ⟨e, he, hn⟩ := hn
    exact h.bal e he n hn h1 h2
  · exact netL_none l f n fun e he => ⟨fun hh => hn ⟨e, he, .inl hh.symm⟩, fun hh => hn ⟨e, he, .inr hh.symm⟩⟩
theorem nodup_eraseDups (l : List Int) : l.eraseDups.Nodup := by
  induction hn : l.length using Nat.strongRecOn generalizing l with
  | ind n ih =>
    cases l with
    | nil => simp
    | cons a l =>
      rw [List.eraseDups_cons, List.nodup_cons]
      refine ⟨?_, ih _ ?_ _ rfl⟩
      · rw [List.mem_eraseDups]; simp
      · have := List.length_filter_le (fun b => !b == a) l
        simp only [List.length_cons] at hn
        omega
/-- the value of a flow is what crosses any set with s and without t -/
theorem Flow.across {l : List ApiEdge} {f : List Int} {s t : Int} (h : Flow l f s t) {S : Int → Bool} (hs : S s = true) (ht : S t = false) : netL l f s = acrossL S l f := by
  have hnd : ((nodesOf l s).filter S).Nodup := (nodup_eraseDups _).filter _
  have h1 := sum_net hnd l f
  have hmem : s ∈ (nodesOf l s).filter S := by
    rw [List.mem_filter]; exact ⟨by unfold nodesOf; rw [List.mem_eraseDups]; simp, hs⟩
  have h2 : ((nodesOf l s).filter S |>.map fun n => netL l f n).sum = netL l f s := by
    have e : (((nodesOf l s).filter S).map fun n => netL l f n) = ((nodesOf l s).filter S).map fun n => if s = n then netL l f s else 0 := by
      apply List.map_congr_left
      intro n hn
      have hS := (List.mem_filter.1 hn).2
      by_cases e : s = n
      · subst e; simp
      · rw [if_neg e]
        refine h.zero (fun e' => e e'.symm) (fun e' => ?_)
        rw [e', ht] at hS; cases hS
    rw [e, sum_if hnd, if_pos hmem]
  rw [← h2, h1]
  refine acrossL_congr l f fun e he => ?_
  have key : ∀ n, (n = e.From ∨ n = e.To) → decide (n ∈ (nodesOf l s).filter S) = S n := by
    intro n hn
    have hm : n ∈ nodesOf l s := by
      unfold nodesOf
      rw [List.mem_eraseDups]
      refine List.mem_cons_of_mem _ (List.mem_append.2 ?_)
      rcases hn with rfl | rfl
      · exact .inl (List.mem_map_of_mem he)
      · exact .inr (List.mem_map_of_mem he)
    rw [Bool.eq_iff_iff, decide_eq_true_eq, List.mem_filter]
    exact ⟨fun h => h.2, fun h => ⟨hm, h⟩⟩
  exact ⟨key _ (.inl rfl), key _ (.inr rfl)⟩

theorem Within.tail {e : ApiEdge} {l : List ApiEdge} {x : Int} {f : List Int} (h : Within (e :: l) (x :: f)) : Within l f ∧ 0 ≤ x ∧ x ≤ e.Cost :=
  ⟨⟨by simpa using h.len, fun k e' y he hy => h.rng (k + 1) e' y (by simpa using he) (by simpa using hy)⟩, h.rng 0 e x rfl rfl⟩
theorem across_le (S : Int → Bool) : ∀ {l : List ApiEdge} {f : List Int}, Within l f → acrossL S l f ≤ capS S l
  | [], [], _ => by simp [acrossL, capS]
  | [], _ :: _, h => by have := h.len; simp at this
  | _ :: _, [], h => by have := h.len; simp at this
  | e :: l, x :: f, h => by
    have ⟨ht, h0, h1⟩ := h.tail
    have ih := across_le S ht
    simp only [acrossL, capS]
    cases ha : S e.From <;> cases hb : S e.To <;> simp <;> omega
/-- no edge out of the set has room, none into it carries anything -/
def Saturated (S : Int → Bool) (l : List ApiEdge) (f : List Int) : Prop := ∀ (k : Nat) e x, l[k]? = some e → f[k]? = some x → (S e.From = true → S e.To = false → x = e.Cost) ∧ (S e.From = false → S e.To = true → x = 0)
theorem across_eq (S : Int → Bool) : ∀ {l : List ApiEdge} {f : List Int}, Within l f → Saturated S l f → acrossL S l f = capS S l
  | [], [], _, _ => by simp [acrossL, capS]
  | [], _ :: _, h, _ => by have := h.len; simp at this
  | _ :: _, [], h, _ => by have := h.len; simp at this
  | e :: l, x :: f, h, hs => by
    have ⟨ht, h0, h1⟩ := h.tail
    have ih := across_eq S ht fun k e' y he hy => hs (k + 1) e' y (by simpa using he) (by simpa using hy)
    have h2 := hs 0 e x rfl rfl
    simp only [acrossL, capS]
    cases ha : S e.From <;> cases hb : S e.To <;> simp [ha, hb] at h2 ⊢ <;> omega
theorem across_sat (S : Int → Bool) : ∀ {l : List ApiEdge} {f : List Int}, Within l f → acrossL S l f = capS S l → Saturated S l f
  | [], [], _, _ => fun k e x he => by simp at he
  | [], _ :: _, h, _ => by have := h.len; simp at this
  | _ :: _, [], h, _ => by have := h.len; simp at this
  | e :: l, x :: f, h, hs => by
    have ⟨ht, h0, h1⟩ := h.tail
    have hle := across_le S ht
    simp only [acrossL, capS] at hs
    have h2 : acrossL S l f = capS S l := by
      cases ha : S e.From <;> cases hb : S e.To <;> simp [ha, hb] at hs <;> omega
    have ih := across_sat S ht h2
    intro k e' y he hy
    match k, he, hy with
    | 0, he, hy =>
      simp at he hy
      subst he hy
      cases ha : S e.From <;> cases hb : S e.To <;> simp [ha, hb] at hs ⊢ <;> omega
    | k + 1, he, hy => exact ih k e' y (by simpa using he) (by simpa using hy)
theorem weak {l : List ApiEdge} {f : List Int} {s t : Int} (h : Flow l f s t) {S : Int → Bool} (hs : S s = true) (ht : S t = false) : netL l f s ≤ capS S l := by
  rw [h.across hs ht]; exact across_le S h.within
/-- Two flows, each with a saturated cut, are worth the same. -/
theorem max_same {l : List ApiEdge} {f g : List Int} {s t : Int} (hf : Flow l f s t) (hg : Flow l g s t) {S T : Int → Bool} (hs : S s = true) (ht : S t = false) (hs' : T s = true) (ht' : T t = false)
    (h1 : Saturated S l f) (h2 : Saturated T l g) : netL l f s = netL l g s := by
  have a : netL l f s = capS S l := by rw [hf.across hs ht]; exact across_eq S hf.within h1
  have b : netL l g s = capS T l := by rw [hg.across hs' ht']; exact across_eq T hg.within h2
  have c := weak hf hs' ht'
  have d := weak hg hs ht
  omega
end Go.Proofs.Ytacfmeobdobhhaa
