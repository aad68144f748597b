/-
  The laws of layer 5 (graph) in plain Lean: each answers true.
-/
import Derived.Test.YtabfjapdbelcoaaL11
namespace Go.Proofs.Ytabfjapdbelcoaa
open Go Go.Ab
set_option linter.unusedSimpArgs false
set_option linter.unusedVariables false

theorem order_same {l : List ApiEdge} (hl : l.length ≤ 100000) {x : List Int × Int} (h : ref05_Order l = some x) : graph_Order l = some x := by
  obtain ⟨r, h1, h2⟩ := order_eq hl
  obtain ⟨r', h3, h4⟩ := rOrder_eq hl
  rw [h] at h3; obtain rfl := Option.some.inj h3
  rw [h1, h2.unique h4]
theorem shortest_same {l : List ApiEdge} (g : GC l) {f t : Int} {x : List Int × Int × Bool} (h : ref05_Shortest l f t = some x) : graph_Shortest l f t = some x := by
  obtain ⟨r, h1, h2⟩ := shortest_eq g f t
  obtain ⟨r', h3, h4⟩ := rShortest_eq g f t
  rw [h] at h3; obtain rfl := Option.some.inj h3
  rw [h1, h2.unique h4]
theorem reach_same {l : List ApiEdge} {f x : List Int} (hl : l.length ≤ 100000) (hf : f.length ≤ 100000) (hE : ∀ e ∈ l, I64 e.To) (hF : ∀ n ∈ f, I64 n) (h : ref05_Reach l f = some x) : graph_Reach l f = some x := by
  obtain ⟨r, h1, h2⟩ := reach_eq hl hf hE hF
  obtain ⟨r', h3, h4⟩ := rReach_eq hl hf
  rw [h] at h3; obtain rfl := Option.some.inj h3
  rw [h1, h2.unique h4]
theorem back_same {l : List ApiEdge} {f x : List Int} (hl : l.length ≤ 100000) (hf : f.length ≤ 100000) (hE : ∀ e ∈ l, I64 e.From) (hF : ∀ n ∈ f, I64 n) (h : ref05_Back l f = some x) : graph_Back l f = some x := by
  rw [back_eq hl]
  obtain ⟨r, h1, h2⟩ := reach_eq (l := turn l) (by simpa [turn] using hl) hf (fun e he => hE _ (mem_turn.1 he)) hF
  obtain ⟨r', h3, h4⟩ := rBack_eq hl hf
  rw [h] at h3; obtain rfl := Option.some.inj h3
  rw [h1, h2.unique h4]
def sm : List ApiEdge := [⟨11, 1, 2, 5⟩, ⟨12, 2, 3, 5⟩, ⟨13, 1, 3, 10⟩, ⟨14, 3, 4, 1⟩, ⟨15, 5, 1, 0⟩]
theorem sm_gc : GC sm := ⟨by decide, by decide⟩
theorem alive05 : law05_alive = some true := by
  have h0 : law05_sample = some sm := rfl
  have i64a : ∀ e ∈ sm, I64 e.To := by unfold I64; decide
  have i64b : ∀ e ∈ sm, I64 e.From := by unfold I64; decide
  have h1 : graph_Order sm = some ([5, 1, 2, 3, 4], 0) := order_same (by decide) (by decide +kernel)
  have h2 : graph_Order (sm ++ [⟨16, 4, 2, 1⟩]) = some ([], 16) := order_same (by decide) (by decide +kernel)
  have h3 : graph_Shortest sm 1 4 = some ([13, 14], 11, true) := shortest_same sm_gc (by decide +kernel)
  have h4 : graph_Shortest sm 4 1 = some ([], 0, false) := shortest_same sm_gc (by decide +kernel)
  have h5 : graph_Without sm [13] = some [⟨11, 1, 2, 5⟩, ⟨12, 2, 3, 5⟩, ⟨14, 3, 4, 1⟩, ⟨15, 5, 1, 0⟩] := by decide +kernel
  have h6 : graph_Shortest [⟨11, 1, 2, 5⟩, ⟨12, 2, 3, 5⟩, ⟨14, 3, 4, 1⟩, ⟨15, 5, 1, 0⟩] 1 4 = some ([11, 12, 14], 11, true) := shortest_same ⟨by decide, by decide⟩ (by decide +kernel)
  have h7 : graph_Right sm = some 0 := by decide +kernel
  have h8 : idxL sm 0 = some ⟨11, 1, 2, 5⟩ := rfl
  have h9 : graph_Right (sm ++ [⟨11, 1, 2, 5⟩]) = some 7 := by decide +kernel
  have h10 : graph_Reach sm [2] = some [2, 3, 4] := reach_same (by decide) (by decide) i64a (by unfold I64; decide) (by decide +kernel)
  have h11 : graph_Back sm [2] = some [1, 2, 5] := back_same (by decide) (by decide) i64b (by unfold I64; decide) (by decide +kernel)
  have h12 : graph_Reach sm [9] = some [9] := reach_same (by decide) (by decide) i64a (by unfold I64; decide) (by decide +kernel)
  have h13 : sm.length = 5 := rfl
  simp [law05_alive, h0, h1, h2, h3, h4, h5, h6, h7, h8, h9, h10, h11, h12, h13, rSame_eq, chk]

theorem right_eq (l : List ApiEdge) : ∃ b, law05_right l = some b ∧ (b = true ↔ GraphOK l) := by
  obtain ⟨r, h1, h2⟩ := rright_err l
  refine ⟨decide (r = 0), by unfold law05_right; rw [h1]; rfl, ?_⟩
  rw [decide_eq_true_eq]; exact h2.zero
theorem GraphOK.gc {l : List ApiEdge} (g : GraphOK l) : GC l := ⟨by have := g.len; omega, fun e he => by have := g.edges e he; exact ⟨this.cost0, by have := this.cost1; omega⟩⟩
theorem GraphOK.to64 {l : List ApiEdge} (g : GraphOK l) : ∀ e ∈ l, I64 e.To := fun e he => by have h := g.edges e he; have := h.to0; have := h.to1; exact ⟨by omega, by omega⟩
theorem GraphOK.from64 {l : List ApiEdge} (g : GraphOK l) : ∀ e ∈ l, I64 e.From := fun e he => by have h := g.edges e he; have := h.from0; have := h.from1; exact ⟨by omega, by omega⟩
theorem GraphOK.reach {l : List ApiEdge} (g : GraphOK l) {f : List Int} (hf : f.length ≤ 100000) (hF : ∀ n ∈ f, I64 n) : ∃ r, graph_Reach l f = some r ∧ RchList l f r := reach_eq (by have := g.len; omega) hf g.to64 hF
theorem GraphOK.back {l : List ApiEdge} (g : GraphOK l) {f : List Int} (hf : f.length ≤ 100000) (hF : ∀ n ∈ f, I64 n) : ∃ r, graph_Back l f = some r ∧ RchList (turn l) f r := by
  rw [back_eq (by have := g.len; omega)]
  exact reach_eq (by have := g.len; simp [turn]; omega) hf (fun e he => g.from64 _ (mem_turn.1 he)) hF

theorem law05_GraphRights_true (l : List ApiEdge) (h : OkL OkApiEdge l) : law05_GraphRights l = some true := by
  obtain ⟨r, h1, h2⟩ := gright_err l
  obtain ⟨r', h3, h4⟩ := rright_err l
  obtain rfl := h2.unique h4
  unfold law05_GraphRights
  rw [alive05, h1, h3]
  by_cases hl : (230 : Int) < ((l.length : Nat) : Int) <;> simp [hl]
theorem law05_GraphReaches_true (l : List ApiEdge) (n : List Int) (h : OkL OkApiEdge l) (hn : OkL I64 n) : law05_GraphReaches l n = some true := by
  obtain ⟨b, h1, h2⟩ := right_eq l
  unfold law05_GraphReaches
  rw [alive05, h1]
  simp only [Option.bind_some, Bool.not_true, cond_false]
  cases b with
  | false => rfl
  | true =>
    have g := h2.1 rfl
    have hl := g.len
    simp only [Bool.not_true, cond_false]
    by_cases h40 : (40 : Int) < ((n.length : Nat) : Int)
    · rw [decide_eq_true h40]; rfl
    · rw [decide_eq_false h40, cond_false]
      obtain ⟨r1, e1, f1⟩ := g.reach (f := n) (by omega) hn.2
      obtain ⟨r2, e2, f2⟩ := rReach_eq (l := l) (f := n) (by omega) (by omega)
      obtain ⟨r3, e3, f3⟩ := g.back (f := n) (by omega) hn.2
      obtain ⟨r4, e4, f4⟩ := rBack_eq (l := l) (f := n) (by omega) (by omega)
      obtain rfl := f1.unique f2
      obtain rfl := f3.unique f4
      simp [e1, e2, e3, e4, rSame_eq]
theorem law05_GraphOrders_true (l : List ApiEdge) (h : OkL OkApiEdge l) : law05_GraphOrders l = some true := by
  obtain ⟨b, h1, h2⟩ := right_eq l
  unfold law05_GraphOrders
  rw [alive05, h1]
  simp only [Option.bind_some, Bool.not_true, cond_false]
  cases b with
  | false => rfl
  | true =>
    have g := h2.1 rfl
    have hl := g.len
    obtain ⟨r1, e1, f1⟩ := order_eq (l := l) (by omega)
    obtain ⟨r2, e2, f2⟩ := rOrder_eq (l := l) (by omega)
    obtain rfl := f1.unique f2
    simp [e1, e2, rSame_eq]
theorem law05_GraphPaths_true (l : List ApiEdge) (f t : Int) (h : OkL OkApiEdge l) (hf : I64 f) (ht : I64 t) : law05_GraphPaths l f t = some true := by
  obtain ⟨b, h1, h2⟩ := right_eq l
  unfold law05_GraphPaths
  rw [alive05, h1]
  simp only [Option.bind_some, Bool.not_true, cond_false]
  cases b with
  | false => rfl
  | true =>
    have g := h2.1 rfl
    obtain ⟨r1, e1, f1⟩ := shortest_eq g.gc f t
    obtain ⟨r2, e2, f2⟩ := rShortest_eq g.gc f t
    obtain rfl := f1.unique f2
    simp [e1, e2, rSame_eq]

/-! ### walks by their IDs -/
theorem edge_eq (l : List ApiEdge) (id : Int) : (∃ e ∈ l, e.ID = id ∧ law05_edge l id = some (e, true)) ∨ ((∀ e ∈ l, e.ID ≠ id) ∧ law05_edge l id = some (⟨0, 0, 0, 0⟩, false)) := by
  unfold law05_edge
  rw [forIx_first (step := law05_edge_b1 id) (fun x => decide (x.ID = id)) (fun x => (x, true)) (fun k x hx => rfl)]
  cases h : l.find? fun x => decide (x.ID = id) with
  | some x => exact .inl ⟨x, List.mem_of_find?_eq_some h, by simpa using List.find?_some h, rfl⟩
  | none => exact .inr ⟨fun e he hh => by have := List.find?_eq_none.1 h e he; simp [hh] at this, rfl⟩
theorem walk_eq {l : List ApiEdge} (g : GC l) (hn : (l.map (·.ID)).Nodup) {ids : List Int} (hl : ids.length ≤ 1000) (f t : Int) :
    ∃ r, law05_walk l ids f t = some r ∧ ((∃ es m, Chain l f es m ∧ es.map (·.ID) = ids ∧ r = (ecost es, decide (m = t))) ∨ (r = (0, false) ∧ ∀ es m, Chain l f es m → es.map (·.ID) ≠ ids)) := by
  unfold law05_walk
  rcases forIx_inv (step := law05_walk_b1 l) (l := ids) (s := ((0 : Int), f)) (fun k s => ∃ es, Chain l f es s.2 ∧ es.map (·.ID) = ids.take k ∧ s.1 = ecost es) (fun r => r = (0, false) ∧ ∀ es m, Chain l f es m → es.map (·.ID) ≠ ids)
    ⟨[], rfl, by simp, rfl⟩ (fun k x s hk ⟨es, i1, i2, i3⟩ => by
      have hlt := (List.getElem?_eq_some_iff.1 hk).1
      have hx : ids[k] = x := (List.getElem?_eq_some_iff.1 hk).2
      -- what any other chain with these IDs does here
      have other : ∀ es' m, Chain l f es' m → es'.map (·.ID) = ids → ∃ e, e ∈ l ∧ e.ID = x ∧ e.From = s.2 := fun es' m hc he => by
        have hlen : es'.length = ids.length := by rw [← he, List.length_map]
        have e0 : es' = es'.take k ++ es'[k] :: es'.drop (k + 1) := by
          rw [← List.drop_eq_getElem_cons (by omega), List.take_append_drop]
        rw [e0] at hc
        obtain ⟨m', h1, h2, h3, h4⟩ := chain_app.1 hc
        have : es'.take k = es := ids_list_inj hn h1.mem i1.mem (by rw [i2, List.map_take, he])
        rw [this] at h1
        refine ⟨es'[k], h2, ?_, by rw [h3]; exact h1.det i1⟩
        have : (es'.map (·.ID))[k]? = some x := by rw [he]; exact hk
        rw [List.getElem?_map, List.getElem?_eq_getElem (by omega)] at this
        simpa using this
      have hb := ecost_bounds (M := 1000000000) fun e he => g.cost e (i1.mem e he)
      have hel : es.length ≤ 1000 := by
        have := congrArg List.length i2
        rw [List.length_map, List.length_take] at this; omega
      unfold law05_walk_b1
      rcases edge_eq l x with ⟨e, he, hid, h1⟩ | ⟨hno, h1⟩
      · rw [h1, Option.bind_some]
        simp only [Bool.not_true, cond_false]
        by_cases hf : e.From = s.2
        · have hc := g.cost e he
          rw [decide_eq_false (by simp [hf]), cond_false, i3, show IntKind.i64.wrap (ecost es + e.Cost) = ecost es + e.Cost by rw [wrap_i64] <;> omega]
          refine .inl ⟨_, rfl, es ++ [e], chain_app.2 ⟨_, i1, he, hf, rfl⟩, ?_, ?_⟩
          · rw [List.map_append, i2, take_succ_some hk, ← hid]; rfl
          · simp only; rw [ecost_app, ecost_cons, ecost_nil]; omega
        · rw [decide_eq_true (by simpa using hf), cond_true]
          refine .inr ⟨_, rfl, rfl, fun es' m hc he' => ?_⟩
          obtain ⟨e', g1, g2, g3⟩ := other es' m hc he'
          have := ids_inj hn g1 he (g2.trans hid.symm)
          subst this; exact hf g3
      · rw [h1, Option.bind_some]
        refine .inr ⟨_, rfl, rfl, fun es' m hc he' => ?_⟩
        obtain ⟨e', g1, g2, g3⟩ := other es' m hc he'
        exact hno e' g1 g2) with ⟨s, h1, es, h2, h3, h4⟩ | ⟨r, h1, h2⟩
  · rw [List.take_length] at h3
    rw [h1]
    exact ⟨_, rfl, .inl ⟨es, s.2, h2, h3, by rw [h4]⟩⟩
  · rw [h1]; exact ⟨r, rfl, .inr h2⟩
theorem law05_GraphShortest_true (l : List ApiEdge) (ends : Arr2Int) (other : List Int) (h : OkL OkApiEdge l) (he : OkArr2Int ends) (ho : OkL I64 other) : law05_GraphShortest l ends other = some true := by
  obtain ⟨b, h1, h2⟩ := right_eq l
  unfold law05_GraphShortest
  rw [alive05, h1]
  simp only [Option.bind_some, Bool.not_true, cond_false]
  cases b with
  | false => rfl
  | true =>
    have g := h2.1 rfl
    have gc := g.gc
    have hlen := g.len
    simp only [Bool.not_true, cond_false]
    by_cases h300 : (300 : Int) < ((other.length : Nat) : Int)
    · rw [decide_eq_true h300]; rfl
    rw [decide_eq_false h300, cond_false]
    obtain ⟨r3, e3, f3⟩ := shortest_eq gc ends.e0 ends.e1
    obtain ⟨r4, e4, f4⟩ := g.reach (f := [ends.e0]) (by simp) (by simpa using he.1)
    obtain ⟨r6, e6, f6⟩ := g.back (f := [ends.e1]) (by simp) (by simpa using he.2)
    rw [e3, Option.bind_some, e4, Option.bind_some, rHas_eq, Option.bind_some]
    have c4 : ends.e1 ∈ r4 ↔ ∃ es, Chain l ends.e0 es ends.e1 := by
      rw [f4.mem, rch_chain]
      constructor
      · rintro ⟨n, es, hn, hc⟩; simp at hn; subst hn; exact ⟨es, hc⟩
      · rintro ⟨es, hc⟩; exact ⟨_, es, by simp, hc⟩
    have c6 : ends.e0 ∈ r6 ↔ ∃ es, Chain l ends.e0 es ends.e1 := by
      rw [f6.mem, rch_chain]
      constructor
      · rintro ⟨n, es, hn, hc⟩; simp at hn; subst hn
        obtain ⟨es', h, _⟩ := chain_turn_iff.1 ⟨es, hc, rfl⟩
        exact ⟨es', h⟩
      · rintro ⟨es, hc⟩
        obtain ⟨es', h, _⟩ := chain_turn ⟨es, hc, rfl⟩
        exact ⟨_, es', by simp, h⟩
    cases f3 with
    | none hno =>
      have n4 : ends.e1 ∉ r4 := fun h => by obtain ⟨es, hc⟩ := c4.1 h; exact hno es hc
      have n6 : ends.e0 ∉ r6 := fun h => by obtain ⟨es, hc⟩ := c6.1 h; exact hno es hc
      obtain ⟨r8, e8, f8⟩ := walk_eq gc g.ids (ids := []) (by simp) ends.e0 ends.e1
      obtain ⟨r10, e10, f10⟩ := walk_eq gc g.ids (ids := other) (by omega) ends.e0 ends.e1
      have : r10.2 = false := by
        rcases f10 with ⟨es, m, k1, k2, rfl⟩ | ⟨rfl, _⟩
        · simp only; exact decide_eq_false fun hm => hno es (hm ▸ k1)
        · rfl
      simp [n4, n6, e6, rHas_eq, e8, e10, this]
    | @some p ids hb hp =>
      obtain ⟨es, k1, k2, k3⟩ := hp.walk hb (fun e he => (gc.cost e he).1)
      have n4 : ends.e1 ∈ r4 := c4.2 ⟨es, k1⟩
      have n6 : ends.e0 ∈ r6 := c6.2 ⟨es, k1⟩
      have hs := hb.short (fun e he => (gc.cost e he).1)
      have hlen1 : ids.length = p.2 := by rw [← k2, List.length_map, ← k3]; rfl
      obtain ⟨r8, e8, f8⟩ := walk_eq gc g.ids (ids := ids) (by omega) ends.e0 ends.e1
      have hr8 : r8 = (p.1, true) := by
        rcases f8 with ⟨es', m, q1, q2, rfl⟩ | ⟨_, hno⟩
        · have := ids_list_inj g.ids q1.mem k1.mem (q2.trans k2.symm)
          subst this
          rw [decide_eq_true (q1.det k1), ← k3]; rfl
        · exact absurd k2 (hno es _ k1)
      obtain ⟨r9, e9, f9⟩ := walk_eq gc g.ids (ids := other) (by omega) ends.e0 ends.e1
      subst hr8
      simp only [n4, n6, decide_true, bne_self_eq_false, cond_false, e6, Option.bind_some, rHas_eq, e8, cond_true, Bool.not_true, e9]
      rw [decide_eq_false (by simp)]
      simp only [cond_false]
      cases h9 : r9.2 with
      | false => rfl
      | true =>
        rcases f9 with ⟨es', m, q1, q2, rfl⟩ | ⟨rfl, _⟩
        · have hm : m = ends.e1 := of_decide_eq_true h9
          subst hm
          have := hb.least es' q1
          have hl2 : other.length = es'.length := by rw [← q2, List.length_map]
          unfold lexle cst at this
          simp only at this
          by_cases c1 : p.1 < ecost es'
          · simp [c1]
          · have c2 : p.1 = ecost es' := by omega
            simp only [Bool.not_true, cond_false]
            rw [decide_eq_false c1, decide_eq_true c2, cond_false, cond_true, decide_eq_true (by omega)]
        · cases h9

/-! ### Order, without the reference -/
structure Placed (l : List ApiEdge) (out : List Int) : Prop where
  nodup : out.Nodup
  node : ∀ x ∈ out, IsNode l x
  before : ∀ i x, out[i]? = some x → ∀ e ∈ l, e.To = x → e.From ∈ out.take i
theorem Placed.next {l : List ApiEdge} {out : List Int} (h : Placed l out) {x : Int} (hx : NextNode l out x) : Placed l (out ++ [x]) := by
  refine ⟨?_, fun y hy => ?_, fun i y hi e he ht => ?_⟩
  · rw [List.nodup_append]
    refine ⟨h.nodup, by simp, fun a ha b hb => ?_⟩
    simp at hb; subst hb
    exact fun e => hx.new (e ▸ ha)
  · rcases List.mem_append.1 hy with hy | hy
    · exact h.node y hy
    · simp at hy; subst hy; exact hx.node
  · by_cases hl : i < out.length
    · rw [List.getElem?_append_left hl] at hi
      rw [List.take_append_of_le_length (by omega)]
      exact h.before i y hi e he ht
    · have hil := (List.getElem?_eq_some_iff.1 hi).1
      simp at hil
      have : i = out.length := by omega
      subst this
      simp at hi
      subst hi
      rw [List.take_left]; exact hx.free e he ht
theorem OrdRes.placed {l : List ApiEdge} {out : List Int} {r : List Int × Int} (h : OrdRes l out r) (hp : Placed l out) :
    ∃ o, Placed l o ∧ ((r = (o, 0) ∧ ∀ n, IsNode l n → n ∈ o) ∨ (r = ([], 16) ∧ (¬ ∀ n, IsNode l n → n ∈ o) ∧ ∀ x, ¬ NextNode l o x)) := by
  induction h with
  | done hd => exact ⟨_, hp, .inl ⟨rfl, hd⟩⟩
  | stuck hn hs => exact ⟨_, hp, .inr ⟨rfl, hn, hs⟩⟩
  | step hx _ ih => exact ih (hp.next hx)
theorem Placed.rank {l : List ApiEdge} {o : List Int} (h : Placed l o) : ∀ {es : List ApiEdge} {n t : Int} {j : Nat}, Chain l n es t → o[j]? = some t → ∃ i : Nat, i ≤ j ∧ o[i]? = some n
  | [], n, t, j, hc, hj => ⟨j, Nat.le_refl _, by rw [hj, show n = t from hc]⟩
  | e :: es, n, t, j, hc, hj => by
    obtain ⟨i, h1, h2⟩ := Placed.rank h hc.2.2 hj
    obtain ⟨k, h3, h4⟩ := List.mem_take_iff_getElem.1 (h.before i e.To h2 e hc.1 rfl)
    exact ⟨k, by omega, by rw [← hc.2.1, ← h4]; exact List.getElem?_eq_getElem (by omega)⟩
theorem Placed.noLoop {l : List ApiEdge} {o : List Int} (h : Placed l o) (ha : ∀ n, IsNode l n → n ∈ o) {e : ApiEdge} (he : e ∈ l) : ¬ ∃ es, Chain l e.To es e.From := by
  rintro ⟨es, hc⟩
  obtain ⟨j, hj, hje⟩ := List.getElem_of_mem (ha e.From ⟨e, he, .inl rfl⟩)
  have hj' : o[j]? = some e.From := by rw [List.getElem?_eq_getElem hj, hje]
  obtain ⟨i, h1, h2⟩ := h.rank hc hj'
  obtain ⟨k, h3, h4⟩ := List.mem_take_iff_getElem.1 (h.before i e.To h2 e he rfl)
  have : k = j := nodup_idx h.nodup (h4.trans hje.symm)
  omega
theorem stuck_loop {l : List ApiEdge} {o : List Int} (hn : ¬ ∀ n, IsNode l n → n ∈ o) (hs : ∀ x, ¬ NextNode l o x) : ∃ e ∈ l, ∃ es, Chain l e.To es e.From := by
  obtain ⟨n, hn⟩ := Classical.not_forall.1 hn
  obtain ⟨hn, hno⟩ := Classical.not_imp.1 hn
  let L := (l.map (·.From) ++ l.map (·.To)).filter fun x => decide (x ∉ o) && decide (∀ e ∈ l, e.To = x → e.From ∈ o)
  have memL : ∀ x, x ∈ L ↔ (IsNode l x ∧ x ∉ o) ∧ ∀ e ∈ l, e.To = x → e.From ∈ o := by
    intro x
    simp only [L, List.mem_filter, List.mem_append, List.mem_map, Bool.and_eq_true, decide_eq_true_eq]
    constructor
    · rintro ⟨⟨e, he, rfl⟩ | ⟨e, he, rfl⟩, h, h'⟩
      · exact ⟨⟨⟨e, he, .inl rfl⟩, h⟩, h'⟩
      · exact ⟨⟨⟨e, he, .inr rfl⟩, h⟩, h'⟩
    · rintro ⟨⟨⟨e, he, rfl | rfl⟩, h⟩, h'⟩
      · exact ⟨.inl ⟨e, he, rfl⟩, h, h'⟩
      · exact ⟨.inr ⟨e, he, rfl⟩, h, h'⟩
  have hL : L = [] := Classical.byContradiction fun hne => by
    have minOf : ∀ (L : List Int), L ≠ [] → ∃ x ∈ L, ∀ y ∈ L, x ≤ y := by
      intro L
      induction L with
      | nil => intro h; exact absurd rfl h
      | cons a L ih =>
        intro _
        by_cases hL : L = []
        · subst hL; exact ⟨a, by simp, by simp⟩
        · obtain ⟨x, hx, hm⟩ := ih hL
          by_cases h : a ≤ x
          · refine ⟨a, by simp, fun y hy => ?_⟩
            rcases List.mem_cons.1 hy with rfl | hy
            · exact Int.le_refl _
            · have := hm y hy; omega
          · refine ⟨x, List.mem_cons_of_mem _ hx, fun y hy => ?_⟩
            rcases List.mem_cons.1 hy with rfl | hy
            · omega
            · exact hm y hy
    obtain ⟨x, hx, hm⟩ := minOf L hne
    obtain ⟨⟨h1, h2⟩, h3⟩ := (memL x).1 hx
    exact hs x ⟨h1, h2, h3, fun y y1 y2 y3 => hm y ((memL y).2 ⟨⟨y1, y2⟩, y3⟩)⟩
  have pre : ∀ x, IsNode l x → x ∉ o → ∃ e ∈ l, e.To = x ∧ e.From ∉ o := fun x h1 h2 => Classical.byContradiction fun hno => by
    have : x ∈ L := (memL x).2 ⟨⟨h1, h2⟩, fun e he ht => Classical.byContradiction fun hf => hno ⟨e, he, ht, hf⟩⟩
    rw [hL] at this; simp at this
  have back : ∀ k : Nat, ∃ (y : Int) (es : List ApiEdge), IsNode l y ∧ y ∉ o ∧ es.length = k ∧ ∃ t, Chain l y es t := by
    intro k
    induction k with
    | zero => exact ⟨n, [], hn, hno, rfl, n, rfl⟩
    | succ k ih =>
      obtain ⟨y, es, h1, h2, h3, t, h4⟩ := ih
      obtain ⟨e, he, ht, hf⟩ := pre y h1 h2
      exact ⟨e.From, e :: es, ⟨e, he, .inl rfl⟩, hf, by simp [h3], t, he, rfl, ht ▸ h4⟩
  obtain ⟨y, es, h1, h2, h3, t, h4⟩ := back (l.length + 1)
  have hnd : ¬ es.Nodup := fun hnd => by have := nodup_len hnd h4.mem; omega
  obtain ⟨a, e, b, d, rfl⟩ := dup_split hnd
  obtain ⟨m, g1, g2, g3, g4⟩ := chain_app.1 h4
  obtain ⟨m', g5, g6, g7, g8⟩ := chain_app.1 g4
  exact ⟨e, g2, b, g7 ▸ g5⟩
theorem place_at {o : List Int} (hn : o.Nodup) {i : Nat} {n : Int} (h : o[i]? = some n) : law05_place o n = some (i : Int) := by
  unfold law05_place
  rcases forIx_inv (step := law05_place_b1 n) (l := o) (s := ()) (fun k _ => ∀ j x, j < k → o[j]? = some x → x ≠ n) (fun r => ∃ k : Nat, o[k]? = some n ∧ r = (k : Int)) (fun j x h => by omega) (fun k x u hk hI => by
    unfold law05_place_b1
    by_cases e : x = n
    · rw [decide_eq_true e]; subst e; exact .inr ⟨_, rfl, k, hk, rfl⟩
    · rw [decide_eq_false e]
      refine .inl ⟨(), rfl, fun j y hj hy => ?_⟩
      by_cases hjk : j = k
      · subst hjk; rw [hk] at hy; obtain rfl := Option.some.inj hy; exact e
      · exact hI j y (by omega) hy) with ⟨_, _, h2⟩ | ⟨r, h1, k, h2, rfl⟩
  · exact absurd rfl (h2 i n (List.getElem?_eq_some_iff.1 h).1 h)
  · rw [h1]
    obtain ⟨h3, h4⟩ := List.getElem?_eq_some_iff.1 h
    obtain ⟨h5, h6⟩ := List.getElem?_eq_some_iff.1 h2
    have : k = i := nodup_idx hn (h6.trans h4.symm)
    rw [this]; rfl
theorem law05_GraphLater_true (l : List ApiEdge) (h : OkL OkApiEdge l) : law05_GraphLater l = some true := by
  obtain ⟨b, h1, h2⟩ := right_eq l
  unfold law05_GraphLater
  rw [alive05, h1]
  simp only [Option.bind_some, Bool.not_true, cond_false]
  cases b with
  | false => rfl
  | true =>
    have g := h2.1 rfl
    have hlen := g.len
    simp only [Bool.not_true, cond_false]
    by_cases h60 : (60 : Int) < ((l.length : Nat) : Int)
    · rw [decide_eq_true h60]; rfl
    rw [decide_eq_false h60, cond_false]
    obtain ⟨r, e1, f1⟩ := order_eq (l := l) (by omega)
    obtain ⟨o, hp, ho⟩ := f1.placed ⟨List.nodup_nil, by simp, by simp⟩
    rw [e1, Option.bind_some]
    obtain ⟨s, g1, g2⟩ := forIx_run (ρ := Bool) (step := law05_GraphLater_b5 l) (l := l) (s := false) (fun k s => s = true ↔ ∃ e ∈ l.take k, ∃ es, Chain l e.To es e.From) (by simp) (fun k e s hk hI => by
      have he := List.mem_of_getElem? hk
      unfold law05_GraphLater_b5
      cases s with
      | true =>
        refine ⟨true, rfl, fun _ => ?_, fun _ => rfl⟩
        obtain ⟨x, hx, hh⟩ := hI.1 rfl
        exact ⟨x, by rw [take_succ_some hk]; exact List.mem_append.2 (.inl hx), hh⟩
      | false =>
        obtain ⟨q, q1, q2⟩ := g.reach (f := [e.To]) (by simp) (by simpa using g.to64 e he)
        refine ⟨decide (e.From ∈ q), by rw [q1]; simp [rHas_eq], ?_⟩
        rw [decide_eq_true_eq, q2.mem, rch_chain, take_succ_some hk]
        constructor
        · rintro ⟨n, es, hn, hc⟩
          simp at hn; subst hn
          exact ⟨e, by simp, es, hc⟩
        · rintro ⟨x, hx, es, hc⟩
          rcases List.mem_append.1 hx with hx | hx
          · exact absurd (hI.2 ⟨x, hx, es, hc⟩) (by simp)
          · simp at hx; subst hx; exact ⟨_, es, by simp, hc⟩)
    rw [List.take_length] at g2
    rw [g1]
    show law05_GraphLater_j1 l r s = some true
    unfold law05_GraphLater_j1
    rcases ho with ⟨rfl, ha⟩ | ⟨rfl, hna, hst⟩
    · have hs : s = false := by
        cases s with
        | false => rfl
        | true => obtain ⟨e, he, hc⟩ := g2.1 rfl; exact absurd hc (hp.noLoop ha he)
      subst hs
      have hol : o.length ≤ 2 * l.length := by
        have := nodup_len hp.nodup (b := l.map (·.From) ++ l.map (·.To)) fun n hn => by
          obtain ⟨e, he, hh⟩ := hp.node n hn
          rcases hh with rfl | rfl
          · exact List.mem_append.2 (.inl (List.mem_map_of_mem he))
          · exact List.mem_append.2 (.inr (List.mem_map_of_mem he))
        simp at this; omega
      have w : IntKind.i64.wrap (2 * ((l.length : Nat) : Int)) = 2 * ((l.length : Nat) : Int) := by rw [wrap_i64] <;> omega
      simp only [ne_eq, not_true, decide_false, cond_false, w]
      rw [decide_eq_false (by omega), cond_false]
      have b4 : forIx (law05_GraphLater_b4 (o, 0)) 0 l () = some (.next ()) := by
        refine forIx_all.2 fun i e hi => ?_
        have he := List.mem_of_getElem? hi
        obtain ⟨j, hj, hje⟩ := List.getElem_of_mem (ha e.To ⟨e, he, .inr rfl⟩)
        have hj' : o[j]? = some e.To := by rw [List.getElem?_eq_getElem hj, hje]
        obtain ⟨k, h3, h4⟩ := List.mem_take_iff_getElem.1 (hp.before j e.To hj' e he rfl)
        have hk' : o[k]? = some e.From := by rw [List.getElem?_eq_getElem (by omega), h4]
        unfold law05_GraphLater_b4
        simp only
        rw [place_at hp.nodup hk', place_at hp.nodup hj', Option.bind_some, decide_eq_false (by omega), cond_false, Option.bind_some, Option.bind_some, decide_eq_false (by omega)]; rfl
      rw [b4]
      show law05_GraphLater_j2 (o, 0) = some true
      unfold law05_GraphLater_j2
      have b3 : forIx (law05_GraphLater_b3 (o, 0)) 0 o () = some (.next ()) := by
        refine forIx_all.2 fun i x hi => ?_
        unfold law05_GraphLater_b3
        simp only
        rw [place_at hp.nodup hi, Option.bind_some, decide_eq_false (by simp)]; rfl
      rw [b3]; rfl
    · have hs : s = true := g2.2 (stuck_loop hna hst)
      subst hs
      rfl

/-! ### turned round -/
theorem law05_GraphTurned_true (l : List ApiEdge) (a b : Int) (h : OkL OkApiEdge l) (ha : I64 a) (hb : I64 b) : law05_GraphTurned l a b = some true := by
  obtain ⟨bb, h1, h2⟩ := right_eq l
  unfold law05_GraphTurned
  rw [alive05, h1]
  simp only [Option.bind_some, Bool.not_true, cond_false]
  cases bb with
  | false => rfl
  | true =>
    have g := h2.1 rfl
    have gc := g.gc
    have hlen := g.len
    simp only [Bool.not_true, cond_false]
    rw [forIx_collect (step := law05_GraphTurned_b5) (fun _ => true) turnE (by omega) (fun k x s hx => rfl), List.filter_eq_self.2 (fun a _ => rfl)]
    show law05_GraphTurned_j1 l a b (turn l) = some true
    have gt : GC (turn l) := ⟨by have := gc.len; simpa [turn] using this, fun e he => gc.cost (turnE e) (mem_turn.1 he)⟩
    unfold law05_GraphTurned_j1
    obtain ⟨r6, e6, f6⟩ := shortest_eq gc a b
    obtain ⟨r7, e7, f7⟩ := shortest_eq gt b a
    have same : r6.2.1 = r7.2.1 ∧ r6.2.2 = r7.2.2 := by
      cases f6 with
      | none hno =>
        cases f7 with
        | none => exact ⟨rfl, rfl⟩
        | some kb =>
          obtain ⟨es, k1, _⟩ := kb.walk
          obtain ⟨es', k2, _⟩ := chain_turn_iff.1 ⟨es, k1, rfl⟩
          exact absurd k2 (hno es')
      | some kb =>
        cases f7 with
        | none hno =>
          obtain ⟨es, k1, _⟩ := kb.walk
          obtain ⟨es', k2, _⟩ := chain_turn ⟨es, k1, rfl⟩
          exact absurd k2 (hno es')
        | some kb' =>
          have := (best_turn kb).unique kb'
          exact ⟨by rw [this], rfl⟩
    have i2 : ∀ n ∈ [a, b], I64 n := by simp; exact ⟨ha, hb⟩
    have i3 : ∀ n ∈ [b, a, b], I64 n := by simp; exact ⟨hb, ha, hb⟩
    obtain ⟨r8, e8, f8⟩ := g.back (f := [a, b]) (by simp) i2
    obtain ⟨r9, e9, f9⟩ := reach_eq (l := turn l) (f := [b, a, b]) (by simp [turn]; omega) (by simp) (fun e he => g.from64 _ (mem_turn.1 he)) i3
    have e89 : r8 = r9 := inc_ext f8.inc f9.inc fun x => by
      rw [f8.mem, f9.mem]
      exact ⟨Rch.mono (fun _ h => h) (fun n h => by simp at h ⊢; rcases h with h | h; exact .inr (.inl h); exact .inl h), Rch.mono (fun _ h => h) (fun n h => by simp at h ⊢; rcases h with h | h | h; exact .inr h; exact .inl h; exact .inr h)⟩
    subst e89
    obtain ⟨r11, e11, f11⟩ := g.reach (f := [a]) (by simp) (by simpa using ha)
    obtain ⟨r12, e12, f12⟩ := g.reach (f := [b]) (by simp) (by simpa using hb)
    obtain ⟨r13, e13, f13⟩ := g.reach (f := [a, b]) (by simp) i2
    have hpw := List.pairwise_iff_getElem.1 f13.inc
    have part : ∀ x, Rch l (· ∈ [a, b]) x → Rch l (· ∈ [a]) x ∨ Rch l (· ∈ [b]) x := fun x hx => by
      induction hx with
      | base h =>
        simp at h
        rcases h with rfl | rfl
        · exact .inl (.base (by simp))
        · exact .inr (.base (by simp))
      | step he _ ih => exact ih.imp (.step he) (.step he)
    have hl13 : r13.length ≤ 100000 := by
      have := nodup_len f13.inc.nodup (b := [a, b] ++ l.map (·.To)) fun n hn => rch_bound ((f13.mem n).1 hn)
      simp at this; omega
    have b4 : forIx (law05_GraphTurned_b4 r11 r12 r13) 0 r13 () = some (.next ()) := by
      refine forIx_all.2 fun i x hi => ?_
      have hx := (f13.mem x).1 (List.mem_of_getElem? hi)
      obtain ⟨hlt, hxe⟩ := List.getElem?_eq_some_iff.1 hi
      unfold law05_GraphTurned_b4
      rw [Nat.zero_add, rHas_eq, rHas_eq, Option.bind_some]
      have tail : (bif (decide ((0 : Int) < ((i : Nat) : Int))) then (idxL r13 (IntKind.i64.wrap (((i : Nat) : Int) - (1 : Int)))).bind fun x_22 => (bif (decide (x ≤ x_22)) then some (Out.ret false) else some (Out.next ())) else some (Out.next ()) : Option (Out Unit Bool)) = some (.next ()) := by
        by_cases h0 : (0 : Int) < ((i : Nat) : Int)
        · have hlt' : i - 1 < r13.length := by omega
          rw [decide_eq_true h0, cond_true, wrap_pred (by omega) (by omega), idxL_lt hlt', Option.bind_some]
          have := hpw (i - 1) i hlt' hlt (by omega)
          rw [decide_eq_false (by omega)]; rfl
        · rw [decide_eq_false h0]; rfl
      by_cases h11 : x ∈ r11
      · rw [decide_eq_true h11]; exact tail
      · rw [decide_eq_false h11]
        have h12 : x ∈ r12 := by
          rcases part x hx with h | h
          · exact absurd ((f11.mem x).2 h) h11
          · exact (f12.mem x).2 h
        simp only [Bool.not_false, cond_true, Option.bind_some, h12, decide_true, Bool.not_true, cond_false]
        exact tail
    have b3 : forIx (law05_GraphTurned_b3 r13) 0 r11 () = some (.next ()) := by
      refine forIx_all.2 fun i x hi => ?_
      have hx := (f11.mem x).1 (List.mem_of_getElem? hi)
      have h13 : x ∈ r13 := (f13.mem x).2 (hx.mono (fun _ h => h) (fun n h => by simp at h ⊢; exact .inl h))
      unfold law05_GraphTurned_b3
      rw [rHas_eq, Option.bind_some, decide_eq_true h13]; rfl
    rw [e6, Option.bind_some, e7, Option.bind_some, same.1, same.2]
    simp only [ne_eq, not_true, decide_false, cond_false, bne_self_eq_false, e8, e9, e11, e12, e13, Option.bind_some, rSame_eq, decide_true, Bool.not_true, b4, Out.on]
    unfold law05_GraphTurned_j2
    rw [b3]; rfl
end Go.Proofs.Ytabfjapdbelcoaa
