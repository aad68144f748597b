/-
  FlowCut in plain Lean.
-/
import Derived.Test.YtacfmeobdobhhaaL8
namespace Go.Proofs.Ytacfmeobdobhhaa
open Go Go.Ab
set_option linter.unusedSimpArgs false
set_option linter.unusedVariables false

/-- what stands in the cut, from the place k on -/
def outP (S : Int → Bool) (e : ApiEdge) : Bool := S e.From && !S e.To
def cutE (S : Int → Bool) (l : List ApiEdge) : List ApiEdge := l.filter (outP S)
theorem outOf_get (S : Int → Bool) : ∀ (l : List ApiEdge) (k : Nat), (outOf S k l).Pairwise (· < ·) ∧ (∀ x ∈ outOf S k l, (k : Int) ≤ x ∧ x < ((k + l.length : Nat) : Int)) ∧ (outOf S k l).map (fun x : Int => l[(x - (k : Int)).toNat]?) = (cutE S l).map some
  | [], k => ⟨List.Pairwise.nil, by simp [outOf], by simp [outOf, cutE]⟩
  | e :: l, k => by
    obtain ⟨h1, h2, h3⟩ := outOf_get S l (k + 1)
    have h3' : (outOf S (k + 1) l).map (fun x : Int => (e :: l)[(x - (k : Int)).toNat]?) = (cutE S l).map some := by
      rw [← h3]
      refine List.map_congr_left fun x hx => ?_
      have := h2 x hx
      rw [show (x - (k : Int)).toNat = (x - ((k + 1 : Nat) : Int)).toNat + 1 by omega, List.getElem?_cons_succ]
    unfold outOf
    by_cases hc : S e.From = true ∧ S e.To = false
    · have hp : outP S e = true := by unfold outP; rw [hc.1, hc.2]; rfl
      rw [if_pos hc]
      refine ⟨?_, fun x hx => ?_, ?_⟩
      · show List.Pairwise _ ((k : Int) :: outOf S (k + 1) l)
        rw [List.pairwise_cons]
        exact ⟨fun x hx => by have := h2 x hx; omega, h1⟩
      · have hx : x ∈ (k : Int) :: outOf S (k + 1) l := hx
        rcases List.mem_cons.1 hx with rfl | hx
        · simp; omega
        · have := h2 x hx; simp only [List.length_cons]; omega
      · show List.map _ ((k : Int) :: outOf S (k + 1) l) = _
        rw [List.map_cons, h3']
        unfold cutE
        rw [List.filter_cons_of_pos hp]
        simp
    · have hp : ¬ outP S e = true := by
        intro h
        unfold outP at h
        rw [Bool.and_eq_true] at h
        exact hc ⟨h.1, by simpa using h.2⟩
      rw [if_neg hc]
      refine ⟨h1, fun x hx => ?_, ?_⟩
      · have hx : x ∈ outOf S (k + 1) l := hx
        have := h2 x hx; simp only [List.length_cons]; omega
      · show List.map _ (outOf S (k + 1) l) = _
        rw [h3']
        unfold cutE
        rw [List.filter_cons_of_neg hp]
theorem cutE_sum (S : Int → Bool) : ∀ l : List ApiEdge, ((cutE S l).map (·.Cost)).sum = capS S l
  | [] => rfl
  | e :: l => by
    have ih := cutE_sum S l
    rw [capS]
    unfold cutE at *
    by_cases hc : S e.From = true ∧ S e.To = false
    · have hp : outP S e = true := by unfold outP; rw [hc.1, hc.2]; rfl
      rw [List.filter_cons_of_pos hp, if_pos hc, List.map_cons, List.sum_cons, ih]
    · have hp : ¬ outP S e = true := by
        intro h
        unfold outP at h
        rw [Bool.and_eq_true] at h
        exact hc ⟨h.1, by simpa using h.2⟩
      rw [List.filter_cons_of_neg hp, if_neg hc, ih]; omega
theorem sum_bound {l : List ApiEdge} (h : ∀ e ∈ l, 0 ≤ e.Cost ∧ e.Cost ≤ 1000000) : 0 ≤ (l.map (·.Cost)).sum ∧ (l.map (·.Cost)).sum ≤ 1000000 * (l.length : Int) := by
  induction l with
  | nil => simp
  | cons e l ih =>
    have h1 := h e (by simp)
    have h2 := ih fun x hx => h x (List.mem_cons_of_mem _ hx)
    rw [List.map_cons, List.sum_cons, List.length_cons]; omega
theorem cut_loop {l : List ApiEdge} (hl : EdgesOK l) (S : Int → Bool) : forIx (law06_FlowCut_b3 l (outOf S 0 l)) 0 (outOf S 0 l) (0, []) = some (.next (capS S l, (cutE S l).map (·.ID))) := by
  obtain ⟨h1, h2, h3⟩ := outOf_get S l 0
  have h60 := hl.1
  have hcl : (cutE S l).length = (outOf S 0 l).length := by
    have := congrArg List.length h3
    simpa using this.symm
  have hce : (cutE S l).length ≤ 60 := Nat.le_trans (List.length_filter_le _ _) h60
  have hpw := List.pairwise_iff_getElem.1 h1
  obtain ⟨s, e1, e2, e3⟩ := forIx_run (ρ := Bool) (step := law06_FlowCut_b3 l (outOf S 0 l)) (l := outOf S 0 l) (s := ((0 : Int), [])) (fun k s => s.1 = (((cutE S l).take k).map (·.Cost)).sum ∧ s.2 = ((cutE S l).take k).map (·.ID)) (by simp) (fun k x s hk ⟨i1, i2⟩ => by
    have hlt := (List.getElem?_eq_some_iff.1 hk).1
    have hx := h2 x (List.mem_of_getElem? hk)
    have hxe : (outOf S 0 l)[k] = x := (List.getElem?_eq_some_iff.1 hk).2
    have hck : (cutE S l)[k]? = some (cutE S l)[k] := List.getElem?_eq_getElem (by omega)
    have hget : l[x.toNat]? = some (cutE S l)[k] := by
      have := congrArg (fun q => q[k]?) h3
      simp only [List.getElem?_map, hk, hck, Option.map_some] at this
      simpa using this
    have hidx : idxL l x = some (cutE S l)[k] := by unfold idxL; rw [if_pos (by omega)]; exact hget
    have hb := sum_bound (l := (cutE S l).take k) fun e he => by
      have := hl.2 e (List.mem_filter.1 (List.mem_of_mem_take he)).1
      exact ⟨this.cost0, this.cost1⟩
    have hbe : 0 ≤ (cutE S l)[k].Cost ∧ (cutE S l)[k].Cost ≤ 1000000 := by
      have := hl.2 _ (List.mem_filter.1 (List.getElem_mem (by omega : k < (cutE S l).length))).1
      exact ⟨this.cost0, this.cost1⟩
    have htl : ((cutE S l).take k).length ≤ 60 := by rw [List.length_take]; omega
    have hs2 : s.2.length ≤ 60 := by rw [i2, List.length_map]; omega
    have fin : ∃ s', (idxL l x).bind (fun x_22 => chk (s.2.length + 1) (some (Out.next ((IntKind.i64.wrap (s.1 + x_22.Cost)), (s.2 ++ [x_22.ID]))) : Option (Out (Int × List Int) Bool))) = some (.next s') ∧ s'.1 = (((cutE S l).take (k + 1)).map (·.Cost)).sum ∧ s'.2 = ((cutE S l).take (k + 1)).map (·.ID) := by
      rw [hidx, Option.bind_some, chk_ok (by omega)]
      refine ⟨_, rfl, ?_, ?_⟩
      · simp only
        rw [take_succ_some hck, List.map_append, List.sum_append, i1, wrap_i64 (by omega) (by omega)]; simp
      · simp only
        rw [take_succ_some hck, List.map_append, i2]; rfl
    unfold law06_FlowCut_b3
    rw [decide_eq_false (by omega), cond_false, decide_eq_false (by omega), cond_false]
    by_cases h0 : (0 : Int) < ((k : Nat) : Int)
    · have hlt' : k - 1 < (outOf S 0 l).length := by omega
      rw [decide_eq_true h0, cond_true, wrap_pred (by omega) (by omega), idxL_lt hlt', Option.bind_some]
      have := hpw (k - 1) k hlt' hlt (by omega)
      rw [decide_eq_false (by omega), cond_false]; exact fin
    · rw [decide_eq_false h0, cond_false]; exact fin)
  rw [e1, ← hcl] at *
  rw [List.take_length] at e2 e3
  rw [show s = (capS S l, (cutE S l).map (·.ID)) from Prod.ext (e2.trans (cutE_sum S l)) e3]
theorem law06_FlowCut_true (l : List ApiEdge) (s t : Int) (h : OkL OkApiEdge l) (hs : I64 s) (ht : I64 t) : law06_FlowCut l s t = some true := by
  obtain ⟨b, h1, h2⟩ := few_ok l
  unfold law06_FlowCut
  rw [alive06, h1]
  simp only [Option.bind_some, Bool.not_true, cond_false]
  cases b with
  | false => rfl
  | true =>
    have hl := h2 rfl
    have h60 := hl.1
    simp only [Bool.not_true, cond_false]
    by_cases hst : s = t
    · rw [decide_eq_true hst]; rfl
    rw [decide_eq_false hst, cond_false]
    obtain ⟨g, S, e1, hg, hS, e2⟩ := cut_eq hl hst
    rw [e2, Option.bind_some, cut_loop hl S]
    show law06_FlowCut_j1 l s t (capS S l) ((cutE S l).map (·.ID)) = some true
    obtain ⟨a1, S0, b1, b2, b3⟩ := hg
    have hSs : S s = true := (hS s).2 .start
    have hSt : S t = false := by
      cases e : S t with
      | false => rfl
      | true =>
        have := ((hS t).1 e).closed b1 (closed_of_sat b3)
        rw [b2] at this; cases this
    have hc : ∀ a b, S a = true → Res l g a b → S b = true := fun a b ha hr => (hS b).2 (.step ((hS a).1 ha) hr)
    have hsat := sat_of_closed a1.within hc
    have v1 : netL l g s = capS S l := by rw [a1.across hSs hSt]; exact across_eq S a1.within hsat
    have hw : (Gr.wout l ((cutE S l).map (·.ID))).length ≤ 60 := Nat.le_trans (List.length_filter_le _ _) h60
    obtain ⟨r, r1, r2⟩ := Gr.reach_eq (l := Gr.wout l ((cutE S l).map (·.ID))) (f := [s]) (by omega) (by simp) (fun e he => (h.2 e (List.mem_filter.1 he).1).2.2.1) (by simpa using hs)
    have inS : ∀ n, Gr.Rch (Gr.wout l ((cutE S l).map (·.ID))) (· ∈ [s]) n → S n = true := fun n hn => by
      induction hn with
      | base h => simp at h; subst h; exact hSs
      | @step e he _ ih =>
        have he := List.mem_filter.1 he
        cases hto : S e.To with
        | true => rfl
        | false =>
          have : e ∈ cutE S l := List.mem_filter.2 ⟨he.1, by unfold outP; rw [ih, hto]; rfl⟩
          have h3 : e.ID ∈ (cutE S l).map (·.ID) := List.mem_map.2 ⟨e, this, rfl⟩
          have h4 := he.2
          rw [decide_eq_true h3] at h4; cases h4
    unfold law06_FlowCut_j1
    rw [Gr.without_eq (by omega), Option.bind_some, r1, Option.bind_some]
    have b2' : forIx (law06_FlowCut_b2 t) 0 r () = some (.next ()) := forIx_all.2 fun i x hi => by
      have hx := inS x ((r2.mem x).1 (List.mem_of_getElem? hi))
      unfold law06_FlowCut_b2
      rw [decide_eq_false (fun e => by rw [e, hSt] at hx; cases hx)]; rfl
    rw [b2']
    obtain ⟨g', m1, m2, _⟩ := max_top hl hst
    rw [e1] at m1
    obtain rfl := Option.some.inj m1
    obtain ⟨c, _, h4, h5⟩ := valid_same hl g s t
    have hv : flow_Valid l g s t = some true := by
      rw [valid_eq hl, h4, h5.2 a1]
    simp [Out.on, e1, m2, v1, hv, value_eq hl a1.within]
end Go.Proofs.Ytacfmeobdobhhaa
