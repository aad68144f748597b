/-
  The sweep's checks in plain Lean; who is home; the law of the whole.
-/
import Derived.Test.YtooopbnnhbacjaaL6
namespace Go.Proofs.Ytooopbnnhbacjaa
open Go Go.Ab
set_option linter.unusedSimpArgs false
set_option linter.unusedVariables false

/-! ### what the reference accepts -/
theorem rout_eq {m : ApiMap} {r : Int} (h : (runF m r).2 = true) : ref56_out m r = some (decide (toN m r ∈ m.Bases)) := by
  unfold ref56_out
  rw [rrun_eq, Option.bind_some, h, cond_true, rhas_eq]; rfl
theorem rbefore_eq (m : ApiMap) (a b : Int) : ∃ c, ref56_before m a b = some c ∧ (c = true → Bf m a b) := by
  unfold ref56_before
  rw [rrun_eq, rrun_eq, Option.bind_some, Option.bind_some]
  cases (runF m a).2 with
  | false => exact ⟨false, rfl, fun h => by cases h⟩
  | true =>
    cases (runF m b).2 with
    | false => exact ⟨false, rfl, fun h => by cases h⟩
    | true => exact ⟨_, rfl, fun h => of_decide_eq_true h⟩
theorem rleast_eq (m : ApiMap) (R : List Int) (r : Int) : ∃ j, ref56_least m R r = some j ∧ (0 ≤ j → ∃ q ∈ R, Bf m r q) := by
  unfold ref56_least
  rcases forIx_inv (step := ref56_least_b1 m r) (l := R) (s := ()) (fun _ _ => True) (fun j => 0 ≤ j → ∃ q ∈ R, Bf m r q) trivial (fun k x u hk _ => by
    unfold ref56_least_b1
    obtain ⟨c, h1, h2⟩ := rbefore_eq m r x
    rw [h1, Option.bind_some]
    cases c with
    | false => exact .inl ⟨(), rfl, trivial⟩
    | true => exact .inr ⟨_, rfl, fun _ => ⟨x, List.mem_of_getElem? hk, h2 rfl⟩⟩) with ⟨u, h1, _⟩ | ⟨j, h1, h2⟩
  · exact ⟨-1, by rw [h1]; rfl, fun h => by omega⟩
  · exact ⟨j, by rw [h1]; rfl, h2⟩
theorem rright_ok {m : ApiMap} {R : List Int} (hl : R.length ≤ 12) : ∃ e, ref56_Right m ⟨R, [], 0⟩ = some e ∧ (e = 0 → SwOK m R) := by
  unfold ref56_Right ref56_runs
  simp only
  rw [decide_eq_false (by omega), cond_false]
  rcases forIx_inv (step := ref56_runs_b3 m R) (l := R) (s := ()) (fun k _ => (∀ r ∈ R.take k, (runF m r).2 = true) ∧ ∀ (j : Nat) x y, j + 1 < k → R[j + 1]? = some x → R[j]? = some y → y < x) (fun e => e ≠ 0) ⟨by simp, fun j x y h => by omega⟩ (fun k x u hk ⟨i1, i2⟩ => by
    have hlt := (List.getElem?_eq_some_iff.1 hk).1
    have up : (runF m x).2 = true → ∀ r ∈ R.take (k + 1), (runF m r).2 = true := fun hx r hr => by
      rw [take_succ_some hk] at hr
      rcases List.mem_append.1 hr with hr | hr
      · exact i1 r hr
      · simp at hr; subst hr; exact hx
    unfold ref56_runs_b3
    rw [rrun_eq, Option.bind_some]
    cases hx : (runF m x).2 with
    | false => exact .inr ⟨8, rfl, by decide⟩
    | true =>
      rw [Bool.not_true, cond_false]
      by_cases h0 : 0 < k
      · have hp : R[k - 1]? = some (R[k - 1]'(by omega)) := List.getElem?_eq_getElem _
        generalize R[k - 1]'(by omega) = p at hp
        rw [decide_eq_true (by omega), cond_true, wrap_pred h0 (by omega), idxL_nat hp, Option.bind_some]
        by_cases hle : x ≤ p
        · rw [decide_eq_true hle]; exact .inr ⟨11, rfl, by decide⟩
        · rw [decide_eq_false hle]
          refine .inl ⟨(), rfl, up hx, fun j a b hj ha hb => ?_⟩
          by_cases e : j + 1 = k
          · subst e
            rw [hk] at ha; obtain rfl := Option.some.inj ha
            rw [show j + 1 - 1 = j by omega, hb] at hp
            obtain rfl := Option.some.inj hp
            omega
          · exact i2 j a b (by omega) ha hb
      · rw [decide_eq_false (by omega)]
        exact .inl ⟨(), rfl, up hx, fun j a b hj => by omega⟩) with ⟨u, h1, h2, h3⟩ | ⟨e, h1, h2⟩
  · rw [h1, Option.bind_some]
    show ∃ e, (ref56_runs_j1 m R).bind _ = some e ∧ _
    rw [List.take_length] at h2
    unfold ref56_runs_j1
    rcases forIx_inv (step := ref56_runs_b2 m R) (l := R) (s := ()) (fun k _ => ∀ r ∈ R.take k, toN m r ∈ m.Bases ∨ ∃ q ∈ R, Bf m r q) (fun e => e ≠ 0) (by simp) (fun k x u hk hI => by
      unfold ref56_runs_b2
      rw [rout_eq (h2 x (List.mem_of_getElem? hk)), Option.bind_some]
      have up : (toN m x ∈ m.Bases ∨ ∃ q ∈ R, Bf m x q) → ∀ r ∈ R.take (k + 1), toN m r ∈ m.Bases ∨ ∃ q ∈ R, Bf m r q := fun hx r hr => by
        rw [take_succ_some hk] at hr
        rcases List.mem_append.1 hr with hr | hr
        · exact hI r hr
        · simp at hr; subst hr; exact hx
      by_cases hb : toN m x ∈ m.Bases
      · rw [decide_eq_true hb]; exact .inl ⟨(), rfl, up (.inl hb)⟩
      · obtain ⟨j, j1, j2⟩ := rleast_eq m R x
        rw [decide_eq_false hb, Bool.not_false, cond_true, j1, Option.bind_some]
        by_cases hj : j < 0
        · rw [decide_eq_true hj]; exact .inr ⟨16, rfl, by decide⟩
        · rw [decide_eq_false hj]; exact .inl ⟨(), rfl, up (.inr (j2 (by omega)))⟩) with ⟨u, g1, g2⟩ | ⟨e, g1, g2⟩
    · rw [g1]
      rw [List.take_length] at g2
      refine ⟨0, rfl, fun _ => ⟨h2, fun k x y hx hy => h3 k x y ?_ hx hy, hl, g2⟩⟩
      exact (List.getElem?_eq_some_iff.1 hx).1
    · rw [g1]
      refine ⟨e, ?_, fun h => absurd h g2⟩
      show (bif decide (e ≠ 0) then some e else _) = some e
      rw [decide_eq_true g2]; rfl
  · rw [h1]
    refine ⟨e, ?_, fun h => absurd h h2⟩
    show (bif decide (e ≠ 0) then some e else _) = some e
    rw [decide_eq_true h2]; rfl

/-! ### what the program accepts -/
def runsOf (l : List ApiSwept) : List Int := l.map (·.Run)
structure SwL (m : ApiMap) (R : List Int) (sw : List ApiSwept) : Prop where
  each : ∀ (j : Nat) w, sw[j]? = some w → w.By = 1 ∧ 0 ≤ w.Found ∧ w.Found ≤ 1000 ∧ w.At = (j : Int) ∧ w.Run ∈ readyF m R (runsOf (sw.take j))
theorem SwL.dn {m : ApiMap} {R : List Int} {sw : List ApiSwept} (h : SwL m R sw) : Dn m R (runsOf sw) := by
  have key : ∀ k, k ≤ sw.length → Dn m R (runsOf (sw.take k)) := by
    intro k
    induction k with
    | zero => intro _; exact Dn.nil m R
    | succ k ih =>
      intro hk
      have hx : sw[k]? = some (sw[k]'(by omega)) := List.getElem?_eq_getElem _
      generalize sw[k]'(by omega) = w at hx
      have := (ih (by omega)).add (h.each k w hx).2.2.2.2
      rw [take_succ_some hx]
      unfold runsOf at *
      rw [List.map_append]; exact this
  have := key sw.length (Nat.le_refl _)
  rwa [List.take_length] at this
theorem SwL.add {m : ApiMap} {R : List Int} {sw : List ApiSwept} (h : SwL m R sw) {w : ApiSwept} (h1 : w.By = 1) (h2 : 0 ≤ w.Found ∧ w.Found ≤ 1000) (h3 : w.At = (sw.length : Int)) (h4 : w.Run ∈ readyF m R (runsOf sw)) : SwL m R (sw ++ [w]) := by
  refine ⟨fun j v hj => ?_⟩
  by_cases hlt : j < sw.length
  · rw [List.getElem?_append_left hlt] at hj
    have := h.each j v hj
    rw [List.take_append_of_le_length (by omega)]
    exact this
  · rw [List.getElem?_append_right (by omega)] at hj
    have hj0 : j - sw.length = 0 := by
      have := (List.getElem?_eq_some_iff.1 hj).1
      simp at this; omega
    rw [hj0] at hj
    simp at hj; subst hj
    have : j = sw.length := by omega
    subst this
    rw [List.take_left']
    · exact ⟨h1, h2.1, h2.2, h3, h4⟩
    · rfl
theorem sright_eq {m : ApiMap} {R : List Int} (S : SwOK m R) {sw : List ApiSwept} (h : SwL m R sw) : sweep_Right m ⟨R, sw, 0⟩ = some 0 := by
  have hl := S.len
  have hdl := h.dn.len
  have hsl : sw.length ≤ R.length := by unfold runsOf at hdl; rwa [List.length_map] at hdl
  unfold sweep_Right
  simp only
  rw [decide_eq_false (by omega), cond_false]
  have e1 : forIx (sweep_Right_b3 m ⟨R, sw, 0⟩) 0 R () = some (.next ()) := by
    refine forIx_all.2 fun k x hx => ?_
    rw [Nat.zero_add]
    unfold sweep_Right_b3
    have hlt := (List.getElem?_eq_some_iff.1 hx).1
    rw [run_eq, Option.bind_some, S.ex x (List.mem_of_getElem? hx), Bool.not_true, cond_false]
    by_cases h0 : 0 < k
    · have hp : R[k - 1]? = some (R[k - 1]'(by omega)) := List.getElem?_eq_getElem _
      generalize R[k - 1]'(by omega) = p at hp
      have := S.rise (k - 1) x p (by rw [show k - 1 + 1 = k by omega]; exact hx) hp
      rw [decide_eq_true (by omega), cond_true, wrap_pred h0 (by omega), idxL_nat hp, Option.bind_some, decide_eq_false (by omega)]; rfl
    · rw [decide_eq_false (by omega)]; rfl
  have e2 : forIx (sweep_Right_b2 m ⟨R, sw, 0⟩) 0 R () = some (.next ()) := by
    refine forIx_all.2 fun k x hx => ?_
    unfold sweep_Right_b2
    have hxm := List.mem_of_getElem? hx
    rw [run_eq, Option.bind_some, contains_eq, Option.bind_some]
    by_cases hb : (runF m x).1.To ∈ m.Bases
    · rw [decide_eq_true hb]; rfl
    · rw [decide_eq_false hb, Bool.not_false, cond_true]
      rcases below_eq (m := m) ⟨R, sw, 0⟩ x with ⟨j, q, g1, g2, g3⟩ | ⟨g1, g2⟩
      · rw [g1, Option.bind_some, decide_eq_false (by omega)]; rfl
      · exfalso
        rcases S.down x hxm with hd | ⟨q, hq, hbq⟩
        · exact hb hd
        · exact g2 q hq hbq
  rw [e1, Option.bind_some]
  show sweep_Right_j1 m ⟨R, sw, 0⟩ = _
  unfold sweep_Right_j1
  simp only
  rw [e2, Option.bind_some]
  simp only [Out.on]
  rw [decide_eq_false (by omega), cond_false, decide_eq_false (by omega), cond_false]
  unfold sweep_sweptRight
  obtain ⟨s', g1, g2⟩ := forIx_run (ρ := Int) (step := sweep_sweptRight_b1 m ⟨R, sw, 0⟩) (l := sw) (s := []) (fun k t => t = runsOf (sw.take k)) rfl (fun k w t hk hI => by
    have hlt := (List.getElem?_eq_some_iff.1 hk).1
    obtain ⟨w1, w2, w3, w4, w5⟩ := h.each k w hk
    obtain ⟨r1, r2, r3⟩ := ready_mem.1 w5
    have htl : t.length ≤ k := by rw [hI]; unfold runsOf; simp; omega
    refine ⟨t ++ [w.Run], ?_, by rw [hI, take_succ_some hk]; unfold runsOf; simp⟩
    unfold sweep_sweptRight_b1
    simp only
    rw [contains_eq, Option.bind_some, decide_eq_true r1, Bool.not_true, cond_false, contains_eq, Option.bind_some, hI, decide_eq_false r2, cond_false, decide_eq_false (show ¬ w.By < 1 by omega), cond_false, decide_eq_false (show ¬ 9999 < w.By by omega), cond_false,
      decide_eq_false (show ¬ w.Found < 0 by omega), cond_false, decide_eq_false (show ¬ 1000 < w.Found by omega), cond_false, decide_eq_false (show ¬ w.At < 0 by omega), cond_false, decide_eq_false (show ¬ 20000000 < w.At by omega), cond_false]
    have hlen : (runsOf (sw.take k)).length + 1 ≤ 549755813888 := by rw [← hI]; omega
    by_cases h0 : 0 < k
    · have hp : sw[k - 1]? = some (sw[k - 1]'(by omega)) := List.getElem?_eq_getElem _
      generalize sw[k - 1]'(by omega) = p at hp
      have := (h.each (k - 1) p hp).2.2.2.1
      rw [decide_eq_true (by omega), cond_true, wrap_pred h0 (by omega), idxL_nat hp, Option.bind_some, decide_eq_false (show ¬ w.At < p.At by omega), cond_false, possible_eq, Option.bind_some, decide_eq_true r3, Bool.not_true, cond_false, chk_ok hlen]
    · rw [decide_eq_false (by omega), cond_false, possible_eq, Option.bind_some, decide_eq_true r3, Bool.not_true, cond_false, chk_ok hlen])
  rw [g1]; rfl
theorem swept_eq {s : ApiSweep} (hl : s.Swept.length ≤ 100000) : sweep_swept s = some (runsOf s.Swept) := by
  unfold sweep_swept
  rw [forIx_collect (step := sweep_swept_b1) (fun _ => true) (fun w => w.Run) (by omega) (fun k x t hx => rfl), List.filter_eq_self.2 (fun _ _ => rfl)]; rfl
theorem snext_eq {m : ApiMap} {s : ApiSweep} (hr : s.Runs.length ≤ 100000) (hl : s.Swept.length ≤ 100000) : sweep_Next m s = some (readyF m s.Runs (runsOf s.Swept)) := by
  unfold sweep_Next
  rw [swept_eq hl, Option.bind_some, ready_eq hr]; rfl
theorem do_eq {m : ApiMap} {R : List Int} (S : SwOK m R) {sw : List ApiSwept} (h : SwL m R sw) {w : ApiSwept} (hw : SwL m R (sw ++ [w])) : sweep_Do m ⟨R, sw, 0⟩ [] w = some (⟨R, sw ++ [w], 0⟩, 0) := by
  have hl := S.len
  have hdl := h.dn.len
  have hsl : sw.length ≤ R.length := by unfold runsOf at hdl; rwa [List.length_map] at hdl
  unfold sweep_Do slices_Clone_sint_int slices_Clone_sapi_Swept_api_Swept
  rw [contains_eq, Option.bind_some, decide_eq_false (by simp), cond_false]
  simp only
  rw [chk_ok (by omega), Option.bind_some, chk_ok (by omega), Option.bind_some, chk_ok (by omega), sright_eq S hw]; rfl
theorem done_eq {s : ApiSweep} (hl : s.Swept.length ≤ 100000) (h : ∀ r ∈ s.Runs, r ∈ runsOf s.Swept) : sweep_Done s = some true := by
  unfold sweep_Done
  rw [swept_eq hl, Option.bind_some, all_loop (step := sweep_Done_b1 (runsOf s.Swept)) (fun _ => true) (fun k x hx => by
    unfold sweep_Done_b1
    rw [contains_eq, decide_eq_true (h x hx)]; rfl)]
  simp
theorem spush_eq {m : ApiMap} (M : MapOK m) {s : ApiSweep} (S : SwOK m s.Runs) {done left : List Int} {T gone : Int} (hT : 0 ≤ T ∧ T ≤ 1000000) (hD : Dn m s.Runs done) (hP : Ppl s.Runs done T left gone) {r : Int} (hr : r ∈ readyF m s.Runs done) :
    ∃ n l, sweep_Push m s left r = some (l, n, 0) ∧ 0 ≤ n ∧ n ≤ 1000000 ∧ Ppl s.Runs (done ++ [r]) T l (gone + n) := by
  obtain ⟨i, hi, hir⟩ := List.getElem_of_mem (ready_mem.1 hr).1
  have hi' : s.Runs[i]? = some r := by rw [List.getElem?_eq_getElem hi, hir]
  obtain ⟨n, l, p1, p2, p3, p4, p5⟩ := push_ok M S hT hD hP hi' hr
  refine ⟨n, l, ?_, p3, p4, p5⟩
  have hl := S.len
  have hll := hP.len
  have hs := hP.sum
  have hg := hP.pos
  unfold sweep_Push slices_Clone_sint_int
  rw [formed_eq hP.len (fun v hv => by have := hP.nn v hv; have := le_sum hP.nn v hv; omega), Option.bind_some, Bool.not_true, cond_false, index_at S.nodup hi', Option.bind_some, decide_eq_false (by omega), cond_false, chk_ok (by omega), Option.bind_some]
  unfold pushE at p1
  obtain ⟨a, a1, a2⟩ := bindE p1
  obtain ⟨b, b1, b2⟩ := bindE a2
  obtain ⟨c, c1, c2⟩ := bindE b2
  obtain ⟨d, d1, d2⟩ := bindE c2
  rw [a1, Option.bind_some, b1, Option.bind_some, c1, Option.bind_some, d1, Option.bind_some]
  cases d with
  | true =>
    have := Option.some.inj d2
    rw [Prod.mk.injEq] at this
    rw [cond_true, this.1, this.2]
  | false =>
    rw [cond_false] at d2 ⊢
    obtain ⟨e, e1, e2⟩ := bindE d2
    rw [e1, Option.bind_some]
    by_cases he : 0 ≤ e
    · rw [decide_eq_true he, cond_true] at e2 ⊢
      obtain ⟨f, f1, f2⟩ := bindE e2
      have := Option.some.inj f2
      rw [Prod.mk.injEq] at this
      rw [f1, Option.bind_some, ← this.1, this.2]
    · rw [decide_eq_false he, cond_false] at e2 ⊢
      have := Option.some.inj e2
      rw [Prod.mk.injEq] at this
      rw [← this.1, this.2]

/-! ### home -/
theorem home_all {m : ApiMap} (M : MapOK m) {R : List Int} (S : SwOK m R) : ∀ (n : Nat) (r : Int), r ∈ R → (alt m r).toNat ≤ n → HH m R (frN m r) := by
  have edge : ∀ r ∈ R, HH m R (toN m r) → HH m R (frN m r) := fun r hr h => by
    have hx := run_mem (S.ex r hr)
    have he : turnE (runE (runF m r).1) ∈ turn (downE m R) := mem_turn.2 (by
      rw [turnE_turnE]
      exact mem_downE.2 ⟨_, hx.1, by rw [hx.2]; exact hr, rfl⟩)
    exact Rch.step (e := turnE (runE (runF m r).1)) he h
  have pos : ∀ r ∈ R, 0 ≤ alt m r := fun r hr => by
    have h1 := (M.runs _ (run_mem (S.ex r hr)).1).2.2.1
    exact (M.nodes _ (nodeF_true h1).1).2.1
  intro n
  induction n with
  | zero =>
    intro r hr hn
    refine edge r hr ?_
    rcases S.down r hr with h | ⟨q, hq, hb⟩
    · exact .base h
    · have := bf_alt M S hr hb
      have := pos q hq
      omega
  | succ n ih =>
    intro r hr hn
    refine edge r hr ?_
    rcases S.down r hr with h | ⟨q, hq, hb⟩
    · exact .base h
    · have h1 := bf_alt M S hr hb
      have h2 := pos q hq
      rw [show toN m r = frN m q from hb]
      exact ih q hq (by omega)
end Go.Proofs.Ytooopbnnhbacjaa
