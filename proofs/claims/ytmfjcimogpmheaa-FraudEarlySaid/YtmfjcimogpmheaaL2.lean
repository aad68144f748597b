/-
  graph.Shortest in plain Lean.
-/
import Derived.Test.YtmfjcimogpmheaaL1
namespace Go.Proofs.Ytmfjcimogpmheaa
open Go Go.Ab
set_option linter.unusedSimpArgs false
set_option linter.unusedVariables false

/-- edges whose costs can be added up -/
structure GC (l : List ApiEdge) : Prop where
  len : l.length ≤ 1000
  cost : ∀ e ∈ l, 0 ≤ e.Cost ∧ e.Cost ≤ 1000000000
def tabM (m : List (Int × GraphLength)) : Tab := fun n => if mhas m n = true then some ((mget (GraphLength.mk 0 0) m n).cost, (mget (GraphLength.mk 0 0) m n).edges.toNat) else none
def WfM (m : List (Int × GraphLength)) : Prop := ∀ n, mhas m n = true → 0 ≤ (mget (GraphLength.mk 0 0) m n).edges
theorem tabM_mset (m : List (Int × GraphLength)) (k : Int) (v : GraphLength) : tabM (mset m k v) = fun n => if n = k then some (v.cost, v.edges.toNat) else tabM m n := by
  funext n
  unfold tabM
  rw [mhas_mset, mget_mset]
  by_cases h : k = n
  · subst h; simp
  · have : ¬ n = k := fun e => h e.symm
    simp [h, this]
theorem WfM.mset {m : List (Int × GraphLength)} (h : WfM m) (k : Int) {v : GraphLength} (hv : 0 ≤ v.edges) : WfM (mset m k v) := by
  intro n hn
  rw [mhas_mset] at hn
  rw [mget_mset]
  by_cases hk : k = n
  · rw [if_pos hk]; exact hv
  · rw [if_neg hk]; simp [hk] at hn; exact h n hn
theorem sound_bounds {l : List ApiEdge} (g : GC l) {t : Int} {T : Tab} {j : Nat} (h : Sound l t T j) {n : Int} {p : Int × Nat} (hp : T n = some p) : 0 ≤ p.1 ∧ p.1 ≤ 1000000000 * (j : Int) ∧ p.2 ≤ j := by
  obtain ⟨h1, es, h2, h3⟩ := h n p hp
  have := ecost_bounds (M := 1000000000) fun e he => g.cost e (h2.mem e he)
  subst h3
  simp only [cst] at h1 ⊢
  omega
theorem less_eq (a b : GraphLength) : graph_less a b = some (decide (a.cost < b.cost ∨ (a.cost = b.cost ∧ a.edges < b.edges))) := by
  unfold graph_less
  by_cases h1 : a.cost < b.cost
  · simp [h1]
  · by_cases h2 : a.cost = b.cost
    · simp [h1, h2]
    · simp [h1, h2]
theorem lengths_b2 {l : List ApiEdge} (g : GC l) {t : Int} {m : List (Int × GraphLength)} {j : Nat} (hs : Sound l t (tabM m) j) (hj : j ≤ 2000000) (hw : WfM m) {e : ApiEdge} (he : e ∈ l) (k : Nat) (c : Bool) :
    ∃ m', graph_lengths_b2 k e (c, m) = some (.next (c || upd (tabM m) e, m')) ∧ tabM m' = relax (tabM m) e ∧ WfM m' := by
  unfold graph_lengths_b2
  simp only
  have hce := g.cost e he
  cases h1 : mhas m e.To with
  | false =>
    have ht : tabM m e.To = none := by unfold tabM; rw [h1]; rfl
    have hu : upd (tabM m) e = false := by unfold upd; rw [ht]
    refine ⟨m, by rw [hu]; simp, (relax_no hu).symm, hw⟩
  | true =>
    let a := mget (GraphLength.mk 0 0) m e.To
    have ht : tabM m e.To = some (a.cost, a.edges.toNat) := by unfold tabM; rw [h1]; rfl
    have ha : 0 ≤ a.edges := hw _ h1
    have hb := sound_bounds g hs ht
    simp only at hb
    have w1 : IntKind.i64.wrap (a.cost + e.Cost) = a.cost + e.Cost := by rw [wrap_i64] <;> omega
    have w2 : IntKind.i64.wrap (a.edges + 1) = a.edges + 1 := by rw [wrap_i64] <;> omega
    have w1' : IntKind.i64.wrap ((mget (GraphLength.mk 0 0) m e.To).cost + e.Cost) = a.cost + e.Cost := w1
    have w2' : IntKind.i64.wrap ((mget (GraphLength.mk 0 0) m e.To).edges + 1) = a.edges + 1 := w2
    have hth : thru e (a.cost, a.edges.toNat) = (a.cost + e.Cost, (a.edges + 1).toNat) := by
      unfold thru; simp only; rw [Int.toNat_add ha (by omega)]; rfl
    have yes : btr (thru e (a.cost, a.edges.toNat)) (tabM m e.From) = true → tabM (mset m e.From (GraphLength.mk (a.cost + e.Cost) (a.edges + 1))) = relax (tabM m) e := fun hbt => by
      rw [relax_yes ht hbt, tabM_mset, hth]
    simp only [Bool.not_true, cond_false, w1', w2']
    cases h2 : mhas m e.From with
    | false =>
      have hf : tabM m e.From = none := by unfold tabM; rw [h2]; rfl
      have hbt : btr (thru e (a.cost, a.edges.toNat)) (tabM m e.From) = true := by rw [hf]; rfl
      have hu : upd (tabM m) e = true := by unfold upd; rw [ht]; exact hbt
      refine ⟨mset m e.From (GraphLength.mk (a.cost + e.Cost) (a.edges + 1)), by rw [hu]; simp, yes hbt, hw.mset _ (by simp only; omega)⟩
    | true =>
      let b := mget (GraphLength.mk 0 0) m e.From
      have hf : tabM m e.From = some (b.cost, b.edges.toNat) := by unfold tabM; rw [h2]; rfl
      have hb0 : 0 ≤ b.edges := hw _ h2
      rw [less_eq]
      simp only [Bool.not_true, cond_false, Option.bind_some]
      have hiff : btr (thru e (a.cost, a.edges.toNat)) (tabM m e.From) = decide (a.cost + e.Cost < b.cost ∨ (a.cost + e.Cost = b.cost ∧ a.edges + 1 < b.edges)) := by
        rw [hf, hth]
        show decide (lexlt _ _) = _
        rw [decide_eq_decide]
        unfold lexlt
        simp only
        omega
      by_cases hc : a.cost + e.Cost < b.cost ∨ (a.cost + e.Cost = b.cost ∧ a.edges + 1 < b.edges)
      · have hc' : decide (a.cost + e.Cost < (mget (GraphLength.mk 0 0) m e.From).cost ∨ (a.cost + e.Cost = (mget (GraphLength.mk 0 0) m e.From).cost ∧ a.edges + 1 < (mget (GraphLength.mk 0 0) m e.From).edges)) = true := decide_eq_true hc
        have hbt : btr (thru e (a.cost, a.edges.toNat)) (tabM m e.From) = true := by rw [hiff]; exact decide_eq_true hc
        have hu : upd (tabM m) e = true := by unfold upd; rw [ht]; exact hbt
        rw [hc']
        refine ⟨mset m e.From (GraphLength.mk (a.cost + e.Cost) (a.edges + 1)), by rw [hu]; simp, yes hbt, hw.mset _ (by simp only; omega)⟩
      · have hc' : decide (a.cost + e.Cost < (mget (GraphLength.mk 0 0) m e.From).cost ∨ (a.cost + e.Cost = (mget (GraphLength.mk 0 0) m e.From).cost ∧ a.edges + 1 < (mget (GraphLength.mk 0 0) m e.From).edges)) = false := decide_eq_false hc
        have hu : upd (tabM m) e = false := by unfold upd; rw [ht]; simp only; rw [hiff]; exact decide_eq_false hc
        rw [hc']
        refine ⟨m, by rw [hu]; simp, (relax_no hu).symm, hw⟩
theorem lengths_pass {l : List ApiEdge} (g : GC l) {t : Int} {m : List (Int × GraphLength)} {j : Nat} (hs : Sound l t (tabM m) j) (hj : j + l.length ≤ 2000000) (hw : WfM m) :
    ∃ c m', forIx graph_lengths_b2 0 l (false, m) = some (.next (c, m')) ∧ tabM m' = pass l (tabM m) ∧ WfM m' ∧ Sound l t (tabM m') (j + l.length) ∧ (c = false → tabM m' = tabM m ∧ ∀ e ∈ l, upd (tabM m) e = false) := by
  obtain ⟨s, h1, h2, h3, h4, h5⟩ := forIx_run (ρ := Out (List (Int × GraphLength)) (List (Int × GraphLength))) (step := graph_lengths_b2) (l := l) (s := (false, m)) (fun k s => tabM s.2 = (l.take k).foldl relax (tabM m) ∧ WfM s.2 ∧ Sound l t (tabM s.2) (j + k) ∧ (s.1 = false → tabM s.2 = tabM m ∧ ∀ e ∈ l.take k, upd (tabM m) e = false))
    ⟨rfl, hw, hs, fun _ => ⟨rfl, by simp⟩⟩ (fun k e s hk ⟨i1, i2, i3, i4⟩ => by
      obtain ⟨c, m1⟩ := s
      simp only at i1 i2 i3 i4
      have hlt := (List.getElem?_eq_some_iff.1 hk).1
      obtain ⟨m2, e1, e2, e3⟩ := lengths_b2 g i3 (by omega) i2 (List.mem_of_getElem? hk) k c
      refine ⟨_, e1, ?_, e3, ?_, fun hc => ?_⟩
      · simp only; rw [e2, i1, take_succ_some hk, List.foldl_append]; rfl
      · simp only; rw [e2]; exact i3.relax (List.mem_of_getElem? hk)
      · simp only [Bool.or_eq_false_iff] at hc
        obtain ⟨g1, g2⟩ := i4 hc.1
        simp only
        rw [e2, relax_no hc.2]
        refine ⟨g1, fun x hx => ?_⟩
        rw [take_succ_some hk] at hx
        rcases List.mem_append.1 hx with hx | hx
        · exact g2 x hx
        · simp at hx; subst hx; rw [← g1]; exact hc.2)
  rw [List.take_length] at h2 h5
  exact ⟨s.1, s.2, h1, h2, h3, h4, h5⟩
theorem lengths_eq {l : List ApiEdge} (g : GC l) (t : Int) : ∃ m, graph_lengths l t = some m ∧ Exact l t (tabM m) ∧ WfM m := by
  have h0 : ∀ e ∈ l, 0 ≤ e.Cost := fun e he => (g.cost e he).1
  have hl := g.len
  have t0 : tabM (mset [] t (GraphLength.mk 0 0)) = fun n => if n = t then some (0, 0) else none := by
    rw [tabM_mset]; rfl
  have s0 : Sound l t (tabM (mset [] t (GraphLength.mk 0 0))) (l.length * 0) := fun n p hp => by
    rw [t0] at hp
    by_cases hn : n = t
    · simp only [if_pos hn] at hp
      obtain rfl := Option.some.inj hp
      exact ⟨Nat.zero_le _, [], hn, rfl⟩
    · simp only [if_neg hn] at hp; cases hp
  have c0 : Cov l t (tabM (mset [] t (GraphLength.mk 0 0))) 0 := fun n es hc hl => by
    have : es = [] := List.length_eq_zero_iff.1 (by omega)
    subst this
    have hn : n = t := hc
    intro b hb
    obtain rfl := Option.some.inj hb
    exact ⟨(0, 0), by rw [t0]; exact if_pos hn, .refl _⟩
  have w0 : WfM (mset [] t (GraphLength.mk 0 0)) := WfM.mset (fun n hn => by simp [mhas] at hn) t (by simp)
  have hmul : ∀ k, k ≤ l.length → l.length * k ≤ 1000000 := fun k hk => by
    have := Nat.mul_le_mul hl (show k ≤ 1000 by omega); omega
  unfold graph_lengths
  rcases forIx_inv (step := graph_lengths_b1 l) (l := l) (s := mset [] t (GraphLength.mk 0 0)) (fun k m => WfM m ∧ Sound l t (tabM m) (l.length * k) ∧ Cov l t (tabM m) k) (fun m => Exact l t (tabM m) ∧ WfM m) ⟨w0, s0, c0⟩ (fun k e m hk ⟨i1, i2, i3⟩ => by
    have hlt := (List.getElem?_eq_some_iff.1 hk).1
    have := hmul k (by omega)
    obtain ⟨c, m', e1, e2, e3, e4, e5⟩ := lengths_pass g i2 (by omega) i1
    unfold graph_lengths_b1
    rw [e1]
    cases c with
    | false =>
      obtain ⟨g1, g2⟩ := e5 rfl
      refine .inr ⟨m', rfl, Exact.of e4 ?_, e3⟩
      rw [g1]
      have c1 : Cov l t (tabM m) 0 := fun n es hc hl => i3 n es hc (by omega)
      exact c1.closed g2
    | true =>
      refine .inl ⟨m', rfl, e3, by rw [Nat.mul_succ]; exact e4, by rw [e2]; exact i3.pass⟩) with ⟨m, e1, i1, i2, i3⟩ | ⟨m, e1, i1, i2⟩
  · rw [e1]; exact ⟨m, rfl, Exact.of i2 (i3.all h0 (Nat.le_refl _)), i1⟩
  · rw [e1]; exact ⟨m, rfl, i1, i2⟩

/-! ### the path -/
theorem tabM_some {m : List (Int × GraphLength)} (hw : WfM m) {n : Int} {p : Int × Nat} (h : tabM m n = some p) : mhas m n = true ∧ (mget (GraphLength.mk 0 0) m n).cost = p.1 ∧ (mget (GraphLength.mk 0 0) m n).edges = (p.2 : Int) := by
  unfold tabM at h
  by_cases hh : mhas m n = true
  · rw [if_pos hh] at h
    obtain rfl := Option.some.inj h
    exact ⟨hh, rfl, by simp only; have := hw n hh; omega⟩
  · rw [if_neg hh] at h; cases h
theorem tabM_none {m : List (Int × GraphLength)} {n : Int} (h : tabM m n = none) : mhas m n = false := by
  unfold tabM at h
  by_cases hh : mhas m n = true
  · rw [if_pos hh] at h; cases h
  · simpa using hh
theorem best_cost {l : List ApiEdge} (g : GC l) {t n : Int} {p : Int × Nat} (h : Best l t n p) : 0 ≤ p.1 ∧ p.1 ≤ 1000000000000 ∧ p.2 ≤ 1000 := by
  have hl := g.len
  have h1 := h.short fun e he => (g.cost e he).1
  obtain ⟨es, h2, h3⟩ := h.walk
  have := ecost_bounds (M := 1000000000) fun e he => g.cost e (h2.mem e he)
  subst h3
  simp only [cst] at h1 ⊢
  omega
theorem shortest_b2 {l : List ApiEdge} (g : GC l) {t : Int} {m : List (Int × GraphLength)} (hx : Exact l t (tabM m)) (hw : WfM m) {n : Int} {p : Int × Nat} (hb : Best l t n p) (ids : List Int) {k : Nat} {e : ApiEdge} (he : e ∈ l) :
    (Good l t n e ∧ graph_Shortest_b2 m n ids k e () = chk (ids.length + 1) (some (.ret (.next (e.To, ids ++ [e.ID]))))) ∨ (¬ Good l t n e ∧ graph_Shortest_b2 m n ids k e () = some (.next ())) := by
  have hce := g.cost e he
  obtain ⟨n1, n2, n3⟩ := tabM_some hw ((hx.best _ _).2 hb)
  have hk : decide (((k : Nat) : Int) < 0) = false := decide_eq_false (by omega)
  unfold graph_Shortest_b2
  cases ht : tabM m e.To with
  | none =>
    refine .inr ⟨fun hg => ?_, by rw [tabM_none ht]; rfl⟩
    obtain ⟨q, hq, _⟩ := hg.2.2
    rw [(hx.best _ _).2 hq] at ht; cases ht
  | some q =>
    obtain ⟨q1, q2, q3⟩ := tabM_some hw ht
    have hq := (hx.best _ _).1 ht
    have hqb := best_cost g hq
    have w1 : IntKind.i64.wrap ((mget (GraphLength.mk 0 0) m e.To).cost + e.Cost) = q.1 + e.Cost := by rw [q2, wrap_i64] <;> omega
    have w2 : IntKind.i64.wrap ((mget (GraphLength.mk 0 0) m e.To).edges + 1) = (q.2 : Int) + 1 := by rw [q3, wrap_i64] <;> omega
    rw [q1, w1, w2, n2, n3, hk]
    by_cases hf : e.From = n
    · by_cases h1 : p.1 = q.1 + e.Cost
      · by_cases h2 : (p.2 : Int) = (q.2 : Int) + 1
        · refine .inl ⟨⟨he, hf, q, hq, ?_⟩, ?_⟩
          · have : p = (q.1 + e.Cost, q.2 + 1) := Prod.ext h1 (by simp only; omega)
            rw [← this]; exact hb
          · rw [decide_eq_true hf, decide_eq_true h1, decide_eq_true h2]
            simp only [cond_true, cond_false, Bool.and_self]
            unfold chk
            split <;> rfl
        · refine .inr ⟨fun hg => ?_, by rw [decide_eq_true hf, decide_eq_true h1, decide_eq_false h2]; rfl⟩
          obtain ⟨q', hq', hb'⟩ := hg.2.2
          obtain rfl := hq.unique hq'
          have := hb.unique hb'
          rw [this] at h2; simp at h2
      · refine .inr ⟨fun hg => ?_, by rw [decide_eq_true hf, decide_eq_false h1]; rfl⟩
        obtain ⟨q', hq', hb'⟩ := hg.2.2
        obtain rfl := hq.unique hq'
        have := hb.unique hb'
        rw [this] at h1; simp at h1
    · exact .inr ⟨fun hg => hf hg.2.1, by rw [decide_eq_false hf]; rfl⟩
/-- Shortest answers what is said of it. -/
theorem shortest_eq {l : List ApiEdge} (g : GC l) (f t : Int) : ∃ r, graph_Shortest l f t = some r ∧ SpRes l f t r := by
  obtain ⟨m, hm, hx, hw⟩ := lengths_eq g t
  unfold graph_Shortest
  rw [hm, Option.bind_some]
  cases hf : tabM m f with
  | none =>
    rw [tabM_none hf]
    exact ⟨_, rfl, .none (hx.none hf)⟩
  | some p0 =>
    obtain ⟨f1, f2, f3⟩ := tabM_some hw hf
    have hb0 := (hx.best _ _).1 hf
    have hc0 := best_cost g hb0
    rw [f1]
    obtain ⟨r, h1, h2⟩ := whileN_inv (step := graph_Shortest_b1 l f t m) (fun s => ∃ p, Best l t s.1 p ∧ s.2.length + p.2 = p0.2 ∧ ∀ r, PathRes l t s.1 r → PathRes l t f (s.2 ++ r)) (fun r => SpRes l f t r)
      (fun s => match tabM m s.1 with | some p => p.2 | none => 0) (fun s ⟨p, i1, i2, i3⟩ => by
        obtain ⟨n, ids⟩ := s
        simp only at i1 i2 i3 ⊢
        unfold graph_Shortest_b1
        simp only
        by_cases hn : n = t
        · subst hn
          rw [decide_eq_false (by simp), cond_false, f2]
          refine .inr ⟨_, rfl, ?_⟩
          have := i3 [] .done
          rw [List.append_nil] at this
          exact .some hb0 this
        · rw [decide_eq_true hn, cond_true]
          rcases forIx_inv (step := graph_Shortest_b2 m n ids) (l := l) (s := ()) (fun k _ => ∀ j e', j < k → l[j]? = some e' → ¬ Good l t n e') (fun r => ∃ (i : Nat) (e : ApiEdge), l[i]? = some e ∧ Good l t n e ∧ (∀ j e', j < i → l[j]? = some e' → ¬ Good l t n e') ∧ r = Out.next (e.To, ids ++ [e.ID]))
            (fun j e' h => by omega) (fun k e u hk hI => by
              rcases shortest_b2 g hx hw i1 ids (k := k) (List.mem_of_getElem? hk) with ⟨h1, h2⟩ | ⟨h1, h2⟩
              · rw [h2, chk_ok (by omega)]
                exact .inr ⟨_, rfl, k, e, hk, h1, hI, rfl⟩
              · rw [h2]
                refine .inl ⟨(), rfl, fun j e' hj hje => ?_⟩
                by_cases h : j = k
                · subst h; rw [hk] at hje; obtain rfl := Option.some.inj hje; exact h1
                · exact hI j e' (by omega) hje) with ⟨_, _, h⟩ | ⟨r, h1, i, e, h2, h3, h4, rfl⟩
          · exfalso
            obtain ⟨e, he⟩ := i1.step hn
            obtain ⟨i, hi, rfl⟩ := List.getElem_of_mem he.1
            exact h i _ hi (List.getElem?_eq_getElem hi) he
          · rw [h1]
            obtain ⟨q, hq, hq2⟩ := h3.2.2
            have hpq := i1.unique hq2
            refine .inl ⟨_, rfl, ⟨q, hq, ?_, fun r hr => ?_⟩, ?_⟩
            · simp only [List.length_append, List.length_cons, List.length_nil]
              rw [hpq] at i2; simp only at i2; omega
            · have := i3 _ (.step hn h2 h3 h4 hr)
              simpa using this
            · simp only
              rw [(hx.best _ _).2 hq, (hx.best _ _).2 i1, hpq]; simp) fuel (f, []) ⟨p0, hb0, by simp, fun r h => by simpa using h⟩ (by simp only [hf]; show p0.2 < 1099511627776; omega)
    rw [h1]
    exact ⟨r, rfl, h2⟩
end Go.Proofs.Ytmfjcimogpmheaa
