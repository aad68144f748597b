/-
  Layer 6: the laws of the greatest flow, in plain Lean.
-/
import Derived.Test.YtacfmeobdobhhaaL6
namespace Go.Proofs.Ytacfmeobdobhhaa
open Go Go.Ab
set_option linter.unusedSimpArgs false
set_option linter.unusedVariables false

theorem Top.same {l : List ApiEdge} {s t : Int} {f g : List Int} (hf : Top l s t f) (hg : Top l s t g) : netL l f s = netL l g s := by
  obtain ⟨h1, S, h2, h3, h4⟩ := hf
  obtain ⟨h5, T, h6, h7, h8⟩ := hg
  exact max_same h1 h5 h2 h3 h6 h7 h4 h8
theorem law06_FlowMax_true (l : List ApiEdge) (s t : Int) (_ : OkL OkApiEdge l) (_ : I64 s) (_ : I64 t) : law06_FlowMax l s t = some true := by
  obtain ⟨b, h1, h2⟩ := few_ok l
  simp only [law06_FlowMax, alive06, h1, Option.bind_some]
  cases b with
  | false => rfl
  | true =>
    have hl := h2 rfl
    by_cases hst : s = t
    · subst hst
      rw [max_self hl]
      simp [ref06_Max]
    · obtain ⟨g, _, e1, g1⟩ := max_top hl hst
      obtain ⟨g', _, e2, g2⟩ := rmax_top hl hst
      rw [e1, e2]
      simp [g1.same g2]
theorem same_refl (a : List Int) : ref06_Same a a = some true := by
  unfold ref06_Same
  rw [decide_eq_false (by simp), cond_false]
  have : forIx (ref06_Same_b1 a) 0 a () = some (.next ()) := by
    rw [forIx_all]
    intro i x hx
    unfold ref06_Same_b1
    rw [Nat.zero_add, idxL_nat hx, Option.bind_some, decide_eq_false (by simp)]; rfl
  rw [this]; rfl
theorem law06_FlowFinds_true (l : List ApiEdge) (s t : Int) (_ : OkL OkApiEdge l) (_ : I64 s) (_ : I64 t) : law06_FlowFinds l s t = some true := by
  obtain ⟨b, h1, h2⟩ := few_ok l
  simp only [law06_FlowFinds, alive06, h1, Option.bind_some]
  cases b with
  | false => rfl
  | true =>
    have hl := h2 rfl
    have h60 := hl.1
    by_cases hst : s = t
    · subst hst
      rw [find_same hl]
      simp [chk_ok (show l.length ≤ 549755813888 by omega), same_refl]
    · obtain ⟨g, e0, _, g1⟩ := max_top hl hst
      obtain ⟨g', _, e2, g2⟩ := rmax_top hl hst
      obtain ⟨c, _, h4, h5⟩ := valid_same hl g s t
      rw [e0, e2]
      simp [hst, h4, h5.2 g1.1, ref06_Value, net_eq hl g1.1.within, g1.same g2]
/-- what is reached behind a greatest flow is the same for all of them -/
theorem Top.reach {l : List ApiEdge} {s t : Int} {f g : List Int} (hst : s ≠ t) (hf : Top l s t f) (hg : Top l s t g) {n : Int} (h : Rch l g s n) {S : Int → Bool} (hS : ∀ n, S n = true ↔ Rch l f s n) : S n = true := by
  obtain ⟨h1, S0, a1, a2, a3⟩ := hf
  have hs : S s = true := (hS s).2 .start
  have ht : S t = false := by
    cases e : S t with
    | false => rfl
    | true =>
      have := ((hS t).1 e).closed a1 (closed_of_sat a3)
      rw [a2] at this; cases this
  have hc : ∀ a b, S a = true → Res l f a b → S b = true := fun a b ha hr => (hS b).2 (.step ((hS a).1 ha) hr)
  have hsat := sat_of_closed h1.within hc
  have v1 : netL l f s = capS S l := by rw [h1.across hs ht]; exact across_eq S h1.within hsat
  have v2 : netL l f s = netL l g s := Top.same ⟨h1, S0, a1, a2, a3⟩ hg
  have v3 : acrossL S l g = capS S l := by rw [← hg.1.across hs ht, ← v2, v1]
  exact h.closed hs (closed_of_sat (across_sat S hg.1.within v3))
theorem law06_FlowCuts_true (l : List ApiEdge) (s t : Int) (_ : OkL OkApiEdge l) (_ : I64 s) (_ : I64 t) : law06_FlowCuts l s t = some true := by
  obtain ⟨b, h1, h2⟩ := few_ok l
  simp only [law06_FlowCuts, alive06, h1, Option.bind_some]
  cases b with
  | false => rfl
  | true =>
    have hl := h2 rfl
    by_cases hst : s = t
    · subst hst
      simp [flow_Cut, ref06_Cut, same_refl]
    · obtain ⟨f, S, _, hf, hS, e1⟩ := cut_eq hl hst
      obtain ⟨g, T, hg, hT, e2⟩ := rcut_eq hl hst
      have : S = T := by
        funext n
        rw [Bool.eq_iff_iff]
        exact ⟨fun h => hg.reach hst hf ((hS n).1 h) hT, fun h => hf.reach hst hg ((hT n).1 h) hS⟩
      rw [e1, e2, this]
      simp [same_refl]

/-- the function `in` of the law -/
def inSet (set : List Int) (s t n : Int) : Bool := decide (n ∈ set ∧ n ≠ t ∨ n = s)
theorem bounds_scan {ρ : Type} (step : Nat → Int → Unit → Option (Out Unit ρ)) (set : List Int) (n t : Int) (r : Option (Out Unit ρ)) (hr : ∃ q, r = some (.ret q)) (hs : ∀ k x, x ∈ set → step k x () = (bif decide (x = n) then (bif decide (n ≠ t) then r else some (.next ())) else some (.next ()))) :
    forIx step 0 set () = if n ∈ set ∧ n ≠ t then r else some (.next ()) := by
  obtain ⟨q, rfl⟩ := hr
  rw [forIx_first (fun x => decide (x = n) && decide (n ≠ t)) (fun _ => q) (fun k x hx => by
    rw [hs k x hx]
    by_cases h1 : x = n <;> by_cases h2 : n = t <;> simp [h1, h2])]
  by_cases h : n ∈ set ∧ n ≠ t
  · rw [if_pos h]
    have : (set.find? fun x => decide (x = n) && decide (n ≠ t)).isSome = true := by
      rw [List.find?_isSome]; exact ⟨n, h.1, by simp [h.2]⟩
    cases e : set.find? fun x => decide (x = n) && decide (n ≠ t) with
    | some x => rfl
    | none => rw [e] at this; cases this
  · rw [if_neg h]
    have : (set.find? fun x => decide (x = n) && decide (n ≠ t)) = none := by
      rw [List.find?_eq_none]
      intro x hx hp
      simp at hp
      exact h ⟨hp.1 ▸ hx, hp.2⟩
    rw [this]
theorem bounds_b2 (set : List Int) (s t : Int) (k : Nat) (e : ApiEdge) (x : Int) : law06_FlowBounds_b2 set s t k e x = some (.next (if inSet set s t e.From = true ∧ inSet set s t e.To = false then IntKind.i64.wrap (x + e.Cost) else x)) := by
  have b4 : ∀ {ρ : Type} (q : Option (Out Int ρ)), True := fun _ => trivial
  have f4 : forIx (law06_FlowBounds_b4 t x e) 0 set () = if e.To ∈ set ∧ e.To ≠ t then some (.ret (.next x)) else some (.next ()) :=
    bounds_scan _ set e.To t _ ⟨_, rfl⟩ fun k y hy => rfl
  have f5 : forIx (law06_FlowBounds_b5 t x e) 0 set () = if e.To ∈ set ∧ e.To ≠ t then some (.ret (.next x)) else some (.next ()) :=
    bounds_scan _ set e.To t _ ⟨_, rfl⟩ fun k y hy => rfl
  have f3 : forIx (law06_FlowBounds_b3 set s t x e) 0 set () = if e.From ∈ set ∧ e.From ≠ t then some (.ret (.next (if inSet set s t e.To = false then IntKind.i64.wrap (x + e.Cost) else x))) else some (.next ()) := by
    refine bounds_scan _ set e.From t _ ⟨_, rfl⟩ fun k y hy => ?_
    unfold law06_FlowBounds_b3
    rw [f4]
    by_cases h1 : e.To ∈ set ∧ e.To ≠ t
    · have h2 : inSet set s t e.To = true := decide_eq_true (.inl h1)
      rw [if_pos h1, if_neg (by simp [h2])]; rfl
    · rw [if_neg h1]
      by_cases h3 : e.To = s
      · have h2 : inSet set s t e.To = true := decide_eq_true (.inr h3)
        rw [if_neg (by simp [h2]), decide_eq_true h3]; rfl
      · have h2 : inSet set s t e.To = false := decide_eq_false (fun h => h.elim h1 h3)
        rw [if_pos h2, decide_eq_false h3]; rfl
  unfold law06_FlowBounds_b2
  rw [f3, f5]
  by_cases h1 : e.From ∈ set ∧ e.From ≠ t
  · have h2 : inSet set s t e.From = true := decide_eq_true (.inl h1)
    rw [if_pos h1, h2]; simp [Out.on]
  · rw [if_neg h1]
    by_cases h3 : e.From = s
    · have h2 : inSet set s t e.From = true := decide_eq_true (.inr h3)
      simp only [h2, Option.bind_some, Out.on, decide_eq_true h3, cond_true, true_and]
      by_cases h4 : e.To ∈ set ∧ e.To ≠ t
      · have h5 : inSet set s t e.To = true := decide_eq_true (.inl h4)
        rw [if_pos h4, if_neg (by simp [h5])]; rfl
      · rw [if_neg h4]
        by_cases h6 : e.To = s
        · have h5 : inSet set s t e.To = true := decide_eq_true (.inr h6)
          rw [if_neg (by simp [h5]), decide_eq_true h6]; rfl
        · have h5 : inSet set s t e.To = false := decide_eq_false (fun h => h.elim h4 h6)
          rw [if_pos h5, decide_eq_false h6]; rfl
    · have h2 : inSet set s t e.From = false := decide_eq_false (fun h => h.elim h1 h3)
      simp only [h2, Option.bind_some, Out.on, decide_eq_false h3, cond_false, Bool.false_eq_true, false_and, if_false]
theorem capS_snoc (S : Int → Bool) (e : ApiEdge) : ∀ l : List ApiEdge, capS S (l ++ [e]) = capS S l + if S e.From = true ∧ S e.To = false then e.Cost else 0
  | [] => by simp [capS]
  | a :: l => by rw [List.cons_append, capS, capS, capS_snoc S e l]; omega
theorem capS_bound {l : List ApiEdge} (hl : ∀ e ∈ l, EdgeOK e) (S : Int → Bool) : 0 ≤ capS S l ∧ capS S l ≤ (l.length : Int) * 1000000 := by
  induction l with
  | nil => simp [capS]
  | cons e l ih =>
    have := ih fun e he => hl e (List.mem_cons_of_mem _ he)
    have h := hl e (by simp)
    have := h.cost0; have := h.cost1
    rw [capS, List.length_cons]
    split <;> omega
theorem bounds_sum {l : List ApiEdge} (hl : EdgesOK l) (set : List Int) (s t : Int) : forIx (law06_FlowBounds_b2 set s t) 0 l (0 : Int) = some (.next (capS (inSet set s t) l)) := by
  have h60 := hl.1
  obtain ⟨s', e, hI⟩ := forIx_run (step := law06_FlowBounds_b2 set s t) (l := l) (s := (0 : Int)) (fun k s' => s' = capS (inSet set s t) (l.take k)) (by simp [capS]) (fun k e s' hk hI => by
    refine ⟨_, bounds_b2 set s t k e s', ?_⟩
    have hlt := (List.getElem?_eq_some_iff.1 hk).1
    have hb := capS_bound (l := l.take k) (fun e he => hl.2 e (List.mem_of_mem_take he)) (inSet set s t)
    have hlen : (l.take k).length = k := by simp; omega
    have he := hl.2 e (List.mem_of_getElem? hk)
    have := he.cost0; have := he.cost1
    rw [hlen] at hb
    rw [take_succ_some hk, capS_snoc, ← hI]
    split
    · rw [wrap_60 (by omega)]
    · simp)
  rw [e, hI, List.take_length]
theorem law06_FlowBounds_true (l : List ApiEdge) (f set : List Int) (s t : Int) (_ : OkL OkApiEdge l) (_ : OkL I64 f) (_ : OkL I64 set) (_ : I64 s) (_ : I64 t) : law06_FlowBounds l f set s t = some true := by
  obtain ⟨b, h1, h2⟩ := few_ok l
  simp only [law06_FlowBounds, alive06, h1, Option.bind_some]
  cases b with
  | false => rfl
  | true =>
    have hl := h2 rfl
    by_cases hf : (100 : Int) < ((f.length : Nat) : Int)
    · simp [hf]
    by_cases hs : (100 : Int) < ((set.length : Nat) : Int)
    · simp [hf, hs]
    by_cases hst : s = t
    · simp [hf, hs, hst]
    obtain ⟨g, _, e1, g1⟩ := max_top hl hst
    obtain ⟨c, h3, _, h5⟩ := valid_same hl f s t
    have ha : inSet set s t s = true := decide_eq_true (.inr rfl)
    have hb : inSet set s t t = false := decide_eq_false (fun h => by
      rcases h with h | h
      · exact h.2 rfl
      · exact hst h.symm)
    have hj : law06_FlowBounds_j1 l set s t (netL l g s) = some true := by
      unfold law06_FlowBounds_j1
      rw [bounds_sum hl]
      simp [Out.on, weak g1.1 ha hb]
    simp only [hf, hs, hst, decide_false, Bool.not_true, cond_false, e1, h3, Option.bind_some, hj]
    cases c with
    | false => rfl
    | true =>
      have hF := h5.1 rfl
      obtain ⟨S, s1, s2, s3⟩ := g1.2
      have hle : netL l f s ≤ netL l g s := by
        have := weak hF s1 s2
        rw [g1.1.across s1 s2, across_eq S g1.1.within s3]; exact this
      simp only [value_eq hl hF.within, Option.bind_some, cond_true]
      rw [decide_eq_false (by omega)]; rfl

theorem turned_loop {l : List ApiEdge} (hl : EdgesOK l) : forIx law06_FlowTurned_b1 0 l [] = some (.next (l.map fun e => ⟨e.ID, e.To, e.From, e.Cost⟩)) := by
  have h60 := hl.1
  have := forIx_collect (ρ := Bool) (step := law06_FlowTurned_b1) (l := l) (fun _ => true) (fun e => ⟨e.ID, e.To, e.From, e.Cost⟩) (by omega) (fun k x s hx => rfl)
  rw [this, List.filter_eq_self.2 (fun _ _ => rfl)]
theorem capS_turned (S : Int → Bool) : ∀ l : List ApiEdge, capS (fun n => !S n) (l.map fun e => ⟨e.ID, e.To, e.From, e.Cost⟩) = capS S l
  | [] => rfl
  | e :: l => by
    rw [List.map_cons, capS, capS, capS_turned S l]
    cases h1 : S e.From <;> cases h2 : S e.To <;> simp [h1, h2]
theorem Top.cap {l : List ApiEdge} {s t : Int} {f : List Int} (h : Top l s t f) : ∃ S : Int → Bool, S s = true ∧ S t = false ∧ netL l f s = capS S l := by
  obtain ⟨h1, S, s1, s2, s3⟩ := h
  exact ⟨S, s1, s2, by rw [h1.across s1 s2, across_eq S h1.within s3]⟩
theorem law06_FlowTurned_true (l : List ApiEdge) (s t : Int) (_ : OkL OkApiEdge l) (_ : I64 s) (_ : I64 t) : law06_FlowTurned l s t = some true := by
  obtain ⟨b, h1, h2⟩ := few_ok l
  simp only [law06_FlowTurned, alive06, h1, Option.bind_some]
  cases b with
  | false => rfl
  | true =>
    have hl := h2 rfl
    have hl' : EdgesOK (l.map fun e => (⟨e.ID, e.To, e.From, e.Cost⟩ : ApiEdge)) := by
      refine ⟨by simpa using hl.1, fun e he => ?_⟩
      obtain ⟨e', he', rfl⟩ := List.mem_map.1 he
      have := hl.2 e' he'
      exact ⟨this.to0, this.to1, this.from0, this.from1, this.cost0, this.cost1⟩
    rw [turned_loop hl, max_self hl]
    simp only [Bool.not_true, cond_false, Option.bind_some, Out.on]
    by_cases hst : s = t
    · subst hst
      rw [max_self hl, max_self hl']; rfl
    · obtain ⟨g, _, e1, g1⟩ := max_top hl hst
      obtain ⟨g', _, e2, g2⟩ := max_top hl' (s := t) (t := s) (fun e => hst e.symm)
      obtain ⟨S, s1, s2, s3⟩ := g1.cap
      obtain ⟨T, t1, t2, t3⟩ := g2.cap
      have a := weak g2.1 (S := fun n => !S n) (by simp [s2]) (by simp [s1])
      rw [capS_turned] at a
      have b := weak g1.1 (S := fun n => !T n) (by simp [t2]) (by simp [t1])
      have c := capS_turned (fun n => !T n) l
      simp only [Bool.not_not] at c
      replace c : capS T _ = _ := c
      rw [e1, e2]
      simp only [Option.bind_some]
      rw [decide_eq_true (by rw [s3, t3]; rw [c] at t3; omega)]; rfl
theorem set_flow {l : List ApiEdge} {i : Nat} {e : ApiEdge} (he : l[i]? = some e) {d : Int} (hd : 0 ≤ d) {f : List Int} {s t : Int} (h : Flow l f s t) :
    Flow (l.set i ⟨e.ID, e.From, e.To, e.Cost + d⟩) f s t ∧ ∀ n, netL (l.set i ⟨e.ID, e.From, e.To, e.Cost + d⟩) f n = netL l f n := by
  have hn : ∀ (l : List ApiEdge) (f : List Int) (i : Nat) (n : Int), l[i]? = some e → netL (l.set i ⟨e.ID, e.From, e.To, e.Cost + d⟩) f n = netL l f n := by
    intro l
    induction l with
    | nil => intro f i n h; simp at h
    | cons a l ih =>
      intro f i n h
      match f, i, h with
      | [], i, h => cases i <;> simp [netL]
      | x :: f, 0, h => simp at h; subst h; simp [netL, con]
      | x :: f, i + 1, h => simp [netL, ih f i n (by simpa using h)]
  refine ⟨⟨⟨by rw [h.within.len]; simp, fun k e' x he' hx => ?_⟩, fun e' he' n hn' h1 h2 => ?_⟩, fun n => hn l f i n he⟩
  · rw [List.getElem?_set] at he'
    split at he'
    · rename_i hk; subst hk
      split at he'
      · obtain rfl := Option.some.inj he'
        have := h.within.rng _ e x he hx
        simp only; omega
      · cases he'
    · exact h.within.rng k e' x he' hx
  · rw [hn l f i n he]
    exact h.zero h1 h2
theorem capS_set (S : Int → Bool) {e : ApiEdge} {d : Int} (hd : 0 ≤ d) : ∀ (l : List ApiEdge) (i : Nat), l[i]? = some e → capS S (l.set i ⟨e.ID, e.From, e.To, e.Cost + d⟩) ≤ capS S l + d
  | [], i, h => by simp at h
  | a :: l, 0, h => by
    simp at h; subst h
    simp only [List.set_cons_zero, capS]; split <;> omega
  | a :: l, i + 1, h => by
    have := capS_set S hd l i (by simpa using h)
    simp only [List.set_cons_succ, capS]; omega
theorem law06_FlowGrows_true (l : List ApiEdge) (s t : Int) (edge by_ : Int) (_ : OkL OkApiEdge l) (_ : I64 s) (_ : I64 t) (he : U8 edge) (hb : U16 by_) : law06_FlowGrows l s t edge by_ = some true := by
  obtain ⟨b, h1, h2⟩ := few_ok l
  simp only [law06_FlowGrows, alive06, h1, Option.bind_some]
  cases b with
  | false => rfl
  | true =>
    have hl := h2 rfl
    have h60 := hl.1
    obtain ⟨he0, he1⟩ := he
    obtain ⟨hb0, hb1⟩ := hb
    simp only [Bool.not_true, cond_false]
    by_cases h0 : l.length = 0
    · rw [decide_eq_true (by omega)]; rfl
    rw [decide_eq_false (by omega), cond_false, chk_ok (by omega), nz_ok (by omega)]
    have we : IntKind.i64.wrap edge = edge := wrap_60 (by omega)
    have wb : IntKind.i64.wrap by_ = by_ := wrap_60 (by omega)
    rw [we, wb]
    have hm : Int.tmod edge ((l.length : Nat) : Int) = ((edge.toNat % l.length : Nat) : Int) := by
      rw [Int.tmod_eq_emod_of_nonneg he0, Int.natCast_emod, Int.toNat_of_nonneg he0]
    rw [hm]
    have hi : edge.toNat % l.length < l.length := Nat.mod_lt _ (by omega)
    generalize edge.toNat % l.length = i at hi
    have hx : l[i]? = some l[i] := List.getElem?_eq_getElem hi
    rw [idxL_nat hx, Option.bind_some, Int.toNat_natCast]
    have hE := hl.2 l[i] (List.getElem_mem hi)
    have := hE.cost0; have := hE.cost1
    rw [wrap_60 (n := l[i].Cost + by_) (by omega)]
    obtain ⟨c, h3, h4⟩ := right06 (l.set i ⟨l[i].ID, l[i].From, l[i].To, l[i].Cost + by_⟩)
    rw [h3, Option.bind_some]
    cases c with
    | false => rfl
    | true =>
      have hl' : EdgesOK (l.set i ⟨l[i].ID, l[i].From, l[i].To, l[i].Cost + by_⟩) := ⟨by simpa using h60, h4 rfl⟩
      simp only [Bool.not_true, cond_false]
      by_cases hst : s = t
      · subst hst
        rw [max_self hl, max_self hl']
        simp only [Option.bind_some, Int.zero_add, wb, Int.le_refl, decide_true, cond_true]
        rw [decide_eq_true hb0]
      · obtain ⟨g, _, e1, g1⟩ := max_top hl hst
        obtain ⟨g', _, e2, g2⟩ := max_top hl' hst
        rw [e1, e2]
        obtain ⟨S, s1, s2, s3⟩ := g1.cap
        obtain ⟨T, t1, t2, t3⟩ := g2.cap
        have sf := set_flow hx hb0 g1.1
        have a := weak sf.1 t1 t2
        rw [sf.2 s] at a
        have b := weak g2.1 s1 s2
        have c := capS_set S hb0 l i hx
        have d := capS_bound hl.2 S
        simp only [Option.bind_some]
        rw [wrap_60 (n := netL l g s + by_) (by omega), decide_eq_true (by omega), cond_true, decide_eq_true (by omega)]
end Go.Proofs.Ytacfmeobdobhhaa
