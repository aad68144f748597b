/-
  The laws of layer 11 (ways) in plain Lean: each answers true.
-/
import Derived.Test.YtnafejjdhdpanaaL8
namespace Go.Proofs.Ytnafejjdhdpanaa
open Go Go.Ab
set_option linter.unusedSimpArgs false
set_option linter.unusedVariables false

/-! ### lists of IDs, edges of a map -/
theorem contains_eq (l : List Int) (v : Int) : slices_Contains_sint_int l v = some (decide (v ∈ l)) := by
  unfold slices_Contains_sint_int slices_Index_sint_int
  rcases forIx_inv (step := slices_Index_sint_int_b1 v) (l := l) (s := ()) (fun k _ => v ∉ l.take k) (fun r => v ∈ l ∧ 0 ≤ r) (by simp) (fun k x u hk hI => by
    unfold slices_Index_sint_int_b1
    by_cases e : v = x
    · rw [decide_eq_true e]; exact .inr ⟨_, rfl, e ▸ List.mem_of_getElem? hk, by omega⟩
    · rw [decide_eq_false e]
      refine .inl ⟨(), rfl, ?_⟩
      rw [take_succ_some hk]; simp [hI, e]) with ⟨u, h1, h2⟩ | ⟨r, h1, h2, h3⟩
  · rw [List.take_length] at h2
    rw [h1, decide_eq_false h2]; rfl
  · rw [h1, decide_eq_true h2]
    show some (decide (0 ≤ r)) = some true
    rw [decide_eq_true h3]
def runE (x : ApiRun) : ApiEdge := ⟨x.ID, x.From, x.To, x.Length⟩
def liftE (x : ApiLift) : ApiEdge := ⟨x.ID, x.From, x.To, x.Length⟩
def downE (m : ApiMap) (runs : List Int) : List ApiEdge := (m.Runs.filter fun x => decide (x.ID ∈ runs)).map runE
def upE (m : ApiMap) (lifts : List Int) : List ApiEdge := (m.Lifts.filter fun x => decide (x.ID ∈ lifts)).map liftE
theorem mem_downE {m : ApiMap} {runs : List Int} {e : ApiEdge} : e ∈ downE m runs ↔ ∃ x ∈ m.Runs, x.ID ∈ runs ∧ runE x = e := by
  unfold downE
  simp only [List.mem_map, List.mem_filter, decide_eq_true_eq, and_assoc]
theorem mem_upE {m : ApiMap} {lifts : List Int} {e : ApiEdge} : e ∈ upE m lifts ↔ ∃ x ∈ m.Lifts, x.ID ∈ lifts ∧ liftE x = e := by
  unfold upE
  simp only [List.mem_map, List.mem_filter, decide_eq_true_eq, and_assoc]
theorem node_in {m : ApiMap} (M : MapOK m) {n : Int} (h : (nodeF m n).2 = true) : 1 ≤ n ∧ n ≤ 9999 := by
  obtain ⟨h1, h2⟩ := nodeF_true h
  have := (M.nodes _ h1).1
  rw [h2] at this; exact this
theorem down_nodes {m : ApiMap} (M : MapOK m) {runs : List Int} {e : ApiEdge} (h : e ∈ downE m runs) : (nodeF m e.From).2 = true ∧ (nodeF m e.To).2 = true ∧ 10 ≤ e.Cost ∧ e.Cost ≤ 20000 := by
  obtain ⟨x, hx, _, rfl⟩ := mem_downE.1 h
  have := M.runs x hx
  exact ⟨this.2.2.1, this.2.1, this.1.2.2.2.2.1, this.1.2.2.2.2.2⟩
theorem up_nodes {m : ApiMap} (M : MapOK m) {lifts : List Int} {e : ApiEdge} (h : e ∈ upE m lifts) : (nodeF m e.From).2 = true ∧ (nodeF m e.To).2 = true := by
  obtain ⟨x, hx, _, rfl⟩ := mem_upE.1 h
  have := M.lifts x hx
  exact ⟨this.2.1.1, this.2.1.2.1⟩
theorem down_len {m : ApiMap} (M : MapOK m) (runs : List Int) : (downE m runs).length ≤ 64 := by
  unfold downE; rw [List.length_map]; exact Nat.le_trans (List.length_filter_le _ _) M.lenR
theorem up_len {m : ApiMap} (M : MapOK m) (lifts : List Int) : (upE m lifts).length ≤ 32 := by
  unfold upE; rw [List.length_map]; exact Nat.le_trans (List.length_filter_le _ _) M.lenL
theorem down_gc {m : ApiMap} (M : MapOK m) (runs : List Int) : GC (downE m runs) := ⟨by have := down_len M runs; omega, fun e he => by have := down_nodes M he; omega⟩
theorem down_eq {m : ApiMap} (M : MapOK m) (runs : List Int) : terrain_Down m runs = some (downE m runs) := by
  have := M.lenR
  unfold terrain_Down
  rw [forIx_collect (fun x => decide (x.ID ∈ runs)) runE (by omega) (fun k x s hx => by unfold terrain_Down_b1; rw [contains_eq]; rfl)]; rfl
theorem rdown_eq {m : ApiMap} (M : MapOK m) (runs : List Int) : ref11_down m runs = some (downE m runs) := by
  have := M.lenR
  unfold ref11_down
  rw [forIx_collect (fun x => decide (x.ID ∈ runs)) runE (by omega) (fun k x s hx => by unfold ref11_down_b1; rw [rHas_eq]; rfl)]; rfl
theorem up_eq {m : ApiMap} (M : MapOK m) (lifts : List Int) : terrain_Up m lifts = some (upE m lifts) := by
  have := M.lenL
  unfold terrain_Up
  rw [forIx_collect (fun x => decide (x.ID ∈ lifts)) liftE (by omega) (fun k x s hx => by unfold terrain_Up_b1; rw [contains_eq]; rfl)]; rfl
/-- the same edges, whatever their IDs and costs -/
def SameFT (a b : List ApiEdge) : Prop := a.map (fun e => (e.From, e.To)) = b.map (fun e => (e.From, e.To))
theorem SameFT.rch {a b : List ApiEdge} (h : SameFT a b) {S : Int → Prop} {n : Int} (hr : Rch a S n) : Rch b S n := by
  induction hr with
  | base h => exact .base h
  | @step e he _ ih =>
    have : (e.From, e.To) ∈ a.map fun e => (e.From, e.To) := List.mem_map.2 ⟨e, he, rfl⟩
    rw [h] at this
    obtain ⟨e', he', hh⟩ := List.mem_map.1 this
    rw [Prod.mk.injEq] at hh
    rw [← hh.2]
    exact .step he' (by rw [hh.1]; exact ih)
theorem SameFT.turn {a b : List ApiEdge} (h : SameFT a b) : SameFT (turn a) (turn b) := by
  unfold SameFT Proofs.Ytnafejjdhdpanaa.turn at *
  rw [List.map_map, List.map_map]
  have e : ∀ l : List ApiEdge, l.map ((fun e : ApiEdge => (e.From, e.To)) ∘ turnE) = (l.map fun e => (e.From, e.To)).map Prod.swap := fun l => by rw [List.map_map]; rfl
  rw [e, e, h]
theorem join_part (l s : List ApiEdge) (hl : s.length + l.length ≤ 100000) : ∃ s', forIx ways_join_b2 0 l s = some (.next s') ∧ SameFT s' (s ++ l) := by
  obtain ⟨s', h1, h2⟩ := forIx_run (ρ := Out (List ApiEdge) (List ApiEdge)) (step := ways_join_b2) (l := l) (s := s) (fun k t => SameFT t (s ++ l.take k)) (by simp [SameFT]) (fun k e t hk hI => by
    have hlt := (List.getElem?_eq_some_iff.1 hk).1
    have hlen := congrArg List.length hI
    simp at hlen
    refine ⟨_, by unfold ways_join_b2; rw [chk_ok (by omega)], ?_⟩
    unfold SameFT at *
    rw [take_succ_some hk, ← List.append_assoc, List.map_append, List.map_append, hI]; rfl)
  rw [List.take_length] at h2
  exact ⟨s', h1, h2⟩
theorem SameFT.len {a b : List ApiEdge} (h : SameFT a b) : a.length = b.length := by
  have := congrArg List.length h; simpa using this
theorem join2 {a b : List ApiEdge} (ha : a.length ≤ 1000) (hb : b.length ≤ 1000) : ∃ r, ways_join [a, b] = some r ∧ SameFT r (a ++ b) := by
  obtain ⟨s1, h1, h2⟩ := join_part a [] (by simp; omega)
  have l1 := h2.len
  simp at l1
  obtain ⟨s2, h3, h4⟩ := join_part b s1 (by omega)
  refine ⟨s2, ?_, ?_⟩
  · unfold ways_join forIx ways_join_b1
    rw [h1]
    simp only [Option.bind_some, Out.on, Out.cont, forIx, h3]
  · unfold SameFT at *
    rw [h4, List.map_append, h2, List.nil_append, List.map_append]
theorem join1 {a : List ApiEdge} (ha : a.length ≤ 1000) : ∃ r, ways_join [a] = some r ∧ SameFT r a := by
  obtain ⟨s1, h1, h2⟩ := join_part a [] (by simp; omega)
  refine ⟨s1, ?_, by simpa using h2⟩
  unfold ways_join forIx ways_join_b1
  rw [h1]; rfl

/-! ### what is reached, what is home -/
def RR (m : ApiMap) (lifts runs : List Int) (n : Int) : Prop := Rch (upE m lifts ++ downE m runs) (· ∈ m.Bases) n
def HH (m : ApiMap) (runs : List Int) (n : Int) : Prop := Rch (turn (downE m runs)) (· ∈ m.Bases) n
structure IncList (P : Int → Prop) (r : List Int) : Prop where
  inc : Inc r
  mem : ∀ n, n ∈ r ↔ P n
theorem IncList.unique {P : Int → Prop} {r r' : List Int} (h : IncList P r) (h' : IncList P r') : r = r' := inc_ext h.inc h'.inc fun n => by rw [h.mem, h'.mem]
theorem bases64 {m : ApiMap} (M : MapOK m) : ∀ n ∈ m.Bases, I64 n := fun n hn => by have := node_in M (M.bases n hn); exact ⟨by omega, by omega⟩
theorem RR.node {m : ApiMap} (M : MapOK m) {lifts runs : List Int} {n : Int} (h : RR m lifts runs n) : (nodeF m n).2 = true := by
  cases h with
  | base h => exact M.bases n h
  | step he _ =>
    rcases List.mem_append.1 he with he | he
    · exact (up_nodes M he).2
    · exact (down_nodes M he).2.1
theorem reachable_eq {m : ApiMap} (M : MapOK m) (lifts runs : List Int) : ∃ r, ways_Reachable m lifts runs = some r ∧ IncList (RR m lifts runs) r := by
  have hb := M.lenB
  have h1 := up_len M lifts
  have h2 := down_len M runs
  obtain ⟨j, e1, e2⟩ := join2 (a := upE m lifts) (b := downE m runs) (by omega) (by omega)
  have hl := e2.len
  rw [List.length_append] at hl
  obtain ⟨r, e3, e4⟩ := reach_eq (l := j) (f := m.Bases) (by omega) (by omega) (fun e he => by
    have : (e.From, e.To) ∈ j.map fun e => (e.From, e.To) := List.mem_map.2 ⟨e, he, rfl⟩
    rw [e2] at this
    obtain ⟨e', he', hh⟩ := List.mem_map.1 this
    rw [Prod.mk.injEq] at hh
    rw [← hh.2]
    rcases List.mem_append.1 he' with he' | he'
    · have := node_in M (up_nodes M he').2; exact ⟨by omega, by omega⟩
    · have := node_in M (down_nodes M he').2.1; exact ⟨by omega, by omega⟩) (bases64 M)
  refine ⟨r, ?_, e4.inc, fun n => ?_⟩
  · unfold ways_Reachable
    rw [up_eq M, Option.bind_some, down_eq M, Option.bind_some, e1, Option.bind_some, e3]; rfl
  · rw [e4.mem]; exact ⟨fun h => e2.rch h, fun h => SameFT.rch e2.symm h⟩
theorem rreachable_eq {m : ApiMap} (M : MapOK m) (lifts runs : List Int) : ∃ r, ref11_Reachable m lifts runs = some r ∧ IncList (RR m lifts runs) r := by
  have hb := M.lenB
  have hL := M.lenL
  have h2 := down_len M runs
  obtain ⟨s, g1, g2⟩ := forIx_run (ρ := List Int) (step := ref11_Reachable_b1 lifts) (l := m.Lifts) (s := downE m runs) (fun k s => s = downE m runs ++ ((m.Lifts.take k).filter fun x => decide (x.ID ∈ lifts)).map fun x => ApiEdge.mk 0 x.From x.To 0) (by simp) (fun k x s hk hI => by
    have hlt := (List.getElem?_eq_some_iff.1 hk).1
    have hlen : s.length ≤ 1000 := by
      rw [hI, List.length_append, List.length_map]
      have := List.length_filter_le (fun x : ApiLift => decide (x.ID ∈ lifts)) (m.Lifts.take k)
      rw [List.length_take] at this; omega
    unfold ref11_Reachable_b1
    rw [rHas_eq, Option.bind_some]
    by_cases hx : x.ID ∈ lifts
    · rw [decide_eq_true hx, cond_true, chk_ok (by omega)]
      refine ⟨_, rfl, ?_⟩
      rw [take_succ_some hk, List.filter_append, List.filter_cons_of_pos (by simpa using hx), List.filter_nil, List.map_append, hI]; simp
    · rw [decide_eq_false hx, cond_false]
      refine ⟨_, rfl, ?_⟩
      rw [take_succ_some hk, List.filter_append, List.filter_cons_of_neg (by simpa using hx), List.filter_nil, List.append_nil, hI])
  rw [List.take_length] at g2
  have hlen : s.length ≤ 1000 := by
    rw [g2, List.length_append, List.length_map]
    have := List.length_filter_le (fun x : ApiLift => decide (x.ID ∈ lifts)) m.Lifts
    omega
  obtain ⟨r, e3, e4⟩ := rReach_eq (l := s) (f := m.Bases) (by omega) (by omega)
  refine ⟨r, ?_, e4.inc, fun n => ?_⟩
  · unfold ref11_Reachable
    rw [rdown_eq M, Option.bind_some, chk_ok (by omega), g1]
    show (ref05_Reach s m.Bases).bind _ = _
    rw [e3]; rfl
  · rw [e4.mem]
    constructor
    · intro h
      refine SameFT.rch (a := upE m lifts ++ downE m runs) rfl ?_
      induction h with
      | base h => exact .base h
      | step he _ ih =>
        rw [g2] at he
        rcases List.mem_append.1 he with he | he
        · exact .step (List.mem_append.2 (.inr he)) ih
        · obtain ⟨x, hx, rfl⟩ := List.mem_map.1 he
          have hx := List.mem_filter.1 hx
          exact Rch.step (e := liftE x) (List.mem_append.2 (.inl (mem_upE.2 ⟨x, hx.1, by simpa using hx.2, rfl⟩))) ih
    · intro h
      unfold RR at h
      induction h with
      | base h => exact .base h
      | step he _ ih =>
        rcases List.mem_append.1 he with he | he
        · obtain ⟨x, hx, hi, rfl⟩ := mem_upE.1 he
          refine Rch.step (e := ApiEdge.mk 0 x.From x.To 0) ?_ ih
          rw [g2]
          exact List.mem_append.2 (.inr (List.mem_map.2 ⟨x, List.mem_filter.2 ⟨hx, by simpa using hi⟩, rfl⟩))
        · exact Rch.step (by rw [g2]; exact List.mem_append.2 (.inl he)) ih
theorem home_eq {m : ApiMap} (M : MapOK m) (runs : List Int) : ∃ r, ways_Home m runs = some r ∧ IncList (HH m runs) r := by
  have hb := M.lenB
  have h2 := down_len M runs
  obtain ⟨j, e1, e2⟩ := join1 (a := downE m runs) (by omega)
  have hl := e2.len
  obtain ⟨r, e3, e4⟩ := reach_eq (l := turn j) (f := m.Bases) (by simp [turn]; omega) (by omega) (fun e he => by
    have he := mem_turn.1 he
    have : ((turnE e).From, (turnE e).To) ∈ j.map fun e => (e.From, e.To) := List.mem_map.2 ⟨_, he, rfl⟩
    rw [e2] at this
    obtain ⟨e', he', hh⟩ := List.mem_map.1 this
    rw [Prod.mk.injEq] at hh
    have : e.To = e'.From := hh.1.symm
    rw [this]
    have := node_in M (down_nodes M he').1; exact ⟨by omega, by omega⟩) (bases64 M)
  refine ⟨r, ?_, e4.inc, fun n => ?_⟩
  · unfold ways_Home
    rw [down_eq M, Option.bind_some, e1, Option.bind_some, back_eq (by omega), e3]; rfl
  · rw [e4.mem]; exact ⟨fun h => e2.turn.rch h, fun h => SameFT.rch e2.turn.symm h⟩
theorem rhome_eq {m : ApiMap} (M : MapOK m) (runs : List Int) : ∃ r, ref11_Home m runs = some r ∧ IncList (HH m runs) r := by
  have hb := M.lenB
  have h2 := down_len M runs
  obtain ⟨r, e3, e4⟩ := rBack_eq (l := downE m runs) (f := m.Bases) (by omega) (by omega)
  refine ⟨r, ?_, e4.inc, e4.mem⟩
  unfold ref11_Home
  rw [rdown_eq M, Option.bind_some, e3]; rfl
def minusI (a b : List Int) : List Int := a.filter fun x => !decide (x ∈ b)
theorem less_eq' {a : List Int} (h : a.length ≤ 549755813888) (b : List Int) : ways_less a b = some (minusI a b) := by
  unfold ways_less
  rw [forIx_collect (fun x => !decide (x ∈ b)) id h (fun k x s hx => by unfold ways_less_b1; rw [contains_eq]; rfl)]
  simp [Out.on, minusI]
theorem minus_eq {a : List Int} (h : a.length ≤ 549755813888) (b : List Int) : ref11_minus a b = some (minusI a b) := by
  unfold ref11_minus
  rw [forIx_collect (fun x => !decide (x ∈ b)) id h (fun k x s hx => by unfold ref11_minus_b1; rw [rHas_eq]; rfl)]
  simp [Out.on, minusI]
theorem mem_minusI {a b : List Int} {x : Int} : x ∈ minusI a b ↔ x ∈ a ∧ x ∉ b := by simp [minusI]
theorem IncList.len {m : ApiMap} (M : MapOK m) {P : Int → Prop} {r : List Int} (h : IncList P r) (hP : ∀ n, P n → 1 ≤ n ∧ n ≤ 9999) : r.length ≤ 549755813888 := by
  have := nodup_len (b := (List.range 10000).map fun n : Nat => (n : Int)) h.inc.nodup fun n hn => by
    have := hP n ((h.mem n).1 hn)
    exact List.mem_map.2 ⟨n.toNat, List.mem_range.2 (by omega), by omega⟩
  simp at this; omega
def SS (m : ApiMap) (lifts runs : List Int) (n : Int) : Prop := RR m lifts runs n ∧ ¬ HH m runs n
theorem stranded_eq {m : ApiMap} (M : MapOK m) (lifts runs : List Int) : ∃ r, ways_Stranded m lifts runs = some r ∧ IncList (SS m lifts runs) r := by
  obtain ⟨a, e1, f1⟩ := reachable_eq M lifts runs
  obtain ⟨b, e2, f2⟩ := home_eq M runs
  refine ⟨minusI a b, ?_, f1.inc.filter _, fun n => by rw [mem_minusI, f1.mem, f2.mem]; rfl⟩
  unfold ways_Stranded
  rw [e1, Option.bind_some, e2, Option.bind_some, less_eq' (f1.len M fun n h => node_in M (h.node M))]; rfl
theorem rstranded_eq {m : ApiMap} (M : MapOK m) (lifts runs : List Int) : ∃ r, ref11_Stranded m lifts runs = some r ∧ IncList (SS m lifts runs) r := by
  obtain ⟨a, e1, f1⟩ := rreachable_eq M lifts runs
  obtain ⟨b, e2, f2⟩ := rhome_eq M runs
  refine ⟨minusI a b, ?_, f1.inc.filter _, fun n => by rw [mem_minusI, f1.mem, f2.mem]; rfl⟩
  unfold ref11_Stranded
  rw [e1, Option.bind_some, e2, Option.bind_some, minus_eq (f1.len M fun n h => node_in M (h.node M))]; rfl
theorem SS.len {m : ApiMap} (M : MapOK m) {lifts runs r : List Int} (h : IncList (SS m lifts runs) r) : r.length ≤ 549755813888 := h.len M fun n h => node_in M (h.1.node M)

/-! ### the best way to a base -/
theorem home_chain {m : ApiMap} {runs : List Int} {n : Int} : HH m runs n ↔ ∃ b ∈ m.Bases, ∃ es, Chain (downE m runs) n es b := by
  unfold HH
  rw [rch_chain]
  constructor
  · rintro ⟨b, es, hb, hc⟩
    obtain ⟨es', h, _⟩ := chain_turn_iff.1 ⟨es, hc, rfl⟩
    exact ⟨b, hb, es', h⟩
  · rintro ⟨b, hb, es, hc⟩
    obtain ⟨es', h, _⟩ := chain_turn ⟨es, hc, rfl⟩
    exact ⟨b, es', hb, h⟩
/-- the first place where a and b differ has the lesser number in a -/
def LL (a b : List Int) : Prop := ∃ (k : Nat) (x y : Int), a[k]? = some x ∧ b[k]? = some y ∧ x < y ∧ ∀ j : Nat, j < k → a[j]? = b[j]?
noncomputable instance (a b : List Int) : Decidable (LL a b) := Classical.propDecidable _
theorem LL.at {a b : List Int} {k : Nat} {x y : Int} (hx : a[k]? = some x) (hy : b[k]? = some y) (hne : x ≠ y) (hp : ∀ j : Nat, j < k → a[j]? = b[j]?) : LL a b ↔ x < y := by
  constructor
  · rintro ⟨k', x', y', h1, h2, h3, h4⟩
    rcases Nat.lt_trichotomy k k' with h | h | h
    · have := h4 k h; rw [hx, hy] at this; exact absurd (Option.some.inj this) hne
    · subst h; rw [hx] at h1; rw [hy] at h2
      rw [Option.some.inj h1, Option.some.inj h2]; exact h3
    · have := hp k' h; rw [h1, h2] at this; have := Option.some.inj this; omega
  · intro h; exact ⟨k, x, y, hx, hy, h, hp⟩
theorem LL.none {a b : List Int} (h : ∀ j : Nat, j < a.length → a[j]? = b[j]?) : ¬ LL a b := by
  rintro ⟨k, x, y, h1, h2, h3, _⟩
  have := h k (List.getElem?_eq_some_iff.1 h1).1
  rw [h1, h2] at this; have := Option.some.inj this; omega
def cmpI (x y : Int) : Int := if x < y then -1 else if y < x then 1 else 0
theorem cmp_eq (x y : Int) : cmp_Compare_int x y = some (cmpI x y) := by
  unfold cmp_Compare_int cmp_isNaN_int cmpI
  by_cases h : x < y
  · simp [h]
  · by_cases h2 : y < x <;> simp [h, h2]
theorem compare_eq {a b : List Int} (hl : a.length = b.length) : ∃ r, slices_Compare_sint_int a b = some r ∧ (r < 0 ↔ LL a b) := by
  unfold slices_Compare_sint_int
  rcases forIx_inv (step := slices_Compare_sint_int_b1 b) (l := a) (s := ()) (fun k _ => ∀ j : Nat, j < k → a[j]? = b[j]?) (fun r => r < 0 ↔ LL a b) (fun j h => by omega) (fun k x u hk hI => by
    have hlt := (List.getElem?_eq_some_iff.1 hk).1
    have hy : b[k]? = some b[k] := List.getElem?_eq_getElem (by omega)
    unfold slices_Compare_sint_int_b1
    rw [decide_eq_false (by omega), cond_false, idxL_nat hy, Option.bind_some, cmp_eq, Option.bind_some]
    by_cases e : x = b[k]
    · have : cmpI x b[k] = 0 := by unfold cmpI; rw [if_neg (by omega), if_neg (by omega)]
      rw [this]
      refine .inl ⟨(), rfl, fun j hj => ?_⟩
      by_cases h : j = k
      · subst h; rw [hk, hy, e]
      · exact hI j (by omega)
    · have hne : cmpI x b[k] ≠ 0 := by unfold cmpI; split; omega; split <;> omega
      rw [decide_eq_true hne]
      refine .inr ⟨_, rfl, ?_⟩
      rw [LL.at hk hy e hI]
      unfold cmpI
      split
      · rename_i h; exact ⟨fun _ => h, fun _ => by omega⟩
      · split <;> exact ⟨fun h => by omega, fun h => by omega⟩) with ⟨u, h1, h2⟩ | ⟨r, h1, h2⟩
  · rw [h1]
    refine ⟨0, ?_, fun h => by omega, fun h => absurd h (LL.none h2)⟩
    show (bif _ then _ else _) = _
    rw [decide_eq_false (by omega)]; rfl
  · rw [h1]; exact ⟨r, rfl, h2⟩
theorem compare_some (a b : List Int) : ∃ r, slices_Compare_sint_int a b = some r := by
  unfold slices_Compare_sint_int
  rcases forIx_inv (step := slices_Compare_sint_int_b1 b) (l := a) (s := ()) (fun k _ => True) (fun r => True) trivial (fun k x u hk hI => by
    unfold slices_Compare_sint_int_b1
    by_cases h : ((b.length : Nat) : Int) ≤ ((k : Nat) : Int)
    · rw [decide_eq_true h]; exact .inr ⟨1, rfl, trivial⟩
    · have hy : b[k]? = some b[k] := List.getElem?_eq_getElem (by omega)
      rw [decide_eq_false h, cond_false, idxL_nat hy, Option.bind_some, cmp_eq, Option.bind_some]
      cases decide (cmpI x b[k] ≠ 0)
      · exact .inl ⟨(), rfl, trivial⟩
      · exact .inr ⟨_, rfl, trivial⟩) with ⟨u, h1, h2⟩ | ⟨r, h1, h2⟩
  · rw [h1]
    show ∃ r, (bif _ then _ else _) = some r
    cases decide (((a.length : Nat) : Int) < ((b.length : Nat) : Int))
    · exact ⟨0, rfl⟩
    · exact ⟨-1, rfl⟩
  · rw [h1]; exact ⟨r, rfl⟩
theorem or_eq (a b c : Int) : cmp_Or_int [a, b, c] = some (if a ≠ 0 then a else if b ≠ 0 then b else c) := by
  unfold cmp_Or_int forIx cmp_Or_int_b1
  by_cases h1 : a = 0
  · by_cases h2 : b = 0
    · by_cases h3 : c = 0
      · simp [h1, h2, h3, forIx, cmp_Or_int_b1, Out.cont, Out.on]
      · simp [h1, h2, h3, forIx, cmp_Or_int_b1, Out.cont, Out.on]
    · simp [h1, h2, forIx, cmp_Or_int_b1, Out.cont, Out.on]
  · simp [h1, Out.cont, Out.on]
def Btr (a : List Int) (n : Int) (b : List Int) (k : Int) : Prop := n < k ∨ n = k ∧ (a.length < b.length ∨ a.length = b.length ∧ LL a b)
noncomputable instance (a : List Int) (n : Int) (b : List Int) (k : Int) : Decidable (Btr a n b k) := Classical.propDecidable _
theorem better_eq (a : List Int) (n : Int) (b : List Int) (k : Int) : ref11_better a n b k = some (decide (Btr a n b k)) := by
  unfold ref11_better
  by_cases h1 : n = k
  · rw [decide_eq_false (by simp [h1]), cond_false]
    by_cases h2 : a.length = b.length
    · rw [decide_eq_false (by simp [h2]), cond_false]
      rcases forIx_inv (step := ref11_better_b1 b) (l := a) (s := ()) (fun k _ => ∀ j : Nat, j < k → a[j]? = b[j]?) (fun r => r = decide (LL a b)) (fun j h => by omega) (fun k x u hk hI => by
        have hlt := (List.getElem?_eq_some_iff.1 hk).1
        have hy : b[k]? = some b[k] := List.getElem?_eq_getElem (by omega)
        unfold ref11_better_b1
        rw [idxL_nat hy, Option.bind_some]
        by_cases e : x = b[k]
        · rw [decide_eq_false (by simpa using e)]
          refine .inl ⟨(), rfl, fun j hj => ?_⟩
          by_cases h : j = k
          · subst h; rw [hk, hy, e]
          · exact hI j (by omega)
        · rw [decide_eq_true (by simpa using e)]
          refine .inr ⟨_, rfl, ?_⟩
          rw [decide_eq_decide, LL.at hk hy e hI]) with ⟨u, g1, g2⟩ | ⟨r, g1, g2⟩
      · rw [g1]
        have := LL.none g2
        show some false = _
        rw [decide_eq_false]
        rintro (h | ⟨_, h | ⟨_, h⟩⟩)
        · omega
        · omega
        · exact this h
      · rw [g1, g2]
        show some _ = some _
        rw [Option.some.injEq, decide_eq_decide]
        exact ⟨fun h => .inr ⟨h1, .inr ⟨h2, h⟩⟩, fun h => by
          rcases h with h | ⟨_, h | ⟨_, h⟩⟩
          · omega
          · omega
          · exact h⟩
    · rw [decide_eq_true (show ((a.length : Nat) : Int) ≠ ((b.length : Nat) : Int) by omega), cond_true, decide_eq_false (show ¬ n < k by omega), cond_false, decide_eq_true h1, cond_true, Option.some.injEq, decide_eq_decide]
      constructor
      · intro h; exact .inr ⟨h1, .inl (by omega)⟩
      · rintro (h | ⟨_, h | ⟨h, _⟩⟩) <;> omega
  · rw [decide_eq_true h1, cond_true]
    by_cases h2 : n < k
    · rw [decide_eq_true h2, cond_true, decide_eq_true (show Btr a n b k from .inl h2)]
    · rw [decide_eq_false h2, cond_false, decide_eq_false h1, cond_false, decide_eq_false]
      rintro (h | ⟨h, _⟩)
      · exact h2 h
      · exact h1 h
theorem orcmp_eq (a : List Int) (n : Int) (b : List Int) (k : Int) : ∃ y11 y12, slices_Compare_sint_int a b = some y11 ∧ cmp_Or_int [cmpI n k, cmpI ((a.length : Nat) : Int) ((b.length : Nat) : Int), y11] = some y12 ∧ decide (y12 < 0) = decide (Btr a n b k) := by
  by_cases hl : a.length = b.length
  · obtain ⟨y, h1, h2⟩ := compare_eq hl
    refine ⟨y, _, h1, or_eq _ _ _, ?_⟩
    rw [decide_eq_decide]
    unfold Btr
    by_cases c1 : n < k
    · have : cmpI n k = -1 := if_pos c1
      rw [this]; simp [c1]
    · by_cases c2 : k < n
      · have : cmpI n k = 1 := by unfold cmpI; rw [if_neg c1, if_pos c2]
        rw [this]; simp; exact ⟨by omega, fun h => by omega⟩
      · have e : n = k := by omega
        have z1 : cmpI n k = 0 := by unfold cmpI; rw [if_neg c1, if_neg c2]
        have z2 : cmpI ((a.length : Nat) : Int) ((b.length : Nat) : Int) = 0 := by unfold cmpI; rw [if_neg (by omega), if_neg (by omega)]
        rw [z1, z2]; simp [h2, e, hl]
  · obtain ⟨y, h1⟩ := compare_some a b
    refine ⟨y, _, h1, or_eq _ _ _, ?_⟩
    rw [decide_eq_decide]
    unfold Btr
    by_cases c1 : n < k
    · have : cmpI n k = -1 := if_pos c1
      rw [this]; simp [c1]
    · by_cases c2 : k < n
      · have : cmpI n k = 1 := by unfold cmpI; rw [if_neg c1, if_pos c2]
        rw [this]; simp; exact ⟨by omega, fun h => by omega⟩
      · have e : n = k := by omega
        have z1 : cmpI n k = 0 := by unfold cmpI; rw [if_neg c1, if_neg c2]
        rw [z1]
        by_cases c3 : a.length < b.length
        · have : cmpI ((a.length : Nat) : Int) ((b.length : Nat) : Int) = -1 := if_pos (by omega)
          rw [this]; simp [e, c3]
        · have : cmpI ((a.length : Nat) : Int) ((b.length : Nat) : Int) = 1 := by unfold cmpI; rw [if_neg (by omega), if_pos (by omega)]
          rw [this]; simp [e, hl, c3]
/-- what Way has found behind the first bases -/
def WInv (l : List ApiEdge) (node : Int) (bs : List Int) (s : List Int × Int × Bool) : Prop :=
  (s = ([], 0, false) ∧ ∀ b ∈ bs, ∀ es, ¬ Chain l node es b) ∨ (∃ b ∈ bs, ∃ p, Best l b node p ∧ PathRes l b node s.1 ∧ s.2.1 = p.1 ∧ s.2.2 = true ∧ ∀ b' ∈ bs, ∀ q, Best l b' node q → lexle p q)
theorem path_len {l : List ApiEdge} (g : GC l) {b n : Int} {ids : List Int} {p : Int × Nat} (hb : Best l b n p) (hp : PathRes l b n ids) : ids.length = p.2 := by
  obtain ⟨es, _, h2, h3⟩ := hp.walk hb fun e he => (g.cost e he).1
  rw [← h2, List.length_map, ← h3]; rfl
theorem way_fold {l : List ApiEdge} (g : GC l) (m : ApiMap) (runs : List Int) (node : Int) (hd : ref11_down m runs = some l) (bs : List Int) : ∃ s, forIx (ways_Way_b1 node l) 0 bs ([], 0, false) = some (.next s) ∧ forIx (ref11_Way_b1 m runs node) 0 bs ([], 0, false) = some (.next s) ∧ WInv l node bs s := by
  have step : ∀ (k : Nat) (b : Int) (s : List Int × Int × Bool), ∃ r, SpRes l node b r ∧ ((r.2.2 = false ∧ ways_Way_b1 node l k b s = some (.next s) ∧ ref11_Way_b1 m runs node k b s = some (.next s)) ∨ (r.2.2 = true ∧ ((s.2.2 = false ∨ Btr r.1 r.2.1 s.1 s.2.1) ∧ ways_Way_b1 node l k b s = some (.next (r.1, r.2.1, true)) ∧ ref11_Way_b1 m runs node k b s = some (.next (r.1, r.2.1, true)) ∨ (s.2.2 = true ∧ ¬ Btr r.1 r.2.1 s.1 s.2.1) ∧ ways_Way_b1 node l k b s = some (.next s) ∧ ref11_Way_b1 m runs node k b s = some (.next s)))) := by
    intro k b s
    obtain ⟨r, h1, h2⟩ := shortest_eq g node b
    obtain ⟨r', h3, h4⟩ := rShortest_eq g node b
    obtain rfl := h2.unique h4
    refine ⟨r, h2, ?_⟩
    unfold ways_Way_b1 ref11_Way_b1
    rw [h1, hd, Option.bind_some, Option.bind_some, h3, Option.bind_some]
    cases hr : r.2.2 with
    | false => exact .inl ⟨rfl, rfl, rfl⟩
    | true =>
      refine .inr ⟨rfl, ?_⟩
      simp only [cond_true]
      cases hs : s.2.2 with
      | false => exact .inl ⟨.inl rfl, rfl, rfl⟩
      | true =>
        simp only [Bool.not_true, cond_false, cmp_eq, Option.bind_some, better_eq]
        obtain ⟨y11, y12, g1, g2, g3⟩ := orcmp_eq r.1 r.2.1 s.1 s.2.1
        rw [g1, Option.bind_some, g2, Option.bind_some, g3]
        have hss : (s.1, s.2.1, true) = s := by rw [← hs]
        by_cases hb : Btr r.1 r.2.1 s.1 s.2.1
        · rw [decide_eq_true hb]; exact .inl ⟨.inr hb, rfl, rfl⟩
        · rw [decide_eq_false hb, cond_false]; exact .inr ⟨⟨trivial, hb⟩, by rw [hss], by rw [hss]⟩
  have both : ∀ (bs : List Int) (k : Nat) (pre : List Int) (s : List Int × Int × Bool), WInv l node pre s → ∃ s', forIx (ways_Way_b1 node l) k bs s = some (.next s') ∧ forIx (ref11_Way_b1 m runs node) k bs s = some (.next s') ∧ WInv l node (pre ++ bs) s' := by
    intro bs
    induction bs with
    | nil => intro k pre s hI; exact ⟨s, rfl, rfl, by simpa using hI⟩
    | cons b bs ih =>
      intro k pre s hI
      obtain ⟨r, hr, hc⟩ := step k b s
      have go : ∀ t, ways_Way_b1 node l k b s = some (.next t) → ref11_Way_b1 m runs node k b s = some (.next t) → WInv l node (pre ++ [b]) t → ∃ s', forIx (ways_Way_b1 node l) k (b :: bs) s = some (.next s') ∧ forIx (ref11_Way_b1 m runs node) k (b :: bs) s = some (.next s') ∧ WInv l node (pre ++ b :: bs) s' := by
        intro t h1 h2 h3
        obtain ⟨s', e1, e2, e3⟩ := ih (k + 1) (pre ++ [b]) t h3
        exact ⟨s', by rw [forIx, h1]; exact e1, by rw [forIx, h2]; exact e2, by simpa using e3⟩
      rcases hc with ⟨h0, h1, h2⟩ | ⟨h0, ⟨hh, h1, h2⟩ | ⟨hh, h1, h2⟩⟩
      · refine go s h1 h2 ?_
        have hno : ∀ es, ¬ Chain l node es b := by
          cases hr with
          | none h => exact h
          | some => cases h0
        rcases hI with ⟨i1, i2⟩ | ⟨b', hb', p, i1, i2, i3, i4, i5⟩
        · refine .inl ⟨i1, fun x hx => ?_⟩
          rcases List.mem_append.1 hx with hx | hx
          · exact i2 x hx
          · simp at hx; subst hx; exact hno
        · refine .inr ⟨b', List.mem_append.2 (.inl hb'), p, i1, i2, i3, i4, fun x hx q hq => ?_⟩
          rcases List.mem_append.1 hx with hx | hx
          · exact i5 x hx q hq
          · simp at hx; subst hx
            obtain ⟨es, h, _⟩ := hq.walk
            exact absurd h (hno es)
      · refine go _ h1 h2 ?_
        cases hr with
        | none => cases h0
        | @some q ids hb hp =>
          refine .inr ⟨b, by simp, q, hb, hp, rfl, rfl, fun x hx q' hq' => ?_⟩
          rcases List.mem_append.1 hx with hx | hx
          · rcases hI with ⟨i1, i2⟩ | ⟨b', hb', p, i1, i2, i3, i4, i5⟩
            · obtain ⟨es, h, _⟩ := hq'.walk
              exact absurd h (i2 x hx es)
            · refine lexle.trans ?_ (i5 x hx q' hq')
              rcases hh with hh | hh
              · rw [i4] at hh; cases hh
              · have l1 := path_len g hb hp
                have l2 := path_len g i1 i2
                unfold Btr at hh
                simp only at hh
                rw [i3, l1, l2] at hh
                unfold lexle; omega
          · simp at hx; subst hx
            rw [hb.unique hq']; exact .refl _
      · refine go s h1 h2 ?_
        cases hr with
        | none => cases h0
        | @some q ids hb hp =>
          rcases hI with ⟨i1, i2⟩ | ⟨b', hb', p, i1, i2, i3, i4, i5⟩
          · rw [i1] at hh; cases hh.1
          · refine .inr ⟨b', List.mem_append.2 (.inl hb'), p, i1, i2, i3, i4, fun x hx q' hq' => ?_⟩
            rcases List.mem_append.1 hx with hx | hx
            · exact i5 x hx q' hq'
            · simp at hx; subst hx
              rw [← hb.unique hq']
              have hh := hh.2
              have l1 := path_len g hb hp
              have l2 := path_len g i1 i2
              unfold Btr at hh
              simp only at hh
              rw [i3, l1, l2] at hh
              unfold lexle; omega
  obtain ⟨s, h1, h2, h3⟩ := both bs 0 [] ([], 0, false) (.inl ⟨rfl, by simp⟩)
  exact ⟨s, h1, h2, by simpa using h3⟩
theorem way_eq {m : ApiMap} (M : MapOK m) (runs : List Int) (node : Int) : ∃ r, ways_Way m runs node = some r ∧ ref11_Way m runs node = some r ∧ (((nodeF m node).2 = false ∧ r = ([], 0, false)) ∨ ((nodeF m node).2 = true ∧ WInv (downE m runs) node m.Bases r)) := by
  have hN : terrain_Node m node = some (nodeF m node) := findG_eq fun _ _ _ => rfl
  unfold ways_Way ref11_Way
  rw [hN, ref10_Node_eq, Option.bind_some, Option.bind_some]
  cases h : (nodeF m node).2 with
  | false => exact ⟨_, rfl, rfl, .inl ⟨rfl, rfl⟩⟩
  | true =>
    obtain ⟨s, h1, h2, h3⟩ := way_fold (down_gc M runs) m runs node (rdown_eq M runs) m.Bases
    simp only [Bool.not_true, cond_false]
    rw [down_eq M, Option.bind_some, h1, h2]
    exact ⟨s, rfl, rfl, .inr ⟨trivial, h3⟩⟩
end Go.Proofs.Ytnafejjdhdpanaa
