/-
  The laws of layer 10 (terrain) in plain Lean: each answers true.
-/
import Derived.Test.YtifkiiglkglhlaaL1
namespace Go.Proofs.Ytifkiiglkglhlaa
open Go Go.Ab
set_option linter.unusedSimpArgs false
set_option linter.unusedVariables false

theorem rising_pairwise {α : Type} {idf : α → Int} {l : List α} (h : Rising idf l) : l.Pairwise fun a b => idf a < idf b := by
  rw [List.pairwise_iff_getElem]
  have key : ∀ (d i : Nat) (hj : i + d + 1 < l.length), idf (l[i]'(by omega)) < idf l[i + d + 1] := by
    intro d
    induction d with
    | zero =>
      intro i hj
      exact h i _ _ (List.getElem?_eq_getElem (by omega)) (List.getElem?_eq_getElem (by omega))
    | succ d ih =>
      intro i hj
      have h1 := ih i (by omega)
      have h2 := h (i + d + 1) l[i + (d + 1) + 1] l[i + d + 1] (by rw [List.getElem?_eq_getElem (by omega)]; rfl) (List.getElem?_eq_getElem (by omega))
      omega
  intro i j hi hj hlt
  have := key (j - i - 1) i (by omega)
  simpa [show i + (j - i - 1) + 1 = j by omega] using this
theorem pairwise_rising {α : Type} {idf : α → Int} {l : List α} (h : l.Pairwise fun a b => idf a < idf b) : Rising idf l := by
  rw [List.pairwise_iff_getElem] at h
  intro k x y hx hy
  obtain ⟨h1, rfl⟩ := List.getElem?_eq_some_iff.1 hx
  obtain ⟨h2, rfl⟩ := List.getElem?_eq_some_iff.1 hy
  exact h k (k + 1) h2 h1 (by omega)
theorem rising_inj {α : Type} {idf : α → Int} {l : List α} (h : Rising idf l) {a b : α} (ha : a ∈ l) (hb : b ∈ l) (e : idf a = idf b) : a = b := by
  have hp := List.pairwise_iff_getElem.1 (rising_pairwise h)
  obtain ⟨i, hi, rfl⟩ := List.getElem_of_mem ha
  obtain ⟨j, hj, rfl⟩ := List.getElem_of_mem hb
  rcases Nat.lt_trichotomy i j with h1 | h1 | h1
  · have := hp i j hi hj h1; omega
  · subst h1; rfl
  · have := hp j i hj hi h1; omega
theorem findG_self {α : Type} {idf : α → Int} {d : α} {l : List α} (h : Rising idf l) {x : α} (hx : x ∈ l) : findG idf d l (idf x) = (x, true) := by
  have h1 := findG_mem (idf := idf) (d := d) hx
  have h2 := findG_true h1
  have := rising_inj h h2.1 hx h2.2
  exact Prod.ext this h1

theorem same_loop {α : Type} [DecidableEq α] {step : Nat → α → Unit → Option (Out Unit Bool)} {a b : List α} (hl : a.length = b.length) (hs : ∀ k x y, a[k]? = some x → b[k]? = some y → step k x () = bif decide (x ≠ y) then some (.ret false) else some (.next ())) :
    ((forIx step 0 a ()).bind fun o => o.on fun _ => some true) = some (decide (a = b)) := by
  rcases forIx_inv (step := step) (l := a) (s := ()) (fun k _ => ∀ i x, i < k → a[i]? = some x → b[i]? = some x) (fun r => r = false ∧ a ≠ b) (fun i x h => by omega) (fun k x u hk hI => by
    have hlt := (List.getElem?_eq_some_iff.1 hk).1
    have hy : b[k]? = some b[k] := List.getElem?_eq_getElem (by omega)
    rw [hs k x _ hk hy]
    by_cases e : x = b[k]
    · rw [decide_eq_false (by simpa using e)]
      refine .inl ⟨(), rfl, fun i z hi hz => ?_⟩
      by_cases h : i = k
      · subst h; rw [hk] at hz; obtain rfl := Option.some.inj hz; rw [hy, ← e]
      · exact hI i z (by omega) hz
    · rw [decide_eq_true (by simpa using e)]
      refine .inr ⟨false, rfl, rfl, fun h => e ?_⟩
      subst h
      rw [hk] at hy; exact Option.some.inj hy) with ⟨u, h1, h2⟩ | ⟨r, h1, h2, h3⟩
  · have : a = b := by
      apply List.ext_getElem? fun i => ?_
      rcases Nat.lt_or_ge i a.length with h | h
      · have := h2 i a[i] h (List.getElem?_eq_getElem h)
        rw [this, List.getElem?_eq_getElem h]
      · rw [List.getElem?_eq_none h, List.getElem?_eq_none (by omega)]
    rw [h1, decide_eq_true this]; rfl
  · subst h2
    rw [h1, decide_eq_false h3]; rfl
theorem sameInts_eq (a b : List Int) : ref10_SameInts a b = some (decide (a = b)) := by
  unfold ref10_SameInts
  by_cases hl : a.length = b.length
  · rw [decide_eq_false (by omega), cond_false]
    refine same_loop hl fun k x y hx hy => ?_
    simp only [ref10_SameInts_b1, idxL_nat hy, Option.bind_some]
  · rw [decide_eq_true (by omega), decide_eq_false (fun h => hl (by rw [h]))]; rfl
theorem edge_eq (x y : ApiEdge) : (!((decide (x.ID = y.ID)) && ((decide (x.From = y.From)) && ((decide (x.To = y.To)) && (decide (x.Cost = y.Cost)))))) = decide (x ≠ y) := by
  cases x; cases y; simp [ApiEdge.mk.injEq]
theorem sameEdges_eq (a b : List ApiEdge) : ref10_SameEdges a b = some (decide (a = b)) := by
  unfold ref10_SameEdges
  by_cases hl : a.length = b.length
  · rw [decide_eq_false (by omega), cond_false]
    refine same_loop hl fun k x y hx hy => ?_
    simp only [ref10_SameEdges_b1, idxL_nat hy, Option.bind_some, edge_eq]
  · rw [decide_eq_true (by omega), decide_eq_false (fun h => hl (by rw [h]))]; rfl

theorem has_eq (l : List Int) (n : Int) : ref10_Has l n = some (decide (n ∈ l)) := by
  unfold ref10_Has
  rw [forIx_first (fun x => decide (x = n)) (fun _ => true) (fun k x _ => rfl)]
  cases h : l.find? (fun x => decide (x = n)) with
  | none =>
    have : n ∉ l := fun hm => by have := List.find?_eq_none.1 h n hm; simp at this
    rw [decide_eq_false this]; rfl
  | some x =>
    have h1 := List.mem_of_find?_eq_some h
    have h2 : x = n := by simpa using List.find?_some h
    rw [decide_eq_true (h2 ▸ h1)]; rfl
theorem contains_eq (l : List Int) (n : Int) : slices_Contains_sint_int l n = some (decide (n ∈ l)) := by
  unfold slices_Contains_sint_int slices_Index_sint_int
  rcases forIx_inv (step := slices_Index_sint_int_b1 n) (l := l) (s := ()) (fun k _ => ∀ i x, i < k → l[i]? = some x → n ≠ x) (fun r => 0 ≤ r ∧ n ∈ l) (fun i x h => by omega) (fun k x u hk hI => by
    unfold slices_Index_sint_int_b1
    by_cases e : n = x
    · rw [decide_eq_true e]
      exact .inr ⟨_, rfl, by omega, e ▸ List.mem_of_getElem? hk⟩
    · rw [decide_eq_false e]
      refine .inl ⟨(), rfl, fun i y hi hy => ?_⟩
      by_cases h : i = k
      · subst h; rw [hk] at hy; obtain rfl := Option.some.inj hy; exact e
      · exact hI i y (by omega) hy) with ⟨u, h1, h2⟩ | ⟨r, h1, h2, h3⟩
  · have : n ∉ l := fun hm => by
      obtain ⟨i, hi, e⟩ := List.getElem_of_mem hm
      exact h2 i _ hi (List.getElem?_eq_getElem hi) e.symm
    rw [h1, decide_eq_false this]; rfl
  · rw [h1, decide_eq_true h3]
    show some (decide (0 ≤ r)) = _
    rw [decide_eq_true h2]

theorem trunc_runs (m : ApiMap) (zone : Int) (hl : m.Runs.length ≤ 100000) : terrain_Runs m zone = some ((m.Runs.filter fun x => decide (x.Zone = zone)).map ApiRun.ID) := by
  unfold terrain_Runs
  rw [forIx_collect (step := terrain_Runs_b1 zone) (fun x => decide (x.Zone = zone)) ApiRun.ID (by omega) (fun _ _ _ _ => rfl)]; rfl
theorem ref_runs (m : ApiMap) (zone : Int) : ref10_Runs m zone = terrain_Runs m zone := rfl
def runEdge (x : ApiRun) : ApiEdge := ⟨x.ID, x.From, x.To, x.Length⟩
def liftEdge (x : ApiLift) : ApiEdge := ⟨x.ID, x.From, x.To, x.Length⟩
theorem down_eq (m : ApiMap) (l : List Int) (hl : m.Runs.length ≤ 100000) : terrain_Down m l = some ((m.Runs.filter fun x => decide (x.ID ∈ l)).map runEdge) := by
  unfold terrain_Down
  rw [forIx_collect (fun x => decide (x.ID ∈ l)) runEdge (by omega) (fun k x s _ => by simp only [terrain_Down_b1, contains_eq, Option.bind_some]; rfl)]; rfl
theorem refdown_eq (m : ApiMap) (l : List Int) (hl : m.Runs.length ≤ 100000) : ref10_Down m l = some ((m.Runs.filter fun x => decide (x.ID ∈ l)).map runEdge) := by
  unfold ref10_Down
  rw [forIx_collect (fun x => decide (x.ID ∈ l)) runEdge (by omega) (fun k x s _ => by simp only [ref10_Down_b1, has_eq, Option.bind_some]; rfl)]; rfl
theorem up_eq (m : ApiMap) (l : List Int) (hl : m.Lifts.length ≤ 100000) : terrain_Up m l = some ((m.Lifts.filter fun x => decide (x.ID ∈ l)).map liftEdge) := by
  unfold terrain_Up
  rw [forIx_collect (fun x => decide (x.ID ∈ l)) liftEdge (by omega) (fun k x s _ => by simp only [terrain_Up_b1, contains_eq, Option.bind_some]; rfl)]; rfl
theorem refup_eq (m : ApiMap) (l : List Int) (hl : m.Lifts.length ≤ 100000) : ref10_Up m l = some ((m.Lifts.filter fun x => decide (x.ID ∈ l)).map liftEdge) := by
  unfold ref10_Up
  rw [forIx_collect (fun x => decide (x.ID ∈ l)) liftEdge (by omega) (fun k x s _ => by simp only [ref10_Up_b1, has_eq, Option.bind_some]; rfl)]; rfl

theorem law10_TerrainChecks_true (m : ApiMap) (_ : OkApiMap m) : law10_TerrainChecks m = some true := by
  obtain ⟨r, h1, h2, _⟩ := right_ok m
  simp only [law10_TerrainChecks, alive10, light_eq, h1, h2, Option.bind_some]
  cases decide (m.Nodes.length ≤ 70 ∧ m.Lifts.length ≤ 70 ∧ m.Runs.length ≤ 70 ∧ m.Bases.length ≤ 70) <;> simp
theorem law10_TerrainFinds_true (m : ApiMap) (id : Int) (_ : OkApiMap m) (_ : I64 id) : law10_TerrainFinds m id = some true := by
  simp only [law10_TerrainFinds, alive10, light_eq, terrain_Node_eq, ref10_Node_eq, terrain_Lift_eq, ref10_Lift_eq, terrain_Run_eq, ref10_Run_eq, Option.bind_some]
  simp
theorem law10_TerrainRuns_true (m : ApiMap) (zone : Int) (_ : OkApiMap m) (_ : I64 zone) : law10_TerrainRuns m zone = some true := by
  obtain ⟨r, h1, h2, hr⟩ := right_ok m
  simp only [law10_TerrainRuns, alive10, h2, Option.bind_some]
  by_cases h : r = 0
  · have ok := hr.1 h
    have := ok.lenR
    simp only [ref_runs, trunc_runs m zone (by omega), Option.bind_some, sameInts_eq]
    simp
  · simp [h]
theorem law10_TerrainEdges_true (m : ApiMap) (runs lifts : List Int) (_ : OkApiMap m) (_ : OkL I64 runs) (_ : OkL I64 lifts) : law10_TerrainEdges m runs lifts = some true := by
  obtain ⟨r, h1, h2, hr⟩ := right_ok m
  simp only [law10_TerrainEdges, alive10, h2, Option.bind_some]
  by_cases h : r = 0
  · have ok := hr.1 h
    have := ok.lenR
    have := ok.lenL
    simp only [down_eq m runs (by omega), refdown_eq m runs (by omega), up_eq m lifts (by omega), refup_eq m lifts (by omega), Option.bind_some, sameEdges_eq]
    simp
  · simp [h]
theorem wrap_small {n : Int} (h : -1000000 ≤ n ∧ n ≤ 1000000) : IntKind.i64.wrap n = n := by rw [wrap_i64] <;> omega
theorem law10_TerrainVertical_true (m : ApiMap) (lift : Int) (_ : OkApiMap m) (_ : I64 lift) : law10_TerrainVertical m lift = some true := by
  obtain ⟨r, h1, h2, hr⟩ := right_ok m
  simp only [law10_TerrainVertical, alive10, h2, Option.bind_some, terrain_Vertical, ref10_Vertical, terrain_Lift_eq, ref10_Lift_eq, terrain_Node_eq, ref10_Node_eq]
  by_cases h : r = 0
  · have ok := hr.1 h
    cases hv : (liftF m lift).2 with
    | false => simp
    | true =>
      have hx := liftF_true hv
      have hl := (ok.lifts _ hx.1).2.1
      have n1 := (ok.nodes _ (nodeF_true hl.1).1).2
      have n2 := (ok.nodes _ (nodeF_true hl.2.1).1).2
      have hlt := hl.2.2
      simp only [Bool.not_true, cond_false, wrap_small (n := (nodeF m (liftF m lift).1.To).1.Alt - (nodeF m (liftF m lift).1.From).1.Alt) (by omega), Option.bind_some]
      simp [h]
      omega
  · simp [h]

theorem rising_sub {α : Type} {idf : α → Int} {l l' : List α} (h : Rising idf l) (hs : l'.Sublist l) : Rising idf l' := pairwise_rising ((rising_pairwise h).sublist hs)
theorem MapOK.fewer {m : ApiMap} (h : MapOK m) {r : List ApiRun} {l : List ApiLift} (hr : r.Sublist m.Runs) (hl : l.Sublist m.Lifts) : MapOK ⟨m.Nodes, l, r, m.Bases⟩ :=
  ⟨h.lenN, Nat.le_trans hl.length_le h.lenL, Nat.le_trans hr.length_le h.lenR, h.lenB, h.nodes, h.nodesR, fun x hx => h.lifts x (hl.subset hx), rising_sub h.liftsR hl, fun x hx => h.runs x (hr.subset hx), rising_sub h.runsR hr, h.some, h.bases, h.basesR⟩
theorem take_drop_sub {α : Type} (l : List α) (k : Nat) : (l.take k ++ l.drop (k + 1)).Sublist l := by
  have h : (l.take k ++ l.drop (k + 1)).Sublist (l.take k ++ l.drop k) := List.Sublist.append (List.Sublist.refl _) (by rw [← List.drop_drop]; exact List.drop_sublist _ _)
  rwa [List.take_append_drop] at h
theorem right_of_ok {m : ApiMap} (h : MapOK m) : terrain_Right m = some 0 := by
  obtain ⟨r, h1, _, h2⟩ := right_ok m
  rw [h1, h2.2 h]
/-- the place that is left out -/
theorem tmod_place {a : Int} {n : Nat} (ha : 0 ≤ a ∧ a ≤ 255) (hn : 0 < n) : ∃ k : Nat, (IntKind.i64.wrap a).tmod (n : Int) = (k : Int) ∧ k < n := by
  rw [wrap_i64 (by omega) (by omega), Int.tmod_eq_emod_of_nonneg ha.1]
  have h1 := Int.emod_nonneg a (b := (n : Int)) (by omega)
  have h2 := Int.emod_lt_of_pos a (b := (n : Int)) (by omega)
  exact ⟨(a % n).toNat, by omega, by omega⟩
theorem law10_TerrainFewer_true (m : ApiMap) (at_ : Int) (_ : OkApiMap m) (ha : U8 at_) : law10_TerrainFewer m at_ = some true := by
  obtain ⟨r, h1, h2, hr⟩ := right_ok m
  simp only [law10_TerrainFewer, alive10, light_eq, h1, Option.bind_some]
  cases decide (m.Nodes.length ≤ 70 ∧ m.Lifts.length ≤ 70 ∧ m.Runs.length ≤ 70 ∧ m.Bases.length ≤ 70)
  · rfl
  by_cases h : r = 0
  case neg => simp [h]
  have ok := hr.1 h
  have hR := ok.lenR
  have hL := ok.lenL
  have piece : ∀ (n : Nat), 0 < n → n ≤ 64 → ∃ k : Nat, k < n ∧ (IntKind.i64.wrap at_).tmod (n : Int) = (k : Int) ∧ IntKind.i64.wrap ((k : Int) + 1) = ((k + 1 : Nat) : Int) := fun n h0 hn => by
    obtain ⟨k, e, hk⟩ := tmod_place ha h0
    exact ⟨k, hk, e, wrap_add1 (by omega)⟩
  simp only [h, ne_eq, not_true_eq_false, decide_false, cond_false, Bool.not_true]
  by_cases hr0 : 0 < m.Runs.length
  · obtain ⟨k, hk, e1, e2⟩ := piece _ hr0 hR
    have okR := right_of_ok (ok.fewer (take_drop_sub m.Runs k) (List.Sublist.refl _))
    rw [decide_eq_true (by omega), cond_true, e1, e2, nz_ok (by omega), okB_ok (by omega), chk_ok (by omega), okB_ok (by omega), chk_ok (by omega)]
    by_cases hl0 : 0 < m.Lifts.length
    · obtain ⟨j, hj, e3, e4⟩ := piece _ hl0 (by omega)
      have okL := right_of_ok (ok.fewer (List.Sublist.refl _) (take_drop_sub m.Lifts j))
      rw [decide_eq_true (by omega), cond_true, e3, e4, nz_ok (by omega), okB_ok (by omega), chk_ok (by omega), okB_ok (by omega), chk_ok (by omega)]
      simp only [Int.toNat_natCast, okR, okL, Option.bind_some]; rfl
    · rw [decide_eq_false (by omega), cond_false]
      have okL := right_of_ok ok
      simp only [Int.toNat_natCast, okR, okL, Option.bind_some]; rfl
  · rw [decide_eq_false (by omega), cond_false]
    have okR := right_of_ok ok
    by_cases hl0 : 0 < m.Lifts.length
    · obtain ⟨j, hj, e3, e4⟩ := piece _ hl0 (by omega)
      have okL := right_of_ok (ok.fewer (List.Sublist.refl _) (take_drop_sub m.Lifts j))
      rw [decide_eq_true (by omega), cond_true, e3, e4, nz_ok (by omega), okB_ok (by omega), chk_ok (by omega), okB_ok (by omega), chk_ok (by omega)]
      simp only [Int.toNat_natCast, okR, okL, Option.bind_some]; rfl
    · rw [decide_eq_false (by omega), cond_false]
      simp

theorem filter_zone (l : List ApiRun) (k : Nat) : (l.filter fun x => decide (x.Zone ≤ (k : Int) + 1)).length = (l.filter fun x => decide (x.Zone ≤ (k : Int))).length + (l.filter fun x => decide (x.Zone = (k : Int) + 1)).length := by
  induction l with
  | nil => rfl
  | cons x l ih =>
    simp only [List.filter_cons]
    by_cases h1 : x.Zone ≤ (k : Int)
    · have h2 : x.Zone ≤ (k : Int) + 1 := by omega
      have h3 : ¬ x.Zone = (k : Int) + 1 := by omega
      simp [h1, h2, h3, ih]; omega
    · by_cases h3 : x.Zone = (k : Int) + 1
      · have h4 : ¬ (k : Int) + 1 ≤ (k : Int) := by omega
        simp [h3, h4, ih]; omega
      · have h2 : ¬ x.Zone ≤ (k : Int) + 1 := by omega
        simp [h1, h2, h3, ih]
theorem law10_TerrainZones_true (m : ApiMap) (_ : OkApiMap m) : law10_TerrainZones m = some true := by
  obtain ⟨r, h1, h2, hr⟩ := right_ok m
  simp only [law10_TerrainZones, alive10, light_eq, h1, Option.bind_some]
  cases decide (m.Nodes.length ≤ 70 ∧ m.Lifts.length ≤ 70 ∧ m.Runs.length ≤ 70 ∧ m.Bases.length ≤ 70)
  · rfl
  by_cases h : r = 0
  case neg => simp [h]
  have ok := hr.1 h
  have hR := ok.lenR
  simp only [h, ne_eq, not_true_eq_false, decide_false, cond_false, Bool.not_true]
  obtain ⟨s', e1, e2⟩ := forN_run (n := 32) (s := (0 : Int)) (step := law10_TerrainZones_b1 m) (by decide) (fun k n => n = ((m.Runs.filter fun x => decide (x.Zone ≤ (k : Int))).length : Int)) (by
    have : (m.Runs.filter fun x => decide (x.Zone ≤ ((0 : Nat) : Int))) = [] := by
      rw [List.filter_eq_nil_iff]
      intro x hx
      have := (ok.runs x hx).1.2.2.2.1
      simp; omega
    rw [this]; rfl) (fun k n hk hn => by
    have hb : (forIx (law10_TerrainZones_b2 m k ((m.Runs.filter fun x => decide (x.Zone = (k : Int) + 1)).map ApiRun.ID)) 0 ((m.Runs.filter fun x => decide (x.Zone = (k : Int) + 1)).map ApiRun.ID) ()) = some (.next ()) := by
      rw [forIx_all]
      intro i x hx
      rw [Nat.zero_add]
      have hx' := hx
      rw [List.getElem?_map] at hx
      cases hz : (m.Runs.filter fun x => decide (x.Zone = (k : Int) + 1))[i]? with
      | none => rw [hz] at hx; cases hx
      | some z =>
        rw [hz] at hx
        obtain rfl := Option.some.inj hx
        have hm := List.mem_filter.1 (List.mem_of_getElem? hz)
        have e : runF m z.ID = (z, true) := findG_self ok.runsR hm.1
        have hzone : z.Zone = (k : Int) + 1 := by simpa using hm.2
        have hlen : i < (m.Runs.filter fun x => decide (x.Zone = (k : Int) + 1)).length := (List.getElem?_eq_some_iff.1 hz).1
        have hle := List.length_filter_le (fun x : ApiRun => decide (x.Zone = (k : Int) + 1)) m.Runs
        simp only [law10_TerrainZones_b2, terrain_Run_eq, e, Option.bind_some, Bool.not_true, cond_false, hzone, ne_eq, not_true_eq_false, decide_false]
        by_cases h0 : 0 < i
        · have hy : ((m.Runs.filter fun x => decide (x.Zone = (k : Int) + 1)).map ApiRun.ID)[i - 1]? = some (((m.Runs.filter fun x => decide (x.Zone = (k : Int) + 1)).map ApiRun.ID)[i - 1]'(by rw [List.length_map]; omega)) := List.getElem?_eq_getElem _
          have hp := rising_pairwise (rising_sub ok.runsR (List.filter_sublist (p := fun x => decide (x.Zone = (k : Int) + 1))))
          have hlt := List.pairwise_iff_getElem.1 hp (i - 1) i (by omega) hlen (by omega)
          rw [decide_eq_true (by omega), cond_true, idxL_ok (wrap_pred h0 (by omega)) hy]
          have ez : (m.Runs.filter fun x => decide (x.Zone = (k : Int) + 1))[i] = z := by
            have := List.getElem?_eq_getElem hlen
            rw [this] at hz; exact Option.some.inj hz
          rw [ez] at hlt
          simp only [Option.bind_some, List.getElem_map]
          rw [decide_eq_false (by omega)]; rfl
        · rw [decide_eq_false (by omega)]; rfl
    have hle := List.length_filter_le (fun x : ApiRun => decide (x.Zone ≤ (k : Int))) m.Runs
    have hle2 := List.length_filter_le (fun x : ApiRun => decide (x.Zone = (k : Int) + 1)) m.Runs
    refine ⟨((m.Runs.filter fun x => decide (x.Zone ≤ ((k + 1 : Nat) : Int))).length : Int), ?_, rfl⟩
    simp only [law10_TerrainZones_b1, trunc_runs m _ (show m.Runs.length ≤ 100000 by omega), Option.bind_some, hb]
    show some (Out.next (IntKind.i64.wrap (n + _))) = _
    rw [wrap_i64 (by rw [hn, List.length_map]; omega) (by rw [hn, List.length_map]; omega), hn, List.length_map]
    have := filter_zone m.Runs k
    rw [show ((k + 1 : Nat) : Int) = (k : Int) + 1 from rfl, this]; rfl)
  rw [e1]
  have e3 : (m.Runs.filter fun x => decide (x.Zone ≤ ((32 : Nat) : Int))) = m.Runs := by
    rw [List.filter_eq_self]
    intro x hx
    have := (ok.runs x hx).1.2.2.2.1
    simp; omega
  rw [e3] at e2
  show some (decide (s' = _)) = _
  rw [decide_eq_true e2]
end Go.Proofs.Ytifkiiglkglhlaa
