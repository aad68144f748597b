/-
  The laws of layer 11 (ways) in plain Lean, the last part: each answers true.
-/
import Derived.Test.YtnafejjdhdpanaaL9
namespace Go.Proofs.Ytnafejjdhdpanaa
open Go Go.Ab
set_option linter.unusedSimpArgs false
set_option linter.unusedVariables false

def sm : ApiMap := ⟨[⟨1, 1000⟩, ⟨2, 1500⟩, ⟨3, 2000⟩, ⟨4, 1400⟩], [⟨1, 1, 1, 2, 1000, 5000, 4, 20⟩, ⟨2, 1, 2, 3, 1000, 5000, 4, 20⟩], [⟨11, 1, 3, 2, 1, 1, 900⟩, ⟨12, 1, 2, 1, 1, 1, 800⟩, ⟨13, 1, 3, 1, 1, 1, 1700⟩, ⟨14, 1, 3, 4, 1, 1, 700⟩], [1]⟩
theorem sm_ok : MapOK sm := by
  obtain ⟨r, h1, h2⟩ := right10_eq sm
  have : ref10_Right sm = some 0 := by decide +kernel
  rw [this] at h1
  exact h2.1 (Option.some.inj h1).symm
theorem reachable_same {m : ApiMap} (M : MapOK m) {lifts runs x : List Int} (h : ref11_Reachable m lifts runs = some x) : ways_Reachable m lifts runs = some x := by
  obtain ⟨r, h1, h2⟩ := reachable_eq M lifts runs
  obtain ⟨r', h3, h4⟩ := rreachable_eq M lifts runs
  rw [h] at h3; obtain rfl := Option.some.inj h3
  rw [h1, h2.unique h4]
theorem home_same {m : ApiMap} (M : MapOK m) {runs x : List Int} (h : ref11_Home m runs = some x) : ways_Home m runs = some x := by
  obtain ⟨r, h1, h2⟩ := home_eq M runs
  obtain ⟨r', h3, h4⟩ := rhome_eq M runs
  rw [h] at h3; obtain rfl := Option.some.inj h3
  rw [h1, h2.unique h4]
theorem stranded_same {m : ApiMap} (M : MapOK m) {lifts runs x : List Int} (h : ref11_Stranded m lifts runs = some x) : ways_Stranded m lifts runs = some x := by
  obtain ⟨r, h1, h2⟩ := stranded_eq M lifts runs
  obtain ⟨r', h3, h4⟩ := rstranded_eq M lifts runs
  rw [h] at h3; obtain rfl := Option.some.inj h3
  rw [h1, h2.unique h4]
theorem needs_eq {m : ApiMap} (M : MapOK m) {lifts runs : List Int} (hr : runs.length ≤ 549755813888) (run : Int) : ∃ a b, IncList (SS m lifts (minusI runs [run])) a ∧ IncList (SS m lifts runs) b ∧ ways_Stranded m lifts (minusI runs [run]) = some a ∧ ways_Stranded m lifts runs = some b ∧ ways_Needs m lifts runs run = some (minusI a b) ∧ ref11_Needs m lifts runs run = some (minusI a b) := by
  obtain ⟨a, e1, f1⟩ := stranded_eq M lifts (minusI runs [run])
  obtain ⟨b, e2, f2⟩ := stranded_eq M lifts runs
  obtain ⟨a', e3, f3⟩ := rstranded_eq M lifts (minusI runs [run])
  obtain ⟨b', e4, f4⟩ := rstranded_eq M lifts runs
  obtain rfl := f1.unique f3
  obtain rfl := f2.unique f4
  refine ⟨a, b, f1, f2, e1, e2, ?_, ?_⟩
  · unfold ways_Needs
    rw [less_eq' hr, Option.bind_some, e1, Option.bind_some, e2, Option.bind_some, less_eq' (SS.len M f1)]; rfl
  · unfold ref11_Needs
    have : minusI runs [run] = runs.filter fun x => decide (x ≠ run) := by unfold minusI; congr 1; funext x; simp
    rw [forIx_collect (step := ref11_Needs_b1 run) (fun x => decide (x ≠ run)) id hr (fun k x s hx => rfl), List.map_id, ← this]
    show (ref11_Stranded m lifts (minusI runs [run])).bind _ = _
    rw [e3, Option.bind_some, e4, Option.bind_some, minus_eq (SS.len M f1)]; rfl
theorem feeds_eq {m : ApiMap} (M : MapOK m) (lifts runs : List Int) (run : Int) : ∃ b, ways_Feeds m lifts runs run = some b ∧ ref11_Feeds m lifts runs run = some b := by
  have h1 : terrain_Run m run = some (runF m run) := findG_eq fun _ _ _ => rfl
  have h2 : ref10_Run m run = some (runF m run) := findG_eq fun _ _ _ => rfl
  obtain ⟨a, e1, f1⟩ := reachable_eq M lifts runs
  obtain ⟨a', e2, f2⟩ := rreachable_eq M lifts runs
  obtain rfl := f1.unique f2
  unfold ways_Feeds ref11_Feeds
  rw [h1, h2, Option.bind_some, Option.bind_some]
  cases (runF m run).2 with
  | false => exact ⟨false, rfl, rfl⟩
  | true => exact ⟨decide ((runF m run).1.From ∈ a), by simp [e1, contains_eq], by simp [e2, rHas_eq]⟩
theorem feeds_same {m : ApiMap} (M : MapOK m) {lifts runs : List Int} {run : Int} {x : Bool} (h : ref11_Feeds m lifts runs run = some x) : ways_Feeds m lifts runs run = some x := by
  obtain ⟨b, h1, h2⟩ := feeds_eq M lifts runs run
  rw [h] at h2; rw [h1, Option.some.inj h2]
theorem needs_same {m : ApiMap} (M : MapOK m) {lifts runs : List Int} {run : Int} (hr : runs.length ≤ 549755813888) {x : List Int} (h : ref11_Needs m lifts runs run = some x) : ways_Needs m lifts runs run = some x := by
  obtain ⟨a, b, _, _, _, _, h1, h2⟩ := needs_eq M (lifts := lifts) hr run
  rw [h] at h2; rw [h1, Option.some.inj h2]
theorem alive11 : law11_alive = some true := by
  have h0 : law11_sample = some sm := rfl
  have h1 : ways_Way sm [11, 12, 13, 14] 3 = some ([13], 1700, true) := by decide +kernel
  have h2 : ways_Way sm [11, 12, 14] 3 = some ([11, 12], 1700, true) := by decide +kernel
  have h3 : ways_Way sm [11, 12, 13, 14] 4 = some ([], 0, false) := by decide +kernel
  have h4 : ways_Reachable sm [1, 2] [11, 12, 13, 14] = some [1, 2, 3, 4] := reachable_same sm_ok (by decide +kernel)
  have h5 : ways_Home sm [11, 12, 13, 14] = some [1, 2, 3] := home_same sm_ok (by decide +kernel)
  have h6 : ways_Stranded sm [1, 2] [11, 12, 13, 14] = some [4] := stranded_same sm_ok (by decide +kernel)
  have h7 : ways_Reachable sm [2] [11, 12, 13, 14] = some [1] := reachable_same sm_ok (by decide +kernel)
  have h8 : ways_Needs sm [1, 2] [11, 12] 12 = some [2, 3] := needs_same sm_ok (by decide) (by decide +kernel)
  have h9 : ways_Feeds sm [1, 2] [11, 12] 14 = some true := feeds_same sm_ok (by decide +kernel)
  have h10 : ways_Feeds sm [1, 2] [11, 12, 13, 14] 15 = some false := feeds_same sm_ok (by decide +kernel)
  simp [law11_alive, h0, h1, h2, h3, h4, h5, h6, h7, h8, h9, h10, rSame_eq]

structure SmallX (x : Skilaw11Open) : Prop where
  map : MapOK x.Map
  lifts : x.Lifts.length ≤ 100
  runs : x.Runs.length ≤ 100
theorem small_eq (x : Skilaw11Open) : ∃ b, law11_small x = some b ∧ (b = true → SmallX x) := by
  unfold law11_small
  by_cases h1 : ((x.Lifts.length : Nat) : Int) ≤ 100
  · rw [decide_eq_true h1, cond_true]
    by_cases h2 : ((x.Runs.length : Nat) : Int) ≤ 100
    · rw [decide_eq_true h2, cond_true]
      obtain ⟨r, h3, h4⟩ := right10_eq x.Map
      rw [h3]
      exact ⟨_, rfl, fun h => ⟨h4.1 (of_decide_eq_true h), by omega, by omega⟩⟩
    · rw [decide_eq_false h2]; exact ⟨false, rfl, fun h => by cases h⟩
  · rw [decide_eq_false h1]; exact ⟨false, rfl, fun h => by cases h⟩

theorem law11_WaysReaches_true (x : Skilaw11Open) (h : OkSkilaw11Open x) : law11_WaysReaches x = some true := by
  obtain ⟨b, h1, h2⟩ := small_eq x
  unfold law11_WaysReaches
  rw [alive11, h1]
  cases b with
  | false => rfl
  | true =>
    obtain ⟨M, hl, hr⟩ := h2 rfl
    obtain ⟨a, e1, f1⟩ := reachable_eq M x.Lifts x.Runs
    obtain ⟨a', e2, f2⟩ := rreachable_eq M x.Lifts x.Runs
    obtain ⟨b, e3, f3⟩ := home_eq M x.Runs
    obtain ⟨b', e4, f4⟩ := rhome_eq M x.Runs
    obtain ⟨c, e5, f5⟩ := stranded_eq M x.Lifts x.Runs
    obtain ⟨c', e6, f6⟩ := rstranded_eq M x.Lifts x.Runs
    obtain rfl := f1.unique f2
    obtain rfl := f3.unique f4
    obtain rfl := f5.unique f6
    simp [e1, e2, e3, e4, e5, e6, rSame_eq]
theorem law11_WaysShortest_true (x : Skilaw11Open) (node : Int) (h : OkSkilaw11Open x) (hn : I64 node) : law11_WaysShortest x node = some true := by
  obtain ⟨b, h1, h2⟩ := small_eq x
  unfold law11_WaysShortest
  rw [alive11, h1]
  cases b with
  | false => rfl
  | true =>
    obtain ⟨M, hl, hr⟩ := h2 rfl
    obtain ⟨r, e1, e2, _⟩ := way_eq M x.Runs node
    simp [e1, e2, rSame_eq]
theorem law11_WaysNeeds_true (x : Skilaw11Open) (run : Int) (h : OkSkilaw11Open x) (hn : I64 run) : law11_WaysNeeds x run = some true := by
  obtain ⟨b, h1, h2⟩ := small_eq x
  unfold law11_WaysNeeds
  rw [alive11, h1]
  cases b with
  | false => rfl
  | true =>
    obtain ⟨M, hl, hr⟩ := h2 rfl
    obtain ⟨b, e1, e2⟩ := feeds_eq M x.Lifts x.Runs run
    obtain ⟨p, q, _, _, _, _, e3, e4⟩ := needs_eq M (lifts := x.Lifts) (runs := x.Runs) (by omega) run
    simp [e1, e2, e3, e4, rSame_eq]

/-! ### ways by the IDs of their runs -/
theorem rising_inj {α : Type} {idf : α → Int} {l : List α} (h : Rising idf l) {a b : α} (ha : a ∈ l) (hb : b ∈ l) (e : idf a = idf b) : a = b := by
  have key : ∀ (d i : Nat) (hj : i + d + 1 < l.length), idf (l[i]'(by omega)) < idf l[i + d + 1] := by
    intro d
    induction d with
    | zero =>
      intro i hj
      exact h i _ _ (List.getElem?_eq_getElem (by omega)) (List.getElem?_eq_getElem (by omega))
    | succ d ih =>
      intro i hj
      have h1 := ih i (by omega)
      have h2 := h (i + d + 1) l[i + (d + 1) + 1] l[i + d + 1] (by rw [List.getElem?_eq_getElem (by omega)]; rfl) (List.getElem?_eq_getElem (by omega))
      omega
  obtain ⟨i, hi, rfl⟩ := List.getElem_of_mem ha
  obtain ⟨j, hj, rfl⟩ := List.getElem_of_mem hb
  rcases Nat.lt_trichotomy i j with h1 | h1 | h1
  · have := key (j - i - 1) i (by omega)
    simp only [show i + (j - i - 1) + 1 = j by omega] at this; omega
  · subst h1; rfl
  · have := key (i - j - 1) j (by omega)
    simp only [show j + (i - j - 1) + 1 = i by omega] at this; omega
theorem down_inj {m : ApiMap} (M : MapOK m) {runs : List Int} {a b : ApiEdge} (ha : a ∈ downE m runs) (hb : b ∈ downE m runs) (e : a.ID = b.ID) : a = b := by
  obtain ⟨x, hx, _, rfl⟩ := mem_downE.1 ha
  obtain ⟨y, hy, _, rfl⟩ := mem_downE.1 hb
  rw [rising_inj M.runsR hx hy e]
theorem down_list_inj {m : ApiMap} (M : MapOK m) {runs : List Int} : ∀ {a b : List ApiEdge}, (∀ e ∈ a, e ∈ downE m runs) → (∀ e ∈ b, e ∈ downE m runs) → a.map (·.ID) = b.map (·.ID) → a = b
  | [], [], _, _, _ => rfl
  | [], _ :: _, _, _, h => by simp at h
  | _ :: _, [], _, _, h => by simp at h
  | x :: a, y :: b, ha, hb, h => by
    rw [List.map_cons, List.map_cons, List.cons.injEq] at h
    rw [down_inj M (ha x (by simp)) (hb y (by simp)) h.1, down_list_inj M (fun e he => ha e (List.mem_cons_of_mem _ he)) (fun e he => hb e (List.mem_cons_of_mem _ he)) h.2]
theorem leads_spec {x : Skilaw11Open} (M : MapOK x.Map) {p : List Int} (hl : p.length ≤ 1000) (node : Int) :
    ∃ r, law11_leads x p node = some r ∧ ((∃ es t, Chain (downE x.Map x.Runs) node es t ∧ es.map (·.ID) = p ∧ r = (ecost es, decide (t ∈ x.Map.Bases))) ∨ (r = (0, false) ∧ ∀ es t, Chain (downE x.Map x.Runs) node es t → es.map (·.ID) ≠ p)) := by
  have g := down_gc M x.Runs
  unfold law11_leads
  rcases forIx_inv (step := law11_leads_b1 x) (l := p) (s := (node, (0 : Int))) (fun k s => ∃ es, Chain (downE x.Map x.Runs) node es s.1 ∧ es.map (·.ID) = p.take k ∧ s.2 = ecost es) (fun r => r = (0, false) ∧ ∀ es t, Chain (downE x.Map x.Runs) node es t → es.map (·.ID) ≠ p)
    ⟨[], rfl, by simp, rfl⟩ (fun k id s hk ⟨es, i1, i2, i3⟩ => by
      have hlt := (List.getElem?_eq_some_iff.1 hk).1
      have other : ∀ es' t, Chain (downE x.Map x.Runs) node es' t → es'.map (·.ID) = p → ∃ e, e ∈ downE x.Map x.Runs ∧ e.ID = id ∧ e.From = s.1 := fun es' t hc he => by
        have hlen : es'.length = p.length := by rw [← he, List.length_map]
        have e0 : es' = es'.take k ++ es'[k] :: es'.drop (k + 1) := by
          rw [← List.drop_eq_getElem_cons (by omega), List.take_append_drop]
        rw [e0] at hc
        obtain ⟨m', h1, h2, h3, h4⟩ := chain_app.1 hc
        have : es'.take k = es := down_list_inj M h1.mem i1.mem (by rw [i2, List.map_take, he])
        rw [this] at h1
        refine ⟨es'[k], h2, ?_, by rw [h3]; exact h1.det i1⟩
        have : (es'.map (·.ID))[k]? = some id := by rw [he]; exact hk
        rw [List.getElem?_map, List.getElem?_eq_getElem (by omega)] at this
        simpa using this
      have hb := ecost_bounds (M := 1000000000) fun e he => g.cost e (i1.mem e he)
      have hel : es.length ≤ 1000 := by
        have := congrArg List.length i2
        rw [List.length_map, List.length_take] at this; omega
      have hR : ref10_Run x.Map id = some (runF x.Map id) := findG_eq fun _ _ _ => rfl
      unfold law11_leads_b1
      rw [hR, Option.bind_some]
      cases hf : (runF x.Map id).2 with
      | false =>
        refine .inr ⟨_, rfl, rfl, fun es' t hc he' => ?_⟩
        obtain ⟨e', g1, g2, g3⟩ := other es' t hc he'
        obtain ⟨y, hy, _, rfl⟩ := mem_downE.1 g1
        have := findG_mem (idf := ApiRun.ID) (d := ⟨0, 0, 0, 0, 0, 0, 0⟩) hy
        have g2' : y.ID = id := g2
        rw [g2'] at this
        rw [show (runF x.Map id).2 = true from this] at hf; cases hf
      | true =>
        obtain ⟨h1, h2⟩ := runF_true hf
        simp only [Bool.not_true, cond_false]
        by_cases hfr : (runF x.Map id).1.From = s.1
        · rw [decide_eq_false (by simpa using hfr), cond_false, rHas_eq, Option.bind_some]
          by_cases hin : id ∈ x.Runs
          · have he : runE (runF x.Map id).1 ∈ downE x.Map x.Runs := mem_downE.2 ⟨_, h1, by rw [h2]; exact hin, rfl⟩
            have hc := g.cost _ he
            rw [decide_eq_true hin]
            simp only [Bool.not_true, cond_false]
            rw [i3, show IntKind.i64.wrap (ecost es + (runF x.Map id).1.Length) = ecost es + (runF x.Map id).1.Length by
              have : (runE (runF x.Map id).1).Cost = (runF x.Map id).1.Length := rfl
              rw [this] at hc
              rw [wrap_i64] <;> omega]
            refine .inl ⟨_, rfl, es ++ [runE (runF x.Map id).1], chain_app.2 ⟨_, i1, he, hfr, rfl⟩, ?_, ?_⟩
            · rw [List.map_append, i2, take_succ_some hk]
              show _ ++ [(runF x.Map id).1.ID] = _
              rw [h2]
            · simp only; rw [ecost_app, ecost_cons, ecost_nil]; show _ = _ + ((runF x.Map id).1.Length + 0); omega
          · rw [decide_eq_false hin]
            refine .inr ⟨_, rfl, rfl, fun es' t hc he' => ?_⟩
            obtain ⟨e', g1, g2, g3⟩ := other es' t hc he'
            obtain ⟨y, hy, hyr, rfl⟩ := mem_downE.1 g1
            have g2' : y.ID = id := g2
            exact hin (g2' ▸ hyr)
        · rw [decide_eq_true (by simpa using hfr), cond_true]
          refine .inr ⟨_, rfl, rfl, fun es' t hc he' => ?_⟩
          obtain ⟨e', g1, g2, g3⟩ := other es' t hc he'
          obtain ⟨y, hy, hyr, rfl⟩ := mem_downE.1 g1
          have g2' : y.ID = id := g2
          have : y = (runF x.Map id).1 := rising_inj M.runsR hy h1 (g2'.trans h2.symm)
          subst this; exact hfr g3) with ⟨s, h1, es, h2, h3, h4⟩ | ⟨r, h1, h2⟩
  · rw [List.take_length] at h3
    rw [h1]
    refine ⟨(s.2, decide (s.1 ∈ x.Map.Bases)), by simp [Out.on, rHas_eq], .inl ⟨es, s.1, h2, h3, by rw [h4]⟩⟩
  · rw [h1]; exact ⟨r, rfl, .inr h2⟩
theorem winv_true {l : List ApiEdge} {node : Int} {bs : List Int} {s : List Int × Int × Bool} (h : WInv l node bs s) : s.2.2 = true ↔ ∃ b ∈ bs, ∃ es, Chain l node es b := by
  rcases h with ⟨rfl, h2⟩ | ⟨b, hb, p, h1, _, _, h4, _⟩
  · exact ⟨fun h => (by cases h), fun ⟨b, hb, es, hc⟩ => absurd hc (h2 b hb es)⟩
  · refine ⟨fun _ => ?_, fun _ => h4⟩
    obtain ⟨es, hc, _⟩ := h1.walk
    exact ⟨b, hb, es, hc⟩
theorem winv_leads {x : Skilaw11Open} (M : MapOK x.Map) {node : Int} {s : List Int × Int × Bool} (h : WInv (downE x.Map x.Runs) node x.Map.Bases s) (ht : s.2.2 = true) : law11_leads x s.1 node = some (s.2.1, true) := by
  have g := down_gc M x.Runs
  rcases h with ⟨rfl, h2⟩ | ⟨b, hb, p, h1, h2, h3, h4, h5⟩
  · cases ht
  · obtain ⟨es, e1, e2, e3⟩ := h2.walk h1 fun e he => (g.cost e he).1
    have hlen := path_len g h1 h2
    have hs := h1.short fun e he => (g.cost e he).1
    have hd := down_len M x.Runs
    obtain ⟨r, e4, e5⟩ := leads_spec M (p := s.1) (by omega) node
    rw [e4]
    rcases e5 with ⟨es', t, k1, k2, rfl⟩ | ⟨_, hno⟩
    · have := down_list_inj M k1.mem e1.mem (k2.trans e2.symm)
      subst this
      rw [k1.det e1, decide_eq_true hb, h3, ← e3]; rfl
    · exact absurd e2 (hno es b e1)
theorem law11_WaysHome_true (x : Skilaw11Open) (run : Int) (h : OkSkilaw11Open x) (hn : I64 run) : law11_WaysHome x run = some true := by
  obtain ⟨b, h1, h2⟩ := small_eq x
  unfold law11_WaysHome
  rw [alive11, h1]
  cases b with
  | false => rfl
  | true =>
    obtain ⟨M, hl, hr⟩ := h2 rfl
    obtain ⟨a, e1, f1⟩ := reachable_eq M x.Lifts x.Runs
    obtain ⟨c, e5, f5⟩ := stranded_eq M x.Lifts x.Runs
    simp only [Option.bind_some, Bool.not_true, cond_false, e1, e5]
    have b3 : forIx (law11_WaysHome_b3 x c) 0 a () = some (.next ()) := by
      refine forIx_all.2 fun i n hi => ?_
      have hn := (f1.mem n).1 (List.mem_of_getElem? hi)
      obtain ⟨r, w1, _, w3⟩ := way_eq M x.Runs n
      have hnode := hn.node M
      rcases w3 with ⟨w3, _⟩ | ⟨_, w3⟩
      · rw [hnode] at w3; cases w3
      have hok : r.2.2 = true ↔ n ∉ c := by
        rw [winv_true w3, ← home_chain, f5.mem]
        unfold SS
        exact ⟨fun h hh => hh.2 h, fun h => Classical.byContradiction fun hh => h ⟨hn, hh⟩⟩
      unfold law11_WaysHome_b3
      rw [w1, Option.bind_some, rHas_eq, Option.bind_some]
      cases ht : r.2.2 with
      | true =>
        have := hok.1 ht
        rw [decide_eq_false this, winv_leads M w3 ht]
        simp
      | false =>
        have : n ∈ c := Classical.byContradiction fun h => by rw [hok.2 h] at ht; cases ht
        rw [decide_eq_true this]
        have hlen : r.1.length ≤ 1000 := by
          rcases w3 with ⟨rfl, _⟩ | ⟨b, _, p, k1, k2, _, k4, _⟩
          · simp
          · rw [k4] at ht; cases ht
        obtain ⟨q, l1, _⟩ := leads_spec M hlen n
        rw [l1]; rfl
    rw [b3]
    show law11_WaysHome_j1 x run c = some true
    obtain ⟨p, q, s1, s2, s3, s4, s5, _⟩ := needs_eq M (lifts := x.Lifts) (runs := x.Runs) (by omega) run
    rw [e5] at s4
    obtain rfl := Option.some.inj s4
    unfold law11_WaysHome_j1
    rw [s5, Option.bind_some]
    by_cases hz : (0 : Int) < (((minusI p c).length : Nat) : Int)
    · rw [decide_eq_true hz]; rfl
    · rw [decide_eq_false hz, cond_false]
      have : minusI x.Runs [run] = x.Runs.filter fun y => decide (y ≠ run) := by unfold minusI; congr 1; funext y; simp
      have wo : law11_without x.Runs run = some (minusI x.Runs [run]) := by
        unfold law11_without
        rw [forIx_collect (step := law11_without_b1 run) (fun y => decide (y ≠ run)) id (by omega) (fun k y s hx => rfl), List.map_id, ← this]; rfl
      rw [wo, Option.bind_some, s3, Option.bind_some]
      have b2 : forIx (law11_WaysHome_b2 c) 0 p () = some (.next ()) := by
        refine forIx_all.2 fun i n hi => ?_
        have : n ∈ c := Classical.byContradiction fun hh => by
          have : n ∈ minusI p c := mem_minusI.2 ⟨List.mem_of_getElem? hi, hh⟩
          have := List.length_pos_of_mem this
          omega
        unfold law11_WaysHome_b2
        rw [rHas_eq, Option.bind_some, decide_eq_true this]; rfl
      rw [b2]; rfl
theorem lwithin_eq {a b : List Int} (h : ∀ x ∈ a, x ∈ b) : law11_within a b = some true := by
  unfold law11_within
  have : forIx (law11_within_b1 b) 0 a () = some (.next ()) := forIx_all.2 fun i n hi => by
    unfold law11_within_b1
    rw [rHas_eq, Option.bind_some, decide_eq_true (h n (List.mem_of_getElem? hi))]; rfl
  rw [this]; rfl
theorem down_mono {m : ApiMap} {runs runs' : List Int} (h : ∀ n ∈ runs, n ∈ runs') : ∀ e ∈ downE m runs, e ∈ downE m runs' := fun e he => by
  obtain ⟨x, hx, hi, rfl⟩ := mem_downE.1 he
  exact mem_downE.2 ⟨x, hx, h _ hi, rfl⟩
theorem up_mono {m : ApiMap} {lifts lifts' : List Int} (h : ∀ n ∈ lifts, n ∈ lifts') : ∀ e ∈ upE m lifts, e ∈ upE m lifts' := fun e he => by
  obtain ⟨x, hx, hi, rfl⟩ := mem_upE.1 he
  exact mem_upE.2 ⟨x, hx, h _ hi, rfl⟩
theorem law11_WaysMore_true (x : Skilaw11Open) (more : Arr2Int) (node : Int) (h : OkSkilaw11Open x) (hm : OkArr2Int more) (hn : I64 node) : law11_WaysMore x more node = some true := by
  obtain ⟨b, h1, h2⟩ := small_eq x
  unfold law11_WaysMore
  rw [alive11, h1]
  cases b with
  | false => rfl
  | true =>
    obtain ⟨M, hl, hr⟩ := h2 rfl
    have ml : ∀ n ∈ x.Lifts, n ∈ x.Lifts ++ [more.e0] := fun n hn => List.mem_append.2 (.inl hn)
    have mr : ∀ n ∈ x.Runs, n ∈ [more.e1] ++ x.Runs := fun n hn => List.mem_append.2 (.inr hn)
    obtain ⟨a, e1, f1⟩ := reachable_eq M x.Lifts x.Runs
    obtain ⟨a', e2, f2⟩ := reachable_eq M (x.Lifts ++ [more.e0]) ([more.e1] ++ x.Runs)
    obtain ⟨c, e3, f3⟩ := home_eq M x.Runs
    obtain ⟨c', e4, f4⟩ := home_eq M ([more.e1] ++ x.Runs)
    obtain ⟨r, w1, _, w3⟩ := way_eq M x.Runs node
    obtain ⟨r', v1, _, v3⟩ := way_eq M ([more.e1] ++ x.Runs) node
    have k1 : ∀ n ∈ a, n ∈ a' := fun n hn => (f2.mem n).2 (((f1.mem n).1 hn).mono (fun e he => by
      rcases List.mem_append.1 he with he | he
      · exact List.mem_append.2 (.inl (up_mono ml e he))
      · exact List.mem_append.2 (.inr (down_mono mr e he))) fun n h => h)
    have k2 : ∀ n ∈ c, n ∈ c' := fun n hn => (f4.mem n).2 (((f3.mem n).1 hn).mono (fun e he => mem_turn.2 (down_mono mr _ (mem_turn.1 he))) fun n h => h)
    simp only [Option.bind_some, Bool.not_true, cond_false]
    rw [chk_ok (by omega), chk_ok (by omega), chk_ok (by omega)]
    simp only [e1, e2, e3, e4, w1, v1, lwithin_eq k1, lwithin_eq k2, Option.bind_some, Bool.not_true, cond_false]
    cases hr2 : r.2.2 with
    | false => rfl
    | true =>
      simp only [Bool.not_true, cond_false]
      rcases w3 with ⟨w3, rfl⟩ | ⟨wn, w3⟩
      · cases hr2
      rcases v3 with ⟨v3, _⟩ | ⟨_, v3⟩
      · rw [wn] at v3; cases v3
      obtain ⟨b, hb, es, hc⟩ := (winv_true w3).1 hr2
      have hc' := hc.mono (down_mono mr)
      rw [(winv_true v3).2 ⟨b, hb, es, hc'⟩, cond_true]
      rcases w3 with ⟨rfl, _⟩ | ⟨b1, hb1, p, p1, p2, p3, p4, p5⟩
      · cases hr2
      rcases v3 with ⟨_, v3⟩ | ⟨b2, hb2, q, q1, q2, q3, q4, q5⟩
      · exact absurd hc' (v3 b hb es)
      obtain ⟨es1, d1, d2⟩ := p1.walk
      have d1' := d1.mono (down_mono mr)
      obtain ⟨q', hq'⟩ := best_ex (fun e he => ((down_gc M _).cost e he).1) d1'
      have l1 := q5 b1 hb1 q' hq'
      have l2 := hq'.least es1 d1'
      rw [← d2] at l2
      have := l1.trans l2
      rw [p3, q3, decide_eq_true (by unfold lexle at this; omega)]
theorem law11_WaysLeast_true (x : Skilaw11Open) (path : List Int) (node : Int) (h : OkSkilaw11Open x) (hp : OkL I64 path) (hn : I64 node) : law11_WaysLeast x path node = some true := by
  obtain ⟨b, h1, h2⟩ := small_eq x
  unfold law11_WaysLeast
  rw [alive11, h1]
  cases b with
  | false => rfl
  | true =>
    obtain ⟨M, hl, hr⟩ := h2 rfl
    simp only [Option.bind_some, Bool.not_true, cond_false]
    by_cases h100 : (100 : Int) < ((path.length : Nat) : Int)
    · rw [decide_eq_true h100]; rfl
    rw [decide_eq_false h100, cond_false, ref10_Node_eq, Option.bind_some]
    cases hnode : (nodeF x.Map node).2 with
    | false => rfl
    | true =>
      simp only [Bool.not_true, cond_false]
      obtain ⟨r, l1, l2⟩ := leads_spec M (p := path) (by omega) node
      obtain ⟨s, w1, _, w3⟩ := way_eq M x.Runs node
      rw [l1, Option.bind_some, w1, Option.bind_some]
      cases hr2 : r.2 with
      | false => rfl
      | true =>
        rcases l2 with ⟨es, t, k1, k2, rfl⟩ | ⟨rfl, _⟩
        · have ht : t ∈ x.Map.Bases := of_decide_eq_true hr2
          rcases w3 with ⟨w3, _⟩ | ⟨_, w3⟩
          · rw [hnode] at w3; cases w3
          rw [(winv_true w3).2 ⟨t, ht, es, k1⟩]
          rcases w3 with ⟨_, w3⟩ | ⟨b1, hb1, p, p1, p2, p3, p4, p5⟩
          · exact absurd k1 (w3 t ht es)
          obtain ⟨q, hq⟩ := best_ex (fun e he => ((down_gc M _).cost e he).1) k1
          have := (p5 t ht q hq).trans (hq.least es k1)
          have hlen := path_len (down_gc M x.Runs) p1 p2
          have hl2 : path.length = es.length := by rw [← k2, List.length_map]
          unfold lexle cst at this
          simp only at this
          simp only [Bool.not_true, cond_false, cond_true]
          rw [p3]
          by_cases c1 : p.1 < ecost es
          · simp [c1]
          · have c2 : p.1 = ecost es := by omega
            rw [decide_eq_false c1, decide_eq_true c2, cond_false, cond_true, decide_eq_true (by omega)]
        · cases hr2
theorem law11_WaysBases_true (x : Skilaw11Open) (h : OkSkilaw11Open x) : law11_WaysBases x = some true := by
  obtain ⟨b, h1, h2⟩ := small_eq x
  unfold law11_WaysBases
  rw [alive11, h1]
  cases b with
  | false => rfl
  | true =>
    obtain ⟨M, hl, hr⟩ := h2 rfl
    obtain ⟨a, e1, f1⟩ := reachable_eq M x.Lifts x.Runs
    obtain ⟨c, e2, f2⟩ := home_eq M x.Runs
    obtain ⟨d, e3, f3⟩ := stranded_eq M x.Lifts x.Runs
    simp only [Option.bind_some, Bool.not_true, cond_false, e1, e2, e3]
    have g := down_gc M x.Runs
    have b3 : forIx (law11_WaysBases_b3 x a c) 0 x.Map.Bases () = some (.next ()) := by
      refine forIx_all.2 fun i n hi => ?_
      have hn := List.mem_of_getElem? hi
      obtain ⟨s, w1, _, w3⟩ := way_eq M x.Runs n
      have ha : n ∈ a := (f1.mem n).2 (.base hn)
      have hc : n ∈ c := (f2.mem n).2 (.base hn)
      rcases w3 with ⟨w3, _⟩ | ⟨_, w3⟩
      · rw [M.bases n hn] at w3; cases w3
      have h0 : Best (downE x.Map x.Runs) n n (0, 0) := Best.at_end fun e he => (g.cost e he).1
      rcases w3 with ⟨_, w3⟩ | ⟨b1, hb1, p, p1, p2, p3, p4, p5⟩
      · exact absurd (show Chain (downE x.Map x.Runs) n [] n from rfl) (w3 n hn [])
      have hp0 := p5 n hn _ h0
      have hpc := best_cost g p1
      have hlen := path_len g p1 p2
      have z1 : p.1 = 0 ∧ p.2 = 0 := by unfold lexle at hp0; simp only at hp0; omega
      unfold law11_WaysBases_b3
      rw [w1, Option.bind_some, rHas_eq, Option.bind_some, decide_eq_true ha, rHas_eq, Option.bind_some, decide_eq_true hc]
      simp [hlen, z1, p3, p4]
    rw [b3]
    show law11_WaysBases_j1 x a c d = some true
    have hpw := List.pairwise_iff_getElem.1 f1.inc
    have hal := f1.len M fun n h => node_in M (h.node M)
    have b2 : forIx (law11_WaysBases_b2 a c d) 0 a () = some (.next ()) := by
      refine forIx_all.2 fun i n hi => ?_
      obtain ⟨hlt, hxe⟩ := List.getElem?_eq_some_iff.1 hi
      have hn := (f1.mem n).1 (List.mem_of_getElem? hi)
      have hdc : decide (n ∈ d) = !decide (n ∈ c) := by
        by_cases hc : n ∈ c
        · have : n ∉ d := fun hd => ((f3.mem n).1 hd).2 ((f2.mem n).1 hc)
          simp [hc, this]
        · have : n ∈ d := (f3.mem n).2 ⟨hn, fun hh => hc ((f2.mem n).2 hh)⟩
          simp [hc, this]
      unfold law11_WaysBases_b2
      rw [Nat.zero_add, rHas_eq, Option.bind_some, rHas_eq, Option.bind_some, hdc]
      have : ((!decide (n ∈ c)) == decide (n ∈ c)) = false := by cases decide (n ∈ c) <;> rfl
      rw [this, cond_false]
      by_cases h0 : (0 : Int) < ((i : Nat) : Int)
      · have hlt' : i - 1 < a.length := by omega
        rw [decide_eq_true h0, cond_true, wrap_pred (by omega) (by omega), idxL_lt hlt', Option.bind_some]
        have := hpw (i - 1) i hlt' hlt (by omega)
        rw [decide_eq_false (by omega)]; rfl
      · rw [decide_eq_false h0]; rfl
    unfold law11_WaysBases_j1
    rw [b2]
    have kd : ∀ n ∈ d, n ∈ a := fun n hn => (f1.mem n).2 ((f3.mem n).1 hn).1
    have binc : Inc x.Map.Bases := by
      have : ∀ k x' y', x.Map.Bases[k + 1]? = some x' → x.Map.Bases[k]? = some y' → y' < x' := M.basesR
      unfold Inc
      rw [List.pairwise_iff_getElem]
      have key : ∀ (d i : Nat) (hj : i + d + 1 < x.Map.Bases.length), x.Map.Bases[i]'(by omega) < x.Map.Bases[i + d + 1] := by
        intro d
        induction d with
        | zero =>
          intro i hj
          exact this i _ _ (List.getElem?_eq_getElem (by omega)) (List.getElem?_eq_getElem (by omega))
        | succ d ih =>
          intro i hj
          have h1 := ih i (by omega)
          have h2 := this (i + d + 1) x.Map.Bases[i + (d + 1) + 1] x.Map.Bases[i + d + 1] (by rw [List.getElem?_eq_getElem (by omega)]; rfl) (List.getElem?_eq_getElem (by omega))
          omega
      intro i j hi hj hlt
      have := key (j - i - 1) i (by omega)
      simpa [show i + (j - i - 1) + 1 = j by omega] using this
    have noE : ∀ {l : List ApiEdge} {n : Int}, l = [] → Rch l (· ∈ x.Map.Bases) n → n ∈ x.Map.Bases := fun hl h => by
      cases h with
      | base h => exact h
      | step he _ => rw [hl] at he; simp at he
    have up0 : upE x.Map [] = [] := by unfold upE; rw [List.filter_eq_nil_iff.2 (by simp)]; rfl
    have dn0 : downE x.Map [] = [] := by unfold downE; rw [List.filter_eq_nil_iff.2 (by simp)]; rfl
    obtain ⟨p, e4, f4⟩ := reachable_eq M [] []
    obtain ⟨q, e5, f5⟩ := home_eq M []
    obtain ⟨s, e6, f6⟩ := stranded_eq M [] []
    have p1 : p = x.Map.Bases := inc_ext f4.inc binc fun n => by
      rw [f4.mem]; exact ⟨fun h => noE (by rw [up0, dn0]; rfl) h, .base⟩
    have q1 : q = x.Map.Bases := inc_ext f5.inc binc fun n => by
      rw [f5.mem]; exact ⟨fun h => noE (by rw [dn0]; rfl) h, .base⟩
    have s1 : s = [] := List.eq_nil_iff_forall_not_mem.2 fun n hn => by
      have := (f6.mem n).1 hn
      exact this.2 ((f5.mem n).1 (by rw [q1, ← p1]; exact (f4.mem n).2 this.1))
    subst p1 s1
    simp [Out.on, lwithin_eq kd, e4, e5, e6, q1, rSame_eq]
end Go.Proofs.Ytnafejjdhdpanaa
