/-
  Layer 32 (fraud): the least time between two lifts, in plain Lean.
-/
import Derived.Test.YtmfjcimogpmheaaL4
namespace Go.Proofs.Ytmfjcimogpmheaa
open Go Go.Ab
set_option linter.unusedSimpArgs false
set_option linter.unusedVariables false

theorem lift32_eq (m : ApiMap) (id : Int) : terrain_Lift m id = some (liftF m id) := findG_eq fun _ _ _ => rfl
theorem rlift32_eq (m : ApiMap) (id : Int) : ref10_Lift m id = some (liftF m id) := findG_eq fun _ _ _ => rfl
def secF (x : ApiLift) : Int := (x.Length * 1000).tdiv x.Speed
theorem sec_bound {x : ApiLift} (h : LiftNum x) : 0 ≤ secF x ∧ secF x ≤ 12000 := by
  obtain ⟨_, _, ⟨a, b⟩, ⟨c, d⟩, _⟩ := h
  unfold secF
  rw [Int.tdiv_eq_ediv_of_nonneg (by omega)]
  constructor
  · exact Int.ediv_nonneg (by omega) (by omega)
  · refine Int.ediv_le_of_le_mul (by omega) ?_
    have : 12000 * 500 ≤ 12000 * x.Speed := by omega
    omega
theorem seconds_eq {x : ApiLift} (h : LiftNum x) : fraud_seconds x = some (secF x) := by
  have hb := sec_bound h
  obtain ⟨_, _, ⟨a, b⟩, ⟨c, d⟩, _⟩ := h
  unfold secF at hb
  unfold fraud_seconds secF
  rw [nz_ok (by omega), wrap_i64 (x := x.Length * 1000) (by omega) (by omega), wrap_i64 (by omega) (by omega)]
theorem rseconds_eq {x : ApiLift} (h : LiftNum x) : ref32_lift x = some (secF x) := seconds_eq h
def runT (x : ApiRun) : Int := x.Length.tdiv 20
theorem run_bound {x : ApiRun} (h : RunNum x) : 0 ≤ runT x ∧ runT x ≤ 1000 := by
  obtain ⟨_, _, _, _, a, b⟩ := h
  unfold runT
  rw [Int.tdiv_eq_ediv_of_nonneg (by omega)]
  omega
def addR (s : List ApiEdge) (x : ApiRun) : List ApiEdge := s ++ [⟨(s.length : Int), x.From, x.To, runT x⟩]
def addL (s : List ApiEdge) (x : ApiLift) : List ApiEdge := s ++ [⟨(s.length : Int), x.From, x.To, secF x⟩]
/-- the edges of a map, with their times -/
def mapE (m : ApiMap) : List ApiEdge := m.Lifts.foldl addL (m.Runs.foldl addR [])
def stp (e : ApiEdge) : Skiref32Step := ⟨e.From, e.To, e.Cost⟩
theorem fold_snoc {α β : Type} {f : List β → α → List β} {g : List β → α → β} (hf : ∀ s x, f s x = s ++ [g s x]) : ∀ (l : List α) (s : List β), (l.foldl f s).length = s.length + l.length ∧ (∀ y ∈ l.foldl f s, y ∈ s ∨ ∃ x ∈ l, ∃ t, y = g t x) ∧ (∀ y ∈ s, y ∈ l.foldl f s) ∧ (∀ x ∈ l, ∃ t, g t x ∈ l.foldl f s)
  | [], s => ⟨by simp, fun y h => .inl h, fun y h => h, fun x h => by simp at h⟩
  | x :: l, s => by
    obtain ⟨h1, h2, h3, h4⟩ := fold_snoc hf l (f s x)
    rw [List.foldl_cons]
    rw [hf] at h1 h2 h3 h4 ⊢
    refine ⟨by rw [h1]; simp; omega, fun y hy => ?_, fun y hy => h3 y (by simp [hy]), fun y hy => ?_⟩
    · rcases h2 y hy with h | ⟨z, hz, t, rfl⟩
      · rcases List.mem_append.1 h with h | h
        · exact .inl h
        · simp at h; exact .inr ⟨x, by simp, s, h⟩
      · exact .inr ⟨z, by simp [hz], t, rfl⟩
    · rcases List.mem_cons.1 hy with rfl | hy
      · exact ⟨s, h3 _ (by simp)⟩
      · exact h4 y hy
theorem mapE_len (m : ApiMap) : (mapE m).length = m.Runs.length + m.Lifts.length := by
  unfold mapE
  rw [(fold_snoc (f := addL) (g := fun s x => ⟨(s.length : Int), x.From, x.To, secF x⟩) (fun _ _ => rfl) m.Lifts _).1, (fold_snoc (f := addR) (g := fun s x => ⟨(s.length : Int), x.From, x.To, runT x⟩) (fun _ _ => rfl) m.Runs _).1]; simp
theorem mapE_mem {m : ApiMap} {e : ApiEdge} (h : e ∈ mapE m) : (∃ x ∈ m.Runs, e.From = x.From ∧ e.To = x.To ∧ e.Cost = runT x) ∨ ∃ x ∈ m.Lifts, e.From = x.From ∧ e.To = x.To ∧ e.Cost = secF x := by
  rcases (fold_snoc (f := addL) (g := fun s x => ⟨(s.length : Int), x.From, x.To, secF x⟩) (fun _ _ => rfl) m.Lifts _).2.1 e h with h | ⟨x, hx, t, rfl⟩
  · rcases (fold_snoc (f := addR) (g := fun s x => ⟨(s.length : Int), x.From, x.To, runT x⟩) (fun _ _ => rfl) m.Runs _).2.1 e h with h | ⟨x, hx, t, rfl⟩
    · simp at h
    · exact .inl ⟨x, hx, rfl, rfl, rfl⟩
  · exact .inr ⟨x, hx, rfl, rfl, rfl⟩
theorem mapE_lift {m : ApiMap} {x : ApiLift} (h : x ∈ m.Lifts) : ∃ e ∈ mapE m, e.From = x.From ∧ e.To = x.To ∧ e.Cost = secF x := by
  obtain ⟨t, ht⟩ := (fold_snoc (f := addL) (g := fun s x => ⟨(s.length : Int), x.From, x.To, secF x⟩) (fun _ _ => rfl) m.Lifts (m.Runs.foldl addR [])).2.2.2 x h
  exact ⟨_, ht, rfl, rfl, rfl⟩
theorem mapE_cost {m : ApiMap} (M : MapOK m) : ∀ e ∈ mapE m, 0 ≤ e.Cost ∧ e.Cost ≤ 12000 := by
  intro e he
  rcases mapE_mem he with ⟨x, hx, _, _, h⟩ | ⟨x, hx, _, _, h⟩
  · have := run_bound (M.runs x hx).1; omega
  · have := sec_bound (M.lifts x hx).1; omega
def idsN (m : ApiMap) : List Int := m.Nodes.map (·.ID)
theorem node_ids {m : ApiMap} {n : Int} (h : (nodeF m n).2 = true) : n ∈ idsN m := by
  obtain ⟨h1, h2⟩ := nodeF_true h
  exact List.mem_map.2 ⟨_, h1, h2⟩
theorem mapE_nodes {m : ApiMap} (M : MapOK m) : ∀ e ∈ mapE m, e.From ∈ idsN m ∧ e.To ∈ idsN m := by
  intro e he
  rcases mapE_mem he with ⟨x, hx, h1, h2, h⟩ | ⟨x, hx, h1, h2, h⟩
  · have := (M.runs x hx).2; rw [h1, h2]; exact ⟨node_ids this.2.1, node_ids this.1⟩
  · have := (M.lifts x hx).2.1; rw [h1, h2]; exact ⟨node_ids this.1, node_ids this.2.1⟩
theorem gc {m : ApiMap} (M : MapOK m) : GC (mapE m) :=
  ⟨by rw [mapE_len]; have := M.lenR; have := M.lenL; omega, fun e he => by have := mapE_cost M e he; omega⟩
theorem edges_eq {m : ApiMap} (M : MapOK m) : ∃ s, forIx fraud_Time_b3 0 m.Runs [] = some (.next s) ∧ s = m.Runs.foldl addR [] ∧ forIx fraud_Time_b2 0 m.Lifts s = some (.next (mapE m)) := by
  have h1 := forIx_fold (ρ := Int × Bool) (step := fraud_Time_b3) addR (l := m.Runs) (s := []) (fun k s => s.length = k) rfl (fun k x s hk hI => by
    have := (List.getElem?_eq_some_iff.1 hk).1
    have hb := run_bound (M.runs x (List.mem_of_getElem? hk)).1
    have := M.lenR
    unfold fraud_Time_b3 addR
    unfold runT at hb
    rw [chk_ok (by omega), wrap_i64 (by omega) (by omega)]
    exact ⟨rfl, by simp; omega⟩)
  refine ⟨_, h1.1, rfl, ?_⟩
  have h2 := forIx_fold (ρ := Int × Bool) (step := fraud_Time_b2) addL (l := m.Lifts) (s := m.Runs.foldl addR []) (fun k s => s.length = m.Runs.length + k) h1.2 (fun k x s hk hI => by
    have := (List.getElem?_eq_some_iff.1 hk).1
    have := M.lenR
    have := M.lenL
    unfold fraud_Time_b2 addL
    rw [seconds_eq (M.lifts x (List.mem_of_getElem? hk)).1, Option.bind_some, chk_ok (by omega)]
    exact ⟨rfl, by simp; omega⟩)
  exact h2.1
theorem steps_eq {m : ApiMap} (M : MapOK m) : ref32_steps m = some ((mapE m).map stp) := by
  have key1 : ∀ (l : List ApiRun) (s : List ApiEdge), (l.foldl addR s).map stp = l.foldl (fun t x => t ++ [⟨x.From, x.To, runT x⟩]) (s.map stp) := by
    intro l
    induction l with
    | nil => intro s; rfl
    | cons x l ih => intro s; rw [List.foldl_cons, List.foldl_cons, ih]; unfold addR; rw [List.map_append]; rfl
  have key2 : ∀ (l : List ApiLift) (s : List ApiEdge), (l.foldl addL s).map stp = l.foldl (fun t x => t ++ [⟨x.From, x.To, secF x⟩]) (s.map stp) := by
    intro l
    induction l with
    | nil => intro s; rfl
    | cons x l ih => intro s; rw [List.foldl_cons, List.foldl_cons, ih]; unfold addL; rw [List.map_append]; rfl
  have h1 := forIx_fold (ρ := List Skiref32Step) (step := ref32_steps_b3) (fun t x => t ++ [⟨x.From, x.To, runT x⟩]) (l := m.Runs) (s := []) (fun k s => s.length = k) rfl (fun k x s hk hI => by
    have := (List.getElem?_eq_some_iff.1 hk).1
    have hb := run_bound (M.runs x (List.mem_of_getElem? hk)).1
    have := M.lenR
    unfold ref32_steps_b3
    unfold runT at hb ⊢
    rw [chk_ok (by omega), wrap_i64 (by omega) (by omega)]
    exact ⟨rfl, by simp; omega⟩)
  have h2 := forIx_fold (ρ := List Skiref32Step) (step := ref32_steps_b2) (fun t x => t ++ [⟨x.From, x.To, secF x⟩]) (l := m.Lifts) (s := m.Runs.foldl (fun t x => t ++ [⟨x.From, x.To, runT x⟩]) []) (fun k s => s.length = m.Runs.length + k) h1.2 (fun k x s hk hI => by
    have := (List.getElem?_eq_some_iff.1 hk).1
    have := M.lenR
    have := M.lenL
    unfold ref32_steps_b2
    rw [rseconds_eq (M.lifts x (List.mem_of_getElem? hk)).1, Option.bind_some, chk_ok (by omega)]
    exact ⟨rfl, by simp; omega⟩)
  unfold ref32_steps ref32_steps_j1
  rw [h1.1, Option.bind_some]
  show (forIx ref32_steps_b2 0 m.Lifts _).bind _ = _
  rw [h2.1]
  unfold mapE
  rw [key2, key1]; rfl

/-! ### the reference's ways -/
theorem at_from (n : Int) : ∀ (l : List ApiNode) (j k : Nat), (l.map (·.ID)).Nodup → (l.map (·.ID))[k]? = some n → forIx (ref32_at_b1 n) j l () = some (.ret ((j + k : Nat) : Int))
  | [], j, k, _, h => by simp at h
  | x :: l, j, 0, hn, h => by
    simp at h
    unfold forIx ref32_at_b1
    rw [decide_eq_true h]; rfl
  | x :: l, j, k + 1, hn, h => by
    rw [List.map_cons, List.nodup_cons] at hn
    have h' : (l.map (·.ID))[k]? = some n := by simpa using h
    have : ¬ x.ID = n := fun e => hn.1 (e ▸ List.mem_of_getElem? h')
    unfold forIx ref32_at_b1
    rw [decide_eq_false this]
    show forIx (ref32_at_b1 n) (j + 1) l () = _
    rw [at_from n l (j + 1) k hn.2 h', show j + 1 + k = j + (k + 1) by omega]
theorem at_eq {m : ApiMap} (hn : (idsN m).Nodup) {k : Nat} {n : Int} (h : (idsN m)[k]? = some n) : ref32_at m n = some (k : Int) := by
  unfold ref32_at
  rw [at_from n m.Nodes 0 k hn h, Nat.zero_add]; rfl
theorem ids_nodup {m : ApiMap} (M : MapOK m) : (idsN m).Nodup := by
  have hr := M.nodesR
  have key : ∀ (d i : Nat) (x y : ApiNode), m.Nodes[i]? = some x → m.Nodes[i + d + 1]? = some y → x.ID < y.ID := by
    intro d
    induction d with
    | zero => intro i x y hx hy; exact hr i y x hy hx
    | succ d ih =>
      intro i x y hx hy
      have hlt := (List.getElem?_eq_some_iff.1 hy).1
      have hz : m.Nodes[i + d + 1]? = some (m.Nodes[i + d + 1]'(by omega)) := List.getElem?_eq_getElem _
      have h1 := ih i x _ hx hz
      have h2 := hr (i + d + 1) y _ (by rw [show i + d + 1 + 1 = i + (d + 1) + 1 by omega]; exact hy) hz
      omega
  unfold idsN List.Nodup
  rw [List.pairwise_map, List.pairwise_iff_getElem]
  intro i j hi hj hij
  have := key (j - i - 1) i m.Nodes[i] m.Nodes[j] (List.getElem?_eq_getElem hi) (by rw [show i + (j - i - 1) + 1 = j by omega]; exact List.getElem?_eq_getElem hj)
  omega
theorem idx_inj {l : List Int} (hn : l.Nodup) {i j : Nat} {n : Int} (h : l[i]? = some n) (k : l[j]? = some n) : i = j := by
  obtain ⟨h1, h2⟩ := List.getElem?_eq_some_iff.1 h
  obtain ⟨k1, k2⟩ := List.getElem?_eq_some_iff.1 k
  exact nodup_idx hn (h2.trans k2.symm)
theorem set_get {l : List Int} {i : Nat} (hi : i < l.length) (v : Int) (k : Nat) : (l.set i v)[k]? = if k = i then some v else l[k]? := by
  rw [List.getElem?_set]
  by_cases h : i = k
  · subst h; simp [hi]
  · rw [if_neg h, if_neg (fun e => h e.symm)]
/-- one step -/
theorem way_b3 {m : ApiMap} (M : MapOK m) {f : Int} {sv : List Int} {j : Nat} (hs : CSound (mapE m) (idsN m) f sv j) (hj : j ≤ 1000000) {e : ApiEdge} (he : e ∈ mapE m) (k : Nat) :
    ∃ sv', ref32_way_b3 m k (stp e) sv = some (.next sv') ∧ CSound (mapE m) (idsN m) f sv' (j + 1) ∧ CLe sv sv' ∧ CEdge (idsN m) sv sv' e := by
  obtain ⟨hf, ht⟩ := mapE_nodes M e he
  obtain ⟨ia, hia, ea⟩ := List.getElem_of_mem hf
  obtain ⟨ib, hib, eb⟩ := List.getElem_of_mem ht
  have ea : (idsN m)[ia]? = some e.From := by rw [List.getElem?_eq_getElem hia, ea]
  have eb : (idsN m)[ib]? = some e.To := by rw [List.getElem?_eq_getElem hib, eb]
  have hnd := ids_nodup M
  have hlen := hs.len
  have va : sv[ia]? = some (sv[ia]'(by omega)) := List.getElem?_eq_getElem _
  have vb : sv[ib]? = some (sv[ib]'(by omega)) := List.getElem?_eq_getElem _
  generalize sv[ia]'(by omega) = a at va
  generalize sv[ib]'(by omega) = b at vb
  have hc := mapE_cost M e he
  have keep : (0 ≤ a → 0 ≤ b ∧ b ≤ a + e.Cost) → CSound (mapE m) (idsN m) f sv (j + 1) ∧ CLe sv sv ∧ CEdge (idsN m) sv sv e := fun h =>
    ⟨hs.mono (Nat.le_succ j), .refl _, fun i k v w h1 h2 h3 h4 h5 => by
      obtain rfl := idx_inj hnd h1 ea
      obtain rfl := idx_inj hnd h2 eb
      rw [va] at h3; obtain rfl := Option.some.inj h3
      rw [vb] at h4; obtain rfl := Option.some.inj h4
      exact h h5⟩
  unfold ref32_way_b3 stp
  simp only
  rw [at_eq hnd ea, at_eq hnd eb, Option.bind_some, Option.bind_some, idxL_nat va, Option.bind_some]
  by_cases h0 : 0 ≤ a
  · rw [decide_eq_true h0, cond_true, idxL_nat vb, Option.bind_some]
    rcases hs.val ia _ a ea va with h | ⟨_, es, g1, g2, g3⟩
    · omega
    have hcb := ecost_bounds (M := 12000) (es := es) fun x hx => mapE_cost M x (Chain.mem g1 x hx)
    have hw : IntKind.i64.wrap (a + e.Cost) = a + e.Cost := by rw [wrap_i64] <;> omega
    rw [hw]
    have put : (b < 0 ∨ a + e.Cost < b) → CSound (mapE m) (idsN m) f (sv.set ib (a + e.Cost)) (j + 1) ∧ CLe sv (sv.set ib (a + e.Cost)) ∧ CEdge (idsN m) sv (sv.set ib (a + e.Cost)) e := fun hb => by
      refine ⟨⟨by rw [List.length_set]; exact hlen, fun i n v hn hv => ?_⟩, fun i v w hv hw' h5 => ?_, fun i i' v w h1 h2 h3 h4 h5 => ?_⟩
      · rw [set_get (by omega)] at hv
        by_cases hi : i = ib
        · rw [if_pos hi] at hv
          obtain rfl := Option.some.inj hv
          subst hi
          rw [eb] at hn; obtain rfl := Option.some.inj hn
          refine .inr ⟨by omega, es ++ [e], chain_app.2 ⟨_, g1, he, rfl, rfl⟩, by simp; omega, ?_⟩
          rw [ecost_app, ecost_cons, ecost_nil]; omega
        · rw [if_neg hi] at hv
          exact (hs.mono (Nat.le_succ j)).val i n v hn hv
      · rw [set_get (by omega)] at hw'
        by_cases hi : i = ib
        · rw [if_pos hi] at hw'
          obtain rfl := Option.some.inj hw'
          subst hi
          rw [vb] at hv; obtain rfl := Option.some.inj hv
          omega
        · rw [if_neg hi] at hw'
          exact CLe.refl sv i v w hv hw' h5
      · obtain rfl := idx_inj hnd h1 ea
        obtain rfl := idx_inj hnd h2 eb
        rw [va] at h3; obtain rfl := Option.some.inj h3
        rw [set_get (by omega), if_pos rfl] at h4
        obtain rfl := Option.some.inj h4
        omega
    by_cases hb : b < 0
    · rw [decide_eq_true hb, cond_true]
      exact ⟨_, rfl, put (.inl hb)⟩
    · rw [decide_eq_false hb, cond_false]
      by_cases hb' : a + e.Cost < b
      · rw [decide_eq_true hb', cond_true]
        exact ⟨_, rfl, put (.inr hb')⟩
      · rw [decide_eq_false hb', cond_false]
        exact ⟨_, rfl, keep fun _ => ⟨by omega, by omega⟩⟩
  · rw [decide_eq_false h0, cond_false]
    exact ⟨_, rfl, keep fun h => absurd h h0⟩
theorem CLe.trans {a b c : List Int} (hl : a.length = b.length) (h : CLe a b) (k : CLe b c) : CLe a c := fun i v w h1 h2 h0 => by
  have hi := (List.getElem?_eq_some_iff.1 h1).1
  have hb : b[i]? = some (b[i]'(by omega)) := List.getElem?_eq_getElem _
  generalize b[i]'(by omega) = u at hb
  obtain ⟨g1, g2⟩ := h i v u h1 hb h0
  obtain ⟨g3, g4⟩ := k i u w hb h2 g1
  exact ⟨g3, by omega⟩
theorem CEdge.le {ids a b c : List Int} {e : ApiEdge} (hb : b.length = ids.length) (h : CEdge ids a b e) (k : CLe b c) : CEdge ids a c e := fun i i' v w h1 h2 h3 h4 h0 => by
  have hi := (List.getElem?_eq_some_iff.1 h2).1
  have hb' : b[i']? = some (b[i']'(by omega)) := List.getElem?_eq_getElem _
  generalize b[i']'(by omega) = u at hb'
  obtain ⟨g1, g2⟩ := h i i' v u h1 h2 h3 hb' h0
  obtain ⟨g3, g4⟩ := k i' u w hb' h4 g1
  exact ⟨g3, by omega⟩
theorem CEdge.ge {ids a b c : List Int} {e : ApiEdge} (ha : a.length = b.length) (h : CLe a b) (k : CEdge ids b c e) : CEdge ids a c e := fun i i' v w h1 h2 h3 h4 h0 => by
  have hi := (List.getElem?_eq_some_iff.1 h3).1
  have hb' : b[i]? = some (b[i]'(by omega)) := List.getElem?_eq_getElem _
  generalize b[i]'(by omega) = u at hb'
  obtain ⟨g1, g2⟩ := h i v u h3 hb' h0
  obtain ⟨g3, g4⟩ := k i i' u w h1 h2 hb' h4 g1
  exact ⟨g3, by omega⟩
theorem way_pass {m : ApiMap} (M : MapOK m) {f : Int} {sv : List Int} {j i : Nat} (hs : CSound (mapE m) (idsN m) f sv j) (hj : j ≤ 900000) (hc : CCov (mapE m) (idsN m) f sv i) :
    ∃ sv', forIx (ref32_way_b3 m) 0 ((mapE m).map stp) sv = some (.next sv') ∧ CSound (mapE m) (idsN m) f sv' (j + 100) ∧ CCov (mapE m) (idsN m) f sv' (i + 1) := by
  have hlen : (mapE m).length ≤ 100 := by rw [mapE_len]; have := M.lenR; have := M.lenL; omega
  obtain ⟨sv', h1, h2, h3, h4⟩ := forIx_run (ρ := Out (List Int) Int) (step := ref32_way_b3 m) (l := (mapE m).map stp) (s := sv) (fun k s => CSound (mapE m) (idsN m) f s (j + k) ∧ CLe sv s ∧ ∀ i e, i < k → (mapE m)[i]? = some e → CEdge (idsN m) sv s e)
    ⟨hs, .refl _, fun i e h => by omega⟩ (fun k x s hk ⟨i1, i2, i3⟩ => by
      rw [List.getElem?_map] at hk
      obtain ⟨e, he, rfl⟩ := Option.map_eq_some_iff.1 hk
      have hlt := (List.getElem?_eq_some_iff.1 he).1
      obtain ⟨s', e1, e2, e3, e4⟩ := way_b3 M i1 (by omega) (List.mem_of_getElem? he) k
      have hl : sv.length = s.length := hs.len.trans i1.len.symm
      refine ⟨s', e1, e2, i2.trans hl e3, fun i e' hi hie => ?_⟩
      by_cases h : i = k
      · subst h; rw [he] at hie; obtain rfl := Option.some.inj hie
        exact e4.ge hl i2
      · exact (i3 i e' (by omega) hie).le i1.len e3)
  rw [List.length_map] at h2 h4
  refine ⟨sv', h1, h2.mono (by omega), hc.pass hs.len h2.len h3 (fun e he => ?_) fun e he => (mapE_nodes M e he).1⟩
  obtain ⟨i, hi, rfl⟩ := List.getElem_of_mem he
  exact h4 i _ hi (List.getElem?_eq_getElem hi)
theorem whileN_seq {σ ρ : Type} {step : σ → Option (Out σ ρ)} (st : Nat → σ) (B : Nat) (h : ∀ i, i < B → step (st i) = some (.next (st (i + 1)))) : ∀ (d i n : Nat), i + d = B → d ≤ n → whileN step n (st i) = whileN step (n - d) (st B)
  | 0, i, n, h1, h2 => by rw [show i = B by omega, Nat.sub_zero]
  | d + 1, i, n, h1, h2 => by
    obtain ⟨n', rfl⟩ : ∃ n', n = n' + 1 := ⟨n - 1, by omega⟩
    rw [whileN, h i (by omega)]
    show whileN step n' (st (i + 1)) = _
    rw [whileN_seq st B h d (i + 1) n' (by omega) (by omega), show n' + 1 - (d + 1) = n' - d by omega]
theorem whileN_end {σ ρ : Type} {step : σ → Option (Out σ ρ)} (st : Nat → σ) (B : Nat) (h : ∀ i, i < B → step (st i) = some (.next (st (i + 1)))) (hB : B < 1000000) {q : Option ρ} (he : step (st B) = q.bind fun r => some (.ret r)) : whileN step fuel (st 0) = q.bind fun r => some (.ret r) := by
  rw [whileN_seq st B h B 0 fuel (by omega) (by unfold fuel; omega)]
  obtain ⟨n', hn⟩ : ∃ n', fuel - B = n' + 1 := ⟨fuel - B - 1, by unfold fuel; omega⟩
  rw [hn, whileN, he]
  cases q <;> rfl
theorem way_init {m : ApiMap} (M : MapOK m) (f t : Int) : ref32_way m f t = (ref32_at m f).bind fun y7 => (idxL (List.replicate m.Nodes.length (-1 : Int)) y7).bind fun x_8 => (ref32_steps m).bind fun y10 => (forIx (ref32_way_b2 m y10) 0 m.Nodes ((List.replicate m.Nodes.length (-1 : Int)).set y7.toNat (0 : Int))).bind fun o12 => o12.on fun s12 => (ref32_at m t).bind fun y25 => (idxL s12 y25).bind fun x_26 => some x_26 := by
  have hN := M.lenN
  have key := whileN_end (step := ref32_way_b1 m f t) (fun i => ((i : Int), List.replicate i (-1 : Int) ++ List.replicate (m.Nodes.length - i) 0)) m.Nodes.length (fun i hi => by
    unfold ref32_way_b1
    simp only
    have h1 : (i : Int) < ((List.replicate i (-1 : Int) ++ List.replicate (m.Nodes.length - i) 0).length : Int) := by simp; omega
    rw [decide_eq_true h1, cond_true, idxL_lt (by simp; omega), Option.bind_some, wrap_add1 (by omega)]
    have : (List.replicate i (-1 : Int) ++ List.replicate (m.Nodes.length - i) 0).set (i : Int).toNat (-1) = List.replicate (i + 1) (-1 : Int) ++ List.replicate (m.Nodes.length - (i + 1)) 0 := by
      rw [Int.toNat_natCast, List.set_append_right _ _ (by simp), List.length_replicate, Nat.sub_self, show m.Nodes.length - i = (m.Nodes.length - (i + 1)) + 1 by omega, List.replicate_succ, List.set_cons_zero, List.replicate_succ' , List.append_assoc]; rfl
    rw [this]) (by omega) (q := (ref32_at m f).bind fun y7 => (idxL (List.replicate m.Nodes.length (-1 : Int)) y7).bind fun x_8 => (ref32_steps m).bind fun y10 => (forIx (ref32_way_b2 m y10) 0 m.Nodes ((List.replicate m.Nodes.length (-1 : Int)).set y7.toNat (0 : Int))).bind fun o12 => o12.on fun s12 => (ref32_at m t).bind fun y25 => (idxL s12 y25).bind fun x_26 => some x_26) (by
    unfold ref32_way_b1
    simp only
    rw [Nat.sub_self, List.replicate_zero, List.append_nil, List.length_replicate, decide_eq_false (by omega), cond_false])
  unfold ref32_way
  rw [chk_ok (by omega)]
  simp only [Nat.sub_zero, List.replicate_zero, List.nil_append, Int.ofNat_eq_natCast, Int.natCast_zero] at key
  rw [key]
  generalize (ref32_at m f).bind _ = q
  cases q <;> rfl
/-- the least cost, told by the reference -/
theorem way_eq {m : ApiMap} (M : MapOK m) {f t : Int} (hf : (nodeF m f).2 = true) (ht : (nodeF m t).2 = true) : ∃ v, ref32_way m f t = some v ∧ ((v = -1 ∧ ∀ es, ¬ Chain (mapE m) f es t) ∨ (0 ≤ v ∧ Least (mapE m) f t v)) := by
  obtain ⟨ia, hia, ea⟩ := List.getElem_of_mem (node_ids hf)
  obtain ⟨ib, hib, eb⟩ := List.getElem_of_mem (node_ids ht)
  have ea : (idsN m)[ia]? = some f := by rw [List.getElem?_eq_getElem hia, ea]
  have eb : (idsN m)[ib]? = some t := by rw [List.getElem?_eq_getElem hib, eb]
  have hnd := ids_nodup M
  have hlen : (idsN m).length = m.Nodes.length := by unfold idsN; rw [List.length_map]
  have hN := M.lenN
  rw [way_init M, at_eq hnd ea, Option.bind_some, idxL_lt (by simp; omega), Option.bind_some, steps_eq M, Option.bind_some, Int.toNat_natCast]
  have hs0 : CSound (mapE m) (idsN m) f ((List.replicate m.Nodes.length (-1 : Int)).set ia 0) 0 := by
    refine ⟨by simp; omega, fun k n v hn hv => ?_⟩
    rw [set_get (by simp; omega)] at hv
    by_cases hk : k = ia
    · subst hk
      rw [if_pos rfl] at hv
      obtain rfl := Option.some.inj hv
      rw [ea] at hn; obtain rfl := Option.some.inj hn
      exact .inr ⟨Int.le_refl _, [], rfl, Nat.le_refl _, rfl⟩
    · rw [if_neg hk] at hv
      have := List.mem_of_getElem? hv
      exact .inl (List.eq_of_mem_replicate this)
  have hc0 : CCov (mapE m) (idsN m) f ((List.replicate m.Nodes.length (-1 : Int)).set ia 0) 0 := by
    intro k n v es hn hv hc hl
    have : es = [] := List.length_eq_zero_iff.1 (by omega)
    subst this
    have hfn : f = n := hc
    subst hfn
    obtain rfl := idx_inj hnd hn ea
    rw [set_get (by simp; omega), if_pos rfl] at hv
    obtain rfl := Option.some.inj hv
    exact ⟨Int.le_refl _, by simp [ecost]⟩
  obtain ⟨s, h1, h2, h3⟩ := forIx_run (ρ := Int) (step := ref32_way_b2 m ((mapE m).map stp)) (l := m.Nodes) (s := (List.replicate m.Nodes.length (-1 : Int)).set ia 0) (fun k s => CSound (mapE m) (idsN m) f s (k * 100) ∧ CCov (mapE m) (idsN m) f s k)
    ⟨by rw [Nat.zero_mul]; exact hs0, hc0⟩ (fun k x s hk ⟨i1, i2⟩ => by
      have hlt := (List.getElem?_eq_some_iff.1 hk).1
      obtain ⟨s', e1, e2, e3⟩ := way_pass M i1 (by omega) i2
      refine ⟨s', by unfold ref32_way_b2; rw [e1]; rfl, ?_, e3⟩
      rw [Nat.add_mul, Nat.one_mul]; exact e2)
  rw [h1, Option.bind_some]
  show ∃ v, (ref32_at m t).bind _ = some v ∧ _
  have hl := h2.len
  rw [at_eq hnd eb, Option.bind_some, idxL_lt (by omega), Option.bind_some]
  refine ⟨_, rfl, ?_⟩
  rw [← hlen] at h3
  exact least_of (fun e he => (mapE_cost M e he).1) (fun e he => (mapE_nodes M e he).1) h2 h3 eb (List.getElem?_eq_getElem (by omega))
/-- what Time answers -/
inductive TimeRes (m : ApiMap) (a b : Int) : Int × Bool → Prop
  | none : ((liftF m a).2 = true → (liftF m b).2 = true → ∀ es, ¬ Chain (mapE m) (liftF m a).1.To es (liftF m b).1.From) → TimeRes m a b (0, false)
  | some {v : Int} : (liftF m a).2 = true → (liftF m b).2 = true → Least (mapE m) (liftF m a).1.To (liftF m b).1.From v → TimeRes m a b (secF (liftF m a).1 + v, true)
theorem least_bound {m : ApiMap} (M : MapOK m) {f t v : Int} (h : Least (mapE m) f t v) : 0 ≤ v ∧ v ≤ 768000 := by
  obtain ⟨es, h1, h2⟩ := h.walk
  obtain ⟨es', g1, g2, g3⟩ := shortenN (S := idsN m) (fun e he => (mapE_cost M e he).1) (fun e he => (mapE_nodes M e he).1) _ (Nat.le_refl _) h1
  have := h.least es' g1
  have hb := ecost_bounds (M := 12000) (es := es') fun x hx => mapE_cost M x (Chain.mem g1 x hx)
  have hb' := ecost_nonneg (b := es) fun x hx => (mapE_cost M x (Chain.mem h1 x hx)).1
  have : (idsN m).length = m.Nodes.length := by unfold idsN; rw [List.length_map]
  have := M.lenN
  omega
theorem time_eq {m : ApiMap} (M : MapOK m) (a b : Int) : ∃ r, fraud_Time m a b = some r ∧ ref32_Time m a b = some r ∧ TimeRes m a b r := by
  unfold fraud_Time ref32_Time
  rw [lift32_eq, lift32_eq, rlift32_eq, rlift32_eq, Option.bind_some, Option.bind_some, Option.bind_some, Option.bind_some]
  cases ha : (liftF m a).2 with
  | false => exact ⟨_, rfl, rfl, .none fun h => by rw [ha] at h; cases h⟩
  | true =>
  cases hb : (liftF m b).2 with
  | false => exact ⟨_, rfl, rfl, .none fun _ h => by rw [hb] at h; cases h⟩
  | true =>
  have xa := M.lifts _ (liftF_true ha).1
  have xb := M.lifts _ (liftF_true hb).1
  obtain ⟨s, e1, e2, e3⟩ := edges_eq M
  obtain ⟨r, s1, s2⟩ := shortest_eq (gc M) (liftF m a).1.To (liftF m b).1.From
  obtain ⟨v, w1, w2⟩ := way_eq M xa.2.1.2.1 xb.2.1.1
  rw [Bool.not_true, cond_false, cond_false, cond_false, cond_false, e1, w1, Option.bind_some, Option.bind_some]
  unfold fraud_Time_j1
  show ∃ r, (forIx fraud_Time_b2 0 m.Lifts s).bind _ = _ ∧ _
  rw [e3, Option.bind_some]
  show ∃ r, (graph_Shortest (mapE m) _ _).bind _ = _ ∧ _
  rw [s1, Option.bind_some]
  cases s2 with
  | none hno =>
    rcases w2 with ⟨rfl, _⟩ | ⟨_, hl⟩
    · exact ⟨_, rfl, rfl, .none fun _ _ => hno⟩
    · obtain ⟨es, h1, _⟩ := hl.walk
      exact absurd h1 (hno es)
  | @some p ids hbst hp =>
    rcases w2 with ⟨_, hno⟩ | ⟨h0, hl⟩
    · obtain ⟨es, h1, _⟩ := hbst.walk
      exact absurd h1 (hno es)
    · have hv := hbst.cost.unique hl
      have hbd := least_bound M hl
      have hsb := sec_bound xa.1
      rw [decide_eq_false (by omega), cond_false, Bool.not_true, cond_false, seconds_eq xa.1, rseconds_eq xa.1, Option.bind_some, Option.bind_some]
      simp only
      rw [hv, wrap_i64 (by omega) (by omega)]
      exact ⟨_, rfl, rfl, .some ha hb hl⟩
theorem TimeRes.bound {m : ApiMap} (M : MapOK m) {a b : Int} {r : Int × Bool} (h : TimeRes m a b r) : 0 ≤ r.1 ∧ r.1 ≤ 1000000 := by
  cases h with
  | none _ => simp
  | some ha hb hl =>
    have := least_bound M hl
    have := sec_bound (M.lifts _ (liftF_true ha).1).1
    simp only; omega
end Go.Proofs.Ytmfjcimogpmheaa
