/-
  The reference's Shortest in plain Lean.
-/
import Derived.Test.YtnafejjdhdpanaaL6
namespace Go.Proofs.Ytnafejjdhdpanaa
open Go Go.Ab
set_option linter.unusedSimpArgs false
set_option linter.unusedVariables false

abbrev RLab := Skiref05Label
def findL (l : List RLab) (n : Int) : RLab := match l.find? (fun x => decide (x.node = n)) with | some x => x | none => ⟨n, 0, 0, false⟩
theorem rFind_eq (l : List RLab) (n : Int) : ref05_find l n = some (findL l n) := by
  unfold ref05_find findL
  rw [forIx_first (step := ref05_find_b1 n) (fun x => decide (x.node = n)) (fun x => x) (fun k x hx => rfl)]
  cases l.find? fun x => decide (x.node = n) <;> rfl
theorem findL_node (l : List RLab) (n : Int) : (findL l n).node = n := by
  unfold findL
  cases h : l.find? fun x => decide (x.node = n) with
  | some x => simpa using List.find?_some h
  | none => rfl
theorem findL_mem {l : List RLab} {n : Int} (h : n ∈ l.map (·.node)) : findL l n ∈ l := by
  unfold findL
  cases hf : l.find? fun x => decide (x.node = n) with
  | some x => exact List.mem_of_find?_eq_some hf
  | none =>
    obtain ⟨x, hx, rfl⟩ := List.mem_map.1 h
    have := List.find?_eq_none.1 hf x hx
    simp at this
theorem findL_ok {l : List RLab} {n : Int} (h : (findL l n).ok = true) : findL l n ∈ l := by
  refine findL_mem (Classical.byContradiction fun hno => ?_)
  unfold findL at h
  cases hf : l.find? fun x => decide (x.node = n) with
  | some x => exact hno (List.mem_map.2 ⟨x, List.mem_of_find?_eq_some hf, by simpa using List.find?_some hf⟩)
  | none => rw [hf] at h; cases h
theorem findL_map {l : List RLab} {f : RLab → RLab} (hf : ∀ x, (f x).node = x.node) {n : Int} (h : n ∈ l.map (·.node)) : findL (l.map f) n = f (findL l n) := by
  unfold findL
  rw [List.find?_map]
  have : ((fun x : RLab => decide (x.node = n)) ∘ f) = fun x => decide (x.node = n) := by funext x; simp [hf]
  rw [this]
  cases hq : l.find? fun x => decide (x.node = n) with
  | some x => rfl
  | none =>
    obtain ⟨x, hx, rfl⟩ := List.mem_map.1 h
    have := List.find?_eq_none.1 hq x hx
    simp at this
theorem findL_out {l : List RLab} {n : Int} (h : n ∉ l.map (·.node)) : findL l n = ⟨n, 0, 0, false⟩ := by
  unfold findL
  rw [List.find?_eq_none.2 fun x hx => by
    simp; rintro rfl; exact h (List.mem_map_of_mem hx)]
theorem findL_self {l : List RLab} (hn : (l.map (·.node)).Nodup) {x : RLab} (hx : x ∈ l) : findL l x.node = x := by
  have h1 := findL_mem (List.mem_map_of_mem (f := (·.node)) hx)
  have h2 := findL_node l x.node
  have : ∀ {l : List RLab}, (l.map (·.node)).Nodup → ∀ a ∈ l, ∀ b ∈ l, a.node = b.node → a = b := by
    intro l
    induction l with
    | nil => intro _ a ha; simp at ha
    | cons c l ih =>
      intro hn a ha b hb e
      rw [List.map_cons, List.nodup_cons] at hn
      rcases List.mem_cons.1 ha with ha' | ha'
      · rcases List.mem_cons.1 hb with hb' | hb'
        · rw [ha', hb']
        · exact absurd (List.mem_map.2 ⟨b, hb', by rw [← ha']; exact e.symm⟩) hn.1
      · rcases List.mem_cons.1 hb with hb' | hb'
        · exact absurd (List.mem_map.2 ⟨a, ha', by rw [← hb']; exact e⟩) hn.1
        · exact ih hn.2 a ha' b hb' e
  exact this hn _ h1 _ hx h2
def lessB (a b : RLab) : Bool := a.ok && (!b.ok || decide (a.cost < b.cost ∨ (a.cost = b.cost ∧ a.edges < b.edges)))
theorem rLess_eq (a b : RLab) : ref05_less a b = some (lessB a b) := by
  unfold ref05_less lessB
  cases a.ok <;> cases b.ok <;> simp
  by_cases h1 : a.cost < b.cost
  · simp [h1]
  · by_cases h2 : a.cost = b.cost <;> simp [h1, h2]
/-- what a better label changes -/
def putL (y z : RLab) : RLab := if z.node = y.node ∧ lessB y z = true then y else z
def hitL (y z : RLab) : Bool := decide (z.node = y.node) && lessB y z
theorem putL_node (y z : RLab) : (putL y z).node = z.node := by
  unfold putL; split
  · rename_i h; exact h.1.symm
  · rfl
theorem labels_b4 (y : RLab) (b : Bool) (out : List RLab) (hl : out.length ≤ 1000000) : whileN (ref05_labels_b4 y) fuel (b, 0, out) = some (.ret (.next (b || out.any (hitL y), out.map (putL y)))) := by
  obtain ⟨r, h1, h2⟩ := whileN_inv (step := ref05_labels_b4 y) (fun s => 0 ≤ s.2.1 ∧ s.2.1 ≤ (out.length : Int) ∧ s.2.2.length = out.length ∧ s.1 = (b || (out.take s.2.1.toNat).any (hitL y)) ∧ ∀ (i : Nat) z, out[i]? = some z → s.2.2[i]? = some (if (i : Int) < s.2.1 then putL y z else z))
    (fun r => r = .next (b || out.any (hitL y), out.map (putL y))) (fun s => (out.length - s.2.1).toNat) (fun s ⟨i1, i2, i3, i4, i5⟩ => by
      obtain ⟨c, i, o⟩ := s
      simp only at i1 i2 i3 i4 i5 ⊢
      obtain ⟨k, rfl⟩ : ∃ k : Nat, i = (k : Int) := ⟨i.toNat, by omega⟩
      unfold ref05_labels_b4
      simp only [Int.toNat_natCast] at i4 ⊢
      by_cases hk : (k : Int) < ((o.length : Nat) : Int)
      · have hkl : k < out.length := by omega
        have hz : out[k]? = some out[k] := List.getElem?_eq_getElem hkl
        have ho := i5 k _ hz
        rw [if_neg (Int.lt_irrefl _)] at ho
        rw [decide_eq_true hk, cond_true, idxL_nat ho, Option.bind_some, rLess_eq, Option.bind_some, wrap_add1 (by omega)]
        have fin : ∀ (c' : Bool) (o' : List RLab), c' = (c || hitL y out[k]) → o' = o.set k (putL y out[k]) → (∃ s', (some (Out.next (c', ((k + 1 : Nat) : Int), o')) : Option (Out (Bool × Int × List RLab) (Out (Bool × List RLab) (Out (Bool × List RLab) (List RLab))))) = some (.next s') ∧ (0 ≤ s'.2.1 ∧ s'.2.1 ≤ (out.length : Int) ∧ s'.2.2.length = out.length ∧ s'.1 = (b || (out.take s'.2.1.toNat).any (hitL y)) ∧ ∀ (i : Nat) z, out[i]? = some z → s'.2.2[i]? = some (if (i : Int) < s'.2.1 then putL y z else z)) ∧ (out.length - s'.2.1).toNat < (out.length - (k : Int)).toNat) := by
          rintro c' o' rfl rfl
          refine ⟨_, rfl, ⟨by simp only; omega, by simp only; omega, by simp [i3], ?_, fun j z hj => ?_⟩, by simp only; omega⟩
          · simp only [Int.toNat_natCast]
            rw [take_succ_some hz, List.any_append, i4]; simp [Bool.or_assoc]
          · simp only
            by_cases h : k = j
            · subst h
              rw [hz] at hj; obtain rfl := Option.some.inj hj
              rw [List.getElem?_set_self (by omega), if_pos (by omega)]
            · rw [List.getElem?_set_ne h, i5 j z hj]
              by_cases h2 : (j : Int) < (k : Int)
              · rw [if_pos h2, if_pos (by omega)]
              · rw [if_neg h2, if_neg (by omega)]
        have same : o.set k out[k] = o := by
          obtain ⟨h1, h2⟩ := List.getElem?_eq_some_iff.1 ho
          rw [← h2]; exact List.set_getElem_self h1
        by_cases hn : out[k].node = y.node
        · rw [decide_eq_true hn, cond_true]
          cases hb : lessB y out[k] with
          | true =>
            rw [cond_true]
            exact .inl (fin _ _ (by unfold hitL; rw [decide_eq_true hn, hb]; simp) (by unfold putL; rw [if_pos ⟨hn, hb⟩]))
          | false =>
            rw [cond_false]
            exact .inl (fin _ _ (by unfold hitL; rw [hb]; simp) (by unfold putL; rw [if_neg (fun h => by rw [h.2] at hb; cases hb), same]))
        · rw [decide_eq_false hn, cond_false]
          exact .inl (fin _ _ (by unfold hitL; rw [decide_eq_false hn]; simp) (by unfold putL; rw [if_neg (fun h => hn h.1), same]))
      · rw [decide_eq_false hk, cond_false]
        have hko : k = out.length := by omega
        refine .inr ⟨_, rfl, ?_⟩
        have ho : o = out.map (putL y) := by
          apply List.ext_getElem?
          intro j
          rw [List.getElem?_map]
          by_cases hj : j < out.length
          · rw [i5 j _ (List.getElem?_eq_getElem hj), List.getElem?_eq_getElem hj, if_pos (by omega)]; rfl
          · rw [List.getElem?_eq_none (by omega), List.getElem?_eq_none (by omega)]; rfl
        rw [i4, ho, hko, List.take_length]) fuel (b, 0, out) ⟨by simp, by simp, rfl, by simp, fun i z h => by simp only; rw [if_neg (by omega)]; exact h⟩ (by show _ < 1099511627776; simp only; omega)
  rw [h1, h2]

/-! ### the tables -/
def tabL (out : List RLab) : Tab := fun n => if (findL out n).ok = true then some ((findL out n).cost, (findL out n).edges.toNat) else none
structure LW (nodes : List Int) (out : List RLab) : Prop where
  nodes : out.map (·.node) = nodes
  pos : ∀ x ∈ out, x.ok = true → 0 ≤ x.edges
theorem labels_b3 {l : List ApiEdge} (g : GC l) {t : Int} {nodes : List Int} (hnd : nodes.Nodup) (hnl : nodes.length ≤ 1000000) {out : List RLab} {j : Nat} (hs : Sound l t (tabL out) j) (hj : j ≤ 2000000) (hw : LW nodes out) {e : ApiEdge} (he : e ∈ l) (hf : e.From ∈ nodes) (k : Nat) (c : Bool) :
    ∃ out', ref05_labels_b3 k e (c, out) = some (.next (c || upd (tabL out) e, out')) ∧ tabL out' = relax (tabL out) e ∧ LW nodes out' := by
  have hce := g.cost e he
  have hol : out.length ≤ 1000000 := by
    have := congrArg List.length hw.nodes
    rw [List.length_map] at this; omega
  unfold ref05_labels_b3
  simp only
  rw [rFind_eq, Option.bind_some]
  let a := findL out e.To
  let y : RLab := ⟨e.From, IntKind.i64.wrap (a.cost + e.Cost), IntKind.i64.wrap (a.edges + 1), a.ok⟩
  have hy : ref05_through e (findL out e.To) = some y := rfl
  rw [hy, Option.bind_some, labels_b4 y c out hol]
  have hfn : e.From ∈ out.map (·.node) := by rw [hw.nodes]; exact hf
  have hany : out.any (hitL y) = lessB y (findL out e.From) := by
    rw [Bool.eq_iff_iff, List.any_eq_true]
    constructor
    · rintro ⟨x, hx, hh⟩
      unfold hitL at hh
      rw [Bool.and_eq_true] at hh
      have h1 : x.node = e.From := of_decide_eq_true hh.1
      have := findL_self (by rw [hw.nodes]; exact hnd) hx
      rw [h1] at this
      rw [this]; exact hh.2
    · intro h
      refine ⟨_, findL_mem hfn, ?_⟩
      unfold hitL
      rw [h, Bool.and_true]
      exact decide_eq_true (findL_node out e.From)
  have hfind : ∀ n, findL (out.map (putL y)) n = if n = e.From ∧ lessB y (findL out e.From) = true then y else findL out n := by
    intro n
    by_cases hn : n ∈ out.map (·.node)
    · rw [findL_map (putL_node y) hn]
      unfold putL
      rw [findL_node]
      by_cases h : n = e.From
      · subst h; rfl
      · rw [if_neg (fun hh => h hh.1), if_neg (fun hh => h hh.1)]
    · have h : n ≠ e.From := fun h => hn (h ▸ hfn)
      rw [if_neg (fun hh => h hh.1), findL_out hn, findL_out]
      rw [List.map_map]
      have : ((fun x : RLab => x.node) ∘ putL y) = fun x => x.node := funext fun x => putL_node y x
      rw [this]; exact hn
  have hbs : a.ok = true → IntKind.i64.wrap (a.cost + e.Cost) = a.cost + e.Cost ∧ IntKind.i64.wrap (a.edges + 1) = a.edges + 1 ∧ 0 ≤ a.edges ∧ tabL out e.To = some (a.cost, a.edges.toNat) := fun hok => by
    have ht : tabL out e.To = some (a.cost, a.edges.toNat) := if_pos hok
    have ha : 0 ≤ a.edges := hw.pos _ (findL_ok hok) hok
    have hb := sound_bounds g hs ht
    simp only at hb
    refine ⟨by rw [wrap_i64] <;> omega, by rw [wrap_i64] <;> omega, ha, ht⟩
  have hupd : upd (tabL out) e = lessB y (findL out e.From) := by
    unfold upd
    cases hok : a.ok with
    | false =>
      have ht : tabL out e.To = none := if_neg (by intro h; rw [show (findL out e.To).ok = false from hok] at h; cases h)
      rw [ht]
      unfold lessB
      have : y.ok = false := hok
      rw [this]; rfl
    | true =>
      obtain ⟨w1, w2, ha, ht⟩ := hbs hok
      rw [ht]
      have hyo : y.ok = true := hok
      have hyc : y.cost = a.cost + e.Cost := w1
      have hye : y.edges = a.edges + 1 := w2
      unfold lessB
      rw [hyo, hyc, hye]
      simp only [Bool.true_and]
      cases hfo : (findL out e.From).ok with
      | false =>
        have : tabL out e.From = none := if_neg (by rw [hfo]; simp)
        rw [this]; rfl
      | true =>
        have hft : tabL out e.From = some ((findL out e.From).cost, (findL out e.From).edges.toNat) := if_pos hfo
        have hb0 := hw.pos _ (findL_ok hfo) hfo
        rw [hft]
        simp only [Bool.not_true, Bool.false_or]
        show decide (lexlt _ _) = _
        rw [decide_eq_decide]
        unfold lexlt thru
        simp only
        omega
  have htab : ∀ {n : Int} {x : RLab}, findL (out.map (putL y)) n = x → tabL (out.map (putL y)) n = if x.ok = true then some (x.cost, x.edges.toNat) else none := by
    rintro n _ rfl; rfl
  refine ⟨out.map (putL y), by rw [hany, hupd]; rfl, ?_, ?_, fun x hx hok => ?_⟩
  · cases hu : lessB y (findL out e.From) with
    | false =>
      rw [relax_no (by rw [hupd]; exact hu)]
      funext n
      have hfn := hfind n
      rw [if_neg (fun h => by rw [hu] at h; cases h.2)] at hfn
      rw [htab hfn]; rfl
    | true =>
      have hok : a.ok = true := by
        unfold lessB at hu
        rw [Bool.and_eq_true] at hu
        exact hu.1
      obtain ⟨w1, w2, ha, ht⟩ := hbs hok
      have hbt : btr (thru e (a.cost, a.edges.toNat)) (tabL out e.From) = true := by
        unfold upd at hupd; rw [ht] at hupd; simp only at hupd; rw [hupd]; exact hu
      rw [relax_yes ht hbt]
      funext n
      have hfn := hfind n
      by_cases hn : n = e.From
      · rw [if_pos ⟨hn, hu⟩] at hfn
        rw [htab hfn, if_pos hn]
        have hyo : y.ok = true := hok
        have hyc : y.cost = a.cost + e.Cost := w1
        have hye : y.edges = a.edges + 1 := w2
        rw [hyo, hyc, hye, if_pos rfl]
        unfold thru
        simp only
        rw [Int.toNat_add ha (by omega)]; rfl
      · rw [if_neg (fun h => hn h.1)] at hfn
        rw [htab hfn, if_neg hn]; rfl
  · rw [List.map_map]
    have : ((fun x : RLab => x.node) ∘ putL y) = fun x => x.node := funext fun x => putL_node y x
    rw [this]; exact hw.nodes
  · obtain ⟨z, hz, rfl⟩ := List.mem_map.1 hx
    unfold putL at hok ⊢
    by_cases h : z.node = y.node ∧ lessB y z = true
    · rw [if_pos h] at hok ⊢
      obtain ⟨w1, w2, ha, ht⟩ := hbs hok
      show 0 ≤ IntKind.i64.wrap (a.edges + 1)
      rw [w2]; omega
    · rw [if_neg h] at hok ⊢; exact hw.pos z hz hok
theorem labels_pass {l : List ApiEdge} (g : GC l) {t : Int} {nodes : List Int} (hnd : nodes.Nodup) (hnl : nodes.length ≤ 1000000) (hfr : ∀ e ∈ l, e.From ∈ nodes) {out : List RLab} {j : Nat} (hs : Sound l t (tabL out) j) (hj : j + l.length ≤ 2000000) (hw : LW nodes out) :
    ∃ c out', forIx ref05_labels_b3 0 l (false, out) = some (.next (c, out')) ∧ tabL out' = pass l (tabL out) ∧ LW nodes out' ∧ Sound l t (tabL out') (j + l.length) ∧ (c = false ↔ ∀ e ∈ l, upd (tabL out) e = false) ∧ (c = false → tabL out' = tabL out) := by
  obtain ⟨s, h1, h2, h3, h4, h5, h6⟩ := forIx_run (ρ := Out (Bool × List RLab) (List RLab)) (step := ref05_labels_b3) (l := l) (s := (false, out)) (fun k s => tabL s.2 = (l.take k).foldl relax (tabL out) ∧ LW nodes s.2 ∧ Sound l t (tabL s.2) (j + k) ∧ (s.1 = false ↔ ∀ e ∈ l.take k, upd (tabL out) e = false) ∧ (s.1 = false → tabL s.2 = tabL out))
    ⟨rfl, hw, hs, by simp, fun _ => rfl⟩ (fun k e s hk ⟨i1, i2, i3, i4, i5⟩ => by
      obtain ⟨c, o⟩ := s
      simp only at i1 i2 i3 i4 i5
      have hlt := (List.getElem?_eq_some_iff.1 hk).1
      have he := List.mem_of_getElem? hk
      obtain ⟨o2, e1, e2, e3⟩ := labels_b3 g hnd hnl i3 (by omega) i2 he (hfr e he) k c
      refine ⟨_, e1, ?_, e3, ?_, ?_, fun hc => ?_⟩
      · simp only; rw [e2, i1, take_succ_some hk, List.foldl_append]; rfl
      · simp only; rw [e2]; exact i3.relax he
      · simp only [Bool.or_eq_false_iff, take_succ_some hk, List.mem_append, List.mem_singleton]
        constructor
        · rintro ⟨hc, hu⟩ x (hx | rfl)
          · exact i4.1 hc x hx
          · rw [← i5 hc]; exact hu
        · intro h
          have hc := i4.2 fun x hx => h x (.inl hx)
          exact ⟨hc, by rw [i5 hc]; exact h e (.inr rfl)⟩
      · simp only [Bool.or_eq_false_iff] at hc
        simp only
        rw [e2, relax_no hc.2]; exact i5 hc.1)
  rw [List.take_length] at h2 h5
  exact ⟨s.1, s.2, h1, h2, h3, h4, h5, h6⟩
theorem labels_eq {l : List ApiEdge} (g : GC l) (t : Int) : ∃ out nodes, ref05_labels l t = some out ∧ Exact l t (tabL out) ∧ LW nodes out := by
  have h0 : ∀ e ∈ l, 0 ≤ e.Cost := fun e he => (g.cost e he).1
  have hl := g.len
  obtain ⟨ns, n1, n2, n3, n4⟩ := rNodes_eq (l := l) (by omega)
  obtain ⟨nodes, p1, p2, p3⟩ := put_eq n2 (by omega) t
  have hnl : nodes.length ≤ 1000000 := by
    by_cases h : t ∈ ns
    · rw [put_in n2 p2 p3 h]; omega
    · rw [put_out n2 p2 p3 h]; omega
  have hnd := p2.nodup
  have hfr : ∀ e ∈ l, e.From ∈ nodes := fun e he => (p3 _).2 (.inl ((n3 _).2 ⟨e, he, .inl rfl⟩))
  have htn : t ∈ nodes := (p3 _).2 (.inr rfl)
  let mk : Int → RLab := fun n => ⟨n, 0, 0, decide (n = t)⟩
  have c0 : forIx (ref05_labels_b5 t) 0 nodes [] = some (.next (nodes.map mk)) := by
    rw [forIx_collect (step := ref05_labels_b5 t) (fun _ => true) mk (by omega) (fun k x s hx => rfl), List.filter_eq_self.2 (fun a _ => rfl)]
  have hmn : (nodes.map mk).map (·.node) = nodes := by
    rw [List.map_map]; exact (List.map_congr_left (g := id) fun e _ => rfl).trans (List.map_id _)
  have w0 : LW nodes (nodes.map mk) := ⟨hmn, fun x hx _ => by obtain ⟨n, _, rfl⟩ := List.mem_map.1 hx; exact Int.le_refl _⟩
  have t0 : tabL (nodes.map mk) = fun n => if n = t then some (0, 0) else none := by
    funext n
    unfold tabL
    by_cases hn : n ∈ nodes
    · have : findL (nodes.map mk) n = mk n := findL_self (x := mk n) (by rw [hmn]; exact hnd) (List.mem_map_of_mem hn)
      rw [this]
      by_cases h : n = t
      · rw [if_pos (decide_eq_true h), if_pos h]; rfl
      · rw [if_neg (by simp [mk, h]), if_neg h]
    · rw [findL_out (by rw [hmn]; exact hn), if_neg (by simp), if_neg (fun h : n = t => hn (by rw [h]; exact htn))]
  have s0 : Sound l t (tabL (nodes.map mk)) (l.length * 0) := fun n p hp => by
    rw [t0] at hp
    by_cases hn : n = t
    · simp only [if_pos hn] at hp
      obtain rfl := Option.some.inj hp
      exact ⟨Nat.zero_le _, [], hn, rfl⟩
    · simp only [if_neg hn] at hp; cases hp
  have cv0 : Cov l t (tabL (nodes.map mk)) 0 := fun n es hc hl => by
    have : es = [] := List.length_eq_zero_iff.1 (by omega)
    subst this
    have hn : n = t := hc
    intro b hb
    obtain rfl := Option.some.inj hb
    exact ⟨(0, 0), by rw [t0]; exact if_pos hn, .refl _⟩
  have hmul : ∀ k, k ≤ 1001 → l.length * k ≤ 1001000 := fun k hk => by
    have := Nat.mul_le_mul hl hk; omega
  obtain ⟨r, g1, g2, g3⟩ := whileN_count (step := ref05_labels_b2 l) (fun i s => LW nodes s.2 ∧ Sound l t (tabL s.2) (l.length * i) ∧ Cov l t (tabL s.2) i ∧ (s.1 = true → i ≤ l.length) ∧ (s.1 = false → Exact l t (tabL s.2))) (fun out => Exact l t (tabL out) ∧ LW nodes out) (l.length + 1) (fun i s ⟨i1, i2, i3, i4, i5⟩ => by
    obtain ⟨b, out⟩ := s
    simp only at i1 i2 i3 i4 i5
    unfold ref05_labels_b2
    simp only
    cases b with
    | false => exact .inr ⟨out, rfl, i5 rfl, i1⟩
    | true =>
      have hi := i4 rfl
      have := hmul i (by omega)
      obtain ⟨c, out', e1, e2, e3, e4, e5, e6⟩ := labels_pass g hnd hnl hfr i2 (by omega) i1
      rw [cond_true, e1]
      refine .inl ⟨_, rfl, by omega, e3, by rw [Nat.mul_succ]; exact e4, by rw [e2]; exact i3.pass, fun hc => ?_, fun hc => ?_⟩
      · simp only at hc ⊢
        refine Classical.byContradiction fun hno => ?_
        have hx := Exact.of i2 (i3.all h0 (by omega))
        have := e5.2 hx.closed
        rw [hc] at this; cases this
      · simp only at hc
        refine Exact.of e4 ?_
        rw [e6 hc]
        have c1 : Cov l t (tabL out) 0 := fun n es hc hl => i3 n es hc (by omega)
        exact c1.closed (e5.1 hc)) fuel 0 (true, nodes.map mk) ⟨w0, s0, cv0, fun _ => Nat.zero_le _, fun h => by cases h⟩ (by show _ < 0 + 1099511627776; omega) (by omega)
  refine ⟨r, nodes, ?_, g2, g3⟩
  unfold ref05_labels
  rw [n1, Option.bind_some, p1, Option.bind_some, c0]
  show ref05_labels_j1 l _ = _
  unfold ref05_labels_j1
  rw [g1]; rfl

/-! ### the path -/
theorem tabL_some {nodes : List Int} {out : List RLab} (hw : LW nodes out) {n : Int} {p : Int × Nat} (h : tabL out n = some p) : (findL out n).ok = true ∧ (findL out n).cost = p.1 ∧ (findL out n).edges = (p.2 : Int) := by
  unfold tabL at h
  by_cases hh : (findL out n).ok = true
  · rw [if_pos hh] at h
    obtain rfl := Option.some.inj h
    exact ⟨hh, rfl, by simp only; have := hw.pos _ (findL_ok hh) hh; omega⟩
  · rw [if_neg hh] at h; cases h
theorem tabL_none {out : List RLab} {n : Int} (h : tabL out n = none) : (findL out n).ok = false := by
  unfold tabL at h
  by_cases hh : (findL out n).ok = true
  · rw [if_pos hh] at h; cases h
  · simpa using hh
theorem rShortest_b2 {l : List ApiEdge} (g : GC l) {t : Int} {nodes : List Int} {out : List RLab} (hx : Exact l t (tabL out)) (hw : LW nodes out) {n : Int} {p : Int × Nat} (hb : Best l t n p) (ids : List Int) {k : Nat} {e : ApiEdge} (he : e ∈ l) :
    (Good l t n e ∧ ref05_Shortest_b2 out n p.1 (p.2 : Int) true ids k e () = chk (ids.length + 1) (some (.ret (.next (e.To, (findL out e.To).cost, (findL out e.To).edges, (findL out e.To).ok, ids ++ [e.ID]))))) ∨ (¬ Good l t n e ∧ ref05_Shortest_b2 out n p.1 (p.2 : Int) true ids k e () = some (.next ())) := by
  have hce := g.cost e he
  unfold ref05_Shortest_b2
  rw [rFind_eq, Option.bind_some]
  unfold ref05_through
  simp only [Option.bind_some]
  cases ht : tabL out e.To with
  | none =>
    refine .inr ⟨fun hg => ?_, by rw [tabL_none ht]; simp⟩
    obtain ⟨q, hq, _⟩ := hg.2.2
    rw [(hx.best _ _).2 hq] at ht; cases ht
  | some q =>
    obtain ⟨q1, q2, q3⟩ := tabL_some hw ht
    have hq := (hx.best _ _).1 ht
    have hqb := best_cost g hq
    have w1 : IntKind.i64.wrap ((findL out e.To).cost + e.Cost) = q.1 + e.Cost := by rw [q2, wrap_i64] <;> omega
    have w2 : IntKind.i64.wrap ((findL out e.To).edges + 1) = (q.2 : Int) + 1 := by rw [q3, wrap_i64] <;> omega
    rw [w1, w2, q1, findL_node]
    by_cases hf : e.From = n
    · by_cases h1 : q.1 + e.Cost = p.1
      · by_cases h2 : (q.2 : Int) + 1 = (p.2 : Int)
        · refine .inl ⟨⟨he, hf, q, hq, ?_⟩, ?_⟩
          · have : p = (q.1 + e.Cost, q.2 + 1) := Prod.ext h1.symm (by simp only; omega)
            rw [← this]; exact hb
          · rw [decide_eq_true hf, decide_eq_true h1, decide_eq_true h2]
            simp only [cond_true, Bool.and_self, beq_self_eq_true]
        · refine .inr ⟨fun hg => ?_, by rw [decide_eq_true hf, decide_eq_true h1, decide_eq_false h2]; rfl⟩
          obtain ⟨q', hq', hb'⟩ := hg.2.2
          obtain rfl := hq.unique hq'
          have := hb.unique hb'
          rw [this] at h2; simp at h2
      · refine .inr ⟨fun hg => ?_, by rw [decide_eq_true hf, decide_eq_false h1]; rfl⟩
        obtain ⟨q', hq', hb'⟩ := hg.2.2
        obtain rfl := hq.unique hq'
        have := hb.unique hb'
        rw [this] at h1; simp at h1
    · exact .inr ⟨fun hg => hf hg.2.1, by rw [decide_eq_false hf]; rfl⟩
theorem rShortest_eq {l : List ApiEdge} (g : GC l) (f t : Int) : ∃ r, ref05_Shortest l f t = some r ∧ SpRes l f t r := by
  obtain ⟨out, nodes, hm, hx, hw⟩ := labels_eq g t
  unfold ref05_Shortest
  rw [hm, Option.bind_some, rFind_eq, Option.bind_some]
  cases hf : tabL out f with
  | none =>
    rw [tabL_none hf]
    exact ⟨_, rfl, .none (hx.none hf)⟩
  | some p0 =>
    obtain ⟨f1, f2, f3⟩ := tabL_some hw hf
    have hb0 := (hx.best _ _).1 hf
    have hc0 := best_cost g hb0
    rw [f1, f2, f3, findL_node]
    obtain ⟨r, h1, h2⟩ := whileN_inv (step := ref05_Shortest_b1 l out (findL out f)) (fun s => ∃ p, Best l t s.1 p ∧ s.2.1 = p.1 ∧ s.2.2.1 = (p.2 : Int) ∧ s.2.2.2.1 = true ∧ s.2.2.2.2.length + p.2 = p0.2 ∧ ∀ r, PathRes l t s.1 r → PathRes l t f (s.2.2.2.2 ++ r)) (fun r => SpRes l f t r)
      (fun s => s.2.2.1.toNat) (fun s ⟨p, i1, j1, j2, j3, i2, i3⟩ => by
        obtain ⟨n, c, ed, ok, ids⟩ := s
        simp only at i1 j1 j2 j3 i2 i3 ⊢
        subst j1 j2 j3
        unfold ref05_Shortest_b1
        simp only
        by_cases hp : (0 : Int) < (p.2 : Int)
        · have hn : n ≠ t := fun h => by
            subst h
            have := i1.unique (Best.at_end fun e he => (g.cost e he).1)
            rw [this] at hp; simp at hp
          rw [decide_eq_true hp, cond_true]
          rcases forIx_inv (step := ref05_Shortest_b2 out n p.1 (p.2 : Int) true ids) (l := l) (s := ()) (fun k _ => ∀ j e', j < k → l[j]? = some e' → ¬ Good l t n e') (fun r => ∃ (i : Nat) (e : ApiEdge), l[i]? = some e ∧ Good l t n e ∧ (∀ j e', j < i → l[j]? = some e' → ¬ Good l t n e') ∧ r = Out.next (e.To, (findL out e.To).cost, (findL out e.To).edges, (findL out e.To).ok, ids ++ [e.ID]))
            (fun j e' h => by omega) (fun k e u hk hI => by
              rcases rShortest_b2 g hx hw i1 ids (k := k) (List.mem_of_getElem? hk) with ⟨h1, h2⟩ | ⟨h1, h2⟩
              · rw [h2, chk_ok (by omega)]
                exact .inr ⟨_, rfl, k, e, hk, h1, hI, rfl⟩
              · rw [h2]
                refine .inl ⟨(), rfl, fun j e' hj hje => ?_⟩
                by_cases h : j = k
                · subst h; rw [hk] at hje; obtain rfl := Option.some.inj hje; exact h1
                · exact hI j e' (by omega) hje) with ⟨_, _, h⟩ | ⟨r, h1, i, e, h2, h3, h4, rfl⟩
          · exfalso
            obtain ⟨e, he⟩ := i1.step hn
            obtain ⟨i, hi, rfl⟩ := List.getElem_of_mem he.1
            exact h i _ hi (List.getElem?_eq_getElem hi) he
          · rw [h1]
            obtain ⟨q, hq, hq2⟩ := h3.2.2
            have hpq := i1.unique hq2
            obtain ⟨q1, q2, q3⟩ := tabL_some hw ((hx.best _ _).2 hq)
            refine .inl ⟨_, rfl, ⟨q, hq, q2, q3, q1, ?_, fun r hr => ?_⟩, ?_⟩
            · simp only [List.length_append, List.length_cons, List.length_nil]
              rw [hpq] at i2; simp only at i2; omega
            · have := i3 _ (.step hn h2 h3 h4 hr)
              simpa using this
            · simp only
              rw [q3, hpq]; simp only; omega
        · rw [decide_eq_false hp, cond_false, f2]
          have hn : n = t := Classical.byContradiction fun h => hp (by have := i1.pos h; omega)
          subst hn
          refine .inr ⟨_, rfl, ?_⟩
          have := i3 [] .done
          rw [List.append_nil] at this
          exact .some hb0 this) fuel (f, p0.1, (p0.2 : Int), true, []) ⟨p0, hb0, rfl, rfl, rfl, by simp, fun r h => by simpa using h⟩ (by show _ < 1099511627776; simp only [Int.toNat_natCast]; omega)
    refine ⟨r, ?_, h2⟩
    simp only [Bool.not_true, cond_false]
    rw [h1]; rfl
end Go.Proofs.Ytnafejjdhdpanaa
