/-
  Layer 6 (flow) in plain Lean: nets, flows, and what Valid and Value answer.
-/
import Derived.Test.YtacfmeobdobhhaaW4
import Derived.Test.YtacfmeobdobhhaaSkX
namespace Go.Proofs.Ytacfmeobdobhhaa
open Go Go.Ab
set_option linter.unusedSimpArgs false
set_option linter.unusedVariables false

structure EdgeOK (e : ApiEdge) : Prop where
  from0 : 0 ≤ e.From
  from1 : e.From ≤ 9999
  to0 : 0 ≤ e.To
  to1 : e.To ≤ 9999
  cost0 : 0 ≤ e.Cost
  cost1 : e.Cost ≤ 1000000
def EdgesOK (l : List ApiEdge) : Prop := l.length ≤ 60 ∧ ∀ e ∈ l, EdgeOK e

theorem right_b1 (l : List ApiEdge) (hl : l.length ≤ 100000) (k : Nat) (x : ApiEdge) (hk : l[k]? = some x) : (ref06_Right_b1 l k x () = some (.next ()) ∧ EdgeOK x) ∨ ref06_Right_b1 l k x () = some (.ret false) := by
  have hlt := (List.getElem?_eq_some_iff.1 hk).1
  unfold ref06_Right_b1
  by_cases h1 : x.From < 0
  · rw [decide_eq_true h1]; exact .inr rfl
  by_cases h2 : 9999 < x.From
  · rw [decide_eq_false h1, decide_eq_true h2]; exact .inr rfl
  by_cases h3 : x.To < 0
  · rw [decide_eq_false h1, decide_eq_false h2, decide_eq_true h3]; exact .inr rfl
  by_cases h4 : 9999 < x.To
  · rw [decide_eq_false h1, decide_eq_false h2, decide_eq_false h3, decide_eq_true h4]; exact .inr rfl
  by_cases h5 : x.Cost < 0
  · rw [decide_eq_false h1, decide_eq_false h2, decide_eq_false h3, decide_eq_false h4, decide_eq_true h5]; exact .inr rfl
  by_cases h6 : 1000000 < x.Cost
  · rw [decide_eq_false h1, decide_eq_false h2, decide_eq_false h3, decide_eq_false h4, decide_eq_false h5, decide_eq_true h6]; exact .inr rfl
  rw [decide_eq_false h1, decide_eq_false h2, decide_eq_false h3, decide_eq_false h4, decide_eq_false h5, decide_eq_false h6]
  rcases forN_inv (n := k) (s := ()) (step := ref06_Right_b2 l x) (by omega) (fun _ _ => True) (fun r => r = Out.ret false) trivial (fun i s hi _ => by
    simp only [ref06_Right_b2, idxL_lt (show i < l.length by omega), Option.bind_some]
    by_cases h : l[i].ID = x.ID
    · rw [decide_eq_true h]; exact .inr ⟨_, rfl, rfl⟩
    · rw [decide_eq_false h]; exact .inl ⟨(), rfl, trivial⟩) with ⟨s', e, _⟩ | ⟨r, e, hr⟩
  · refine .inl ⟨?_, ⟨by omega, by omega, by omega, by omega, by omega, by omega⟩⟩
    show ((forN (ref06_Right_b2 l x) k ()).bind fun o => o.on fun _ => some (.next ())) = _
    rw [e]; rfl
  · subst hr
    refine .inr ?_
    show ((forN (ref06_Right_b2 l x) k ()).bind fun o => o.on fun _ => some (.next ())) = _
    rw [e]; rfl
theorem right06 (l : List ApiEdge) : ∃ b, ref06_Right l = some b ∧ (b = true → ∀ e ∈ l, EdgeOK e) := by
  unfold ref06_Right
  by_cases h : (200 : Int) < ((l.length : Nat) : Int)
  · rw [decide_eq_true h]; exact ⟨false, rfl, by simp⟩
  rw [decide_eq_false h]
  rcases forIx_inv (step := ref06_Right_b1 l) (l := l) (s := ()) (fun k _ => ∀ i x, i < k → l[i]? = some x → EdgeOK x) (fun r => r = false) (fun i x h => by omega) (fun k x u hk hI => by
    rcases right_b1 l (by omega) k x hk with ⟨e, hx⟩ | e
    · refine .inl ⟨(), e, fun i y hi hy => ?_⟩
      by_cases hh : i = k
      · subst hh; rw [hk] at hy; obtain rfl := Option.some.inj hy; exact hx
      · exact hI i y (by omega) hy
    · exact .inr ⟨false, e, rfl⟩) with ⟨u, e, hI⟩ | ⟨r, e, hr⟩
  · refine ⟨true, by show ((forIx (ref06_Right_b1 l) 0 l ()).bind fun o => o.on fun _ => some true) = _; rw [e]; rfl, fun _ x hx => ?_⟩
    obtain ⟨i, hi, rfl⟩ := List.getElem_of_mem hx
    exact hI i _ hi (List.getElem?_eq_getElem hi)
  · subst hr
    exact ⟨false, by show ((forIx (ref06_Right_b1 l) 0 l ()).bind fun o => o.on fun _ => some true) = _; rw [e]; rfl, by simp⟩
theorem few_ok (l : List ApiEdge) : ∃ b, law06_few l = some b ∧ (b = true → EdgesOK l) := by
  unfold law06_few
  obtain ⟨b, h1, h2⟩ := right06 l
  by_cases h : ((l.length : Nat) : Int) ≤ 60
  · rw [decide_eq_true h, h1]; exact ⟨b, rfl, fun hb => ⟨by omega, h2 hb⟩⟩
  · rw [decide_eq_false h]; exact ⟨false, rfl, by simp⟩

/-- what flows away from a node along one edge, less what flows to it -/
def con (e : ApiEdge) (x : Int) (n : Int) : Int := (if e.From = n then x else 0) - (if e.To = n then x else 0)
/-- what flows away from a node, less what flows to it -/
def netL : List ApiEdge → List Int → Int → Int
  | e :: l, x :: f, n => con e x n + netL l f n
  | _, _, _ => 0
theorem netL_snoc : ∀ (l : List ApiEdge) (f : List Int) (e : ApiEdge) (x n : Int), l.length = f.length → netL (l ++ [e]) (f ++ [x]) n = netL l f n + con e x n
  | [], [], e, x, n, _ => by simp [netL]
  | a :: l, y :: f, e, x, n, h => by
    have := netL_snoc l f e x n (by simpa using h)
    simp only [List.cons_append, netL, this]; omega
theorem netL_take {l : List ApiEdge} {f : List Int} {k : Nat} {e : ApiEdge} {x n : Int} (he : l[k]? = some e) (hx : f[k]? = some x) : netL (l.take (k + 1)) (f.take (k + 1)) n = netL (l.take k) (f.take k) n + con e x n := by
  have h1 := (List.getElem?_eq_some_iff.1 he).1
  have h2 := (List.getElem?_eq_some_iff.1 hx).1
  rw [take_succ_some he, take_succ_some hx, netL_snoc _ _ _ _ _ (by simp; omega)]
/-- a number for each edge, within its capacity -/
structure Within (l : List ApiEdge) (f : List Int) : Prop where
  len : f.length = l.length
  rng : ∀ (k : Nat) e x, l[k]? = some e → f[k]? = some x → 0 ≤ x ∧ x ≤ e.Cost
theorem con_bound {e : ApiEdge} {x n : Int} (h : 0 ≤ x ∧ x ≤ 1000000) : -1000000 ≤ con e x n ∧ con e x n ≤ 1000000 := by
  unfold con; split <;> split <;> omega
theorem netL_bound {l : List ApiEdge} {f : List Int} (hl : f.length = l.length) (hb : ∀ (k : Nat) x, f[k]? = some x → 0 ≤ x ∧ x ≤ 1000000) (n : Int) : ∀ k : Nat, k ≤ l.length → -((k : Int) * 1000000) ≤ netL (l.take k) (f.take k) n ∧ netL (l.take k) (f.take k) n ≤ (k : Int) * 1000000
  | 0, _ => by simp [netL]
  | k + 1, hk => by
    have ih := netL_bound hl hb n k (by omega)
    have h1 : l[k]? = some l[k] := List.getElem?_eq_getElem (by omega)
    have h2 : f[k]? = some f[k] := List.getElem?_eq_getElem (by omega)
    have hc := con_bound (e := l[k]) (n := n) (hb k _ h2)
    rw [netL_take h1 h2]
    constructor <;> omega
theorem Within.le {l : List ApiEdge} {f : List Int} (hw : Within l f) (hl : EdgesOK l) (k : Nat) (x : Int) (hx : f[k]? = some x) : 0 ≤ x ∧ x ≤ 1000000 := by
  have h2 := (List.getElem?_eq_some_iff.1 hx).1
  have := hw.len
  have h1 : l[k]? = some l[k] := List.getElem?_eq_getElem (by omega)
  have h3 := hw.rng k _ x h1 hx
  have h4 := (hl.2 _ (List.mem_of_getElem? h1)).cost1
  omega
theorem wrap_60 {n : Int} (h : -1000000000 ≤ n ∧ n ≤ 1000000000) : IntKind.i64.wrap n = n := by rw [wrap_i64] <;> omega
theorem net_step (e : ApiEdge) (x n s : Int) (hs : -600000000 ≤ s ∧ s ≤ 600000000) (hx : 0 ≤ x ∧ x ≤ 1000000) {σ ρ : Type} (r : Int → Option (Out Int ρ)) :
    (bif decide (e.From = n) then (bif decide (e.To = n) then r (IntKind.i64.wrap (IntKind.i64.wrap (s + x) - x)) else r (IntKind.i64.wrap (s + x))) else (bif decide (e.To = n) then r (IntKind.i64.wrap (s - x)) else r s)) = r (s + con e x n) := by
  have e1 : IntKind.i64.wrap (s + x) = s + x := wrap_60 (by omega)
  have e2 : IntKind.i64.wrap (s + x - x) = s + x - x := wrap_60 (by omega)
  have e3 : IntKind.i64.wrap (s - x) = s - x := wrap_60 (by omega)
  rw [e1, e2, e3]
  unfold con
  by_cases h1 : e.From = n <;> by_cases h2 : e.To = n <;> simp only [h1, h2, decide_true, decide_false, if_true, if_false, cond_true, cond_false] <;> congr 1 <;> omega
theorem net_eq {l : List ApiEdge} {f : List Int} (hl : EdgesOK l) (hw : Within l f) (n : Int) : ref06_net l f n = some (netL l f n) := by
  unfold ref06_net
  have hlen := hw.len
  have h60 := hl.1
  obtain ⟨s', e, hI⟩ := forIx_run (step := ref06_net_b1 f n) (l := l) (s := (0 : Int)) (fun k s => s = netL (l.take k) (f.take k) n) rfl (fun k x s hk hI => by
    have hlt := (List.getElem?_eq_some_iff.1 hk).1
    have hx : f[k]? = some f[k] := List.getElem?_eq_getElem (by omega)
    have hb := netL_bound hlen (hw.le hl) n k (by omega)
    refine ⟨s + con x f[k] n, ?_, by rw [netL_take hk hx, hI]⟩
    rw [← net_step (σ := Int) x f[k] n s (by omega) (hw.le hl k _ hx) (fun z => some (.next z))]
    simp only [ref06_net_b1, idxL_nat hx, Option.bind_some])
  rw [e, hI, List.take_length, ← hlen, List.take_length]; rfl
theorem value_eq {l : List ApiEdge} {f : List Int} (hl : EdgesOK l) (hw : Within l f) (n : Int) : flow_Value l f n = some (netL l f n) := by
  unfold flow_Value
  have hlen := hw.len
  have h60 := hl.1
  have hc : (if ((f.length : Nat) : Int) < ((l.length : Nat) : Int) then ((f.length : Nat) : Int) else ((l.length : Nat) : Int)).toNat = l.length := by
    split <;> omega
  rw [hc]
  obtain ⟨s', e, hI⟩ := forN_run (step := flow_Value_b1 l f n) (n := l.length) (s := (0 : Int)) (by omega) (fun k s => s = netL (l.take k) (f.take k) n) rfl (fun k s hlt hI => by
    have hk : l[k]? = some l[k] := List.getElem?_eq_getElem hlt
    have hx : f[k]? = some f[k] := List.getElem?_eq_getElem (by omega)
    have hb := netL_bound hlen (hw.le hl) n k (by omega)
    refine ⟨s + con l[k] f[k] n, ?_, by rw [netL_take hk hx, hI]⟩
    rw [← net_step (σ := Int) l[k] f[k] n s (by omega) (hw.le hl k _ hx) (fun z => some (.next z))]
    simp only [flow_Value_b1, idxL_nat hx, idxL_nat hk, Option.bind_some])
  rw [e, hI, List.take_length, ← hlen, List.take_length]; rfl

/-- a flow from s to t -/
structure Flow (l : List ApiEdge) (f : List Int) (s t : Int) : Prop where
  within : Within l f
  bal : ∀ e ∈ l, ∀ n, (n = e.From ∨ n = e.To) → n ≠ s → n ≠ t → netL l f n = 0

theorem refValid_b3 {l : List ApiEdge} {f : List Int} (hlen : f.length = l.length) : (forIx (ref06_Valid_b3 f) 0 l () = some (.next ()) ∧ Within l f) ∨ (forIx (ref06_Valid_b3 f) 0 l () = some (.ret false) ∧ ¬ Within l f) := by
  rcases forIx_inv (step := ref06_Valid_b3 f) (l := l) (s := ()) (fun k _ => ∀ i e x, i < k → l[i]? = some e → f[i]? = some x → 0 ≤ x ∧ x ≤ e.Cost) (fun r => r = false ∧ ¬ Within l f) (fun i e x h => by omega) (fun k e u hk hI => by
    have hlt := (List.getElem?_eq_some_iff.1 hk).1
    have hx : f[k]? = some f[k] := List.getElem?_eq_getElem (by omega)
    simp only [ref06_Valid_b3, idxL_nat hx, Option.bind_some]
    by_cases h1 : f[k] < 0
    · rw [decide_eq_true h1]; exact .inr ⟨false, rfl, rfl, fun hw => by have := hw.rng k e _ hk hx; omega⟩
    by_cases h2 : e.Cost < f[k]
    · rw [decide_eq_false h1, decide_eq_true h2]; exact .inr ⟨false, rfl, rfl, fun hw => by have := hw.rng k e _ hk hx; omega⟩
    rw [decide_eq_false h1, decide_eq_false h2]
    refine .inl ⟨(), rfl, fun i e' x hi he' hx' => ?_⟩
    by_cases h : i = k
    · subst h
      rw [hk] at he'; rw [hx] at hx'
      obtain rfl := Option.some.inj he'; obtain rfl := Option.some.inj hx'
      omega
    · exact hI i e' x (by omega) he' hx') with ⟨u, e, hI⟩ | ⟨r, e, hr, hn⟩
  · exact .inl ⟨e, hlen, fun k e x he hx => hI k e x (List.getElem?_eq_some_iff.1 he).1 he hx⟩
  · subst hr; exact .inr ⟨e, hn⟩
theorem refValid_b2 {l : List ApiEdge} {f : List Int} (hl : EdgesOK l) (hw : Within l f) (s t : Int) (k : Nat) (e : ApiEdge) :
    (ref06_Valid_b2 l f s t k e () = some (.next ()) ∧ ∀ n, (n = e.From ∨ n = e.To) → n ≠ s → n ≠ t → netL l f n = 0) ∨ (ref06_Valid_b2 l f s t k e () = some (.ret false) ∧ ¬ ∀ n, (n = e.From ∨ n = e.To) → n ≠ s → n ≠ t → netL l f n = 0) := by
  have iff : (∀ n, (n = e.From ∨ n = e.To) → n ≠ s → n ≠ t → netL l f n = 0) ↔ ((e.From ≠ s → e.From ≠ t → netL l f e.From = 0) ∧ (e.To ≠ s → e.To ≠ t → netL l f e.To = 0)) :=
    ⟨fun h => ⟨h _ (.inl rfl), h _ (.inr rfl)⟩, fun h n hn => by rcases hn with rfl | rfl; exact h.1; exact h.2⟩
  rw [iff]
  simp only [ref06_Valid_b2, net_eq hl hw, Option.bind_some]
  by_cases h1 : e.From = s <;> by_cases h2 : e.From = t <;> by_cases h3 : netL l f e.From = 0 <;> by_cases h4 : e.To = s <;> by_cases h5 : e.To = t <;> by_cases h6 : netL l f e.To = 0 <;> simp [h1, h2, h3, h4, h5, h6]
theorem refValid_eq {l : List ApiEdge} (hl : EdgesOK l) (f : List Int) (s t : Int) : ∃ b, ref06_Valid l f s t = some b ∧ (b = true ↔ Flow l f s t) := by
  unfold ref06_Valid
  by_cases hlen : f.length = l.length
  case neg => rw [decide_eq_true (by omega)]; exact ⟨false, rfl, by simp, fun h => absurd h.within.len hlen⟩
  rw [decide_eq_false (by omega), cond_false]
  rcases refValid_b3 hlen with ⟨e1, hw⟩ | ⟨e1, hw⟩
  case inr => rw [e1]; exact ⟨false, rfl, by simp, fun h => absurd h.within hw⟩
  rw [e1]
  show ∃ b, ref06_Valid_j1 l f s t = some b ∧ _
  unfold ref06_Valid_j1
  rcases forIx_inv (step := ref06_Valid_b2 l f s t) (l := l) (s := ()) (fun k _ => ∀ i e, i < k → l[i]? = some e → ∀ n, (n = e.From ∨ n = e.To) → n ≠ s → n ≠ t → netL l f n = 0) (fun r => r = false ∧ ¬ Flow l f s t) (fun i e h => by omega) (fun k e u hk hI => by
    rcases refValid_b2 hl hw s t k e with ⟨h1, h2⟩ | ⟨h1, h2⟩
    · refine .inl ⟨(), h1, fun i e' hi he' => ?_⟩
      by_cases h : i = k
      · subst h; rw [hk] at he'; obtain rfl := Option.some.inj he'; exact h2
      · exact hI i e' (by omega) he'
    · exact .inr ⟨false, h1, rfl, fun h => h2 (h.bal e (List.mem_of_getElem? hk))⟩) with ⟨u, e, hI⟩ | ⟨r, e, hr, hn⟩
  · rw [e]
    refine ⟨true, rfl, fun _ => ⟨hw, fun x hx => ?_⟩, fun _ => rfl⟩
    obtain ⟨i, hi, rfl⟩ := List.getElem_of_mem hx
    exact hI i _ hi (List.getElem?_eq_getElem hi)
  · subst hr; rw [e]; exact ⟨false, rfl, by simp, fun h => absurd h hn⟩

/-- what Valid of the program holds of the map that it fills -/
structure Excess (l : List ApiEdge) (f : List Int) (k : Nat) (m : List (Int × Int)) : Prop where
  nodup : (mkeys m).Nodup
  rng : ∀ i e x, i < k → l[i]? = some e → f[i]? = some x → 0 ≤ x ∧ x ≤ e.Cost
  get : ∀ n, mget 0 m n = -netL (l.take k) (f.take k) n
  has : ∀ n, mhas m n = true ↔ ∃ i e, i < k ∧ l[i]? = some e ∧ (n = e.From ∨ n = e.To)
theorem bound_take {l : List ApiEdge} {f : List Int} (hl : EdgesOK l) (hlen : f.length = l.length) {k : Nat} (hk : k ≤ l.length) (hr : ∀ i e x, i < k → l[i]? = some e → f[i]? = some x → 0 ≤ x ∧ x ≤ e.Cost) (n : Int) :
    -((k : Int) * 1000000) ≤ netL (l.take k) (f.take k) n ∧ netL (l.take k) (f.take k) n ≤ (k : Int) * 1000000 := by
  have h := netL_bound (l := l.take k) (f := f.take k) (by simp; omega) (fun i x hx => by
    have hi := (List.getElem?_eq_some_iff.1 hx).1
    simp at hi
    have hx' : f[i]? = some x := by rw [List.getElem?_take] at hx; split at hx; exact hx; cases hx
    have he : l[i]? = some l[i] := List.getElem?_eq_getElem (by omega)
    have := hr i _ x (by omega) he hx'
    have := (hl.2 _ (List.mem_of_getElem? he)).cost1
    omega) n k (by simp; omega)
  rwa [List.take_take, List.take_take, Nat.min_self] at h
theorem flowValid_b1 {l : List ApiEdge} {f : List Int} (hl : EdgesOK l) (hlen : f.length = l.length) :
    (∃ m, forIx (flow_Valid_b3 f) 0 l [] = some (.next m) ∧ Excess l f l.length m) ∨ (forIx (flow_Valid_b3 f) 0 l [] = some (.ret false) ∧ ¬ Within l f) := by
  have h60 := hl.1
  rcases forIx_inv (step := flow_Valid_b3 f) (l := l) (s := ([] : List (Int × Int))) (Excess l f) (fun r => r = false ∧ ¬ Within l f) ⟨by simp [mkeys], fun i e x h => by omega, fun n => by simp [mget, netL], fun n => by simp [mhas]⟩ (fun k e m hk hI => by
    have hlt := (List.getElem?_eq_some_iff.1 hk).1
    have hx : f[k]? = some f[k] := List.getElem?_eq_getElem (by omega)
    simp only [flow_Valid_b3, idxL_nat hx, Option.bind_some]
    by_cases h1 : f[k] < 0
    · rw [decide_eq_true h1]; exact .inr ⟨false, rfl, rfl, fun hw => by have := hw.rng k e _ hk hx; omega⟩
    by_cases h2 : e.Cost < f[k]
    · rw [decide_eq_false h1, decide_eq_true h2]; exact .inr ⟨false, rfl, rfl, fun hw => by have := hw.rng k e _ hk hx; omega⟩
    rw [decide_eq_false h1, decide_eq_false h2]
    have hc := (hl.2 e (List.mem_of_getElem? hk)).cost1
    have b := fun n => bound_take hl hlen (Nat.le_of_lt hlt) hI.rng n
    have e1 : IntKind.i64.wrap (mget 0 m e.To + f[k]) = mget 0 m e.To + f[k] := by
      have := b e.To; rw [hI.get]; exact wrap_60 (by omega)
    have e2 : IntKind.i64.wrap (mget 0 (mset m e.To (mget 0 m e.To + f[k])) e.From - f[k]) = mget 0 (mset m e.To (mget 0 m e.To + f[k])) e.From - f[k] := by
      have h3 := b e.To; have h4 := b e.From
      rw [mget_mset, hI.get, hI.get]
      split <;> exact wrap_60 (by omega)
    rw [e1, e2]
    refine .inl ⟨_, rfl, mset_nodup (mset_nodup hI.nodup _ _) _ _, fun i e' x hi he' hx' => ?_, fun n => ?_, fun n => ?_⟩
    · by_cases h : i = k
      · subst h
        rw [hk] at he'; rw [hx] at hx'
        obtain rfl := Option.some.inj he'; obtain rfl := Option.some.inj hx'
        omega
      · exact hI.rng i e' x (by omega) he' hx'
    · rw [netL_take hk hx, mget_mset, mget_mset, mget_mset, hI.get n, hI.get e.To, hI.get e.From]
      unfold con
      by_cases h3 : e.From = n <;> by_cases h4 : e.To = n
      · subst h3; rw [h4]; simp <;> omega
      · subst h3; simp [h4] <;> omega
      · subst h4; simp [h3] <;> omega
      · simp [h3, h4]
    · rw [mhas_mset, mhas_mset, Bool.or_eq_true, Bool.or_eq_true, hI.has]
      constructor
      · rintro (h | h | ⟨i, e', hi, he', hn⟩)
        · exact ⟨k, e, by omega, hk, .inl (of_decide_eq_true h).symm⟩
        · exact ⟨k, e, by omega, hk, .inr (of_decide_eq_true h).symm⟩
        · exact ⟨i, e', by omega, he', hn⟩
      · rintro ⟨i, e', hi, he', hn⟩
        by_cases h : i = k
        · subst h
          rw [hk] at he'; obtain rfl := Option.some.inj he'
          rcases hn with hn | hn
          · exact .inl (decide_eq_true hn.symm)
          · exact .inr (.inl (decide_eq_true hn.symm))
        · exact .inr (.inr ⟨i, e', by omega, he', hn⟩)) with ⟨m, e, hI⟩ | ⟨r, e, hr, hn⟩
  · exact .inl ⟨m, e, hI⟩
  · subst hr; exact .inr ⟨e, hn⟩
theorem flowValid_eq {l : List ApiEdge} (hl : EdgesOK l) (f : List Int) (s t : Int) : ∃ b, flow_Valid l f s t = some b ∧ (b = true ↔ Flow l f s t) := by
  unfold flow_Valid
  by_cases hlen : f.length = l.length
  case neg => rw [decide_eq_true (by omega)]; exact ⟨false, rfl, by simp, fun h => absurd h.within.len hlen⟩
  rw [decide_eq_false (by omega), cond_false]
  rcases flowValid_b1 hl hlen with ⟨m, e1, hI⟩ | ⟨e1, hw⟩
  case inr => rw [e1]; exact ⟨false, rfl, by simp, fun h => absurd h.within hw⟩
  rw [e1]
  show ∃ b, flow_Valid_j1 s t m = some b ∧ _
  unfold flow_Valid_j1
  have hw : Within l f := ⟨hlen, fun k e x he hx => hI.rng k e x (List.getElem?_eq_some_iff.1 he).1 he hx⟩
  have full : ∀ n, mget 0 m n = -netL l f n := fun n => by
    rw [hI.get, List.take_length, ← hlen, List.take_length]
  rcases perm_tests (l := m) (step := flow_Valid_b2 s t) false (fun p => p.1 ≠ s → p.1 ≠ t → p.2 = 0) (fun p hp => by
    unfold flow_Valid_b2
    by_cases h1 : p.1 = s <;> by_cases h2 : p.1 = t <;> by_cases h3 : p.2 = 0 <;> simp [h1, h2, h3]) with ⟨h1, h2⟩ | ⟨h1, h2⟩
  · rw [h1]
    refine ⟨true, rfl, fun _ => ⟨hw, fun e he n hn h3 h4 => ?_⟩, fun _ => rfl⟩
    obtain ⟨i, hi, rfl⟩ := List.getElem_of_mem he
    have := h2 _ (entry_mem (d := 0) ((hI.has n).2 ⟨i, _, hi, List.getElem?_eq_getElem hi, hn⟩)) h3 h4
    have := full n
    simp only at *
    omega
  · rw [h1]
    refine ⟨false, rfl, by simp, fun h => absurd (fun p hp h3 h4 => ?_) h2⟩
    have hm := mem_entry (d := 0) hI.nodup p hp
    obtain ⟨i, e, hi, he, hn⟩ := (hI.has p.1).1 hm.1
    have := h.bal e (List.mem_of_getElem? he) p.1 hn h3 h4
    have := full p.1
    omega
theorem valid_same {l : List ApiEdge} (hl : EdgesOK l) (f : List Int) (s t : Int) : ∃ b, flow_Valid l f s t = some b ∧ ref06_Valid l f s t = some b ∧ (b = true ↔ Flow l f s t) := by
  obtain ⟨a, h1, h2⟩ := flowValid_eq hl f s t
  obtain ⟨b, h3, h4⟩ := refValid_eq hl f s t
  have : a = b := by cases a <;> cases b <;> simp_all
  exact ⟨b, this ▸ h1, h3, h4⟩
theorem valid_eq {l : List ApiEdge} (hl : EdgesOK l) (f : List Int) (s t : Int) : flow_Valid l f s t = ref06_Valid l f s t := by
  obtain ⟨b, h1, h2, _⟩ := valid_same hl f s t
  rw [h1, h2]
theorem alive06 : law06_alive = some true := by
  have hE : EdgesOK [(ApiEdge.mk 1 1 2 3), (ApiEdge.mk 2 1 3 2), (ApiEdge.mk 3 2 3 2), (ApiEdge.mk 4 2 4 1), (ApiEdge.mk 5 3 4 5)] := by
    refine ⟨by decide, fun e he => ?_⟩
    simp only [List.mem_cons, List.not_mem_nil, or_false] at he
    rcases he with rfl | rfl | rfl | rfl | rfl <;> exact ⟨by decide, by decide, by decide, by decide, by decide, by decide⟩
  unfold law06_alive law06_edges
  simp only [Option.bind_some, valid_eq hE]
  decide +kernel
theorem law06_FlowValid_true (l : List ApiEdge) (f : List Int) (s t : Int) (_ : OkL OkApiEdge l) (_ : OkL I64 f) (_ : I64 s) (_ : I64 t) : law06_FlowValid l f s t = some true := by
  obtain ⟨b, h1, h2⟩ := few_ok l
  simp only [law06_FlowValid, alive06, h1, Option.bind_some]
  cases b with
  | false => rfl
  | true =>
    have hl := h2 rfl
    obtain ⟨c, h3, h4, h5⟩ := valid_same hl f s t
    by_cases hf : (100 : Int) < ((f.length : Nat) : Int)
    · simp [hf]
    · simp only [h3, h4, hf, Option.bind_some, decide_false]
      cases c with
      | false => rfl
      | true =>
        have hw := (h5.1 rfl).within
        simp [ref06_Value, value_eq hl hw, net_eq hl hw]
end Go.Proofs.Ytacfmeobdobhhaa
