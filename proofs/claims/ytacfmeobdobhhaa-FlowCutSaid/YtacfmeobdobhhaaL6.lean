/-
  Layer 6: what Find and Cut of the reference answer, in plain Lean.
-/
import Derived.Test.YtacfmeobdobhhaaL5
namespace Go.Proofs.Ytacfmeobdobhhaa
open Go Go.Ab
set_option linter.unusedSimpArgs false
set_option linter.unusedVariables false

theorem has_eq (l : List Int) (n : Int) : ref06_has l n = some (decide (n ∈ l)) := by
  unfold ref06_has
  rw [forIx_first (ρ := Bool) (fun x => decide (x = n)) (fun _ => true) (fun k x hx => by unfold ref06_has_b1; rfl)]
  cases h : l.find? (fun x => decide (x = n)) with
  | some x =>
    have h1 := List.find?_some h
    have h2 := List.mem_of_find?_eq_some h
    obtain rfl := of_decide_eq_true h1
    rw [decide_eq_true h2]; rfl
  | none =>
    rw [List.find?_eq_none] at h
    rw [decide_eq_false (fun hm => by have := h n hm; simp at this)]; rfl
theorem has_keys {β : Type} (m : List (Int × β)) (n : Int) : ref06_has (mkeys m) n = some (mhas m n) := by
  rw [has_eq]
  cases h : mhas m n with
  | true => rw [decide_eq_true ((mhas_iff m n).1 h)]
  | false => rw [decide_eq_false (fun hm => by rw [(mhas_iff m n).2 hm] at h; cases h)]
/-- how the reference writes a move -/
def code (mv : FlowMove) : Int := if mv.forward = true then mv.edge + 1 else -mv.edge - 1
def viaOf (s : Int) (p : Int × FlowMove) : Int := if p.1 = s then 0 else code p.2
def vias (s : Int) (m : List (Int × FlowMove)) : List Int := m.map (viaOf s)
theorem idxL_get {α : Type} {l : List α} {i : Nat} {x : α} (h : l[i]? = some x) : idxL l (i : Int) = some x := idxL_nat h

/-- the step of the reference's search -/
theorem rstep_bwd {s : Int} {k : Nat} {e : ApiEdge} {x n : Int} (hk : k ≤ 1000) (st : SSt) (hs : mhas st.1 s = true) (hn : st.1.length ≤ 1000) {σ ρ : Type} (out : List Int × List Int → Option ρ) :
    (bif decide (e.To = n) then (bif decide (0 < x) then (ref06_has (mkeys st.1) e.From).bind fun y => (bif !y then chk ((mkeys st.1).length + 1) (chk ((vias s st.1).length + 1) (out (mkeys st.1 ++ [e.From], vias s st.1 ++ [IntKind.i64.wrap (IntKind.i64.wrap (-((k : Nat) : Int)) - 1)]))) else out (mkeys st.1, vias s st.1)) else out (mkeys st.1, vias s st.1)) else out (mkeys st.1, vias s st.1))
      = out (mkeys (add2 n k e x st).1, vias s (add2 n k e x st).1) := by
  unfold add2
  rw [has_keys]
  by_cases h1 : e.To = n <;> cases h2 : mhas st.1 e.From <;> by_cases h3 : 0 < x <;> simp [h1, h2, h3]
  have hne : e.From ≠ s := fun h => by rw [h, hs] at h2; cases h2
  rw [chk_ok (by rw [mkeys_len]; omega), chk_ok (by simp [vias]; omega), mset_new _ h2, mkeys_app]
  have e1 : IntKind.i64.wrap (-((k : Nat) : Int)) = -((k : Nat) : Int) := wrap_60 (by omega)
  rw [e1, wrap_60 (by omega)]
  simp [vias, viaOf, code, hne, mkeys]
theorem rstep_fwd {s : Int} {k : Nat} {e : ApiEdge} {x n : Int} (hk : k ≤ 1000) (st : SSt) (hs : mhas st.1 s = true) (hn : st.1.length ≤ 1000) {σ ρ : Type} (out : List Int × List Int → Option ρ) :
    (bif decide (e.From = n) then (bif decide (x < e.Cost) then (ref06_has (mkeys st.1) e.To).bind fun y => (bif !y then chk ((mkeys st.1).length + 1) (chk ((vias s st.1).length + 1) (out (mkeys st.1 ++ [e.To], vias s st.1 ++ [IntKind.i64.wrap (((k : Nat) : Int) + 1)]))) else out (mkeys st.1, vias s st.1)) else out (mkeys st.1, vias s st.1)) else out (mkeys st.1, vias s st.1))
      = out (mkeys (add1 n k e x st).1, vias s (add1 n k e x st).1) := by
  unfold add1
  rw [has_keys]
  by_cases h1 : e.From = n <;> cases h2 : mhas st.1 e.To <;> by_cases h3 : x < e.Cost <;> simp [h1, h2, h3]
  have hne : e.To ≠ s := fun h => by rw [h, hs] at h2; cases h2
  rw [chk_ok (by rw [mkeys_len]; omega), chk_ok (by simp [vias]; omega), mset_new _ h2, mkeys_app]
  rw [wrap_60 (by omega)]
  simp [vias, viaOf, code, hne, mkeys]
theorem add1_keep {n : Int} {k : Nat} {e : ApiEdge} {x : Int} {st : SSt} {i : Nat} {v : Int} (h : (mkeys st.1)[i]? = some v) : (mkeys (add1 n k e x st).1)[i]? = some v := by
  obtain ⟨new, h1, _⟩ := add1_adds n k e x st
  rw [h1, mkeys_app, List.getElem?_append_left (List.getElem?_eq_some_iff.1 h).1]; exact h
theorem rfind_b3 {l : List ApiEdge} {f : List Int} {s n : Int} {k i : Nat} {e : ApiEdge} {x : Int} (hx : f[k]? = some x) (hk : k ≤ 1000) (st : SSt) (hi : (mkeys st.1)[i]? = some n) (hs : mhas st.1 s = true) (hn : st.1.length + 1 ≤ 1000) :
    ref06_Find_b3 f (i : Int) k e (mkeys st.1, vias s st.1) = some (.next (mkeys (add2 n k e x (add1 n k e x st)).1, vias s (add2 n k e x (add1 n k e x st)).1)) := by
  have j4 : ∀ st : SSt, (mkeys st.1)[i]? = some n → mhas st.1 s = true → st.1.length ≤ 1000 → ref06_Find_j4 f (i : Int) k e (mkeys st.1) (vias s st.1) = some (.next (mkeys (add2 n k e x st).1, vias s (add2 n k e x st).1)) := by
    intro st hi hs hn
    refine Eq.trans ?_ (rstep_bwd (σ := Unit) hk st hs hn (fun p => some (Out.next p)))
    unfold ref06_Find_j4
    rw [idxL_get hi, Option.bind_some, idxL_get hx]; rfl
  have h := rstep_fwd (σ := Unit) (e := e) (x := x) (n := n) hk st hs (by omega) (fun p => ref06_Find_j4 f (i : Int) k e p.1 p.2)
  simp only at h
  have sz : (add1 n k e x st).1.length ≤ 1000 := by
    obtain ⟨new, h1, _, h3⟩ := add1_adds n k e x st
    rw [h1]; simp; omega
  rw [j4 (add1 n k e x st) (add1_keep hi) ((add1_adds n k e x st).mono hs) sz] at h
  rw [← h]
  unfold ref06_Find_b3
  simp only
  rw [idxL_get hi, Option.bind_some, idxL_get hx]; rfl
theorem SInv.self {l : List ApiEdge} {f : List Int} {s : Int} {st : SSt} (h : SInv l f s st) : mhas st.1 s = true := by
  obtain ⟨r, hr⟩ := h.start
  rw [hr]; simp [mhas]
theorem rfind_pass {l : List ApiEdge} {f : List Int} (hl : EdgesOK l) (hw : Within l f) {s n : Int} {i : Nat} {st : SSt} (h : SInv l f s st) (hi : (mkeys st.1)[i]? = some n) :
    ∃ st', forIx (ref06_Find_b3 f (i : Int)) 0 l (mkeys st.1, vias s st.1) = some (.next (mkeys st'.1, vias s st'.1)) ∧ Pass l f s n l.length st st' := by
  have hlen := hw.len
  have h60 := hl.1
  have hn : mhas st.1 n = true := (mhas_iff _ _).2 (List.mem_of_getElem? hi)
  obtain ⟨sv, h1, st', h2, h3⟩ := forIx_run (step := ref06_Find_b3 f (i : Int)) (l := l) (s := (mkeys st.1, vias s st.1)) (fun k sv => ∃ st', Pass l f s n k st st' ∧ sv = (mkeys st'.1, vias s st'.1)) ⟨st, .zero h hn, rfl⟩ fun k e sv hk ⟨st', hI, hsv⟩ => by
    have hlt := (List.getElem?_eq_some_iff.1 hk).1
    have hx : f[k]? = some f[k] := List.getElem?_eq_getElem (by omega)
    have sz := hI.inv.size hl
    have hi' : (mkeys st'.1)[i]? = some n := by
      obtain ⟨new, h1, _⟩ := hI.adds
      rw [h1, mkeys_app, List.getElem?_append_left (List.getElem?_eq_some_iff.1 hi).1]; exact hi
    refine ⟨_, by rw [hsv]; exact rfind_b3 (l := l) hx (by omega) st' hi' hI.inv.self (by omega), _, hI.next hk hx, rfl⟩
  exact ⟨st', by rw [h1, h3], h2⟩

theorem code_fwd {mv : FlowMove} {k : Nat} (hk : mv.edge = (k : Int)) (hf : mv.forward = true) (h60 : k ≤ 1000) : 0 < code mv ∧ code mv ≠ 0 ∧ IntKind.i64.wrap (code mv - 1) = (k : Int) := by
  unfold code
  rw [if_pos hf, hk]
  refine ⟨by omega, by omega, ?_⟩
  rw [wrap_60 (by omega)]; omega
theorem code_bwd {mv : FlowMove} {k : Nat} (hk : mv.edge = (k : Int)) (hf : mv.forward = false) (h60 : k ≤ 1000) : ¬ 0 < code mv ∧ code mv ≠ 0 ∧ IntKind.i64.wrap (IntKind.i64.wrap (-code mv) - 1) = (k : Int) := by
  unfold code
  rw [if_neg (by simp [hf]), hk]
  refine ⟨by omega, by omega, ?_⟩
  have e : IntKind.i64.wrap (-(-(k : Int) - 1)) = (k : Int) + 1 := by rw [wrap_60 (by omega)]; omega
  rw [e, wrap_60 (by omega)]; omega
theorem rway_b1 {l : List ApiEdge} {f : List Int} {s : Int} {st : SSt} (hl : EdgesOK l) (hs : SInv l f s st) (c : Nat) : ∀ (q j : Nat) (n : Int) (ms : List FlowMove) (out : List Int), Way l f st.1 s j n ms → (j < q ∨ ms = []) → q ≤ st.1.length → out.length + ms.length ≤ 1000 →
    whileN (ref06_way_b1 l (mkeys st.1) (vias s st.1)) (q + 1 + c) ((q : Int) - 1, n, out) = some (.ret (out ++ ms.map code))
  | 0, j, n, ms, out, hw, hj, hq, ho => by
    have hms : ms = [] := by rcases hj with h | h; omega; exact h
    subst hms
    rw [show 0 + 1 + c = c + 1 by omega, whileN]
    unfold ref06_way_b1
    simp [Out.cont]
  | q + 1, j, n, ms, out, hw, hj, hq, ho => by
    have sz := hs.size hl
    have h60 := hl.1
    have hv : (st.1)[q]? = some st.1[q] := List.getElem?_eq_getElem (by omega)
    have hk : (mkeys st.1)[q]? = some st.1[q].1 := keys_get (b := st.1[q].2) hv
    have hvia : (vias s st.1)[q]? = some (viaOf s st.1[q]) := by simp [vias, hv]
    have eq1 : ((q + 1 : Nat) : Int) - 1 = (q : Int) := by omega
    have w1 : IntKind.i64.wrap ((q : Int) - 1) = (q : Int) - 1 := wrap_60 (by omega)
    rw [show q + 1 + 1 + c = (q + 1 + c) + 1 by omega, whileN, eq1]
    have skip : (st.1[q].1 ≠ n ∨ viaOf s st.1[q] = 0) → (j < q ∨ ms = []) → (ref06_way_b1 l (mkeys st.1) (vias s st.1) ((q : Int), n, out)).bind (fun o => o.cont fun s' => whileN (ref06_way_b1 l (mkeys st.1) (vias s st.1)) (q + 1 + c) s') = some (.ret (out ++ ms.map code)) := by
      intro hne hj'
      have e : ref06_way_b1 l (mkeys st.1) (vias s st.1) ((q : Int), n, out) = some (.next ((q : Int) - 1, n, out)) := by
        unfold ref06_way_b1
        simp only [decide_eq_true (show (0 : Int) ≤ (q : Int) by omega), cond_true, idxL_get hk, Option.bind_some, idxL_get hvia, w1]
        by_cases h : st.1[q].1 = n
        · rw [decide_eq_false (by simp [h]), cond_false]
          rcases hne with h' | h'
          · exact absurd h h'
          · rw [decide_eq_true h', cond_true]
        · rw [decide_eq_true (by simp [h]), cond_true]
      rw [e]
      exact rway_b1 hl hs c q j n ms out hw hj' (by omega) ho
    cases hw with
    | nil =>
      by_cases h : st.1[q].1 = s
      · exact skip (.inr (by simp [viaOf, h])) (.inr rfl)
      · exact skip (.inl h) (.inr rfl)
    | @cons _ j' _ p mv ms h1 h2 hj' hw' =>
      have hj : j < q + 1 := by rcases hj with h | h; exact h; cases h
      by_cases hq' : j = q
      · subst hq'
        have hget : st.1[j] = (n, mv) := by rw [hv] at h1; exact Option.some.inj h1
        have hns := (Way.mv hs (.cons h1 h2 hj' hw')).1
        have hvia' : viaOf s (n, mv) = code mv := by rw [viaOf, if_neg hns]
        have e : ref06_way_b1 l (mkeys st.1) (vias s st.1) ((j : Int), n, out) = some (.next ((j : Int) - 1, p, out ++ [code mv])) := by
          unfold ref06_way_b1
          simp only [decide_eq_true (show (0 : Int) ≤ (j : Int) by omega), cond_true, idxL_get hk, Option.bind_some, idxL_get hvia, w1, hget, hvia', ne_eq, not_true, decide_false, cond_false]
          obtain ⟨k, ed, x, hk', he, hx, ⟨hf, ha, hb, _⟩ | ⟨hf, ha, hb, _⟩⟩ := h2
          · have hkl := (List.getElem?_eq_some_iff.1 he).1
            obtain ⟨c1, c2, c3⟩ := code_fwd hk' hf (by omega)
            rw [decide_eq_false c2, cond_false, chk_ok (by simp at ho; omega), decide_eq_true c1, cond_true, c3, idxL_get he, Option.bind_some, ha]
          · have hkl := (List.getElem?_eq_some_iff.1 he).1
            obtain ⟨c1, c2, c3⟩ := code_bwd hk' hf (by omega)
            rw [decide_eq_false c2, cond_false, chk_ok (by simp at ho; omega), decide_eq_false c1, cond_false, c3, idxL_get he, Option.bind_some, ha]
        rw [e]
        show whileN _ (j + 1 + c) _ = _
        rw [rway_b1 hl hs c j j' p ms (out ++ [code mv]) hw' (.inl hj') (by omega) (by simp at ho ⊢; omega)]
        simp
      · refine skip (.inl fun e => ?_) (.inl (by omega))
        have := nodup_get hs.nodup (keys_get h1) (e ▸ hk)
        exact hq' this
theorem rway_none {l : List ApiEdge} {f : List Int} {s t : Int} {st : SSt} (hl : EdgesOK l) (hs : SInv l f s st) (ht : mhas st.1 t = false) (c : Nat) : ∀ (q : Nat), q ≤ st.1.length →
    whileN (ref06_way_b1 l (mkeys st.1) (vias s st.1)) (q + 1 + c) ((q : Int) - 1, t, []) = some (.ret [])
  | 0, _ => by
    rw [show 0 + 1 + c = c + 1 by omega, whileN]
    unfold ref06_way_b1
    simp [Out.cont]
  | q + 1, hq => by
    have sz := hs.size hl
    have hv : (st.1)[q]? = some st.1[q] := List.getElem?_eq_getElem (by omega)
    have hk : (mkeys st.1)[q]? = some st.1[q].1 := keys_get (b := st.1[q].2) hv
    have eq1 : ((q + 1 : Nat) : Int) - 1 = (q : Int) := by omega
    have w1 : IntKind.i64.wrap ((q : Int) - 1) = (q : Int) - 1 := wrap_60 (by omega)
    have hne : st.1[q].1 ≠ t := fun e => by
      have := (mhas_iff st.1 t).2 (List.mem_of_getElem? (e ▸ hk))
      rw [ht] at this; cases this
    rw [show q + 1 + 1 + c = (q + 1 + c) + 1 by omega, whileN, eq1]
    have e : ref06_way_b1 l (mkeys st.1) (vias s st.1) ((q : Int), t, []) = some (.next ((q : Int) - 1, t, [])) := by
      unfold ref06_way_b1
      simp only [decide_eq_true (show (0 : Int) ≤ (q : Int) by omega), cond_true, idxL_get hk, Option.bind_some, w1]
      rw [decide_eq_true hne, cond_true]
    rw [e]
    exact rway_none hl hs ht c q (by omega)
theorem rway_eq {l : List ApiEdge} {f : List Int} {s t : Int} {st : SSt} (hl : EdgesOK l) (hs : SInv l f s st) :
    (mhas st.1 t = false ∧ ref06_way l (mkeys st.1) (vias s st.1) t = some []) ∨ (mhas st.1 t = true ∧ ∃ i ms, Way l f st.1 s i t ms ∧ ms.length ≤ 1000 ∧ ref06_way l (mkeys st.1) (vias s st.1) t = some (ms.map code)) := by
  have sz := hs.size hl
  have w1 : IntKind.i64.wrap (((mkeys st.1).length : Nat) - 1) = ((st.1.length : Nat) : Int) - 1 := by rw [mkeys_len]; exact wrap_60 (by omega)
  have hfu : fuel = st.1.length + 1 + (1099511627776 - (st.1.length + 1)) := by show (1099511627776 : Nat) = _; omega
  unfold ref06_way
  rw [w1, hfu]
  cases ht : mhas st.1 t with
  | false => exact .inl ⟨rfl, by rw [rway_none hl hs ht _ _ (Nat.le_refl _)]; rfl⟩
  | true =>
    obtain ⟨i, hi, e⟩ := List.getElem_of_mem ((mhas_iff st.1 t).1 ht)
    obtain ⟨ms, hway⟩ := hs.way i t (by rw [← e]; exact List.getElem?_eq_getElem hi)
    have hlen := hway.len
    rw [mkeys_len] at hi
    exact .inr ⟨rfl, i, ms, hway, by omega, by rw [rway_b1 hl hs _ _ i t ms [] hway (.inl hi) (Nat.le_refl _) (by simp; omega)]; rfl⟩

theorem rfind_b7 {l : List ApiEdge} {f : List Int} (hl : EdgesOK l) (hw : Within l f) : ∀ (ms : List FlowMove) (j : Nat) (a : Int), (∀ mv ∈ ms, ∃ p q, MoveTo l f mv p q) → forIx (ref06_Find_b7 l f) j (ms.map code) a = some (.next (bott l f ms a))
  | [], j, a, _ => rfl
  | mv :: ms, j, a, h => by
    obtain ⟨p, q, hm⟩ := h mv (by simp)
    have e : ref06_Find_b7 l f j (code mv) a = some (.next (if roomP l f mv < a then roomP l f mv else a)) := by
      have h60 := hl.1
      obtain ⟨k, ed, x, hk, he, hx, hv⟩ := hm
      have h1 := hw.rng k ed x he hx
      have h2 := (hl.2 ed (List.mem_of_getElem? he)).cost1
      have hkl := (List.getElem?_eq_some_iff.1 he).1
      rcases hv with ⟨hf, _⟩ | ⟨hf, _⟩
      · obtain ⟨c1, c2, c3⟩ := code_fwd hk hf (by omega)
        unfold ref06_Find_b7
        rw [decide_eq_true c1, cond_true, c3, idxL_get he, Option.bind_some, idxL_get hx, Option.bind_some, wrap_60 (by omega)]
        simp [roomP, hf, hk, he, hx]
      · obtain ⟨c1, c2, c3⟩ := code_bwd hk hf (by omega)
        unfold ref06_Find_b7
        rw [decide_eq_false c1, cond_false, c3, idxL_get hx, Option.bind_some]
        simp [roomP, hf, hk, he, hx]
    rw [List.map_cons, forIx, e]
    exact rfind_b7 hl hw ms (j + 1) _ fun mv' hm' => h mv' (List.mem_cons_of_mem _ hm')
theorem rfind_b6 {l : List ApiEdge} {s x : Int} (hl : EdgesOK l) (h0 : 0 ≤ x) : ∀ (ms : List FlowMove) (j : Nat) (n : Int) (g : List Int), Within l g → Back l g s n ms → (∀ mv ∈ ms, x ≤ roomP l g mv) → forIx (ref06_Find_b6 x) j (ms.map code) g = some (.next (ms.foldl (augM x) g))
  | [], j, n, g, _, _, _ => rfl
  | mv :: ms, j, n, g, hw, hb, hx => by
    cases hb with
    | @cons _ p _ _ hm hne hb =>
      have hs := hm.step hw h0 (hx mv (by simp))
      have hk0 : 0 ≤ mv.edge := by obtain ⟨k, _, _, hk, _⟩ := hm; omega
      have e : ref06_Find_b6 x j (code mv) g = some (.next (augM x g mv)) := by
        have h60 := hl.1
        obtain ⟨k, ed, y, hk, he, hy, hv⟩ := hm
        have ha : augM x g mv = g.set k (y + if mv.forward = true then x else -x) := by unfold augM; rw [hk, Int.toNat_natCast, hy]; rfl
        have hlt := (List.getElem?_eq_some_iff.1 hy).1
        have hkl := (List.getElem?_eq_some_iff.1 he).1
        have hbd := hs.1.le hl k (y + if mv.forward = true then x else -x) (by rw [ha, List.getElem?_set_self hlt])
        rcases hv with ⟨hf, _⟩ | ⟨hf, _⟩
        · obtain ⟨c1, c2, c3⟩ := code_fwd hk hf (by omega)
          rw [hf] at hbd
          simp only [if_true] at hbd
          unfold ref06_Find_b6
          rw [decide_eq_true c1, cond_true, c3, idxL_get hy, Option.bind_some, Int.toNat_natCast, wrap_60 (by omega), ha, hf]; rfl
        · obtain ⟨c1, c2, c3⟩ := code_bwd hk hf (by omega)
          rw [hf] at hbd
          simp only [if_false, Bool.false_eq_true] at hbd
          unfold ref06_Find_b6
          rw [decide_eq_false c1, cond_false, c3, idxL_get hy, Option.bind_some, Int.toNat_natCast, wrap_60 (by omega), ha, hf]; rfl
      rw [List.map_cons, forIx, e]
      exact rfind_b6 hl h0 ms (j + 1) p _ hs.1 (hb.aug1 hk0 hne x) fun mv' hm' => by
        obtain ⟨p, q, h⟩ := hb.moves mv' hm'
        rw [(h.aug hk0 (hne mv' hm') x).2]; exact hx mv' (List.mem_cons_of_mem _ hm')
theorem rfind_end {l : List ApiEdge} {f : List Int} {s t : Int} (hl : EdgesOK l) (hst : s ≠ t) (hf : Flow l f s t) {m : List (Int × FlowMove)} (hs : Srch l f s (m, [])) :
    ∃ q, ((ref06_way l (mkeys m) (vias s m) t).bind fun y27 => (bif (decide (((y27.length : Nat) : Int) = (0 : Int))) then some (Out.ret f) else (forIx (ref06_Find_b7 l f) 0 y27 (1000001 : Int)).bind fun o38 => o38.on fun s38 => ref06_Find_j5 f y27 s38)) = some q ∧
      ((∃ g, q = .next g ∧ Better l s t f g) ∨ ∃ g, q = .ret g ∧ Top l s t g) := by
  rcases rway_eq (t := t) hl hs.toSInv with ⟨ht, e⟩ | ⟨ht, i, ms, hway, hlen, e⟩
  · simp only at e
    rw [e]
    exact ⟨_, rfl, .inr ⟨f, rfl, hf, hs.cut hf.within ht⟩⟩
  · simp only at e
    match ms, hway, hlen, e with
    | [], hway, _, _ => cases hway; exact absurd rfl hst
    | mv :: ms, hway, hlen, e =>
      have hb : Back l f s t (mv :: ms) := hway.back hs.toSInv
      have hbe := hb.better hst hf (a := 1000001) (by omega)
      refine ⟨_, ?_, .inl ⟨_, rfl, hbe⟩⟩
      rw [e, Option.bind_some, decide_eq_false (by simp; omega), cond_false, rfind_b7 hl hf.within _ _ _ hb.moves]
      show ref06_Find_j5 f _ _ = _
      unfold ref06_Find_j5
      rw [rfind_b6 hl (Int.le_of_lt (bott_pos l f _ _ (by omega) fun mv' hm' => by obtain ⟨p, q, h⟩ := hb.moves mv' hm'; exact h.room)) _ _ t f hf.within hb (bott_le l f _ _).2]
      rfl
/-- the reference's state of the search -/
def rst (s : Int) (st : SSt) : Int × List Int × List Int := (((st.1.length - st.2.length : Nat) : Int), mkeys st.1, vias s st.1)
theorem SInv.at {l : List ApiEdge} {f : List Int} {s n : Int} {m : List (Int × FlowMove)} {o : List Int} (h : SInv l f s (m, n :: o)) : (mkeys m)[m.length - (o.length + 1)]? = some n := by
  obtain ⟨pre, hp⟩ := h.split
  simp only at hp
  have a := congrArg List.length hp
  rw [mkeys_len] at a
  simp at a
  rw [hp, show m.length - (o.length + 1) = pre.length by omega, List.getElem?_append_right (Nat.le_refl _)]
  simp
theorem rfind_b1 {l : List ApiEdge} {f : List Int} {s t : Int} (hl : EdgesOK l) (hst : s ≠ t) (hf : Flow l f s t) : (∃ g, ref06_Find_b1 l s t f = some (.next g) ∧ Better l s t f g) ∨ (∃ g, ref06_Find_b1 l s t f = some (.ret g) ∧ Top l s t g) := by
  have := whileN_inv (step := ref06_Find_b2 l t f) (fun sv => ∃ st, Srch l f s st ∧ sv = rst s st) (fun q => (∃ g, q = .next g ∧ Better l s t f g) ∨ ∃ g, q = .ret g ∧ Top l s t g) (fun sv => 121 - sv.1.toNat) (fun sv ⟨st, hs, hsv⟩ => by
    subst hsv
    obtain ⟨m, o⟩ := st
    have sz := hs.size hl
    cases o with
    | nil =>
      obtain ⟨q, h1, h2⟩ := rfind_end hl hst hf hs
      refine .inr ⟨q, ?_, h2⟩
      unfold ref06_Find_b2 rst
      simp only [List.length_nil, Nat.sub_zero, mkeys_len, Int.lt_irrefl, decide_false, cond_false, h1, Option.bind_some]
    | cons n o =>
      obtain ⟨st', h1, h2⟩ := rfind_pass hl hf.within (st := (m, o)) hs.toSInv.pop hs.at
      have hp := hs.pass hf.within h2
      have sz' := hp.1.size hl
      have hd := hp.2
      simp only [List.length_cons] at sz sz' hd
      have w1 : IntKind.i64.wrap (((m.length - (o.length + 1) : Nat) : Int) + 1) = ((st'.1.length - st'.2.length : Nat) : Int) := by rw [wrap_60 (by omega)]; omega
      refine .inl ⟨rst s st', ?_, ⟨st', hp.1, rfl⟩, ?_⟩
      · unfold ref06_Find_b2 rst
        simp only [mkeys_len, List.length_cons]
        simp only at h1
        rw [decide_eq_true (show (((m.length - (o.length + 1) : Nat) : Int) < (m.length : Int)) by omega), cond_true, h1, Option.bind_some, Out.on]
        simp only [w1]
      · simp only [rst, List.length_cons, Int.toNat_natCast]; omega) fuel _ ⟨_, .init l f s, rfl⟩ (by show 121 - _ < 1099511627776; omega)
  obtain ⟨q, h1, h2⟩ := this
  have e : ref06_Find_b1 l s t f = some q := by
    unfold ref06_Find_b1
    have : rst s ([(s, ⟨0, false⟩)], [s]) = ((0 : Int), [s], [(0 : Int)]) := by simp [rst, mkeys, vias, viaOf]
    rw [← this, h1]; rfl
  rw [e]
  rcases h2 with ⟨g, rfl, h⟩ | ⟨g, rfl, h⟩
  · exact .inl ⟨g, rfl, h⟩
  · exact .inr ⟨g, rfl, h⟩
theorem rfind_top {l : List ApiEdge} {s t : Int} (hl : EdgesOK l) (hst : s ≠ t) : ∃ g, ref06_Find l s t = some g ∧ Top l s t g := by
  have h60 := hl.1
  obtain ⟨g, h1, h2⟩ := climb hl fun f hf => rfind_b1 hl hst hf
  refine ⟨g, ?_, h2⟩
  unfold ref06_Find
  rw [chk_ok (by omega), decide_eq_false hst, cond_false, h1]; rfl
theorem rmax_top {l : List ApiEdge} {s t : Int} (hl : EdgesOK l) (hst : s ≠ t) : ∃ g, ref06_Find l s t = some g ∧ ref06_Max l s t = some (netL l g s) ∧ Top l s t g := by
  obtain ⟨g, h1, h2⟩ := rfind_top hl hst
  refine ⟨g, h1, ?_, h2⟩
  unfold ref06_Max ref06_Value
  rw [decide_eq_false hst, cond_false, h1, Option.bind_some, net_eq hl h2.1.within]; rfl
theorem rcut_b2 {l : List ApiEdge} {f : List Int} {s n : Int} {k i : Nat} {e : ApiEdge} {x : Int} (hx : f[k]? = some x) (hk : k ≤ 1000) (st : SSt) (hi : (mkeys st.1)[i]? = some n) (hs : mhas st.1 s = true) (hn : st.1.length + 1 ≤ 1000) :
    ref06_Cut_b2 f (i : Int) k e (mkeys st.1, vias s st.1) = some (.next (mkeys (add2 n k e x (add1 n k e x st)).1, vias s (add2 n k e x (add1 n k e x st)).1)) := by
  have j4 : ∀ st : SSt, (mkeys st.1)[i]? = some n → mhas st.1 s = true → st.1.length ≤ 1000 → ref06_Cut_j3 f (i : Int) k e (mkeys st.1) (vias s st.1) = some (.next (mkeys (add2 n k e x st).1, vias s (add2 n k e x st).1)) := by
    intro st hi hs hn
    refine Eq.trans ?_ (rstep_bwd (σ := Unit) hk st hs hn (fun p => some (Out.next p)))
    unfold ref06_Cut_j3
    rw [idxL_get hi, Option.bind_some, idxL_get hx]; rfl
  have h := rstep_fwd (σ := Unit) (e := e) (x := x) (n := n) hk st hs (by omega) (fun p => ref06_Cut_j3 f (i : Int) k e p.1 p.2)
  simp only at h
  have sz : (add1 n k e x st).1.length ≤ 1000 := by
    obtain ⟨new, h1, _, h3⟩ := add1_adds n k e x st
    rw [h1]; simp; omega
  rw [j4 (add1 n k e x st) (add1_keep hi) ((add1_adds n k e x st).mono hs) sz] at h
  rw [← h]
  unfold ref06_Cut_b2
  simp only
  rw [idxL_get hi, Option.bind_some, idxL_get hx]; rfl
theorem rcut_pass {l : List ApiEdge} {f : List Int} (hl : EdgesOK l) (hw : Within l f) {s n : Int} {i : Nat} {st : SSt} (h : SInv l f s st) (hi : (mkeys st.1)[i]? = some n) :
    ∃ st', forIx (ref06_Cut_b2 f (i : Int)) 0 l (mkeys st.1, vias s st.1) = some (.next (mkeys st'.1, vias s st'.1)) ∧ Pass l f s n l.length st st' := by
  have hlen := hw.len
  have h60 := hl.1
  have hn : mhas st.1 n = true := (mhas_iff _ _).2 (List.mem_of_getElem? hi)
  obtain ⟨sv, h1, st', h2, h3⟩ := forIx_run (step := ref06_Cut_b2 f (i : Int)) (l := l) (s := (mkeys st.1, vias s st.1)) (fun k sv => ∃ st', Pass l f s n k st st' ∧ sv = (mkeys st'.1, vias s st'.1)) ⟨st, .zero h hn, rfl⟩ fun k e sv hk ⟨st', hI, hsv⟩ => by
    have hlt := (List.getElem?_eq_some_iff.1 hk).1
    have hx : f[k]? = some f[k] := List.getElem?_eq_getElem (by omega)
    have sz := hI.inv.size hl
    have hi' : (mkeys st'.1)[i]? = some n := by
      obtain ⟨new, h1, _⟩ := hI.adds
      rw [h1, mkeys_app, List.getElem?_append_left (List.getElem?_eq_some_iff.1 hi).1]; exact hi
    refine ⟨_, by rw [hsv]; exact rcut_b2 (l := l) hx (by omega) st' hi' hI.inv.self (by omega), _, hI.next hk hx, rfl⟩
  exact ⟨st', by rw [h1, h3], h2⟩
theorem rcut_b4 {l : List ApiEdge} (hl : EdgesOK l) (m : List (Int × FlowMove)) : forIx (ref06_Cut_b4 (mkeys m)) 0 l [] = some (.next (outOf (mhas m) 0 l)) := by
  rw [← cut_b4 hl m]
  have : ref06_Cut_b4 (mkeys m) = flow_Cut_b4 m := by
    funext k e sv
    unfold ref06_Cut_b4 flow_Cut_b4
    rw [has_keys, has_keys]
    cases mhas m e.From <;> rfl
  rw [this]
theorem rcut_eq {l : List ApiEdge} {s t : Int} (hl : EdgesOK l) (hst : s ≠ t) : ∃ (g : List Int) (S : Int → Bool), Top l s t g ∧ (∀ n, S n = true ↔ Rch l g s n) ∧ ref06_Cut l s t = some (outOf S 0 l) := by
  obtain ⟨f, hf1, hf2⟩ := rfind_top hl hst
  have hw := hf2.1.within
  have := whileN_inv (step := ref06_Cut_b1 l f) (fun sv => ∃ st, Srch l f s st ∧ sv = rst s st) (fun q => ∃ S : Int → Bool, (∀ n, S n = true ↔ Rch l f s n) ∧ q = outOf S 0 l) (fun sv => 121 - sv.1.toNat) (fun sv ⟨st, hs, hsv⟩ => by
    subst hsv
    obtain ⟨m, o⟩ := st
    have sz := hs.size hl
    cases o with
    | nil =>
      refine .inr ⟨_, ?_, mhas m, hs.all, rfl⟩
      unfold ref06_Cut_b1 rst
      simp only [List.length_nil, Nat.sub_zero, mkeys_len, Int.lt_irrefl, decide_false, cond_false, rcut_b4 hl, Option.bind_some]; rfl
    | cons n o =>
      obtain ⟨st', h1, h2⟩ := rcut_pass hl hw (st := (m, o)) hs.toSInv.pop hs.at
      have hp := hs.pass hw h2
      have sz' := hp.1.size hl
      have hd := hp.2
      simp only [List.length_cons] at sz sz' hd
      have w1 : IntKind.i64.wrap (((m.length - (o.length + 1) : Nat) : Int) + 1) = ((st'.1.length - st'.2.length : Nat) : Int) := by rw [wrap_60 (by omega)]; omega
      refine .inl ⟨rst s st', ?_, ⟨st', hp.1, rfl⟩, ?_⟩
      · unfold ref06_Cut_b1 rst
        simp only [mkeys_len, List.length_cons]
        simp only at h1
        rw [decide_eq_true (show (((m.length - (o.length + 1) : Nat) : Int) < (m.length : Int)) by omega), cond_true, h1, Option.bind_some, Out.on]
        simp only [w1]
      · simp only [rst, List.length_cons, Int.toNat_natCast]; omega) fuel _ ⟨_, .init l f s, rfl⟩ (by show 121 - _ < 1099511627776; omega)
  obtain ⟨q, h1, S, h2, rfl⟩ := this
  refine ⟨f, S, hf2, h2, ?_⟩
  unfold ref06_Cut
  have e : rst s ([(s, ⟨0, false⟩)], [s]) = ((0 : Int), [s], [(0 : Int)]) := by simp [rst, mkeys, vias, viaOf]
  rw [decide_eq_false hst, cond_false, hf1, Option.bind_some, ← e, h1]; rfl
end Go.Proofs.Ytacfmeobdobhhaa
