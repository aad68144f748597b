/-
  The reference of layer 5 in plain Lean: Right, Reach, Back, Without, Order.
-/
import Derived.Test.YtabfjapdbelcoaaL5
namespace Go.Proofs.Ytabfjapdbelcoaa
open Go Go.Ab
set_option linter.unusedSimpArgs false
set_option linter.unusedVariables false

theorem rHas_eq (l : List Int) (n : Int) : ref05_Has l n = some (decide (n ∈ l)) := has_loop fun k x hx => rfl
theorem rSame_eq (a b : List Int) : ref05_Same a b = some (decide (a = b)) :=
  same_len fun k x y hx hy => by unfold ref05_Same_b1; rw [idxL_nat hy]; rfl
theorem rSameEdges_eq (a b : List ApiEdge) : ref05_SameEdges a b = some (decide (a = b)) :=
  same_len fun k x y hx hy => by
    unfold ref05_SameEdges_b1; rw [idxL_nat hy, Option.bind_some]
    obtain ⟨a, b, c, d⟩ := x
    obtain ⟨a', b', c', d'⟩ := y
    simp only
    have : (!((decide (a = a')) && ((decide (b = b')) && ((decide (c = c')) && (decide (d = d')))))) = decide ((ApiEdge.mk a b c d) ≠ (ApiEdge.mk a' b' c' d')) := by
      rw [Bool.eq_iff_iff]; simp [ApiEdge.mk.injEq]
    rw [this]

/-! ### put -/
theorem put_eq {l : List Int} (h : Inc l) (hl : l.length ≤ 100000000) (n : Int) : ∃ r, ref05_put l n = some r ∧ Inc r ∧ (∀ x, x ∈ r ↔ x ∈ l ∨ x = n) := by
  have hpw := List.pairwise_iff_getElem.1 h
  obtain ⟨s, h1, h2, h3, h4, h5, h6⟩ := forIx_run (ρ := List Int) (step := ref05_put_b1 n) (l := l) (s := (false, [])) (fun k s => Inc s.2 ∧ (∀ y ∈ s.2, (y ∈ l.take k ∨ (y = n ∧ ∀ z ∈ l.drop k, n < z))) ∧ (∀ x, x ∈ s.2 ↔ x ∈ l.take k ∨ (s.1 = true ∧ x = n)) ∧ (s.1 = false → ∀ x ∈ l.take k, x < n) ∧ s.2.length ≤ k + 1)
    ⟨List.Pairwise.nil, by simp, by simp, by simp, by simp⟩ (fun k x s hk ⟨i1, i2, i3, i4, i5⟩ => by
      obtain ⟨d, o⟩ := s
      simp only at i1 i2 i3 i4 i5
      have hlt := (List.getElem?_eq_some_iff.1 hk).1
      have hx : l[k] = x := (List.getElem?_eq_some_iff.1 hk).2
      have tk : ∀ y ∈ l.take k, y < x := fun y hy => by
        obtain ⟨i, hi, rfl⟩ := List.getElem_of_mem hy
        rw [List.length_take] at hi
        rw [List.getElem_take, ← hx]
        exact hpw i k (by omega) hlt (by omega)
      have dk : l.drop k = x :: l.drop (k + 1) := by rw [List.drop_eq_getElem_cons hlt, hx]
      have dk1 : ∀ z ∈ l.drop (k + 1), x < z := fun z hz => by
        obtain ⟨i, hi, rfl⟩ := List.getElem_of_mem hz
        rw [List.length_drop] at hi
        rw [List.getElem_drop, ← hx]
        exact hpw k (k + 1 + i) hlt (by omega) (by omega)
      have ts := take_succ_some hk
      have olt : ∀ y ∈ o, (d = true → y < x) ∧ (d = false → y < x ∧ y < n) := fun y hy => by
        refine ⟨fun _ => ?_, fun hd => ?_⟩
        · rcases i2 y hy with h | ⟨rfl, h⟩
          · exact tk y h
          · exact h x (by rw [dk]; simp)
        · rcases (i3 y).1 hy with h | ⟨h, _⟩
          · exact ⟨tk y h, i4 hd y h⟩
          · rw [hd] at h; cases h
      have app : ∀ {o : List Int} {z : Int}, Inc o → (∀ y ∈ o, y < z) → Inc (o ++ [z]) := fun ho hz => by
        unfold Inc
        rw [List.pairwise_append]
        refine ⟨ho, by simp, fun a ha b hb => ?_⟩
        simp at hb; subst hb; exact hz a ha
      unfold ref05_put_b1
      simp only
      cases d with
      | true =>
        simp only [Bool.not_true, cond_false]
        rw [chk_ok (by omega)]
        refine ⟨_, rfl, app i1 fun y hy => (olt y hy).1 rfl, fun y hy => ?_, fun y => ?_, (fun h => by cases h), by simp; omega⟩
        · rw [ts]
          rcases List.mem_append.1 hy with hy | hy
          · rcases i2 y hy with h | ⟨h, h'⟩
            · exact .inl (List.mem_append.2 (.inl h))
            · exact .inr ⟨h, fun z hz => h' z (by rw [dk]; exact List.mem_cons_of_mem _ hz)⟩
          · exact .inl (List.mem_append.2 (.inr hy))
        · simp only [ts, List.mem_append, i3, List.mem_singleton]
          constructor
          · rintro ((h | h) | h)
            · exact .inl (.inl h)
            · exact .inr h
            · exact .inl (.inr h)
          · rintro ((h | h) | h)
            · exact .inl (.inl h)
            · exact .inr h
            · exact .inl (.inr h)
      | false =>
        simp only [Bool.not_false, cond_true]
        have hok : o.length ≤ k := by
          have := nodup_len i1.nodup (b := l.take k) fun z hz => by
            rcases (i3 z).1 hz with h | ⟨h, _⟩
            · exact h
            · cases h
          rw [List.length_take] at this; omega
        by_cases c1 : n ≤ x
        · rw [decide_eq_true c1, cond_true]
          by_cases c2 : n < x
          · rw [decide_eq_true c2, cond_true, chk_ok (by omega), chk_ok (by omega)]
            refine ⟨_, rfl, app (app i1 fun y hy => ((olt y hy).2 rfl).2) fun y hy => ?_, fun y hy => ?_, fun y => ?_, (fun h => by cases h), by simp; omega⟩
            · rcases List.mem_append.1 hy with hy | hy
              · exact ((olt y hy).2 rfl).1
              · simp at hy; subst hy; exact c2
            · rw [ts]
              simp only [List.mem_append, List.mem_singleton] at hy ⊢
              rcases hy with (hy | hy) | hy
              · rcases i2 y hy with h | ⟨h, h'⟩
                · exact .inl (.inl h)
                · exact .inr ⟨h, fun z hz => h' z (by rw [dk]; exact List.mem_cons_of_mem _ hz)⟩
              · exact .inr ⟨hy, fun z hz => by have := dk1 z hz; omega⟩
              · exact .inl (.inr hy)
            · simp only [ts, List.mem_append, i3, List.mem_singleton]
              constructor
              · rintro (((h | ⟨h, _⟩) | h) | h)
                · exact .inl (.inl h)
                · cases h
                · exact .inr ⟨trivial, h⟩
                · exact .inl (.inr h)
              · rintro ((h | h) | ⟨_, h⟩)
                · exact .inl (.inl (.inl h))
                · exact .inr h
                · exact .inl (.inr h)
          · have e : x = n := by omega
            rw [decide_eq_false c2, cond_false, chk_ok (by omega)]
            refine ⟨_, rfl, app i1 fun y hy => ((olt y hy).2 rfl).1, fun y hy => ?_, fun y => ?_, (fun h => by cases h), by simp; omega⟩
            · rw [ts]
              simp only [List.mem_append, List.mem_singleton] at hy ⊢
              rcases hy with hy | hy
              · rcases i2 y hy with h | ⟨h, h'⟩
                · exact .inl (.inl h)
                · exact .inr ⟨h, fun z hz => h' z (by rw [dk]; exact List.mem_cons_of_mem _ hz)⟩
              · exact .inl (.inr hy)
            · simp only [ts, List.mem_append, i3, List.mem_singleton]
              constructor
              · rintro ((h | ⟨h, _⟩) | h)
                · exact .inl (.inl h)
                · cases h
                · exact .inl (.inr h)
              · rintro ((h | h) | ⟨_, h⟩)
                · exact .inl (.inl h)
                · exact .inr h
                · exact .inr (by rw [e]; exact h)
        · rw [decide_eq_false c1, cond_false, chk_ok (by omega)]
          refine ⟨_, rfl, app i1 fun y hy => ((olt y hy).2 rfl).1, fun y hy => ?_, fun y => ?_, fun _ y hy => ?_, by simp; omega⟩
          · rw [ts]
            simp only [List.mem_append, List.mem_singleton] at hy ⊢
            rcases hy with hy | hy
            · rcases i2 y hy with h | ⟨h, h'⟩
              · exact .inl (.inl h)
              · exact .inr ⟨h, fun z hz => h' z (by rw [dk]; exact List.mem_cons_of_mem _ hz)⟩
            · exact .inl (.inr hy)
          · simp only [ts, List.mem_append, i3, List.mem_singleton]
            constructor
            · rintro ((h | ⟨h, _⟩) | h)
              · exact .inl (.inl h)
              · cases h
              · exact .inl (.inr h)
            · rintro ((h | h) | ⟨h, _⟩)
              · exact .inl (.inl h)
              · exact .inr h
              · cases h
          · rw [ts] at hy
            rcases List.mem_append.1 hy with hy | hy
            · exact i4 rfl y hy
            · simp at hy; subst hy; omega)
  rw [List.take_length] at h4 h5
  unfold ref05_put
  rw [h1]
  show ∃ r, (bif (!s.1) then _ else _) = some r ∧ _
  cases hd : s.1 with
  | true =>
    refine ⟨s.2, rfl, h2, fun x => ?_⟩
    rw [h4, hd]; simp
  | false =>
    rw [Bool.not_false, cond_true, chk_ok (by omega)]
    refine ⟨_, rfl, ?_, fun x => ?_⟩
    · unfold Inc
      rw [List.pairwise_append]
      refine ⟨h2, by simp, fun a ha b hb => ?_⟩
      simp at hb; subst hb
      rcases (h4 a).1 ha with h | ⟨h, _⟩
      · exact h5 hd a h
      · rw [hd] at h; cases h
    · simp only [List.mem_append, List.mem_singleton, h4, hd]; simp
theorem put_in {l r : List Int} {n : Int} (h : Inc l) (hr : Inc r) (hm : ∀ x, x ∈ r ↔ x ∈ l ∨ x = n) (hn : n ∈ l) : r = l :=
  inc_ext hr h fun x => by rw [hm]; exact ⟨fun h => h.elim id fun h => h ▸ hn, .inl⟩
theorem put_out {l r : List Int} {n : Int} (h : Inc l) (hr : Inc r) (hm : ∀ x, x ∈ r ↔ x ∈ l ∨ x = n) (hn : n ∉ l) : r.length = l.length + 1 := by
  have h1 : (n :: l).Nodup := List.nodup_cons.2 ⟨hn, h.nodup⟩
  have a := nodup_len h1 (b := r) fun x hx => by rw [hm]; rcases List.mem_cons.1 hx with h | h; exact .inr h; exact .inl h
  have b := nodup_len hr.nodup (b := n :: l) fun x hx => by rcases (hm x).1 hx with h | h; exact List.mem_cons_of_mem _ h; exact h ▸ List.mem_cons_self
  simp at a b; omega

/-! ### Reach -/
theorem rReach_pass {l : List ApiEdge} {f out : List Int} (h : Inc out) (hr : ∀ n ∈ out, Rch l (· ∈ f) n) (hC : (f ++ l.map (·.To)).length ≤ 1000000) :
    ∃ s, forIx ref05_Reach_b3 0 l out = some (.next s) ∧ Inc s ∧ (∀ n ∈ s, Rch l (· ∈ f) n) ∧ (∀ n ∈ out, n ∈ s) ∧ ((s = out ∧ ∀ e ∈ l, e.From ∈ out → e.To ∈ out) ∨ out.length < s.length) := by
  obtain ⟨s, h1, h2, h3, h4, h5⟩ := forIx_run (ρ := Out (List Int × Int) (List Int)) (step := ref05_Reach_b3) (l := l) (s := out) (fun k s => Inc s ∧ (∀ n ∈ s, Rch l (· ∈ f) n) ∧ (∀ n ∈ out, n ∈ s) ∧ ((s = out ∧ ∀ e ∈ l.take k, e.From ∈ out → e.To ∈ out) ∨ out.length < s.length))
    ⟨h, hr, fun n h => h, .inl ⟨rfl, by simp⟩⟩ (fun k e s hk ⟨i1, i2, i3, i4⟩ => by
      have he := List.mem_of_getElem? hk
      unfold ref05_Reach_b3
      rw [rHas_eq, Option.bind_some]
      have hlen : s.length ≤ 1000000 := Nat.le_trans (nodup_len i1.nodup fun n hn => rch_bound (i2 n hn)) hC
      by_cases hf : e.From ∈ s
      · obtain ⟨r, g1, g2, g3⟩ := put_eq i1 (by omega) e.To
        rw [decide_eq_true hf, cond_true, g1]
        refine ⟨r, rfl, g2, fun n hn => ?_, fun n hn => (g3 n).2 (.inl (i3 n hn)), ?_⟩
        · rcases (g3 n).1 hn with h | rfl
          · exact i2 n h
          · exact .step he (i2 _ hf)
        · by_cases ht : e.To ∈ s
          · obtain rfl := put_in i1 g2 g3 ht
            rcases i4 with ⟨rfl, h⟩ | h
            · refine .inl ⟨rfl, fun x hx => ?_⟩
              rw [take_succ_some hk] at hx
              rcases List.mem_append.1 hx with hx | hx
              · exact h x hx
              · simp at hx; subst hx; exact fun _ => ht
            · exact .inr h
          · have := put_out i1 g2 g3 ht
            refine .inr ?_
            rcases i4 with ⟨rfl, _⟩ | h <;> omega
      · rw [decide_eq_false hf, cond_false]
        refine ⟨s, rfl, i1, i2, i3, ?_⟩
        rcases i4 with ⟨rfl, h⟩ | h
        · refine .inl ⟨rfl, fun x hx => ?_⟩
          rw [take_succ_some hk] at hx
          rcases List.mem_append.1 hx with hx | hx
          · exact h x hx
          · simp at hx; subst hx; exact fun h => absurd h hf
        · exact .inr h)
  rw [List.take_length] at h5
  exact ⟨s, h1, h2, h3, h4, h5⟩
theorem rReach_eq {l : List ApiEdge} {f : List Int} (hl : l.length ≤ 100000) (hf : f.length ≤ 100000) : ∃ r, ref05_Reach l f = some r ∧ RchList l f r := by
  have hC : (f ++ l.map (·.To)).length ≤ 1000000 := by simp; omega
  obtain ⟨s, h1, h2, h3⟩ := forIx_run (ρ := List Int) (step := ref05_Reach_b4) (l := f) (s := []) (fun k s => Inc s ∧ ∀ x, x ∈ s ↔ x ∈ f.take k) ⟨List.Pairwise.nil, by simp⟩ (fun k x s hk ⟨i1, i2⟩ => by
    have hlen : s.length ≤ 100000 := Nat.le_trans (nodup_len i1.nodup (b := f) fun n hn => List.mem_of_mem_take ((i2 n).1 hn)) hf
    obtain ⟨r, g1, g2, g3⟩ := put_eq i1 (by omega) x
    refine ⟨r, by unfold ref05_Reach_b4; rw [g1]; rfl, g2, fun y => ?_⟩
    rw [g3, i2, take_succ_some hk]; simp)
  rw [List.take_length] at h3
  have s1 : ∀ n ∈ s, Rch l (· ∈ f) n := fun n hn => .base ((h3 n).1 hn)
  unfold ref05_Reach
  rw [h1]
  show ∃ r, ref05_Reach_j1 l s = some r ∧ _
  unfold ref05_Reach_j1
  have hlen : ∀ o : List Int, Inc o → (∀ n ∈ o, Rch l (· ∈ f) n) → o.length ≤ 1000000 := fun o ho hr => Nat.le_trans (nodup_len ho.nodup fun n hn => rch_bound (hr n hn)) hC
  obtain ⟨r, g1, g2⟩ := whileN_inv (step := ref05_Reach_b2 l) (fun st => Inc st.1 ∧ (∀ n ∈ st.1, Rch l (· ∈ f) n) ∧ (∀ n ∈ f, n ∈ st.1) ∧ st.2 ≤ (st.1.length : Int) ∧ (st.2 = (st.1.length : Int) → ∀ e ∈ l, e.From ∈ st.1 → e.To ∈ st.1)) (fun r => RchList l f r)
    (fun st => 2 * (1000000 - st.1.length) + if st.2 < (st.1.length : Int) then 1 else 0) (fun st ⟨i1, i2, i3, i4, i5⟩ => by
      obtain ⟨o, w⟩ := st
      simp only at i1 i2 i3 i4 i5 ⊢
      unfold ref05_Reach_b2
      simp only
      by_cases hw : w < (o.length : Int)
      · obtain ⟨s, e1, e2, e3, e4, e5⟩ := rReach_pass i1 i2 hC
        rw [decide_eq_true hw, cond_true, e1]
        have := hlen s e2 e3
        have := hlen o i1 i2
        refine .inl ⟨_, rfl, ⟨e2, e3, fun n hn => e4 n (i3 n hn), ?_, fun hh => ?_⟩, ?_⟩
        · simp only
          rcases e5 with ⟨rfl, _⟩ | h <;> omega
        · rcases e5 with ⟨rfl, h⟩ | h
          · exact h
          · simp only at hh; omega
        · simp only
          rw [if_pos hw]
          rcases e5 with ⟨rfl, _⟩ | h
          · rw [if_neg (by omega)]; omega
          · rw [if_pos (by omega)]; omega
      · rw [decide_eq_false hw, cond_false]
        exact .inr ⟨o, rfl, .of_closed i1 i2 i3 (i5 (by omega))⟩) fuel (s, -1) ⟨h2, s1, fun n hn => (h3 n).2 hn, by simp only; omega, fun h => by simp only at h; omega⟩ (by show _ < 1099511627776; simp only; split <;> omega)
  rw [g1]
  exact ⟨r, rfl, g2⟩
theorem rTurned_eq {l : List ApiEdge} (hl : l.length ≤ 100000) : ref05_turned l = some (turn l) := by
  unfold ref05_turned
  rw [forIx_collect (step := ref05_turned_b1) (fun _ => true) turnE (by omega) (fun k x s hx => rfl), List.filter_eq_self.2 (fun a _ => rfl)]; rfl
theorem rBack_eq {l : List ApiEdge} {f : List Int} (hl : l.length ≤ 100000) (hf : f.length ≤ 100000) : ∃ r, ref05_Back l f = some r ∧ RchList (turn l) f r := by
  obtain ⟨r, h1, h2⟩ := rReach_eq (l := turn l) (f := f) (by simpa [turn] using hl) hf
  refine ⟨r, ?_, h2⟩
  unfold ref05_Back
  rw [rTurned_eq hl, Option.bind_some, h1]; rfl
theorem rWithout_eq {l : List ApiEdge} (hl : l.length ≤ 100000) (ids : List Int) : ref05_Without l ids = some (wout l ids) := by
  unfold ref05_Without
  rw [forIx_collect (fun e => !decide (e.ID ∈ ids)) id (by omega) (fun k x s hx => by unfold ref05_Without_b1; rw [rHas_eq]; rfl)]
  simp [Out.on, wout]

/-! ### Order -/
theorem rNodes_eq {l : List ApiEdge} (hl : l.length ≤ 100000) : ∃ r, ref05_Nodes l = some r ∧ Inc r ∧ (∀ n, n ∈ r ↔ IsNode l n) ∧ r.length ≤ 200000 := by
  have hlen : ∀ (o : List Int), Inc o → (∀ n ∈ o, IsNode l n) → o.length ≤ 200000 := fun o ho hn => by
    have := nodup_len ho.nodup (b := l.map (·.From) ++ l.map (·.To)) fun n h => by
      obtain ⟨e, he, h⟩ := hn n h
      rcases h with rfl | rfl
      · exact List.mem_append.2 (.inl (List.mem_map_of_mem he))
      · exact List.mem_append.2 (.inr (List.mem_map_of_mem he))
    simp at this; omega
  have sub : ∀ k n, IsNode (l.take k) n → IsNode l n := fun k n ⟨e, he, h⟩ => ⟨e, List.mem_of_mem_take he, h⟩
  obtain ⟨s, h1, h2, h3⟩ := forIx_run (ρ := List Int) (step := ref05_Nodes_b1) (l := l) (s := []) (fun k s => Inc s ∧ ∀ x, x ∈ s ↔ IsNode (l.take k) x) ⟨List.Pairwise.nil, by simp [IsNode]⟩ (fun k e s hk ⟨i1, i2⟩ => by
    have := hlen s i1 fun n hn => sub k n ((i2 n).1 hn)
    obtain ⟨r, g1, g2, g3⟩ := put_eq i1 (by omega) e.From
    have : r.length ≤ 200001 := by
      by_cases hh : e.From ∈ s
      · rw [put_in i1 g2 g3 hh]; omega
      · rw [put_out i1 g2 g3 hh]; omega
    obtain ⟨q, g4, g5, g6⟩ := put_eq g2 (by omega) e.To
    refine ⟨q, by unfold ref05_Nodes_b1; rw [g1, Option.bind_some, g4]; rfl, g5, fun y => ?_⟩
    rw [g6, g3, i2]
    unfold IsNode
    rw [take_succ_some hk]
    constructor
    · rintro ((⟨x, hx, h⟩ | h) | h)
      · exact ⟨x, List.mem_append.2 (.inl hx), h⟩
      · exact ⟨e, by simp, .inl h⟩
      · exact ⟨e, by simp, .inr h⟩
    · rintro ⟨x, hx, h⟩
      rcases List.mem_append.1 hx with hx | hx
      · exact .inl (.inl ⟨x, hx, h⟩)
      · simp at hx; subst hx
        rcases h with h | h
        · exact .inl (.inr h)
        · exact .inr h)
  rw [List.take_length] at h3
  exact ⟨s, by unfold ref05_Nodes; rw [h1]; rfl, h2, h3, hlen s h2 fun n hn => (h3 n).1 hn⟩
theorem rFree_eq (l : List ApiEdge) (placed : List Int) (node : Int) : ref05_free l placed node = some (decide (∀ e ∈ l, e.To = node → e.From ∈ placed)) := by
  unfold ref05_free
  rw [all_loop (fun e => !decide (e.To = node) || decide (e.From ∈ placed)) (fun k x hx => by
    unfold ref05_free_b1
    by_cases h : x.To = node
    · rw [decide_eq_true h, rHas_eq]
      by_cases h2 : x.From ∈ placed <;> simp [h2]
    · rw [decide_eq_false h]; rfl)]
  rw [Option.some.injEq, Bool.eq_iff_iff, List.all_eq_true, decide_eq_true_eq]
  constructor
  · intro h e he ht
    have := h e he
    simpa [ht] using this
  · intro h e he
    by_cases ht : e.To = node
    · simp [ht, h e he ht]
    · simp [ht]
theorem rOrder_b1 {l : List ApiEdge} {nodes out : List Int} (hn : Inc nodes) (hm : ∀ n, n ∈ nodes ↔ IsNode l n) (hlen : nodes.length ≤ 200000) (ho : out.length < nodes.length) :
    (∃ x, NextNode l out x ∧ ref05_Order_b1 l nodes out = some (.next (out ++ [x]))) ∨ ((∀ x, ¬ NextNode l out x) ∧ ref05_Order_b1 l nodes out = some (.ret ([], 16))) := by
  have hpw := List.pairwise_iff_getElem.1 hn
  unfold ref05_Order_b1
  rw [decide_eq_true (show ((out.length : Nat) : Int) < ((nodes.length : Nat) : Int) by omega), cond_true]
  obtain ⟨r, h1, h2⟩ := whileN_inv (step := ref05_Order_b2 l nodes out) (fun st => 0 ≤ st.1 ∧ st.1 ≤ (nodes.length : Int) ∧ ((st.2 = out ∧ ∀ (j : Nat) n, (j : Int) < st.1 → nodes[j]? = some n → ¬ (n ∉ out ∧ ∀ e ∈ l, e.To = n → e.From ∈ out)) ∨ ∃ x, st.2 = out ++ [x] ∧ NextNode l out x))
    (fun r => (∃ x, NextNode l out x ∧ r = .next (out ++ [x])) ∨ ((∀ x, ¬ NextNode l out x) ∧ r = .ret ([], 16))) (fun st => (nodes.length - st.1).toNat) (fun st ⟨i1, i2, i3⟩ => by
      obtain ⟨i, o⟩ := st
      simp only at i1 i2 i3 ⊢
      obtain ⟨k, rfl⟩ : ∃ k : Nat, i = (k : Int) := ⟨i.toNat, by omega⟩
      unfold ref05_Order_b2
      simp only [cond_false]
      rcases i3 with ⟨rfl, i3⟩ | ⟨x, rfl, hx⟩
      · have e0 : decide (((o.length : Nat) : Int) = ((o.length : Nat) : Int)) = true := decide_eq_true rfl
        by_cases hk : (k : Int) < (nodes.length : Int)
        · have hkl : k < nodes.length := by omega
          rw [decide_eq_true hk, cond_true, e0, cond_true, idxL_lt hkl, Option.bind_some, rHas_eq, Option.bind_some, rFree_eq, Option.bind_some, wrap_add1 (by omega)]
          by_cases c1 : nodes[k] ∈ o
          · rw [decide_eq_true c1]
            refine .inl ⟨_, rfl, ⟨by simp only; omega, by simp only; omega, .inl ⟨rfl, fun j n hj hn => ?_⟩⟩, by simp only; omega⟩
            by_cases hjk : j = k
            · subst hjk
              rw [List.getElem?_eq_getElem hkl] at hn; obtain rfl := Option.some.inj hn
              exact fun h => h.1 c1
            · exact i3 j n (by simp only at hj; omega) hn
          · rw [decide_eq_false c1, Bool.not_false, cond_true]
            by_cases c2 : ∀ e ∈ l, e.To = nodes[k] → e.From ∈ o
            · rw [decide_eq_true c2, cond_true, chk_ok (by omega)]
              refine .inl ⟨_, rfl, ⟨by simp only; omega, by simp only; omega, .inr ⟨nodes[k], rfl, (hm _).1 (List.getElem_mem _), c1, c2, fun y y1 y2 y3 => ?_⟩⟩, by simp only; omega⟩
              obtain ⟨j, hj, rfl⟩ := List.getElem_of_mem ((hm y).2 y1)
              rcases Nat.lt_trichotomy j k with h | h | h
              · exact absurd ⟨y2, y3⟩ (i3 j _ (by omega) (List.getElem?_eq_getElem hj))
              · subst h; exact Int.le_refl _
              · have := hpw k j hkl hj h; omega
            · rw [decide_eq_false c2, cond_false]
              refine .inl ⟨_, rfl, ⟨by simp only; omega, by simp only; omega, .inl ⟨rfl, fun j n hj hn => ?_⟩⟩, by simp only; omega⟩
              by_cases hjk : j = k
              · subst hjk
                rw [List.getElem?_eq_getElem hkl] at hn; obtain rfl := Option.some.inj hn
                exact fun h => c2 h.2
              · exact i3 j n (by simp only at hj; omega) hn
        · rw [decide_eq_false hk, cond_false, e0, cond_true]
          refine .inr ⟨_, rfl, .inr ⟨fun x hx => ?_, rfl⟩⟩
          obtain ⟨j, hj, rfl⟩ := List.getElem_of_mem ((hm x).2 hx.node)
          exact i3 j _ (by omega) (List.getElem?_eq_getElem hj) ⟨hx.new, hx.free⟩
      · have e0 : decide ((((out ++ [x]).length : Nat) : Int) = ((out.length : Nat) : Int)) = false := decide_eq_false (by simp; omega)
        rw [e0]
        simp only [cond_false]
        refine .inr ⟨.next (out ++ [x]), ?_, .inl ⟨x, hx, rfl⟩⟩
        cases decide ((k : Int) < ((nodes.length : Nat) : Int)) <;> rfl) fuel (0, out) ⟨by simp, by simp, .inl ⟨rfl, fun j n h => by simp only at h; omega⟩⟩ (by show _ < 1099511627776; simp only; omega)
  rw [h1]
  rcases h2 with ⟨x, hx, rfl⟩ | ⟨hx, rfl⟩
  · exact .inl ⟨x, hx, rfl⟩
  · exact .inr ⟨hx, rfl⟩
theorem rOrder_eq {l : List ApiEdge} (hl : l.length ≤ 100000) : ∃ r, ref05_Order l = some r ∧ OrdRes l [] r := by
  obtain ⟨nodes, h1, h2, h3, h4⟩ := rNodes_eq hl
  unfold ref05_Order
  rw [h1, Option.bind_some]
  obtain ⟨r, g1, g2⟩ := whileN_inv (step := ref05_Order_b1 l nodes) (fun out => out.Nodup ∧ (∀ n ∈ out, IsNode l n) ∧ ∀ r, OrdRes l out r → OrdRes l [] r) (fun r => OrdRes l [] r) (fun out => nodes.length - out.length) (fun out ⟨i1, i2, i3⟩ => by
    by_cases hlt : out.length < nodes.length
    · rcases rOrder_b1 h2 h3 h4 hlt with ⟨x, hx, e⟩ | ⟨hx, e⟩
      · refine .inl ⟨_, e, ⟨?_, fun n hn => ?_, fun r hr => i3 r (.step hx hr)⟩, by simp; omega⟩
        · rw [List.nodup_append]
          refine ⟨i1, by simp, fun a ha b hb => ?_⟩
          simp at hb; subst hb
          exact fun e => hx.new (e ▸ ha)
        · rcases List.mem_append.1 hn with hn | hn
          · exact i2 n hn
          · simp at hn; subst hn; exact hx.node
      · refine .inr ⟨_, e, i3 _ (.stuck (fun hd => ?_) hx)⟩
        have := nodup_len h2.nodup (b := out) fun n hn => hd n ((h3 n).1 hn)
        omega
    · refine .inr ⟨(out, 0), ?_, i3 _ (.done fun n hn => ?_)⟩
      · unfold ref05_Order_b1
        rw [decide_eq_false (by omega)]; rfl
      · refine Classical.byContradiction fun hno => ?_
        have hnd : (n :: out).Nodup := List.nodup_cons.2 ⟨hno, i1⟩
        have := nodup_len hnd (b := nodes) fun m hm => by
          rcases List.mem_cons.1 hm with rfl | hm
          · exact (h3 _).2 hn
          · exact (h3 _).2 (i2 m hm)
        simp at this; omega) fuel [] ⟨by simp, by simp, fun r h => h⟩ (by show _ < 1099511627776; simp; omega)
  rw [g1]
  exact ⟨r, rfl, g2⟩

/-! ### Right -/
theorem GErr.unique {l : List ApiEdge} {r r' : Int} (h : GErr l r) (h' : GErr l r') : r = r' := by
  have pre : ∀ {k k' : Nat} {e e' : ApiEdge}, k < k' → l[k]? = some e → (∀ x ∈ l.take k', EdgeIn x) → ((l.take k').map (·.ID)).Nodup → EdgeIn e ∧ ¬ e.ID ∈ (l.take k).map (·.ID) := by
    intro k k' e e' hk he h1 h2
    have hlt := (List.getElem?_eq_some_iff.1 he).1
    have hmem : e ∈ l.take k' := by
      obtain ⟨_, rfl⟩ := List.getElem?_eq_some_iff.1 he
      exact List.mem_take_iff_getElem.2 ⟨k, by omega, rfl⟩
    refine ⟨h1 e hmem, fun hd => ?_⟩
    have hsub : (l.take (k + 1)).map (·.ID) = (l.take k).map (·.ID) ++ [e.ID] := by rw [take_succ_some he]; simp
    have : ((l.take (k + 1)).map (·.ID)).Nodup := by
      have e2 : l.take (k + 1) = (l.take k').take (k + 1) := by rw [List.take_take, Nat.min_eq_left (by omega)]
      rw [e2, List.map_take]
      exact h2.sublist (List.take_sublist _ _)
    rw [hsub, List.nodup_append] at this
    exact this.2.2 _ hd _ (by simp) rfl
  have ok : ∀ {k : Nat} {e : ApiEdge}, GraphOK l → l[k]? = some e → EdgeIn e ∧ ¬ e.ID ∈ (l.take k).map (·.ID) := by
    intro k e g he
    have hlt := (List.getElem?_eq_some_iff.1 he).1
    exact pre (e' := e) hlt he (fun x hx => g.edges x (List.mem_of_mem_take hx)) (by rw [List.take_length]; exact g.ids)
  cases h with
  | long h =>
    cases h' with
    | long => rfl
    | range k e h1 => omega
    | twice k e h1 => omega
    | ok g => have := g.len; omega
  | range k e h1 h2 h3 h4 h5 =>
    cases h' with
    | long => omega
    | range => rfl
    | twice k' e' g1 g2 g3 g4 g5 g6 =>
      exfalso
      rcases Nat.lt_trichotomy k k' with h | h | h
      · exact h5 (pre (e' := e) h h4 g2 g3).1
      · subst h; rw [h4] at g4; obtain rfl := Option.some.inj g4; exact h5 g5
      · exact (pre (e' := e) h g4 h2 h3).2 g6
    | ok g => exact absurd (ok g h4).1 h5
  | twice k e h1 h2 h3 h4 h5 h6 =>
    cases h' with
    | long => omega
    | range k' e' g1 g2 g3 g4 g5 =>
      exfalso
      rcases Nat.lt_trichotomy k k' with h | h | h
      · exact (pre (e' := e) h h4 g2 g3).2 h6
      · subst h; rw [h4] at g4; obtain rfl := Option.some.inj g4; exact g5 h5
      · exact g5 (pre (e' := e) h g4 h2 h3).1
    | twice => rfl
    | ok g => exact absurd h6 (ok g h4).2
  | ok g =>
    cases h' with
    | long => have := g.len; omega
    | range k' e' g1 g2 g3 g4 g5 => exact absurd (ok g g4).1 g5
    | twice k' e' g1 g2 g3 g4 g5 g6 => exact absurd g6 (ok g g4).2
    | ok => rfl
theorem rright_err (l : List ApiEdge) : ∃ r, ref05_Right l = some r ∧ GErr l r := by
  unfold ref05_Right
  by_cases h : (200 : Int) < ((l.length : Nat) : Int)
  · rw [decide_eq_true h]; exact ⟨4, rfl, .long (by omega)⟩
  rw [decide_eq_false h, cond_false]
  have hl : l.length ≤ 200 := by omega
  have inner : ∀ {k : Nat} {e : ApiEdge}, l[k]? = some e → ((forN (ref05_Right_b2 l e) k () : Option (Out Unit (Out Unit Int))) = some (.next ()) ∧ ¬ e.ID ∈ (l.take k).map (·.ID)) ∨ ((forN (ref05_Right_b2 l e) k () : Option (Out Unit (Out Unit Int))) = some (.ret (.ret 7)) ∧ e.ID ∈ (l.take k).map (·.ID)) := by
    intro k e hk
    have hlt := (List.getElem?_eq_some_iff.1 hk).1
    rcases forN_inv (step := ref05_Right_b2 l e) (s := ()) (n := k) (by omega) (fun j _ => ∀ i x, i < j → l[i]? = some x → x.ID ≠ e.ID) (fun r => r = .ret 7 ∧ e.ID ∈ (l.take k).map (·.ID)) (fun i x h => by omega) (fun j u hj hI => by
      have hx : l[j]? = some l[j] := List.getElem?_eq_getElem (by omega)
      unfold ref05_Right_b2
      rw [idxL_nat hx, Option.bind_some]
      by_cases hd : l[j].ID = e.ID
      · rw [decide_eq_true hd]
        refine .inr ⟨_, rfl, rfl, ?_⟩
        rw [← hd]
        exact List.mem_map_of_mem (List.mem_take_iff_getElem.2 ⟨j, by omega, rfl⟩)
      · rw [decide_eq_false hd]
        refine .inl ⟨(), rfl, fun i x hi hx' => ?_⟩
        by_cases h : i = j
        · subst h; rw [hx] at hx'; obtain rfl := Option.some.inj hx'; exact hd
        · exact hI i x (by omega) hx') with ⟨u, h1, h2⟩ | ⟨r, h1, rfl, h2⟩
    · refine .inl ⟨h1, fun hm => ?_⟩
      obtain ⟨x, hx, hxe⟩ := List.mem_map.1 hm
      obtain ⟨i, hi, rfl⟩ := List.mem_take_iff_getElem.1 hx
      exact h2 i _ (by omega) (List.getElem?_eq_getElem (by omega)) hxe
    · exact .inr ⟨h1, h2⟩
  have step : ∀ (k : Nat) (e : ApiEdge), l[k]? = some e → ref05_Right_b1 l k e () = if EdgeIn e then (if e.ID ∈ (l.take k).map (·.ID) then some (Out.ret 7) else some (Out.next ())) else some (Out.ret 2) := by
    intro k e hk
    unfold ref05_Right_b1
    by_cases h1 : e.From < 0
    · rw [if_neg (fun h => by have := h.from0; omega), decide_eq_true h1]; rfl
    by_cases h2 : 9999 < e.From
    · rw [if_neg (fun h => by have := h.from1; omega), decide_eq_false h1, decide_eq_true h2]; rfl
    by_cases h3 : e.To < 0
    · rw [if_neg (fun h => by have := h.to0; omega), decide_eq_false h1, decide_eq_false h2, decide_eq_true h3]; rfl
    by_cases h4 : 9999 < e.To
    · rw [if_neg (fun h => by have := h.to1; omega), decide_eq_false h1, decide_eq_false h2, decide_eq_false h3, decide_eq_true h4]; rfl
    by_cases h5 : e.Cost < 0
    · rw [if_neg (fun h => by have := h.cost0; omega), decide_eq_false h1, decide_eq_false h2, decide_eq_false h3, decide_eq_false h4, decide_eq_true h5]; rfl
    by_cases h6 : 1000000 < e.Cost
    · rw [if_neg (fun h => by have := h.cost1; omega), decide_eq_false h1, decide_eq_false h2, decide_eq_false h3, decide_eq_false h4, decide_eq_false h5, decide_eq_true h6]; rfl
    rw [if_pos ⟨by omega, by omega, by omega, by omega, by omega, by omega⟩, decide_eq_false h1, decide_eq_false h2, decide_eq_false h3, decide_eq_false h4, decide_eq_false h5, decide_eq_false h6]
    simp only [cond_false]
    rcases inner hk with ⟨g1, g2⟩ | ⟨g1, g2⟩
    · rw [g1, if_neg g2]; rfl
    · rw [g1, if_pos g2]; rfl
  rcases forIx_inv (step := ref05_Right_b1 l) (l := l) (s := ()) (fun k m => (∀ x ∈ l.take k, EdgeIn x) ∧ ((l.take k).map (·.ID)).Nodup) (fun r => GErr l r) ⟨by simp, by simp⟩ (fun k e m hk ⟨i1, i2⟩ => by
    rw [step k e hk]
    by_cases he : EdgeIn e
    · rw [if_pos he]
      by_cases hd : e.ID ∈ (l.take k).map (·.ID)
      · rw [if_pos hd]; exact .inr ⟨7, rfl, .twice k e hl i1 i2 hk he hd⟩
      · rw [if_neg hd]
        refine .inl ⟨_, rfl, fun x hx => ?_, ?_⟩
        · rw [take_succ_some hk] at hx
          rcases List.mem_append.1 hx with hx | hx
          · exact i1 x hx
          · simp at hx; subst hx; exact he
        · rw [take_succ_some hk, List.map_append, List.nodup_append]
          refine ⟨i2, by simp, fun a ha b hb => ?_⟩
          simp at hb; subst hb
          exact fun e' => hd (e' ▸ ha)
    · rw [if_neg he]; exact .inr ⟨2, rfl, .range k e hl i1 i2 hk he⟩) with ⟨m, e, i1, i2⟩ | ⟨r, e, hr⟩
  · rw [e]
    rw [List.take_length] at i1 i2
    exact ⟨0, rfl, .ok ⟨hl, i1, i2⟩⟩
  · rw [e]; exact ⟨r, rfl, hr⟩
end Go.Proofs.Ytabfjapdbelcoaa
