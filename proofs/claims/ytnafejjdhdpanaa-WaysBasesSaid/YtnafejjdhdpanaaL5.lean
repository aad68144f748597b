/-
  The reference of layer 5 in plain Lean: put, Reach, Back.
-/
import Derived.Test.YtnafejjdhdpanaaL4
import Derived.Test.YtnafejjdhdpanaaSkXA
namespace Go.Proofs.Ytnafejjdhdpanaa
open Go Go.Ab
set_option linter.unusedSimpArgs false
set_option linter.unusedVariables false

theorem rHas_eq (l : List Int) (n : Int) : ref05_Has l n = some (decide (n ∈ l)) := has_loop fun k x hx => rfl
theorem rSame_eq (a b : List Int) : ref05_Same a b = some (decide (a = b)) :=
  same_len fun k x y hx hy => by unfold ref05_Same_b1; rw [idxL_nat hy]; rfl
/-! ### put -/
theorem put_eq {l : List Int} (h : Inc l) (hl : l.length ≤ 100000000) (n : Int) : ∃ r, ref05_put l n = some r ∧ Inc r ∧ (∀ x, x ∈ r ↔ x ∈ l ∨ x = n) := by
  have hpw := List.pairwise_iff_getElem.1 h
  obtain ⟨s, h1, h2, h3, h4, h5, h6⟩ := forIx_run (ρ := List Int) (step := ref05_put_b1 n) (l := l) (s := (false, [])) (fun k s => Inc s.2 ∧ (∀ y ∈ s.2, (y ∈ l.take k ∨ (y = n ∧ ∀ z ∈ l.drop k, n < z))) ∧ (∀ x, x ∈ s.2 ↔ x ∈ l.take k ∨ (s.1 = true ∧ x = n)) ∧ (s.1 = false → ∀ x ∈ l.take k, x < n) ∧ s.2.length ≤ k + 1)
    ⟨List.Pairwise.nil, by simp, by simp, by simp, by simp⟩ (fun k x s hk ⟨i1, i2, i3, i4, i5⟩ => by
      obtain ⟨d, o⟩ := s
      simp only at i1 i2 i3 i4 i5
      have hlt := (List.getElem?_eq_some_iff.1 hk).1
      have hx : l[k] = x := (List.getElem?_eq_some_iff.1 hk).2
      have tk : ∀ y ∈ l.take k, y < x := fun y hy => by
        obtain ⟨i, hi, rfl⟩ := List.getElem_of_mem hy
        rw [List.length_take] at hi
        rw [List.getElem_take, ← hx]
        exact hpw i k (by omega) hlt (by omega)
      have dk : l.drop k = x :: l.drop (k + 1) := by rw [List.drop_eq_getElem_cons hlt, hx]
      have dk1 : ∀ z ∈ l.drop (k + 1), x < z := fun z hz => by
        obtain ⟨i, hi, rfl⟩ := List.getElem_of_mem hz
        rw [List.length_drop] at hi
        rw [List.getElem_drop, ← hx]
        exact hpw k (k + 1 + i) hlt (by omega) (by omega)
      have ts := take_succ_some hk
      have olt : ∀ y ∈ o, (d = true → y < x) ∧ (d = false → y < x ∧ y < n) := fun y hy => by
        refine ⟨fun _ => ?_, fun hd => ?_⟩
        · rcases i2 y hy with h | ⟨rfl, h⟩
          · exact tk y h
          · exact h x (by rw [dk]; simp)
        · rcases (i3 y).1 hy with h | ⟨h, _⟩
          · exact ⟨tk y h, i4 hd y h⟩
          · rw [hd] at h; cases h
      have app : ∀ {o : List Int} {z : Int}, Inc o → (∀ y ∈ o, y < z) → Inc (o ++ [z]) := fun ho hz => by
        unfold Inc
        rw [List.pairwise_append]
        refine ⟨ho, by simp, fun a ha b hb => ?_⟩
        simp at hb; subst hb; exact hz a ha
      unfold ref05_put_b1
      simp only
      cases d with
      | true =>
        simp only [Bool.not_true, cond_false]
        rw [chk_ok (by omega)]
        refine ⟨_, rfl, app i1 fun y hy => (olt y hy).1 rfl, fun y hy => ?_, fun y => ?_, (fun h => by cases h), by simp; omega⟩
        · rw [ts]
          rcases List.mem_append.1 hy with hy | hy
          · rcases i2 y hy with h | ⟨h, h'⟩
            · exact .inl (List.mem_append.2 (.inl h))
            · exact .inr ⟨h, fun z hz => h' z (by rw [dk]; exact List.mem_cons_of_mem _ hz)⟩
          · exact .inl (List.mem_append.2 (.inr hy))
        · simp only [ts, List.mem_append, i3, List.mem_singleton]
          constructor
          · rintro ((h | h) | h)
            · exact .inl (.inl h)
            · exact .inr h
            · exact .inl (.inr h)
          · rintro ((h | h) | h)
            · exact .inl (.inl h)
            · exact .inr h
            · exact .inl (.inr h)
      | false =>
        simp only [Bool.not_false, cond_true]
        have hok : o.length ≤ k := by
          have := nodup_len i1.nodup (b := l.take k) fun z hz => by
            rcases (i3 z).1 hz with h | ⟨h, _⟩
            · exact h
            · cases h
          rw [List.length_take] at this; omega
        by_cases c1 : n ≤ x
        · rw [decide_eq_true c1, cond_true]
          by_cases c2 : n < x
          · rw [decide_eq_true c2, cond_true, chk_ok (by omega), chk_ok (by omega)]
            refine ⟨_, rfl, app (app i1 fun y hy => ((olt y hy).2 rfl).2) fun y hy => ?_, fun y hy => ?_, fun y => ?_, (fun h => by cases h), by simp; omega⟩
            · rcases List.mem_append.1 hy with hy | hy
              · exact ((olt y hy).2 rfl).1
              · simp at hy; subst hy; exact c2
            · rw [ts]
              simp only [List.mem_append, List.mem_singleton] at hy ⊢
              rcases hy with (hy | hy) | hy
              · rcases i2 y hy with h | ⟨h, h'⟩
                · exact .inl (.inl h)
                · exact .inr ⟨h, fun z hz => h' z (by rw [dk]; exact List.mem_cons_of_mem _ hz)⟩
              · exact .inr ⟨hy, fun z hz => by have := dk1 z hz; omega⟩
              · exact .inl (.inr hy)
            · simp only [ts, List.mem_append, i3, List.mem_singleton]
              constructor
              · rintro (((h | ⟨h, _⟩) | h) | h)
                · exact .inl (.inl h)
                · cases h
                · exact .inr ⟨trivial, h⟩
                · exact .inl (.inr h)
              · rintro ((h | h) | ⟨_, h⟩)
                · exact .inl (.inl (.inl h))
                · exact .inr h
                · exact .inl (.inr h)
          · have e : x = n := by omega
            rw [decide_eq_false c2, cond_false, chk_ok (by omega)]
            refine ⟨_, rfl, app i1 fun y hy => ((olt y hy).2 rfl).1, fun y hy => ?_, fun y => ?_, (fun h => by cases h), by simp; omega⟩
            · rw [ts]
              simp only [List.mem_append, List.mem_singleton] at hy ⊢
              rcases hy with hy | hy
              · rcases i2 y hy with h | ⟨h, h'⟩
                · exact .inl (.inl h)
                · exact .inr ⟨h, fun z hz => h' z (by rw [dk]; exact List.mem_cons_of_mem _ hz)⟩
              · exact .inl (.inr hy)
            · simp only [ts, List.mem_append, i3, List.mem_singleton]
              constructor
              · rintro ((h | ⟨h, _⟩) | h)
                · exact .inl (.inl h)
                · cases h
                · exact .inl (.inr h)
              · rintro ((h | h) | ⟨_, h⟩)
                · exact .inl (.inl h)
                · exact .inr h
                · exact .inr (by rw [e]; exact h)
        · rw [decide_eq_false c1, cond_false, chk_ok (by omega)]
          refine ⟨_, rfl, app i1 fun y hy => ((olt y hy).2 rfl).1, fun y hy => ?_, fun y => ?_, fun _ y hy => ?_, by simp; omega⟩
          · rw [ts]
            simp only [List.mem_append, List.mem_singleton] at hy ⊢
            rcases hy with hy | hy
            · rcases i2 y hy with h | ⟨h, h'⟩
              · exact .inl (.inl h)
              · exact .inr ⟨h, fun z hz => h' z (by rw [dk]; exact List.mem_cons_of_mem _ hz)⟩
            · exact .inl (.inr hy)
          · simp only [ts, List.mem_append, i3, List.mem_singleton]
            constructor
            · rintro ((h | ⟨h, _⟩) | h)
              · exact .inl (.inl h)
              · cases h
              · exact .inl (.inr h)
            · rintro ((h | h) | ⟨h, _⟩)
              · exact .inl (.inl h)
              · exact .inr h
              · cases h
          · rw [ts] at hy
            rcases List.mem_append.1 hy with hy | hy
            · exact i4 rfl y hy
            · simp at hy; subst hy; omega)
  rw [List.take_length] at h4 h5
  unfold ref05_put
  rw [h1]
  show ∃ r, (bif (!s.1) then _ else _) = some r ∧ _
  cases hd : s.1 with
  | true =>
    refine ⟨s.2, rfl, h2, fun x => ?_⟩
    rw [h4, hd]; simp
  | false =>
    rw [Bool.not_false, cond_true, chk_ok (by omega)]
    refine ⟨_, rfl, ?_, fun x => ?_⟩
    · unfold Inc
      rw [List.pairwise_append]
      refine ⟨h2, by simp, fun a ha b hb => ?_⟩
      simp at hb; subst hb
      rcases (h4 a).1 ha with h | ⟨h, _⟩
      · exact h5 hd a h
      · rw [hd] at h; cases h
    · simp only [List.mem_append, List.mem_singleton, h4, hd]; simp
theorem put_in {l r : List Int} {n : Int} (h : Inc l) (hr : Inc r) (hm : ∀ x, x ∈ r ↔ x ∈ l ∨ x = n) (hn : n ∈ l) : r = l :=
  inc_ext hr h fun x => by rw [hm]; exact ⟨fun h => h.elim id fun h => h ▸ hn, .inl⟩
theorem put_out {l r : List Int} {n : Int} (h : Inc l) (hr : Inc r) (hm : ∀ x, x ∈ r ↔ x ∈ l ∨ x = n) (hn : n ∉ l) : r.length = l.length + 1 := by
  have h1 : (n :: l).Nodup := List.nodup_cons.2 ⟨hn, h.nodup⟩
  have a := nodup_len h1 (b := r) fun x hx => by rw [hm]; rcases List.mem_cons.1 hx with h | h; exact .inr h; exact .inl h
  have b := nodup_len hr.nodup (b := n :: l) fun x hx => by rcases (hm x).1 hx with h | h; exact List.mem_cons_of_mem _ h; exact h ▸ List.mem_cons_self
  simp at a b; omega

/-! ### Reach -/
theorem rReach_pass {l : List ApiEdge} {f out : List Int} (h : Inc out) (hr : ∀ n ∈ out, Rch l (· ∈ f) n) (hC : (f ++ l.map (·.To)).length ≤ 1000000) :
    ∃ s, forIx ref05_Reach_b3 0 l out = some (.next s) ∧ Inc s ∧ (∀ n ∈ s, Rch l (· ∈ f) n) ∧ (∀ n ∈ out, n ∈ s) ∧ ((s = out ∧ ∀ e ∈ l, e.From ∈ out → e.To ∈ out) ∨ out.length < s.length) := by
  obtain ⟨s, h1, h2, h3, h4, h5⟩ := forIx_run (ρ := Out (List Int × Int) (List Int)) (step := ref05_Reach_b3) (l := l) (s := out) (fun k s => Inc s ∧ (∀ n ∈ s, Rch l (· ∈ f) n) ∧ (∀ n ∈ out, n ∈ s) ∧ ((s = out ∧ ∀ e ∈ l.take k, e.From ∈ out → e.To ∈ out) ∨ out.length < s.length))
    ⟨h, hr, fun n h => h, .inl ⟨rfl, by simp⟩⟩ (fun k e s hk ⟨i1, i2, i3, i4⟩ => by
      have he := List.mem_of_getElem? hk
      unfold ref05_Reach_b3
      rw [rHas_eq, Option.bind_some]
      have hlen : s.length ≤ 1000000 := Nat.le_trans (nodup_len i1.nodup fun n hn => rch_bound (i2 n hn)) hC
      by_cases hf : e.From ∈ s
      · obtain ⟨r, g1, g2, g3⟩ := put_eq i1 (by omega) e.To
        rw [decide_eq_true hf, cond_true, g1]
        refine ⟨r, rfl, g2, fun n hn => ?_, fun n hn => (g3 n).2 (.inl (i3 n hn)), ?_⟩
        · rcases (g3 n).1 hn with h | rfl
          · exact i2 n h
          · exact .step he (i2 _ hf)
        · by_cases ht : e.To ∈ s
          · obtain rfl := put_in i1 g2 g3 ht
            rcases i4 with ⟨rfl, h⟩ | h
            · refine .inl ⟨rfl, fun x hx => ?_⟩
              rw [take_succ_some hk] at hx
              rcases List.mem_append.1 hx with hx | hx
              · exact h x hx
              · simp at hx; subst hx; exact fun _ => ht
            · exact .inr h
          · have := put_out i1 g2 g3 ht
            refine .inr ?_
            rcases i4 with ⟨rfl, _⟩ | h <;> omega
      · rw [decide_eq_false hf, cond_false]
        refine ⟨s, rfl, i1, i2, i3, ?_⟩
        rcases i4 with ⟨rfl, h⟩ | h
        · refine .inl ⟨rfl, fun x hx => ?_⟩
          rw [take_succ_some hk] at hx
          rcases List.mem_append.1 hx with hx | hx
          · exact h x hx
          · simp at hx; subst hx; exact fun h => absurd h hf
        · exact .inr h)
  rw [List.take_length] at h5
  exact ⟨s, h1, h2, h3, h4, h5⟩
theorem rReach_eq {l : List ApiEdge} {f : List Int} (hl : l.length ≤ 100000) (hf : f.length ≤ 100000) : ∃ r, ref05_Reach l f = some r ∧ RchList l f r := by
  have hC : (f ++ l.map (·.To)).length ≤ 1000000 := by simp; omega
  obtain ⟨s, h1, h2, h3⟩ := forIx_run (ρ := List Int) (step := ref05_Reach_b4) (l := f) (s := []) (fun k s => Inc s ∧ ∀ x, x ∈ s ↔ x ∈ f.take k) ⟨List.Pairwise.nil, by simp⟩ (fun k x s hk ⟨i1, i2⟩ => by
    have hlen : s.length ≤ 100000 := Nat.le_trans (nodup_len i1.nodup (b := f) fun n hn => List.mem_of_mem_take ((i2 n).1 hn)) hf
    obtain ⟨r, g1, g2, g3⟩ := put_eq i1 (by omega) x
    refine ⟨r, by unfold ref05_Reach_b4; rw [g1]; rfl, g2, fun y => ?_⟩
    rw [g3, i2, take_succ_some hk]; simp)
  rw [List.take_length] at h3
  have s1 : ∀ n ∈ s, Rch l (· ∈ f) n := fun n hn => .base ((h3 n).1 hn)
  unfold ref05_Reach
  rw [h1]
  show ∃ r, ref05_Reach_j1 l s = some r ∧ _
  unfold ref05_Reach_j1
  have hlen : ∀ o : List Int, Inc o → (∀ n ∈ o, Rch l (· ∈ f) n) → o.length ≤ 1000000 := fun o ho hr => Nat.le_trans (nodup_len ho.nodup fun n hn => rch_bound (hr n hn)) hC
  obtain ⟨r, g1, g2⟩ := whileN_inv (step := ref05_Reach_b2 l) (fun st => Inc st.1 ∧ (∀ n ∈ st.1, Rch l (· ∈ f) n) ∧ (∀ n ∈ f, n ∈ st.1) ∧ st.2 ≤ (st.1.length : Int) ∧ (st.2 = (st.1.length : Int) → ∀ e ∈ l, e.From ∈ st.1 → e.To ∈ st.1)) (fun r => RchList l f r)
    (fun st => 2 * (1000000 - st.1.length) + if st.2 < (st.1.length : Int) then 1 else 0) (fun st ⟨i1, i2, i3, i4, i5⟩ => by
      obtain ⟨o, w⟩ := st
      simp only at i1 i2 i3 i4 i5 ⊢
      unfold ref05_Reach_b2
      simp only
      by_cases hw : w < (o.length : Int)
      · obtain ⟨s, e1, e2, e3, e4, e5⟩ := rReach_pass i1 i2 hC
        rw [decide_eq_true hw, cond_true, e1]
        have := hlen s e2 e3
        have := hlen o i1 i2
        refine .inl ⟨_, rfl, ⟨e2, e3, fun n hn => e4 n (i3 n hn), ?_, fun hh => ?_⟩, ?_⟩
        · simp only
          rcases e5 with ⟨rfl, _⟩ | h <;> omega
        · rcases e5 with ⟨rfl, h⟩ | h
          · exact h
          · simp only at hh; omega
        · simp only
          rw [if_pos hw]
          rcases e5 with ⟨rfl, _⟩ | h
          · rw [if_neg (by omega)]; omega
          · rw [if_pos (by omega)]; omega
      · rw [decide_eq_false hw, cond_false]
        exact .inr ⟨o, rfl, .of_closed i1 i2 i3 (i5 (by omega))⟩) fuel (s, -1) ⟨h2, s1, fun n hn => (h3 n).2 hn, by simp only; omega, fun h => by simp only at h; omega⟩ (by show _ < 1099511627776; simp only; split <;> omega)
  rw [g1]
  exact ⟨r, rfl, g2⟩
theorem rTurned_eq {l : List ApiEdge} (hl : l.length ≤ 100000) : ref05_turned l = some (turn l) := by
  unfold ref05_turned
  rw [forIx_collect (step := ref05_turned_b1) (fun _ => true) turnE (by omega) (fun k x s hx => rfl), List.filter_eq_self.2 (fun a _ => rfl)]; rfl
theorem rBack_eq {l : List ApiEdge} {f : List Int} (hl : l.length ≤ 100000) (hf : f.length ≤ 100000) : ∃ r, ref05_Back l f = some r ∧ RchList (turn l) f r := by
  obtain ⟨r, h1, h2⟩ := rReach_eq (l := turn l) (f := f) (by simpa [turn] using hl) hf
  refine ⟨r, ?_, h2⟩
  unfold ref05_Back
  rw [rTurned_eq hl, Option.bind_some, h1]; rfl
end Go.Proofs.Ytnafejjdhdpanaa
