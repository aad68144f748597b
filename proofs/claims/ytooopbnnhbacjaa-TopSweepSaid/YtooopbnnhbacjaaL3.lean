/-
  graph.Reach in plain Lean.
-/
import Derived.Test.YtooopbnnhbacjaaL2
import Derived.Test.YtooopbnnhbacjaaSkXA
namespace Go.Proofs.Ytooopbnnhbacjaa
open Go Go.Ab
set_option linter.unusedSimpArgs false
set_option linter.unusedVariables false

theorem next_get (l : List ApiEdge) (n : Int) : mget [] (graph_Reach_next l) n = (l.filter fun e => decide (e.From = n)).map (·.To) := by
  have key : ∀ (l : List ApiEdge) (g : List (Int × List Int)), mget [] (l.foldl (fun g e => gadd g e.From e.To) g) n = mget [] g n ++ (l.filter fun e => decide (e.From = n)).map (·.To) := by
    intro l
    induction l with
    | nil => intro g; simp
    | cons e l ih =>
      intro g
      rw [List.foldl_cons, ih, mget_gadd]
      by_cases h : e.From = n <;> simp [h]
  have := key l []
  simpa [mget, graph_Reach_next] using this
theorem reach_b1_step (l : List ApiEdge) (m : List (Int × Bool)) (i : List Int) (x : Int) (hi : i.length ≤ 549755813888) :
    graph_Reach_b1 l (m, i ++ [x]) = bif (!(mget false m x)) then chk (i.length + (mget [] (graph_Reach_next l) x).length) (some (Out.next (mset m x true, i ++ mget [] (graph_Reach_next l) x))) else some (Out.next (m, i)) := by
  unfold graph_Reach_b1
  have e1 : IntKind.i64.wrap ((((i ++ [x]).length : Nat) : Int) - 1) = ((i.length : Nat) : Int) := by
    rw [wrap_i64] <;> simp <;> omega
  simp only [e1]
  rw [decide_eq_true (show (0 : Int) < (((i ++ [x]).length : Nat) : Int) by simp), cond_true, idxL_nat (x := x) (by simp), Option.bind_some, okB_ok (by simp; omega)]
  simp [List.take_left]
/-- Reach answers what is said of it. -/
theorem reach_eq {l : List ApiEdge} {f : List Int} (hl : l.length ≤ 100000) (hf : f.length ≤ 100000) (hE : ∀ e ∈ l, I64 e.To) (hF : ∀ n ∈ f, I64 n) : ∃ r, graph_Reach l f = some r ∧ RchList l f r := by
  have hlen : ∀ n, (mget [] (graph_Reach_next l) n).length ≤ l.length := fun n => by
    rw [next_get, List.length_map]; exact List.length_filter_le _ _
  have hC : (f ++ l.map (·.To)).length = f.length + l.length := by simp
  have hB : (f.length + l.length) * (l.length + 1) + f.length ≤ 30000000000 := by
    have := Nat.mul_le_mul (show f.length + l.length ≤ 200000 by omega) (show l.length + 1 ≤ 100001 by omega)
    omega
  obtain ⟨r, h1, h2⟩ := whileN_inv (step := graph_Reach_b1 l)
    (fun s => (mkeys s.1).Nodup ∧ (∀ n, mget false s.1 n = true ↔ n ∈ mkeys s.1) ∧ (∀ n ∈ mkeys s.1, Rch l (· ∈ f) n) ∧ (∀ n ∈ s.2, Rch l (· ∈ f) n) ∧ (∀ n ∈ f, n ∈ mkeys s.1 ∨ n ∈ s.2) ∧ (∀ e ∈ l, e.From ∈ mkeys s.1 → e.To ∈ mkeys s.1 ∨ e.To ∈ s.2) ∧
      (f.length + l.length - s.1.length) * (l.length + 1) + s.2.length ≤ 30000000000)
    (fun r => RchList l f r) (fun s => (f.length + l.length - s.1.length) * (l.length + 1) + s.2.length) (fun s ⟨i1, i2, i3, i4, i5, i6, i7⟩ => by
      obtain ⟨m, o⟩ := s
      simp only at i1 i2 i3 i4 i5 i6 i7 ⊢
      have hk : m.length ≤ f.length + l.length := by
        have := nodup_len i1 (b := f ++ l.map (·.To)) fun n hn => rch_bound (i3 n hn)
        rw [hC] at this
        simpa [mkeys] using this
      have ho : o = [] ∨ ∃ i x, o = i ++ [x] := by
        rcases List.eq_nil_or_concat o with h | ⟨i, x, h⟩
        · exact .inl h
        · exact .inr ⟨i, x, by rw [h, List.concat_eq_append]⟩
      rcases ho with rfl | ⟨i, x, rfl⟩
      · refine .inr ⟨sortI (mkeys m), ?_, ?_⟩
        · unfold graph_Reach_b1
          have hr : ∀ k ∈ mkeys m, -9223372036854775808 ≤ k ∧ k ≤ 9223372036854775807 := fun k hk => by
            rcases List.mem_append.1 (rch_bound (i3 k hk)) with h | h
            · exact hF k h
            · obtain ⟨e, he, rfl⟩ := List.mem_map.1 h; exact hE e he
          simp only [List.length_nil, Int.natCast_zero, Int.lt_irrefl, decide_false, cond_false]
          rw [okB_ok hr, chk_ok (by omega)]; rfl
        · refine .of_closed (sortI_inc i1) (fun n hn => i3 n ((sortI_mem _ _).1 hn)) (fun n hn => (sortI_mem _ _).2 ?_) (fun e he hm => (sortI_mem _ _).2 ?_)
          · simpa using i5 n hn
          · simpa using i6 e he ((sortI_mem _ _).1 hm)
      · simp only [List.length_append, List.length_cons, List.length_nil] at i7
        rw [reach_b1_step l m i x (by omega)]
        have hx := i4 x (by simp)
        cases hb : mget false m x with
        | false =>
          have hnew : x ∉ mkeys m := fun h => by rw [(i2 x).2 h] at hb; cases hb
          have hlx := hlen x
          have hle : m.length + 1 ≤ f.length + l.length := by
            have hn : (x :: mkeys m).Nodup := List.nodup_cons.2 ⟨hnew, i1⟩
            have := nodup_len hn (b := f ++ l.map (·.To)) fun n hn => by
              rcases List.mem_cons.1 hn with rfl | hn
              · exact rch_bound hx
              · exact rch_bound (i3 n hn)
            rw [hC] at this
            simpa [mkeys] using this
          have hml : (mset m x true).length = m.length + 1 := by
            have hh : mhas m x = false := by
              cases h : mhas m x with
              | false => rfl
              | true => exact absurd ((mhas_iff m x).1 h) hnew
            rw [mset_length, hh]; rfl
          have hk2 : mkeys (mset m x true) = mkeys m ++ [x] := by rw [mset_keys, if_neg hnew]
          obtain ⟨d, hd⟩ : ∃ d, f.length + l.length = m.length + 1 + d := ⟨_, (Nat.add_sub_cancel' hle).symm⟩
          have e1 : f.length + l.length - m.length = d + 1 := by omega
          have e2 : f.length + l.length - (m.length + 1) = d := by omega
          rw [e1, Nat.succ_mul] at i7
          simp only [Bool.not_false, cond_true]
          rw [chk_ok (by omega)]
          refine .inl ⟨_, rfl, ⟨mset_nodup i1 _ _, fun n => ?_, fun n hn => ?_, fun n hn => ?_, fun n hn => ?_, fun e he hm => ?_, ?_⟩, ?_⟩
          · simp only [hk2, mget_mset, List.mem_append, List.mem_singleton]
            by_cases h : x = n
            · simp [h]
            · rw [if_neg h, i2]; exact ⟨.inl, fun h' => h'.elim id fun h' => absurd h'.symm h⟩
          · simp only [hk2, List.mem_append, List.mem_singleton] at hn
            rcases hn with hn | rfl
            · exact i3 n hn
            · exact hx
          · rcases List.mem_append.1 hn with hn | hn
            · exact i4 n (by simp [hn])
            · rw [next_get] at hn
              obtain ⟨e, he, rfl⟩ := List.mem_map.1 hn
              have := List.mem_filter.1 he
              have hfx := of_decide_eq_true this.2
              exact .step this.1 (hfx ▸ hx)
          · simp only [hk2, List.mem_append, List.mem_singleton]
            rcases i5 n hn with h | h
            · exact .inl (.inl h)
            · rcases List.mem_append.1 h with h | h
              · exact .inr (.inl h)
              · exact .inl (.inr (by simpa using h))
          · simp only [hk2, List.mem_append, List.mem_singleton] at hm ⊢
            rcases hm with hm | hm
            · rcases i6 e he hm with h | h
              · exact .inl (.inl h)
              · rcases List.mem_append.1 h with h | h
                · exact .inr (.inl h)
                · exact .inl (.inr (by simpa using h))
            · refine .inr (.inr ?_)
              rw [next_get]
              exact List.mem_map.2 ⟨e, List.mem_filter.2 ⟨he, decide_eq_true hm⟩, rfl⟩
          · simp only [hml, e2, List.length_append]; omega
          · simp only [hml, e1, e2, List.length_append, Nat.succ_mul, List.length_cons, List.length_nil]; omega
        | true =>
          have hold := (i2 x).1 hb
          refine .inl ⟨_, rfl, ⟨i1, i2, i3, fun n hn => i4 n (by simp [hn]), fun n hn => ?_, fun e he hm => ?_, ?_⟩, ?_⟩
          · rcases i5 n hn with h | h
            · exact .inl h
            · rcases List.mem_append.1 h with h | h
              · exact .inr h
              · exact .inl (by rw [show n = x by simpa using h]; exact hold)
          · rcases i6 e he hm with h | h
            · exact .inl h
            · rcases List.mem_append.1 h with h | h
              · exact .inr h
              · exact .inl (by rw [show e.To = x by simpa using h]; exact hold)
          · simp only; omega
          · simp only [List.length_append, List.length_cons, List.length_nil]; omega)
    fuel ([], f) ⟨by simp [mkeys], by simp [mget, mkeys], by simp [mkeys], fun n hn => .base hn, fun n hn => .inr hn, by simp [mkeys], by simpa using hB⟩ (by show _ < 1099511627776; simp only [List.length_nil, Nat.sub_zero]; omega)
  refine ⟨r, ?_, h2⟩
  unfold graph_Reach slices_Clone_sint_int
  rw [chk_ok (by omega), chk_ok (by omega), Option.bind_some, h1]; rfl

end Go.Proofs.Ytooopbnnhbacjaa
