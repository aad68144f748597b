/-
  Layer 32 (fraud): suspects; the examples; the laws that compare with the reference, in plain Lean.
-/
import Derived.Test.YtmfjcimogpmheaaL6
namespace Go.Proofs.Ytmfjcimogpmheaa
open Go Go.Ab
set_option linter.unusedSimpArgs false
set_option linter.unusedVariables false

/-- the number n put into a rising list -/
def insW (n : Int) : Bool → List Int → List Int
  | d, [] => if d then [] else [n]
  | d, x :: l => if x = n then x :: insW n true l else if n < x ∧ d = false then n :: x :: insW n true l else x :: insW n d l
theorem insW_true (n : Int) : ∀ l : List Int, insW n true l = l
  | [] => rfl
  | x :: l => by unfold insW; rw [insW_true n l]; simp
theorem insW_mem (n : Int) : ∀ (l : List Int) (a : Int), a ∈ insW n false l ↔ a ∈ l ∨ a = n
  | [], a => by simp [insW]
  | x :: l, a => by
    unfold insW
    by_cases h : x = n
    · subst h; rw [if_pos rfl, insW_true]; simp; exact fun h => .inl h
    · rw [if_neg h]
      by_cases h' : n < x
      · rw [if_pos ⟨h', rfl⟩, insW_true]; simp [or_comm, or_left_comm, or_assoc]
      · rw [if_neg (fun k => h' k.1), List.mem_cons, insW_mem n l a, List.mem_cons, or_assoc]
theorem insW_inc (n : Int) : ∀ {l : List Int}, Inc l → Inc (insW n false l)
  | [], _ => by simp [insW, Inc]
  | x :: l, h => by
    have h1 := (List.pairwise_cons.1 h)
    unfold insW
    by_cases e : x = n
    · subst e; rw [if_pos rfl, insW_true]; exact h
    · rw [if_neg e]
      by_cases h' : n < x
      · rw [if_pos ⟨h', rfl⟩, insW_true]
        refine List.pairwise_cons.2 ⟨fun y hy => ?_, h⟩
        rcases List.mem_cons.1 hy with rfl | hy
        · exact h'
        · have := h1.1 y hy; omega
      · rw [if_neg (fun k => h' k.1)]
        refine List.pairwise_cons.2 ⟨fun y hy => ?_, insW_inc n h1.2⟩
        rcases (insW_mem n l y).1 hy with hy | rfl
        · exact h1.1 y hy
        · omega
theorem insW_len (n : Int) : ∀ (l : List Int) (d : Bool), (insW n d l).length ≤ l.length + 1
  | [], d => by cases d <;> simp [insW]
  | x :: l, d => by
    unfold insW
    split
    · have := insW_len n l true; simp; omega
    · split
      · rw [insW_true]; simp
      · have := insW_len n l d; simp; omega
theorem with_loop (n : Int) : ∀ (l : List Int) (k : Nat) (d : Bool) (o : List Int), o.length + 2 * l.length + 2 ≤ 549755813888 →
    ∃ d' o', forIx (ref32_with_b1 n) k l (d, o) = some (.next (d', o')) ∧ o ++ insW n d l = (if d' then o' else o' ++ [n]) ∧ o'.length ≤ o.length + 2 * l.length
  | [], k, d, o, h => ⟨d, o, rfl, by cases d <;> simp [insW], by simp⟩
  | x :: l, k, d, o, h => by
    rw [List.length_cons] at h
    have go : ∀ (d1 : Bool) (o1 : List Int), o1.length ≤ o.length + 2 → ref32_with_b1 n k x (d, o) = some (.next (d1, o1)) → o ++ insW n d (x :: l) = o1 ++ insW n d1 l → ∃ d' o', forIx (ref32_with_b1 n) k (x :: l) (d, o) = some (.next (d', o')) ∧ o ++ insW n d (x :: l) = (if d' then o' else o' ++ [n]) ∧ o'.length ≤ o.length + 2 * (x :: l).length := by
      intro d1 o1 h1 h2 h3
      obtain ⟨d', o', g1, g2, g3⟩ := with_loop n l (k + 1) d1 o1 (by omega)
      refine ⟨d', o', ?_, by rw [h3, g2], by rw [List.length_cons]; omega⟩
      unfold forIx
      rw [h2]; exact g1
    by_cases e : x = n
    · refine go true (o ++ [x]) (by simp) ?_ ?_
      · unfold ref32_with_b1
        rw [decide_eq_true e, cond_true, decide_eq_false (by omega), cond_false, chk_ok (by simp only; omega)]
      · rw [insW, if_pos e]; simp
    · by_cases h' : n < x
      · cases d with
        | true =>
          refine go true (o ++ [x]) (by simp) ?_ ?_
          · unfold ref32_with_b1
            rw [decide_eq_false e, cond_false, decide_eq_true h', cond_true]
            simp only [Bool.not_true, cond_false]
            rw [chk_ok (by omega)]
          · rw [insW, if_neg e, if_neg (by simp)]; simp
        | false =>
          refine go true (o ++ [n] ++ [x]) (by simp) ?_ ?_
          · unfold ref32_with_b1
            rw [decide_eq_false e, cond_false, decide_eq_true h', cond_true]
            simp only [Bool.not_false, cond_true]
            rw [chk_ok (by omega), chk_ok (by omega)]
          · rw [insW, if_neg e, if_pos ⟨h', rfl⟩]; simp
      · refine go d (o ++ [x]) (by simp) ?_ ?_
        · unfold ref32_with_b1
          rw [decide_eq_false e, cond_false, decide_eq_false h', cond_false, chk_ok (by simp only; omega)]
        · rw [insW, if_neg e, if_neg (fun k => h' k.1)]; simp
theorem with_eq {l : List Int} (hl : l.length ≤ 100000000) (n : Int) : ref32_with l n = some (insW n false l) := by
  obtain ⟨d', o', h1, h2, h3⟩ := with_loop n l 0 false [] (by simp; omega)
  rw [List.nil_append] at h2
  unfold ref32_with
  rw [h1, Option.bind_some, h2]
  show (bif (!d') then _ else _) = _
  cases d' with
  | true => rfl
  | false => simp only [Bool.not_false, cond_true]; rw [chk_ok (by simp at h3; omega)]; rfl

/-! ### Suspects -/
theorem ix_mem {q j : Int} : ∀ {l : List ApiRide} {k : Nat}, j ∈ ix q k l ↔ ∃ (i : Nat) (x : ApiRide), l[i]? = some x ∧ keyR x = q ∧ j = ((k + i : Nat) : Int)
  | [], k => by simp [ix]
  | y :: l, k => by
    unfold ix
    constructor
    · intro h
      by_cases e : keyR y = q
      · rw [if_pos e] at h
        rcases List.mem_cons.1 h with rfl | h
        · exact ⟨0, y, rfl, e, rfl⟩
        · obtain ⟨i, x, h1, h2, h3⟩ := ix_mem.1 h
          exact ⟨i + 1, x, h1, h2, by rw [h3]; omega⟩
      · rw [if_neg e] at h
        obtain ⟨i, x, h1, h2, h3⟩ := ix_mem.1 h
        exact ⟨i + 1, x, h1, h2, by rw [h3]; omega⟩
    · rintro ⟨i, x, h1, h2, h3⟩
      cases i with
      | zero =>
        simp at h1; subst h1
        rw [if_pos h2, h3]; simp
      | succ i =>
        have : j ∈ ix q (k + 1) l := ix_mem.2 ⟨i, x, by simpa using h1, h2, by rw [h3]; omega⟩
        split
        · exact List.mem_cons_of_mem _ this
        · exact this
theorem clL_mem {p : ApiSuspicion} : ∀ {l : List ApiRide} {k : Nat}, p ∈ clL k l ↔ ∃ (i j : Nat) (x y : ApiRide), i < j ∧ l[i]? = some x ∧ l[j]? = some y ∧ keyR x = keyR y ∧ p = ⟨((k + i : Nat) : Int), ((k + j : Nat) : Int)⟩
  | [], k => by simp [clL]
  | z :: l, k => by
    unfold clL
    rw [List.mem_append, List.mem_map, clL_mem]
    constructor
    · rintro (⟨j, hj, rfl⟩ | ⟨i, j, x, y, h1, h2, h3, h4, rfl⟩)
      · obtain ⟨i, x, h1, h2, rfl⟩ := ix_mem.1 hj
        exact ⟨0, i + 1, z, x, by omega, rfl, h1, h2.symm, by rw [show k + 1 + i = k + (i + 1) by omega]; rfl⟩
      · exact ⟨i + 1, j + 1, x, y, by omega, h2, h3, h4, by rw [show k + 1 + i = k + (i + 1) by omega, show k + 1 + j = k + (j + 1) by omega]⟩
    · rintro ⟨i, j, x, y, h1, h2, h3, h4, rfl⟩
      cases j with
      | zero => omega
      | succ j =>
        cases i with
        | zero =>
          simp at h2; subst h2
          exact .inl ⟨_, ix_mem.2 ⟨j, y, by simpa using h3, h4.symm, rfl⟩, by rw [show k + 1 + j = k + (j + 1) by omega]; rfl⟩
        | succ i => exact .inr ⟨i, j, x, y, by omega, by simpa using h2, by simpa using h3, h4, by rw [show k + 1 + i = k + (i + 1) by omega, show k + 1 + j = k + (j + 1) by omega]⟩
theorem impL_mem {m : ApiMap} {l : List ApiRide} {p : ApiSuspicion} : p ∈ impL m l ↔ ∃ (i : Nat), i < l.length ∧ impAt m l i = some p := by
  unfold impL
  rw [List.mem_filterMap]
  exact ⟨fun ⟨i, h1, h2⟩ => ⟨i, by simpa using h1, h2⟩, fun ⟨i, h1, h2⟩ => ⟨i, by simpa using h1, h2⟩⟩
theorem impAt_first {m : ApiMap} {l : List ApiRide} {i : Nat} {p : ApiSuspicion} (h : impAt m l i = some p) : p.First = (i : Int) ∧ i < l.length := by
  unfold impAt at h
  obtain ⟨x, h1, h2⟩ := bindE h
  obtain ⟨k, h3, h4⟩ := bindE h2
  obtain ⟨y, h5, h6⟩ := bindE h4
  split at h6
  · obtain rfl := Option.some.inj h6
    exact ⟨rfl, (List.getElem?_eq_some_iff.1 h1).1⟩
  · cases h6
/-- a medium that is suspected -/
def Sus (m : ApiMap) (l : List ApiRide) (a : Int) : Prop := (∃ (i : Nat) (x : ApiRide) (p : ApiSuspicion), impAt m l i = some p ∧ l[i]? = some x ∧ x.Serial = a) ∨ ∃ (i j : Nat) (x y : ApiRide), i < j ∧ l[i]? = some x ∧ l[j]? = some y ∧ keyR x = keyR y ∧ x.Serial = a
theorem clL_len : ∀ (l : List ApiRide) (k : Nat), (clL k l).length ≤ l.length * l.length
  | [], k => by simp [clL]
  | x :: l, k => by
    unfold clL
    have h1 := ix_len (keyR x) l (k + 1)
    have h2 := clL_len l (k + 1)
    rw [List.length_append, List.length_map, List.length_cons]
    have : (l.length + 1) * (l.length + 1) = l.length * l.length + 2 * l.length + 1 := by rw [Nat.mul_add, Nat.add_mul]; omega
    omega
theorem rsus_eq {m : ApiMap} (M : MapOK m) {l : List ApiRide} (hl : l.length ≤ 1000) : ∃ r, ref32_Suspects m l = some r ∧ Inc r ∧ ∀ a, a ∈ r ↔ Sus m l a := by
  have hi : (impL m l).length ≤ 1000 := by unfold impL; exact Nat.le_trans (filterMap_len _ _) (by simpa using hl)
  have hc : (clL 0 l).length ≤ 1000000 := by
    have := clL_len l 0
    have : l.length * l.length ≤ 1000 * 1000 := Nat.mul_le_mul hl hl
    omega
  unfold ref32_Suspects
  rw [rimp_eq M (by omega), rclones_eq hl, Option.bind_some, Option.bind_some, chk_ok (by omega)]
  have hfirst : ∀ p ∈ impL m l ++ clL 0 l, ∃ (i : Nat) (x : ApiRide), p.First = (i : Int) ∧ l[i]? = some x := by
    intro p hp
    rcases List.mem_append.1 hp with h | h
    · obtain ⟨i, h1, h2⟩ := impL_mem.1 h
      exact ⟨i, _, (impAt_first h2).1, List.getElem?_eq_getElem h1⟩
    · obtain ⟨i, j, x, y, h1, h2, h3, h4, rfl⟩ := clL_mem.1 h
      exact ⟨i, x, by simp, h2⟩
  obtain ⟨s, h1, h2, h3, h4⟩ := forN_run (ρ := List Int) (step := ref32_Suspects_b1 l (impL m l) (clL 0 l)) (n := (impL m l).length + (clL 0 l).length) (s := []) (by omega) (fun k s => s.length ≤ k ∧ Inc s ∧ ∀ a, a ∈ s ↔ ∃ p ∈ (impL m l ++ clL 0 l).take k, ∃ (i : Nat) (x : ApiRide), p.First = (i : Int) ∧ l[i]? = some x ∧ x.Serial = a)
    ⟨by simp, List.Pairwise.nil, by simp⟩ (fun k s hk ⟨i1, i2, i3⟩ => by
      have hx : (impL m l ++ clL 0 l)[k]? = some ((impL m l ++ clL 0 l)[k]'(by simp; omega)) := List.getElem?_eq_getElem _
      generalize (impL m l ++ clL 0 l)[k]'(by simp; omega) = p at hx
      obtain ⟨i, x, f1, f2⟩ := hfirst p (List.mem_of_getElem? hx)
      unfold ref32_Suspects_b1
      rw [idxL_nat hx, Option.bind_some, f1, idxL_nat f2, Option.bind_some, with_eq (by omega), Option.bind_some]
      refine ⟨_, rfl, ?_, insW_inc _ i2, fun a => ?_⟩
      · have := insW_len x.Serial s false; omega
      · rw [insW_mem, i3, take_succ_some hx]
        constructor
        · rintro (⟨q, h1, h2⟩ | rfl)
          · exact ⟨q, List.mem_append.2 (.inl h1), h2⟩
          · exact ⟨p, by simp, i, x, f1, f2, rfl⟩
        · rintro ⟨q, h1, i', x', h2, h3, h4⟩
          rcases List.mem_append.1 h1 with h1 | h1
          · exact .inl ⟨q, h1, i', x', h2, h3, h4⟩
          · simp at h1; subst h1
            have : i' = i := by omega
            subst this
            rw [f2] at h3; obtain rfl := Option.some.inj h3
            exact .inr h4.symm)
  rw [h1]
  refine ⟨s, rfl, h3, fun a => ?_⟩
  rw [h4, List.take_of_length_le (by simp)]
  constructor
  · rintro ⟨p, hp, i, x, e1, e2, e3⟩
    rcases List.mem_append.1 hp with h | h
    · obtain ⟨i', g1, g2⟩ := impL_mem.1 h
      have := (impAt_first g2).1
      have : i = i' := by omega
      subst this
      exact .inl ⟨i, x, p, g2, e2, e3⟩
    · obtain ⟨i', j, x', y, g1, g2, g3, g4, rfl⟩ := clL_mem.1 h
      have : i' = i := by simp at e1; omega
      subst this
      rw [g2] at e2; obtain rfl := Option.some.inj e2
      exact .inr ⟨i', j, x', y, g1, g2, g3, g4, e3⟩
  · rintro (⟨i, x, p, g1, g2, g3⟩ | ⟨i, j, x, y, g1, g2, g3, g4, g5⟩)
    · exact ⟨p, List.mem_append.2 (.inl (impL_mem.2 ⟨i, (impAt_first g1).2, g1⟩)), i, x, (impAt_first g1).1, g2, g3⟩
    · exact ⟨_, List.mem_append.2 (.inr (clL_mem.2 ⟨i, j, x, y, g1, g2, g3, g4, rfl⟩)), i, x, by simp, g2, g5⟩
theorem fsus_eq {m : ApiMap} (M : MapOK m) {l : List ApiRide} (hl : l.length ≤ 1000) : ∃ r, fraud_Suspects m l = some r ∧ Inc r ∧ ∀ a, a ∈ r ↔ Sus m l a := by
  have hi : (impL m l).length ≤ 1000 := by unfold impL; exact Nat.le_trans (filterMap_len _ _) (by simpa using hl)
  unfold fraud_Suspects
  rw [fimp_eq M (by omega), Option.bind_some]
  obtain ⟨s, h1, h2, h3⟩ := forIx_run (ρ := List Int) (step := fraud_Suspects_b3 l) (l := impL m l) (s := []) (fun k s => s.length = k ∧ ∀ a, a ∈ s ↔ ∃ p ∈ (impL m l).take k, ∃ (i : Nat) (x : ApiRide), p.First = (i : Int) ∧ l[i]? = some x ∧ x.Serial = a)
    ⟨rfl, by simp⟩ (fun k p s hk ⟨i1, i2⟩ => by
      have hlt := (List.getElem?_eq_some_iff.1 hk).1
      obtain ⟨i, g1, g2⟩ := impL_mem.1 (List.mem_of_getElem? hk)
      have f1 := (impAt_first g2).1
      have f2 : l[i]? = some l[i] := List.getElem?_eq_getElem g1
      generalize l[i] = x at f2
      unfold fraud_Suspects_b3
      rw [f1, idxL_nat f2, Option.bind_some, chk_ok (by omega)]
      refine ⟨_, rfl, by simp; omega, fun a => ?_⟩
      rw [List.mem_append, i2, take_succ_some hk]
      constructor
      · rintro (⟨q, h1, h2⟩ | h)
        · exact ⟨q, List.mem_append.2 (.inl h1), h2⟩
        · simp at h; exact ⟨p, by simp, i, x, f1, f2, h.symm⟩
      · rintro ⟨q, h1, i', x', h2, h3, h4⟩
        rcases List.mem_append.1 h1 with h1 | h1
        · exact .inl ⟨q, h1, i', x', h2, h3, h4⟩
        · simp at h1; subst h1
          have : i' = i := by omega
          subst this
          rw [f2] at h3; obtain rfl := Option.some.inj h3
          exact .inr (by simp [h4]))
  rw [h1, Option.bind_some]
  show ∃ r, fraud_Suspects_j1 l s = some r ∧ _
  unfold fraud_Suspects_j1
  obtain ⟨t, t1, t2, t3, t4⟩ := forIx_run (ρ := List Int) (step := fraud_Suspects_b2) (l := l) (s := (s, [])) (fun k t => t.1.length ≤ s.length + k ∧ (∀ q, mget false t.2 q = true ↔ ∃ y ∈ l.take k, keyR y = q) ∧ ∀ a, a ∈ t.1 ↔ a ∈ s ∨ ∃ (i j : Nat) (x y : ApiRide), i < j ∧ j < k ∧ l[i]? = some x ∧ l[j]? = some y ∧ keyR x = keyR y ∧ x.Serial = a)
    ⟨by simp, by simp [mget], by simp⟩ (fun k x t hk ⟨i1, i2, i3⟩ => by
      obtain ⟨o, g⟩ := t
      simp only at i1 i2 i3
      have hlt := (List.getElem?_eq_some_iff.1 hk).1
      have hg : ∀ q, mget false (mset g (pk x.Serial x.Counter) true) q = true ↔ ∃ y ∈ l.take (k + 1), keyR y = q := by
        intro q
        rw [mget_mset, take_succ_some hk]
        by_cases e : pk x.Serial x.Counter = q
        · rw [if_pos e]; exact ⟨fun _ => ⟨x, by simp, e⟩, fun _ => rfl⟩
        · rw [if_neg e, i2]
          constructor
          · rintro ⟨y, h1, h2⟩; exact ⟨y, List.mem_append.2 (.inl h1), h2⟩
          · rintro ⟨y, h1, h2⟩
            rcases List.mem_append.1 h1 with h1 | h1
            · exact ⟨y, h1, h2⟩
            · simp at h1; subst h1; exact absurd h2 e
      have hseen := i2 (pk x.Serial x.Counter)
      unfold fraud_Suspects_b2
      simp only
      cases hb : mget false g (pk x.Serial x.Counter) with
      | true =>
        obtain ⟨y, hy, hyk⟩ := hseen.1 hb
        obtain ⟨i, hi, hiy⟩ := List.getElem_of_mem hy
        rw [List.length_take] at hi
        have hiy' : l[i]? = some y := by rw [List.getElem_take] at hiy; rw [List.getElem?_eq_getElem (by omega), hiy]
        rw [cond_true, chk_ok (by omega)]
        refine ⟨_, rfl, by simp; omega, hg, fun a => ?_⟩
        simp only [List.mem_append, List.mem_singleton]
        rw [i3]
        constructor
        · rintro ((h | ⟨i', j, x', y', h1, h2, h3⟩) | rfl)
          · exact .inl h
          · exact .inr ⟨i', j, x', y', h1, by omega, h3⟩
          · exact .inr ⟨i, k, y, x, by omega, by omega, hiy', hk, hyk, (pk_inj hyk).1⟩
        · rintro (h | ⟨i', j, x', y', h1, h2, h3, h4, h5, h6⟩)
          · exact .inl (.inl h)
          · by_cases e : j = k
            · subst e
              rw [hk] at h4; obtain rfl := Option.some.inj h4
              exact .inr (by rw [← h6]; exact (pk_inj h5).1)
            · exact .inl (.inr ⟨i', j, x', y', h1, by omega, h3, h4, h5, h6⟩)
      | false =>
        rw [cond_false]
        refine ⟨_, rfl, by simp only; omega, hg, fun a => ?_⟩
        simp only
        rw [i3]
        constructor
        · rintro (h | ⟨i', j, x', y', h1, h2, h3⟩)
          · exact .inl h
          · exact .inr ⟨i', j, x', y', h1, by omega, h3⟩
        · rintro (h | ⟨i', j, x', y', h1, h2, h3, h4, h5, h6⟩)
          · exact .inl h
          · by_cases e : j = k
            · subst e
              rw [hk] at h4; obtain rfl := Option.some.inj h4
              have : mget false g (pk x.Serial x.Counter) = true := hseen.2 ⟨x', by
                refine List.mem_of_getElem? (i := i') ?_
                rw [List.getElem?_take, if_pos h1]; exact h3, h5⟩
              rw [hb] at this; cases this
            · exact .inr ⟨i', j, x', y', h1, by omega, h3, h4, h5, h6⟩)
  rw [t1, Option.bind_some]
  show ∃ r, chk t.1.length _ = some r ∧ _
  rw [chk_ok (by omega), chk_ok (by omega)]
  refine ⟨_, rfl, norm_inc t.1, fun a => ?_⟩
  show a ∈ norm t.1 ↔ _
  rw [norm_mem, t4, h3, List.take_of_length_le (Nat.le_refl _)]
  unfold Sus
  constructor
  · rintro (⟨p, hp, i, x, e1, e2, e3⟩ | ⟨i, j, x, y, g1, g2, g3⟩)
    · obtain ⟨i', g1, g2⟩ := impL_mem.1 hp
      have := (impAt_first g2).1
      have : i = i' := by omega
      subst this
      exact .inl ⟨i, x, p, g2, e2, e3⟩
    · exact .inr ⟨i, j, x, y, g1, g3⟩
  · rintro (⟨i, x, p, g1, g2, g3⟩ | ⟨i, j, x, y, g1, g2, g3, g4⟩)
    · exact .inl ⟨p, impL_mem.2 ⟨i, (impAt_first g1).2, g1⟩, i, x, (impAt_first g1).1, g2, g3⟩
    · exact .inr ⟨i, j, x, y, g1, (List.getElem?_eq_some_iff.1 g3).1, g2, g3, g4⟩
theorem sus_same {m : ApiMap} (M : MapOK m) {l : List ApiRide} (hl : l.length ≤ 1000) : ∃ r, fraud_Suspects m l = some r ∧ ref32_Suspects m l = some r ∧ Inc r ∧ ∀ a, a ∈ r ↔ Sus m l a := by
  obtain ⟨r, h1, h2, h3⟩ := fsus_eq M hl
  obtain ⟨r', h1', h2', h3'⟩ := rsus_eq M hl
  obtain rfl := inc_ext h2 h2' fun a => (h3 a).trans (h3' a).symm
  exact ⟨r, h1, h1', h2, h3⟩
theorem sameInts32 (a b : List Int) : ref10_SameInts a b = some (decide (a = b)) :=
  same_len fun k x y hx hy => by unfold ref10_SameInts_b1; rw [idxL_nat hy]; rfl

/-! ### the examples -/
def sm32 : ApiMap := ⟨[⟨1, 1000⟩, ⟨2, 1500⟩, ⟨3, 2000⟩], [⟨1, 1, 1, 3, 2000, 5000, 4, 20⟩], [⟨11, 1, 3, 2, 2, 1, 900⟩, ⟨12, 1, 2, 1, 1, 2, 1200⟩], [1]⟩
def ex32 : List ApiRide := [⟨0, 0, 7, 4, 0, 1, 1000⟩, ⟨0, 0, 8, 4, 0, 1, 1001⟩, ⟨0, 0, 7, 5, 0, 1, 1504⟩, ⟨0, 0, 7, 4, 0, 1, 2009⟩]
theorem sm32_ok : MapOK sm32 := by
  obtain ⟨r, h1, h2⟩ := right10_eq sm32
  have : ref10_Right sm32 = some 0 := by decide +kernel
  rw [this] at h1
  exact h2.1 (Option.some.inj h1).symm
theorem time_same {m : ApiMap} (M : MapOK m) {a b : Int} {r : Int × Bool} (h : ref32_Time m a b = some r) : fraud_Time m a b = some r := by
  obtain ⟨r', h1, h2, _⟩ := time_eq M a b
  rw [h] at h2; rw [h1, Option.some.inj h2]
theorem imp_same {m : ApiMap} (M : MapOK m) {l : List ApiRide} (hl : l.length ≤ 1000) {r : List ApiSuspicion} (h : ref32_Impossible m l = some r) : fraud_Impossible m l = some r := by
  rw [fimp_eq M (by omega), ← h, rimp_eq M (by omega)]
theorem clones_same {l : List ApiRide} (hl : l.length ≤ 1000) {r : List ApiSuspicion} (h : ref32_Clones l = some r) : fraud_Clones l = some r := by
  rw [fclones_eq hl, ← h, rclones_eq hl]
theorem suspects_same {m : ApiMap} (M : MapOK m) {l : List ApiRide} (hl : l.length ≤ 1000) {r : List Int} (h : ref32_Suspects m l = some r) : fraud_Suspects m l = some r := by
  obtain ⟨r', h1, h2, _⟩ := sus_same M hl
  rw [h] at h2; rw [h1, Option.some.inj h2]
theorem alive32 : law32_alive = some true := by
  have h0 : law10_Small = some sm32 := rfl
  have h1 : fraud_Time sm32 1 1 = some (505, true) := time_same sm32_ok (by decide +kernel)
  have h2 : fraud_Time sm32 1 2 = some (0, false) := time_same sm32_ok (by decide +kernel)
  have h3 : fraud_Impossible sm32 ex32 = some [⟨0, 2⟩] := imp_same sm32_ok (by decide) (by decide +kernel)
  have h4 : fraud_Clones ex32 = some [⟨0, 3⟩] := clones_same (by decide) (by decide +kernel)
  have h5 : fraud_Suspects sm32 ex32 = some [7] := suspects_same sm32_ok (by decide) (by decide +kernel)
  unfold ex32 at h3 h4 h5
  unfold law32_alive
  rw [h0, Option.bind_some, h1, Option.bind_some, h2, Option.bind_some]
  simp only [Bool.not_true, cond_false]
  rw [decide_eq_false (by decide), cond_false, h3, Option.bind_some, same32_eq, Option.bind_some, decide_eq_true rfl, cond_true, h4, Option.bind_some, same32_eq, Option.bind_some, decide_eq_true rfl, cond_true, h5, Option.bind_some, sameInts32, Option.bind_some, decide_eq_true rfl]

/-! ### the laws -/
theorem law32_FraudTimes_true (m : ApiMap) (a b : Int) (hm : OkApiMap m) (ha : I64 a) (hb : I64 b) : law32_FraudTimes m a b = some true := by
  unfold law32_FraudTimes
  obtain ⟨r, h1, h2⟩ := right10_eq m
  rw [alive32, Option.bind_some, h1, Bool.not_true, cond_false, Option.bind_some]
  by_cases hr : r = 0
  · subst hr
    obtain ⟨q, e1, e2, _⟩ := time_eq (h2.1 rfl) a b
    rw [decide_eq_false (by simp), cond_false, e1, e2, Option.bind_some, Option.bind_some, decide_eq_true rfl, cond_true]
    simp
  · rw [decide_eq_true hr]; rfl
theorem law32_FraudPairs_true (m : ApiMap) (l : List ApiRide) (hm : OkApiMap m) (hl : OkL OkApiRide l) : law32_FraudPairs m l = some true := by
  unfold law32_FraudPairs
  obtain ⟨r, h1, h2⟩ := right10_eq m
  rw [alive32, Option.bind_some, h1, Bool.not_true, cond_false, Option.bind_some]
  by_cases hr : r = 0
  · subst hr
    rw [decide_eq_false (by simp), cond_false]
    by_cases h40 : (40 : Int) < ((l.length : Nat) : Int)
    · rw [decide_eq_true h40]; rfl
    · rw [decide_eq_false h40, cond_false, fimp_eq (h2.1 rfl) (by omega), rimp_eq (h2.1 rfl) (by omega), Option.bind_some, Option.bind_some, same32_eq, decide_eq_true rfl]; rfl
  · rw [decide_eq_true hr]; rfl
theorem law32_FraudClones_true (l : List ApiRide) (hl : OkL OkApiRide l) : law32_FraudClones l = some true := by
  unfold law32_FraudClones
  rw [alive32, Option.bind_some, Bool.not_true, cond_false]
  by_cases h60 : (60 : Int) < ((l.length : Nat) : Int)
  · rw [decide_eq_true h60]; rfl
  · rw [decide_eq_false h60, cond_false, fclones_eq (by omega), rclones_eq (by omega), Option.bind_some, Option.bind_some, same32_eq, decide_eq_true rfl]; rfl
theorem law32_FraudSuspects_true (m : ApiMap) (l : List ApiRide) (hm : OkApiMap m) (hl : OkL OkApiRide l) : law32_FraudSuspects m l = some true := by
  unfold law32_FraudSuspects
  obtain ⟨r, h1, h2⟩ := right10_eq m
  rw [alive32, Option.bind_some, h1, Bool.not_true, cond_false, Option.bind_some]
  by_cases hr : r = 0
  · subst hr
    rw [decide_eq_false (by simp), cond_false]
    by_cases h40 : (40 : Int) < ((l.length : Nat) : Int)
    · rw [decide_eq_true h40]; rfl
    · obtain ⟨q, e1, e2, _⟩ := sus_same (h2.1 rfl) (l := l) (by omega)
      rw [decide_eq_false h40, cond_false, e1, e2, Option.bind_some, Option.bind_some, sameInts32, decide_eq_true rfl]; rfl
  · rw [decide_eq_true hr]; rfl
end Go.Proofs.Ytmfjcimogpmheaa
