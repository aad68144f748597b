/-
  Ropes of winch groomers in plain Lean: what the functions answer.
-/
import Derived.Test.YtjdgjilnldofaaaW5
import Derived.Test.YtjdgjilnldofaaaSkXA
namespace Go.Proofs.Ytjdgjilnldofaaa
open Go Go.Ab
set_option linter.unusedSimpArgs false
set_option linter.unusedVariables false

theorem wrap_half {a : Int} (h0 : 0 ≤ a) (h1 : a ≤ 4611686018427387904) : IntKind.i64.wrap (shrI (IntKind.u64.wrap (IntKind.i64.wrap a)) 1) = a / 2 := by
  have e1 : IntKind.i64.wrap a = a := by rw [wrap_i64] <;> omega
  have e2 : IntKind.u64.wrap a = a := by rw [IntKind.wrap_u64]; omega
  have e3 : shrI a 1 = a / 2 := by unfold shrI; simp
  rw [e1, e2, e3, wrap_i64] <;> omega
theorem less_eq (x y : Int) : cmp_Less_int x y = some (decide (x < y)) := rfl
theorem inc_get {xs : List Int} (hi : Inc xs) {i j : Nat} {x y : Int} (hx : xs[i]? = some x) (hy : xs[j]? = some y) (h : i < j) : x < y := by
  obtain ⟨h1, rfl⟩ := List.getElem?_eq_some_iff.1 hx
  obtain ⟨h2, rfl⟩ := List.getElem?_eq_some_iff.1 hy
  exact (List.pairwise_iff_getElem.1 hi) i j h1 h2 h

theorem search_eq {xs : List Int} (hi : Inc xs) (hl : xs.length ≤ 549755813888) (t : Int) : ∃ i, slices_BinarySearch_sint_int xs t = some (i, decide (t ∈ xs)) := by
  obtain ⟨r, h1, h2⟩ := whileN_inv (step := slices_BinarySearch_sint_int_b1 xs t)
    (fun s => 0 ≤ s.1 ∧ s.1 ≤ s.2 ∧ s.2 ≤ xs.length ∧ (∀ (k : Nat) x, (k : Int) < s.1 → xs[k]? = some x → x < t) ∧ (∀ (k : Nat) x, s.2 ≤ (k : Int) → xs[k]? = some x → t ≤ x))
    (fun r => r.2 = decide (t ∈ xs)) (fun s => (s.2 - s.1).toNat) (by
      rintro ⟨i, j⟩ ⟨h0, h1, h2, h3, h4⟩
      dsimp only at h0 h1 h2 h3 h4
      unfold slices_BinarySearch_sint_int_b1
      dsimp only
      by_cases hij : i < j
      · rw [decide_eq_true hij, cond_true, wrap_half (by omega) (by omega)]
        have hm : ((i + j) / 2).toNat < xs.length := by omega
        have hmm : (i + j) / 2 = (((i + j) / 2).toNat : Int) := by omega
        have hx : xs[((i + j) / 2).toNat]? = some xs[((i + j) / 2).toNat] := List.getElem?_eq_getElem hm
        generalize xs[((i + j) / 2).toNat] = x at hx
        rw [idxL_ok hmm hx, Option.bind_some, less_eq, Option.bind_some]
        by_cases hlt : x < t
        · rw [decide_eq_true hlt, cond_true, wrap_i64 (by omega) (by omega)]
          refine .inl ⟨_, rfl, ⟨by dsimp only; omega, by dsimp only; omega, h2, fun k y hk hy => ?_, h4⟩, by dsimp only; omega⟩
          dsimp only at hk
          by_cases e : k = ((i + j) / 2).toNat
          · subst e; rw [hx] at hy; obtain rfl := Option.some.inj hy; exact hlt
          · have := inc_get hi hy hx (by omega); omega
        · rw [decide_eq_false hlt, cond_false]
          refine .inl ⟨_, rfl, ⟨h0, by dsimp only; omega, by dsimp only; omega, h3, fun k y hk hy => ?_⟩, by dsimp only; omega⟩
          dsimp only at hk
          by_cases e : k = ((i + j) / 2).toNat
          · subst e; rw [hx] at hy; obtain rfl := Option.some.inj hy; omega
          · have := inc_get hi hx hy (by omega); omega
      · rw [decide_eq_false hij, cond_false]
        have e : j = i := by omega
        subst e
        right
        by_cases hlen : j < (xs.length : Int)
        · rw [decide_eq_true hlen, cond_true]
          have hjj : j = (j.toNat : Int) := by omega
          have hx : xs[j.toNat]? = some xs[j.toNat] := List.getElem?_eq_getElem (by omega)
          generalize xs[j.toNat] = x at hx
          rw [idxL_ok hjj hx, Option.bind_some]
          by_cases hxt : x = t
          · rw [decide_eq_true hxt, cond_true]
            subst hxt
            exact ⟨_, rfl, (decide_eq_true (List.mem_of_getElem? hx)).symm⟩
          · rw [decide_eq_false hxt, cond_false]
            refine ⟨_, rfl, (decide_eq_false fun hm => ?_).symm⟩
            obtain ⟨k, hk⟩ := List.mem_iff_getElem?.1 hm
            by_cases h5 : (k : Int) < j
            · have := h3 k t h5 hk; omega
            · have h6 := h4 j.toNat x (by omega) hx
              by_cases e : k = j.toNat
              · subst e; rw [hx] at hk; exact hxt (Option.some.inj hk)
              · have := inc_get hi hx hk (by omega); omega
        · rw [decide_eq_false hlen, cond_false]
          refine ⟨_, rfl, (decide_eq_false fun hm => ?_).symm⟩
          obtain ⟨k, hk⟩ := List.mem_iff_getElem?.1 hm
          have := (List.getElem?_eq_some_iff.1 hk).1
          have := h3 k t (by omega) hk; omega)
    fuel (0, (xs.length : Int)) ⟨by simp, by simp, by simp, fun k x hk _ => by simp at hk; omega, fun k x hk hx => by have := (List.getElem?_eq_some_iff.1 hx).1; simp at hk; omega⟩ (by unfold fuel; simp; omega)
  refine ⟨r.1, ?_⟩
  unfold slices_BinarySearch_sint_int
  rw [h1, ← h2]; rfl
theorem sweeps_eq {w : ApiWinchLine} (hi : Inc w.Runs) (hl : w.Runs.length ≤ 549755813888) (n : Int) : winch_sweeps w n = some (decide (n ∈ w.Runs)) := by
  obtain ⟨i, h⟩ := search_eq hi hl n
  unfold winch_sweeps; rw [h]; rfl

structure RunsOK (l : List Int) : Prop where
  ne : l ≠ []
  inc : Inc l
  lo : ∀ x ∈ l, 1 ≤ x
  hi : ∀ x ∈ l, x ≤ 9999
theorem inc_of {l : List Int} (h : ∀ (k : Nat) (x y : Int), l[k + 1]? = some x → l[k]? = some y → y < x) : Inc l := by
  unfold Inc
  rw [List.pairwise_iff_getElem]
  have key : ∀ (d i : Nat) (hj : i + d + 1 < l.length), l[i]'(by omega) < l[i + d + 1] := by
    intro d
    induction d with
    | zero =>
      intro i hj
      exact h i _ _ (List.getElem?_eq_getElem (by omega)) (List.getElem?_eq_getElem (by omega))
    | succ d ih =>
      intro i hj
      have h1 := ih i (by omega)
      have h2 := h (i + d + 1) l[i + (d + 1) + 1] l[i + d + 1] (by rw [List.getElem?_eq_getElem (by omega)]; rfl) (List.getElem?_eq_getElem (by omega))
      omega
  intro i j hi hj hlt
  have := key (j - i - 1) i (by omega)
  simpa [show i + (j - i - 1) + 1 = j by omega] using this
theorem runs_eq {l : List Int} (hl : l.length ≤ 549755813888) : ∃ b, ref46_runs l = some b ∧ (b = true ↔ RunsOK l) := by
  unfold ref46_runs
  rcases forIx_inv (step := ref46_runs_b1 l) (l := l) (s := ()) (fun k _ => ∀ (i : Nat) x, i < k → l[i]? = some x → 1 ≤ x ∧ x ≤ 9999 ∧ ∀ y, 0 < i → l[i - 1]? = some y → y < x) (fun r => r = false ∧ ¬ RunsOK l)
    (fun i x h => by omega) (fun k x u hk hI => by
      have hlt := (List.getElem?_eq_some_iff.1 hk).1
      unfold ref46_runs_b1
      by_cases h1 : x < 1
      · rw [decide_eq_true h1]
        exact .inr ⟨_, rfl, rfl, fun h => by have := h.lo x (List.mem_of_getElem? hk); omega⟩
      rw [decide_eq_false h1, cond_false]
      by_cases h2 : 9999 < x
      · rw [decide_eq_true h2]
        exact .inr ⟨_, rfl, rfl, fun h => by have := h.hi x (List.mem_of_getElem? hk); omega⟩
      rw [decide_eq_false h2, cond_false]
      by_cases h3 : (0 : Int) < (k : Int)
      · rw [decide_eq_true h3, cond_true, wrap_pred (by omega) (by omega)]
        have hy : l[k - 1]? = some l[k - 1] := List.getElem?_eq_getElem (by omega)
        generalize l[k - 1] = y at hy
        rw [idxL_nat hy, Option.bind_some]
        by_cases h4 : x ≤ y
        · rw [decide_eq_true h4]
          refine .inr ⟨_, rfl, rfl, fun h => ?_⟩
          have := inc_get h.inc hy hk (by omega); omega
        · rw [decide_eq_false h4]
          refine .inl ⟨_, rfl, fun i z hi hz => ?_⟩
          by_cases e : i = k
          · subst e; rw [hk] at hz; obtain rfl := Option.some.inj hz
            exact ⟨by omega, by omega, fun y' _ hy' => by rw [hy] at hy'; obtain rfl := Option.some.inj hy'; omega⟩
          · exact hI i z (by omega) hz
      · rw [decide_eq_false h3]
        refine .inl ⟨_, rfl, fun i z hi hz => ?_⟩
        have e : i = k := by omega
        subst e; rw [hk] at hz; obtain rfl := Option.some.inj hz
        exact ⟨by omega, by omega, fun y' h _ => by omega⟩) with ⟨s', h1, h2⟩ | ⟨r, h1, rfl, h2⟩
  · rw [h1]
    refine ⟨_, rfl, ?_⟩
    rw [decide_eq_true_eq]
    have hmem : ∀ x ∈ l, 1 ≤ x ∧ x ≤ 9999 := fun x hx => by
      obtain ⟨i, hi⟩ := List.mem_iff_getElem?.1 hx
      have := h2 i x (List.getElem?_eq_some_iff.1 hi).1 hi
      exact ⟨this.1, this.2.1⟩
    constructor
    · intro h
      refine ⟨fun e => by rw [e] at h; simp at h, inc_of fun k x y hx hy => ?_, fun x hx => (hmem x hx).1, fun x hx => (hmem x hx).2⟩
      exact (h2 (k + 1) x (List.getElem?_eq_some_iff.1 hx).1 hx).2.2 y (by omega) (by simpa using hy)
    · intro h
      have := List.length_pos_iff.2 h.ne
      omega
  · rw [h1]
    exact ⟨false, rfl, by simp [h2]⟩
theorem rising_eq (l : List Int) : winch_rising l = ref46_runs l := rfl
theorem has_eq (l : List Int) (n : Int) : ref46_has l n = some (decide (n ∈ l)) := by
  unfold ref46_has
  exact has_loop fun k x hx => rfl
theorem lhas_eq (l : List Int) (n : Int) : law46_has l n = some (decide (n ∈ l)) := by
  unfold law46_has
  exact has_loop fun k x hx => rfl
/-- two ropes are in conflict -/
def clash (a b : ApiWinchLine) : Bool := decide (a.From < b.To) && decide (b.From < a.To) && (decide (a.Groomer = b.Groomer) || a.Runs.any fun x => decide (x ∈ b.Runs))
theorem rclash_eq (a b : ApiWinchLine) : ref46_clash a b = some (clash a b) := by
  unfold ref46_clash clash
  by_cases h1 : b.To ≤ a.From
  · rw [decide_eq_true h1, decide_eq_false (show ¬ a.From < b.To by omega)]; rfl
  rw [decide_eq_false h1, decide_eq_true (show a.From < b.To by omega), cond_false]
  by_cases h2 : a.To ≤ b.From
  · rw [decide_eq_true h2, decide_eq_false (show ¬ b.From < a.To by omega)]; rfl
  rw [decide_eq_false h2, decide_eq_true (show b.From < a.To by omega), cond_false]
  rw [forIx_first (step := ref46_clash_b1 b) (fun x => decide (x ∈ b.Runs)) (fun _ => true) (fun k x hx => by unfold ref46_clash_b1; rw [has_eq]; rfl)]
  cases hf : a.Runs.find? fun x => decide (x ∈ b.Runs) with
  | some x =>
    have : (a.Runs.any fun x => decide (x ∈ b.Runs)) = true := List.any_eq_true.2 ⟨x, List.mem_of_find?_eq_some hf, List.find?_some (p := fun x => decide (x ∈ b.Runs)) hf⟩
    rw [this]; simp [Out.on]
  | none =>
    have : (a.Runs.any fun x => decide (x ∈ b.Runs)) = false := List.any_eq_false.2 fun x hx => by simpa using List.find?_eq_none.1 hf x hx
    rw [this]; simp [Out.on]
theorem conflict_eq {a b : ApiWinchLine} (hi : Inc b.Runs) (hl : b.Runs.length ≤ 549755813888) : winch_conflict a b = some (clash a b) := by
  unfold winch_conflict clash
  by_cases h1 : b.To ≤ a.From
  · rw [decide_eq_true h1, decide_eq_false (show ¬ a.From < b.To by omega)]; rfl
  rw [decide_eq_false h1, decide_eq_true (show a.From < b.To by omega), cond_false]
  by_cases h2 : a.To ≤ b.From
  · rw [decide_eq_true h2, decide_eq_false (show ¬ b.From < a.To by omega)]; rfl
  rw [decide_eq_false h2, decide_eq_true (show b.From < a.To by omega), cond_false]
  by_cases h3 : a.Groomer = b.Groomer
  · rw [decide_eq_true h3]; rfl
  rw [decide_eq_false h3, cond_false]
  rw [forIx_first (step := winch_conflict_b1 b) (fun x => decide (x ∈ b.Runs)) (fun _ => true) (fun k x hx => by
    unfold winch_conflict_b1; rw [sweeps_eq hi hl, Option.bind_some, decide_eq_true (show (0 : Int) ≤ (k : Int) by omega)])]
  cases hf : a.Runs.find? fun x => decide (x ∈ b.Runs) with
  | some x =>
    have : (a.Runs.any fun x => decide (x ∈ b.Runs)) = true := List.any_eq_true.2 ⟨x, List.mem_of_find?_eq_some hf, List.find?_some (p := fun x => decide (x ∈ b.Runs)) hf⟩
    rw [this]; simp [Out.on]
  | none =>
    have : (a.Runs.any fun x => decide (x ∈ b.Runs)) = false := List.any_eq_false.2 fun x hx => by simpa using List.find?_eq_none.1 hf x hx
    rw [this]; simp [Out.on]
theorem rSameInts_eq (a b : List Int) : ref46_SameInts a b = some (decide (a = b)) := by
  unfold ref46_SameInts
  exact same_len fun k x y hx hy => by unfold ref46_SameInts_b1; rw [idxL_nat hy]; rfl
theorem rSame_eq (a b : List ApiWinchLine) : ref46_Same a b = some (decide (a = b)) := by
  unfold ref46_Same
  exact same_len fun k x y hx hy => by
    unfold ref46_Same_b1; rw [idxL_nat hy, Option.bind_some, rSameInts_eq]
    obtain ⟨a1, a2, a3, a4⟩ := x
    obtain ⟨b1, b2, b3, b4⟩ := y
    by_cases h1 : a1 = b1 <;> by_cases h2 : a2 = b2 <;> by_cases h3 : a3 = b3 <;> by_cases h4 : a4 = b4 <;> simp [h1, h2, h3, h4]

structure RopeOK (w : ApiWinchLine) : Prop where
  g1 : 1 ≤ w.Groomer
  g2 : w.Groomer ≤ 9999
  f0 : 0 ≤ w.From
  ft : w.From < w.To
  t1 : w.To ≤ 20000000
  runs : RunsOK w.Runs
/-- ropes that are right -/
structure RopesOK (l : List ApiWinchLine) : Prop where
  len : l.length ≤ 16
  rope : ∀ w ∈ l, RopeOK w
  apart : l.Pairwise fun a b => clash a b = false
end Go.Proofs.Ytjdgjilnldofaaa
