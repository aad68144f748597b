/-
  Plain laws: rising lists, sorted lists, looking up, comparing; a loop that comes to its end after so many rounds.
-/
import Derived.Test.YtciaimpdnjpajaaSkX
import Derived.Test.YtciaimpdnjpajaaSkZB
namespace Go.Ab
open Go

section
variable {α σ ρ : Type}
theorem forIx_congr {step step' : Nat → α → σ → Option (Out σ ρ)} : ∀ {l : List α} {k : Nat}, (∀ i x s, l[i]? = some x → step (k + i) x s = step' (k + i) x s) → ∀ s, forIx step k l s = forIx step' k l s
  | [], k, h, s => rfl
  | x :: r, k, h, s => by
    have h0 := h 0 x s rfl
    rw [Nat.add_zero] at h0
    rw [forIx, forIx, h0]
    have ih : ∀ s, forIx step (k + 1) r s = forIx step' (k + 1) r s := forIx_congr (l := r) (k := k + 1) (fun i y s hy => by
      have := h (i + 1) y s (by simpa using hy)
      rwa [show k + (i + 1) = k + 1 + i by omega] at this)
    cases step' k x s with
    | none => rfl
    | some o => cases o with
      | next s' => exact ih s'
      | ret r => rfl
theorem forIx_congr0 {step step' : Nat → α → σ → Option (Out σ ρ)} {l : List α} {s : σ} (h : ∀ i x s, l[i]? = some x → step i x s = step' i x s) : forIx step 0 l s = forIx step' 0 l s :=
  forIx_congr (k := 0) (fun i x s hx => by rw [Nat.zero_add]; exact h i x s hx) s
/-- a loop that never ends of its own, over a fold -/
theorem forIx_fold {step : Nat → α → σ → Option (Out σ ρ)} (f : σ → α → σ) {l : List α} {s : σ} (I : Nat → σ → Prop) (h0 : I 0 s) (hs : ∀ k x s, l[k]? = some x → I k s → step k x s = some (.next (f s x)) ∧ I (k + 1) (f s x)) :
    forIx step 0 l s = some (.next (l.foldl f s)) ∧ I l.length (l.foldl f s) := by
  obtain ⟨s', h1, h2, h3⟩ := forIx_run (step := step) (l := l) (s := s) (fun k t => I k t ∧ t = (l.take k).foldl f s) ⟨h0, by simp⟩ (fun k x t hk ⟨i1, i2⟩ => by
    obtain ⟨e1, e2⟩ := hs k x t hk i1
    exact ⟨_, e1, e2, by rw [take_succ_some hk, List.foldl_append, ← i2]; rfl⟩)
  rw [List.take_length] at h3
  subst h3; exact ⟨h1, h2⟩
end

/-- The rule of a loop with fuel, by the number of its rounds. -/
theorem whileN_count {σ ρ : Type} {step : σ → Option (Out σ ρ)} (I : Nat → σ → Prop) (R : ρ → Prop) (B : Nat) (hs : ∀ i s, I i s → (∃ s', step s = some (.next s') ∧ i < B ∧ I (i + 1) s') ∨ (∃ r, step s = some (.ret r) ∧ R r)) :
    ∀ (n i : Nat) (s : σ), I i s → B < i + n → i ≤ B → ∃ r, whileN step n s = some (.ret r) ∧ R r
  | 0, i, s, _, h, h' => by omega
  | n + 1, i, s, hI, h, h' => by
    rcases hs i s hI with ⟨s', h1, h2, h3⟩ | ⟨r, h1, h2⟩
    · obtain ⟨r, h4, h5⟩ := whileN_count I R B hs n (i + 1) s' h3 (by omega) (by omega)
      exact ⟨r, by rw [whileN, h1]; exact h4, h5⟩
    · exact ⟨r, by rw [whileN, h1]; rfl, h2⟩

theorem nodup_len {α : Type} [DecidableEq α] {a b : List α} (h : a.Nodup) (hs : ∀ x ∈ a, x ∈ b) : a.length ≤ b.length := by
  induction a generalizing b with
  | nil => exact Nat.zero_le _
  | cons x a ih =>
    rw [List.nodup_cons] at h
    have hx := hs x (by simp)
    have := ih (b := b.erase x) h.2 fun y hy => (List.mem_erase_of_ne (fun (e : y = x) => h.1 (e ▸ hy))).2 (hs y (List.mem_cons_of_mem _ hy))
    rw [List.length_erase_of_mem hx] at this
    have : 0 < b.length := List.length_pos_of_mem hx
    simp only [List.length_cons]; omega

/-! ### rising lists -/
def Inc (l : List Int) : Prop := l.Pairwise (· < ·)
theorem Inc.nodup {l : List Int} (h : Inc l) : l.Nodup := List.Pairwise.imp (fun h e => by omega) h
theorem inc_ext : ∀ {a b : List Int}, Inc a → Inc b → (∀ x, x ∈ a ↔ x ∈ b) → a = b
  | [], [], _, _, _ => rfl
  | [], y :: b, _, _, h => by have := (h y).2 (by simp); simp at this
  | x :: a, [], _, _, h => by have := (h x).1 (by simp); simp at this
  | x :: a, y :: b, ha, hb, h => by
    have ha := List.pairwise_cons.1 ha
    have hb := List.pairwise_cons.1 hb
    have e : x = y := by
      rcases List.mem_cons.1 ((h x).1 (by simp)) with h1 | h1
      · exact h1
      · rcases List.mem_cons.1 ((h y).2 (by simp)) with h2 | h2
        · exact h2.symm
        · have := ha.1 y h2; have := hb.1 x h1; omega
    subst e
    rw [inc_ext ha.2 hb.2 fun z => ?_]
    constructor
    · intro hz
      rcases List.mem_cons.1 ((h z).1 (List.mem_cons_of_mem _ hz)) with e | h1
      · have := ha.1 z hz; omega
      · exact h1
    · intro hz
      rcases List.mem_cons.1 ((h z).2 (List.mem_cons_of_mem _ hz)) with e | h1
      · have := hb.1 z hz; omega
      · exact h1
theorem sortI_sorted (xs : List Int) : (sortI xs).Pairwise (· ≤ ·) := by
  have := List.pairwise_mergeSort (le := fun x y : Int => decide (x ≤ y)) (fun a b c h1 h2 => by simp at *; omega) (fun a b => by simp; omega) xs
  exact this.imp (fun h => by simpa using h)
theorem sortI_mem (xs : List Int) (a : Int) : a ∈ sortI xs ↔ a ∈ xs := (List.mergeSort_perm xs _).mem_iff
theorem sortI_inc {xs : List Int} (h : xs.Nodup) : Inc (sortI xs) := by
  have h1 : (sortI xs).Nodup := (List.mergeSort_perm xs _).nodup_iff.2 h
  exact ((sortI_sorted xs).and h1).imp (fun ⟨a, b⟩ => by omega)
theorem bang_eq {zs : List Int} {j : Nat} (h : j < zs.length) : zs.toArray[j]! = zs[j] := by simp [h]
theorem compact_mem {zs : List Int} (a : Int) : a ∈ compactI zs ↔ a ∈ zs := by
  unfold compactI Lib.compact Lib.compactUpTo
  rw [List.mem_map]
  constructor
  · rintro ⟨j, hj, rfl⟩
    have h1 := List.mem_range.1 (List.mem_filter.1 hj).1
    rw [bang_eq h1]; exact List.getElem_mem h1
  · intro ha
    obtain ⟨i, hi, rfl⟩ := List.getElem_of_mem ha
    induction i with
    | zero => exact ⟨0, List.mem_filter.2 ⟨List.mem_range.2 hi, by simp [Lib.keeps]⟩, bang_eq hi⟩
    | succ i ih =>
      by_cases e : zs[i + 1] = zs[i]
      · rw [e]; exact ih (by omega) (List.getElem_mem _)
      · refine ⟨i + 1, List.mem_filter.2 ⟨List.mem_range.2 hi, ?_⟩, bang_eq hi⟩
        unfold Lib.keeps
        rw [bang_eq hi, Nat.add_sub_cancel, bang_eq (show i < zs.length by omega)]
        exact decide_eq_true (.inr e)
theorem compact_inc {zs : List Int} (h : zs.Pairwise (· ≤ ·)) : Inc (compactI zs) := by
  unfold compactI Lib.compact Lib.compactUpTo Inc
  rw [List.pairwise_map]
  refine (List.pairwise_lt_range.filter _).imp_of_mem (fun {i j} hi hj hlt => ?_)
  obtain ⟨hj1, hj2⟩ := List.mem_filter.1 hj
  have hj1 := List.mem_range.1 hj1
  rw [bang_eq (show i < zs.length by omega), bang_eq hj1]
  unfold Lib.keeps at hj2
  have hne := of_decide_eq_true hj2
  rw [bang_eq hj1, bang_eq (show j - 1 < zs.length by omega)] at hne
  rw [List.pairwise_iff_getElem] at h
  have h1 := h (j - 1) j (by omega) hj1 (by omega)
  rcases Nat.lt_or_ge i (j - 1) with hh | hh
  · have := h i (j - 1) (by omega) (by omega) hh; omega
  · have e : i = j - 1 := by omega
    subst e; omega
def norm (xs : List Int) : List Int := compactI (sortI xs)
theorem norm_inc (xs : List Int) : Inc (norm xs) := compact_inc (sortI_sorted xs)
theorem norm_mem (xs : List Int) (a : Int) : a ∈ norm xs ↔ a ∈ xs := by unfold norm; rw [compact_mem, sortI_mem]

/-! ### comparing, looking up -/
theorem same_loop {α : Type} [DecidableEq α] {step : Nat → α → Unit → Option (Out Unit Bool)} {a b : List α} (hl : a.length = b.length) (hs : ∀ k x y, a[k]? = some x → b[k]? = some y → step k x () = bif decide (x ≠ y) then some (.ret false) else some (.next ())) :
    ((forIx step 0 a ()).bind fun o => o.on fun _ => some true) = some (decide (a = b)) := by
  rcases forIx_inv (step := step) (l := a) (s := ()) (fun k _ => ∀ i x, i < k → a[i]? = some x → b[i]? = some x) (fun r => r = false ∧ a ≠ b) (fun i x h => by omega) (fun k x u hk hI => by
    have hlt := (List.getElem?_eq_some_iff.1 hk).1
    have hy : b[k]? = some b[k] := List.getElem?_eq_getElem (by omega)
    rw [hs k x _ hk hy]
    by_cases e : x = b[k]
    · rw [decide_eq_false (by simpa using e)]
      refine .inl ⟨(), rfl, fun i z hi hz => ?_⟩
      by_cases h : i = k
      · subst h; rw [hk] at hz; obtain rfl := Option.some.inj hz; rw [hy, ← e]
      · exact hI i z (by omega) hz
    · rw [decide_eq_true (by simpa using e)]
      refine .inr ⟨false, rfl, rfl, fun h => e ?_⟩
      subst h
      rw [hk] at hy; exact Option.some.inj hy) with ⟨s', h1, h2⟩ | ⟨r, h1, rfl, h2⟩
  · rw [h1]
    have : a = b := by
      apply List.ext_getElem? fun i => ?_
      by_cases hi : i < a.length
      · rw [h2 i _ hi (List.getElem?_eq_getElem hi), List.getElem?_eq_getElem hi]
      · rw [List.getElem?_eq_none (by omega), List.getElem?_eq_none (by omega)]
    rw [decide_eq_true this]; rfl
  · rw [h1, decide_eq_false h2]; rfl
/-- a comparison of lists, behind the comparison of their lengths -/
theorem same_len {α : Type} [DecidableEq α] {step : Nat → α → Unit → Option (Out Unit Bool)} {a b : List α} (hs : ∀ k x y, a[k]? = some x → b[k]? = some y → step k x () = bif decide (x ≠ y) then some (.ret false) else some (.next ())) :
    (bif (decide (((a.length : Nat) : Int) ≠ ((b.length : Nat) : Int))) then some false else (forIx step 0 a ()).bind fun o => o.on fun _ => some true) = some (decide (a = b)) := by
  by_cases h : a.length = b.length
  · rw [decide_eq_false (by simp [h]), cond_false]; exact same_loop h hs
  · have h' : ¬ a = b := fun e => h (by rw [e])
    rw [decide_eq_true (show ((a.length : Nat) : Int) ≠ ((b.length : Nat) : Int) by omega), decide_eq_false h']; rfl
theorem has_loop {α : Type} [DecidableEq α] {step : Nat → α → Unit → Option (Out Unit Bool)} {l : List α} {n : α} (hs : ∀ k x, x ∈ l → step k x () = bif decide (x = n) then some (.ret true) else some (.next ())) :
    ((forIx step 0 l ()).bind fun o => o.on fun _ => some false) = some (decide (n ∈ l)) := by
  rw [forIx_first (step := step) (fun x => decide (x = n)) (fun _ => true) (fun k x hx => hs k x hx)]
  by_cases h : n ∈ l
  · obtain ⟨x, hx⟩ : ∃ x, l.find? (fun x => decide (x = n)) = some x := by
      cases hf : l.find? fun x => decide (x = n) with
      | some x => exact ⟨x, rfl⟩
      | none => have := List.find?_eq_none.1 hf n h; simp at this
    rw [hx, decide_eq_true h]; rfl
  · have : l.find? (fun x => decide (x = n)) = none := List.find?_eq_none.2 fun x hx => by
      simp; rintro rfl; exact h hx
    rw [this, decide_eq_false h]; rfl
/-- a loop that answers whether one of its elements has a property -/
theorem any_loop {α : Type} {step : Nat → α → Unit → Option (Out Unit Bool)} {l : List α} (p : α → Bool) (hs : ∀ k x, x ∈ l → step k x () = bif p x then some (.ret true) else some (.next ())) :
    ((forIx step 0 l ()).bind fun o => o.on fun _ => some false) = some (l.any p) := by
  rw [forIx_first (step := step) p (fun _ => true) (fun k x hx => hs k x hx)]
  cases hf : l.find? p with
  | some x => rw [List.any_eq_true.2 ⟨x, List.mem_of_find?_eq_some hf, List.find?_some hf⟩]; rfl
  | none => rw [List.any_eq_false.2 fun x hx => by simpa using List.find?_eq_none.1 hf x hx]; rfl
theorem all_loop {α : Type} {step : Nat → α → Unit → Option (Out Unit Bool)} {l : List α} (p : α → Bool) (hs : ∀ k x, x ∈ l → step k x () = bif p x then some (.next ()) else some (.ret false)) :
    ((forIx step 0 l ()).bind fun o => o.on fun _ => some true) = some (l.all p) := by
  rw [forIx_first (step := step) (fun x => !p x) (fun _ => false) (fun k x hx => by rw [hs k x hx]; cases p x <;> rfl)]
  cases hf : l.find? fun x => !p x with
  | some x => rw [List.all_eq_false.2 ⟨x, List.mem_of_find?_eq_some hf, by simpa using List.find?_some hf⟩]; rfl
  | none => rw [List.all_eq_true.2 fun x hx => by simpa using List.find?_eq_none.1 hf x hx]; rfl

/-- reading a map that has been gathered -/
theorem mget_gadd (g : List (Int × List Int)) (k v n : Int) : mget [] (gadd g k v) n = if k = n then mget [] g n ++ [v] else mget [] g n := by
  unfold gadd; rw [mget_mset]
  by_cases h : k = n
  · subst h; simp
  · simp [h]
theorem perm_mkeys {β : Type} {m : List (Int × β)} {n : Int} (d : β) (h : mget d m n ≠ d) : n ∈ mkeys m := by
  rw [← mhas_iff]
  cases hb : mhas m n with
  | true => rfl
  | false => exact absurd (mget_not hb) h
end Go.Ab
