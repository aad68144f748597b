/-
  Plain laws of maps as lists of entries, and of loops over them in any order.
-/
import Derived.Test.YtciaimpdnjpajaaSkV
namespace Go.Ab
open Go

section
variable {β : Type}
def mkeys (m : List (Int × β)) : List Int := m.map (·.1)
theorem mget_mset (d : β) : ∀ (m : List (Int × β)) (k : Int) (v : β) (n : Int), mget d (mset m k v) n = if k = n then v else mget d m n
  | [], k, v, n => rfl
  | (j, u) :: r, k, v, n => by
    simp only [mset]
    by_cases h : j = k
    · subst h
      simp only [if_true, mget]
      split <;> rfl
    · rw [if_neg h]
      simp only [mget]
      by_cases h2 : j = n
      · subst h2
        rw [if_pos rfl, if_neg (fun e => h e.symm), if_pos rfl]
      · rw [if_neg h2, if_neg h2, mget_mset d r k v n]
theorem mhas_mset : ∀ (m : List (Int × β)) (k : Int) (v : β) (n : Int), mhas (mset m k v) n = (decide (k = n) || mhas m n)
  | [], k, v, n => by simp [mset, mhas]
  | (j, u) :: r, k, v, n => by
    simp only [mset]
    by_cases h : j = k
    · subst h
      simp only [if_true, mhas]
      by_cases h2 : j = n <;> simp [h2]
    · rw [if_neg h]
      simp only [mhas]
      by_cases h2 : j = n
      · simp [h2]
      · rw [if_neg h2, if_neg h2, mhas_mset r k v n]
theorem mhas_iff : ∀ (m : List (Int × β)) (n : Int), mhas m n = true ↔ n ∈ mkeys m
  | [], n => by simp [mhas, mkeys]
  | (j, u) :: r, n => by
    have ih := mhas_iff r n
    simp only [mhas, mkeys, List.map_cons, List.mem_cons] at ih ⊢
    by_cases h : j = n
    · simp [h]
    · rw [if_neg h, ih]
      constructor
      · exact .inr
      · rintro (e | e)
        · exact absurd e.symm h
        · exact e
theorem mkeys_cons (j : Int) (u : β) (r : List (Int × β)) : mkeys ((j, u) :: r) = j :: mkeys r := rfl
theorem mset_keys : ∀ (m : List (Int × β)) (k : Int) (v : β), mkeys (mset m k v) = if k ∈ mkeys m then mkeys m else mkeys m ++ [k]
  | [], k, v => by simp [mset, mkeys]
  | (j, u) :: r, k, v => by
    have ih := mset_keys r k v
    simp only [mset]
    by_cases h : j = k
    · subst h
      rw [if_pos rfl, mkeys_cons, mkeys_cons, if_pos (by simp)]
    · rw [if_neg h, mkeys_cons, mkeys_cons, ih]
      have hne : ¬ k = j := fun e => h e.symm
      by_cases h2 : k ∈ mkeys r
      · rw [if_pos h2, if_pos (List.mem_cons_of_mem _ h2)]
      · rw [if_neg h2, if_neg (fun hm => by rcases List.mem_cons.1 hm with e | e; exact hne e; exact h2 e), List.cons_append]
theorem mset_nodup {m : List (Int × β)} (h : (mkeys m).Nodup) (k : Int) (v : β) : (mkeys (mset m k v)).Nodup := by
  rw [mset_keys]
  split
  · exact h
  · rename_i hk
    rw [List.nodup_append]
    refine ⟨h, by simp, ?_⟩
    rintro a ha b hb rfl
    simp at hb; subst hb; exact hk ha
theorem mset_length (m : List (Int × β)) (k : Int) (v : β) : (mset m k v).length = if mhas m k then m.length else m.length + 1 := by
  have h := congrArg List.length (mset_keys m k v)
  have h2 := mhas_iff m k
  by_cases hk : k ∈ mkeys m
  · rw [if_pos hk] at h
    rw [if_pos (h2.2 hk)]
    simpa [mkeys] using h
  · rw [if_neg hk] at h
    rw [if_neg (fun e => hk (h2.1 e))]
    simpa [mkeys] using h
theorem mem_entry {d : β} : ∀ {m : List (Int × β)}, (mkeys m).Nodup → ∀ p ∈ m, mhas m p.1 = true ∧ mget d m p.1 = p.2
  | [], _, p, hp => by simp at hp
  | (j, u) :: r, h, p, hp => by
    simp only [mkeys, List.map_cons, List.nodup_cons] at h
    rcases List.mem_cons.1 hp with rfl | hp
    · simp [mhas, mget]
    · have ih := mem_entry (d := d) (m := r) h.2 p hp
      have hne : ¬ j = p.1 := fun e => h.1 (by rw [e]; exact List.mem_map.2 ⟨p, hp, rfl⟩)
      simp only [mhas, mget]
      rw [if_neg hne, if_neg hne]; exact ih
theorem entry_mem {d : β} : ∀ {m : List (Int × β)} {n : Int}, mhas m n = true → (n, mget d m n) ∈ m
  | [], n, h => by simp [mhas] at h
  | (j, u) :: r, n, h => by
    simp only [mhas, mget] at h ⊢
    by_cases e : j = n
    · subst e; simp
    · rw [if_neg e] at h ⊢
      exact List.mem_cons_of_mem _ (entry_mem h)
theorem mdel_keys : ∀ (m : List (Int × β)) (k : Int), mkeys (mdel m k) = (mkeys m).erase k
  | [], k => by simp [mdel, mkeys]
  | (j, u) :: r, k => by
    have ih := mdel_keys r k
    simp only [mdel, mkeys, List.map_cons] at ih ⊢
    by_cases h : j = k
    · simp [h]
    · rw [if_neg h, List.map_cons, ih, List.erase_cons_tail (by simpa using h)]
theorem mdel_nodup {m : List (Int × β)} (h : (mkeys m).Nodup) (k : Int) : (mkeys (mdel m k)).Nodup := by
  rw [mdel_keys]; exact h.erase k
theorem mget_mdel (d : β) : ∀ {m : List (Int × β)}, (mkeys m).Nodup → ∀ (k n : Int), mget d (mdel m k) n = if k = n then d else mget d m n
  | [], _, k, n => by simp [mdel, mget]
  | (j, u) :: r, h, k, n => by
    simp only [mkeys, List.map_cons, List.nodup_cons] at h
    have ih := mget_mdel d (m := r) h.2 k n
    simp only [mdel, mget]
    by_cases e : j = k
    · subst e
      rw [if_pos rfl]
      by_cases e2 : j = n
      · subst e2
        rw [if_pos rfl]
        exact mget_not (by
          cases hb : mhas r j with
          | false => rfl
          | true => exact absurd ((mhas_iff r j).1 hb) h.1)
      · rw [if_neg e2, if_neg e2]
    · rw [if_neg e]
      simp only [mget]
      by_cases e2 : j = n
      · subst e2
        rw [if_pos rfl, if_neg (fun e' => e e'.symm), if_pos rfl]
      · rw [if_neg e2, if_neg e2, ih]
theorem mhas_mdel {m : List (Int × β)} (h : (mkeys m).Nodup) (k n : Int) : mhas (mdel m k) n = (!decide (k = n) && mhas m n) := by
  have h1 := mhas_iff (mdel m k) n
  have h2 := mhas_iff m n
  rw [mdel_keys, h.mem_erase_iff] at h1
  cases ha : mhas (mdel m k) n <;> cases hb : mhas m n <;> by_cases e : k = n <;> simp_all
end

section
variable {α ρ : Type} {step : α → Unit → Option (Out Unit ρ)}
theorem forE_tests {l : List α} (e : ρ) (ok : α → Prop) (hs : ∀ p ∈ l, (step p () = some (.next ()) ∧ ok p) ∨ (step p () = some (.ret e) ∧ ¬ ok p)) :
    (forE step l () = some (.next ()) ∧ ∀ p ∈ l, ok p) ∨ (forE step l () = some (.ret e) ∧ ¬ ∀ p ∈ l, ok p) := by
  induction l with
  | nil => exact .inl ⟨rfl, by simp⟩
  | cons p l ih =>
    rcases hs p (by simp) with ⟨h1, h2⟩ | ⟨h1, h2⟩
    · rcases ih (fun q hq => hs q (List.mem_cons_of_mem _ hq)) with ⟨h3, h4⟩ | ⟨h3, h4⟩
      · exact .inl ⟨by rw [forE, h1]; exact h3, by simp; exact ⟨h2, h4⟩⟩
      · exact .inr ⟨by rw [forE, h1]; exact h3, fun h => h4 fun q hq => h q (List.mem_cons_of_mem _ hq)⟩
    · exact .inr ⟨by rw [forE, h1]; rfl, fun h => h2 (h p (by simp))⟩
theorem perm_tests {l : List α} (e : ρ) (ok : α → Prop) (hs : ∀ p ∈ l, (step p () = some (.next ()) ∧ ok p) ∨ (step p () = some (.ret e) ∧ ¬ ok p)) :
    ((allPerm l fun ord => forE step ord ()) = some (.next ()) ∧ ∀ p ∈ l, ok p) ∨ ((allPerm l fun ord => forE step ord ()) = some (.ret e) ∧ ¬ ∀ p ∈ l, ok p) := by
  by_cases h : ∀ p ∈ l, ok p
  · refine .inl ⟨allPerm_of fun ord ho => ?_, h⟩
    rcases forE_tests (l := ord) e ok (fun p hp => hs p (ho.mem_iff.1 hp)) with ⟨h1, _⟩ | ⟨_, h2⟩
    · exact h1
    · exact absurd (fun p hp => h p (ho.mem_iff.1 hp)) h2
  · refine .inr ⟨allPerm_of fun ord ho => ?_, h⟩
    rcases forE_tests (l := ord) e ok (fun p hp => hs p (ho.mem_iff.1 hp)) with ⟨_, h2⟩ | ⟨h1, _⟩
    · exact absurd (fun p hp => h2 p (ho.mem_iff.2 hp)) h
    · exact h1
end

/-- The rule of a loop with fuel: a measure that falls, at most the fuel at the start. -/
theorem whileN_inv {σ ρ : Type} {step : σ → Option (Out σ ρ)} (I : σ → Prop) (R : ρ → Prop) (μ : σ → Nat) (hs : ∀ s, I s → (∃ s', step s = some (.next s') ∧ I s' ∧ μ s' < μ s) ∨ (∃ r, step s = some (.ret r) ∧ R r)) :
    ∀ (n : Nat) (s : σ), I s → μ s < n → ∃ r, whileN step n s = some (.ret r) ∧ R r
  | 0, s, _, h => by omega
  | n + 1, s, hI, h => by
    rcases hs s hI with ⟨s', h1, h2, h3⟩ | ⟨r, h1, h2⟩
    · obtain ⟨r, h4, h5⟩ := whileN_inv I R μ hs n s' h2 (by omega)
      exact ⟨r, by rw [whileN, h1]; exact h4, h5⟩
    · exact ⟨r, by rw [whileN, h1]; rfl, h2⟩
end Go.Ab
