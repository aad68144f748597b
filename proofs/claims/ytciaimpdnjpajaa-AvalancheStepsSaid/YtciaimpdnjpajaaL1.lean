/-
  Layer 50 (avalanche) in plain Lean: what the functions compute.
-/
import Derived.Test.YtciaimpdnjpajaaG2
import Derived.Test.YtciaimpdnjpajaaSkX
namespace Go.Proofs.Ytciaimpdnjpajaa
open Go Go.Ab
set_option linter.unusedSimpArgs false
set_option linter.unusedVariables false

section
variable {α σ ρ : Type}
theorem forIx_congr {step step' : Nat → α → σ → Option (Out σ ρ)} : ∀ {l : List α} {k : Nat}, (∀ i x s, l[i]? = some x → step (k + i) x s = step' (k + i) x s) → ∀ s, forIx step k l s = forIx step' k l s
  | [], k, h, s => rfl
  | x :: r, k, h, s => by
    have h0 := h 0 x s rfl
    rw [Nat.add_zero] at h0
    rw [forIx, forIx, h0]
    have ih : ∀ s, forIx step (k + 1) r s = forIx step' (k + 1) r s := forIx_congr (l := r) (k := k + 1) (fun i y s hy => by
      have := h (i + 1) y s (by simpa using hy)
      rwa [show k + (i + 1) = k + 1 + i by omega] at this)
    cases step' k x s with
    | none => rfl
    | some o => cases o with
      | next s' => exact ih s'
      | ret r => rfl
theorem forIx_congr0 {step step' : Nat → α → σ → Option (Out σ ρ)} {l : List α} {s : σ} (h : ∀ i x s, l[i]? = some x → step i x s = step' i x s) : forIx step 0 l s = forIx step' 0 l s :=
  forIx_congr (k := 0) (fun i x s hx => by rw [Nat.zero_add]; exact h i x s hx) s
end

def s7 : ApiSlide := ⟨7, [2, 5], [3], 100, 50, -1⟩
def s72 : ApiSlide := ⟨7, [2, 5], [3], 100, 72, -1⟩
def s70 : ApiSlide := ⟨7, [2, 5], [3], 100, 70, -1⟩
def s0 : ApiSlide := ⟨7, [2, 5], [3], 100, 0, 900⟩
theorem sortI_id {l : List Int} (h : l.Pairwise fun a b => decide (a ≤ b) = true) : sortI l = l := List.mergeSort_of_pairwise h
theorem alive50 : law50_alive = some true := by
  have h0 : law50_seven = some [s7] := rfl
  have h1 : avalanche_Grow [s7] 20 12999 = some ([s72], 0) := by decide +kernel
  have h2 : avalanche_Grow [s7] 20 10000 = some ([s70], 0) := by decide +kernel
  have h3 : avalanche_Control [s7] 7 900 = some ([s0], 0) := by decide +kernel
  have h4 : avalanche_Control [s0] 7 899 = some ([], 11) := by decide +kernel
  have h5 : avalanche_Right [s7] = some 0 := by decide +kernel
  have h6 : avalanche_Level s7 [1, 3] = some 3 := by decide +kernel
  have h7 : avalanche_Unstable s7 [1, 3] = some true := by decide +kernel
  have h8 : avalanche_Unstable s7 [1, 2] = some false := by decide +kernel
  have h9 : avalanche_Unstable s7 [1, 2, 3, 4, 5] = some true := by decide +kernel
  have h10 : avalanche_Unstable s0 [0, 4] = some false := by decide +kernel
  have z1 : forIx (avalanche_Zones_b1 [1, 3]) 0 [s7] [] = some (.next [2, 5]) := by rfl
  have z2 : forIx (avalanche_Lifts_b1 [1, 3]) 0 [s7] [] = some (.next [3]) := by rfl
  have z3 : forIx (avalanche_Zones_b1 []) 0 [s7] [] = some (.next []) := by rfl
  have e1 : compactI (sortI [2, 5]) = [2, 5] := by rw [sortI_id (by decide)]; rfl
  have e2 : compactI (sortI [3]) = [3] := by rw [sortI_id (by decide)]; rfl
  have e3 : compactI (sortI []) = [] := by rw [sortI_id (by decide)]; rfl
  have h11 : avalanche_Zones [s7] [1, 3] = some [2, 5] := by simp [avalanche_Zones, z1, Out.on, chk, e1]
  have h12 : avalanche_Lifts [s7] [1, 3] = some [3] := by simp [avalanche_Lifts, z2, Out.on, chk, e2]
  have h13 : avalanche_Zones [s7] [] = some [] := by simp [avalanche_Zones, z3, Out.on, chk, e3]
  have i1 : ∀ s : ApiSlide, idxL [s] 0 = some s := fun _ => rfl
  have c1 : ref50_Same [2, 5] [2, 5] = some true := by decide +kernel
  have c2 : ref50_Same [3] [3] = some true := by decide +kernel
  have l1 : s72.Load = 72 := rfl
  have l2 : s70.Load = 70 := rfl
  have l3 : s0.Load = 0 := rfl
  have l4 : s0.Controlled = 900 := rfl
  simp [law50_alive, h0, h1, h2, h3, h4, h5, h6, h7, h8, h9, h10, h11, h12, h13, i1, c1, c2, l1, l2, l3, l4]

/-! ### small -/
def Small (l : List ApiSlide) : Prop := l.length ≤ 50 ∧ ∀ s ∈ l, s.Zones.length ≤ 100 ∧ s.Lifts.length ≤ 100
theorem small_eq (l : List ApiSlide) : ∃ b, law50_small l = some b ∧ (b = true → Small l) := by
  obtain ⟨r, h1, h2⟩ := whileN_inv (step := law50_small_b1 l) (fun (s : Int) => 0 ≤ s ∧ s ≤ 51 ∧ s ≤ l.length ∧ ∀ (i : Nat) (x : ApiSlide), (i : Int) < s → l[i]? = some x → x.Zones.length ≤ 100 ∧ x.Lifts.length ≤ 100)
    (fun b => b = true → Small l) (fun s => (51 - s).toNat) (fun s ⟨hs0, hs1, hs2, hI⟩ => by
      obtain ⟨k, rfl⟩ : ∃ k : Nat, s = (k : Int) := ⟨s.toNat, by omega⟩
      unfold law50_small_b1
      by_cases hl : (k : Int) < (l.length : Int)
      · rw [decide_eq_true hl, cond_true]
        by_cases h51 : (k : Int) < 51
        · rw [decide_eq_true h51, cond_true]
          have hk : l[k]? = some l[k] := List.getElem?_eq_getElem (by omega)
          rw [idxL_nat hk, Option.bind_some]
          by_cases hz : (100 : Int) < ((l[k].Zones.length : Nat) : Int)
          · rw [decide_eq_true hz]; exact .inr ⟨false, rfl, fun h => by cases h⟩
          · rw [decide_eq_false hz, cond_false]
            by_cases hf : (100 : Int) < ((l[k].Lifts.length : Nat) : Int)
            · rw [decide_eq_true hf]; exact .inr ⟨false, rfl, fun h => by cases h⟩
            · rw [decide_eq_false hf, cond_false, wrap_add1 (by omega)]
              refine .inl ⟨((k + 1 : Nat) : Int), rfl, ⟨by omega, by omega, by omega, fun i x hi hx => ?_⟩, by omega⟩
              by_cases e : i = k
              · subst e; rw [hk] at hx; obtain rfl := Option.some.inj hx; exact ⟨by omega, by omega⟩
              · exact hI i x (by omega) hx
        · rw [decide_eq_false h51, cond_false]
          exact .inr ⟨_, rfl, fun h => by have := of_decide_eq_true h; omega⟩
      · rw [decide_eq_false hl, cond_false, cond_false]
        refine .inr ⟨_, rfl, fun h => ⟨by have := of_decide_eq_true h; omega, fun x hx => ?_⟩⟩
        obtain ⟨i, hi, rfl⟩ := List.getElem_of_mem hx
        exact hI i _ (by omega) (List.getElem?_eq_getElem hi)) fuel 0 ⟨by omega, by omega, by omega, fun i x h => by omega⟩ (by decide)
  exact ⟨r, by rw [law50_small, h1]; rfl, h2⟩

/-! ### lists of numbers that rise -/
def Inc (l : List Int) : Prop := l.Pairwise (· < ·)
def IncOK (most : Int) (l : List Int) : Prop := (∀ x ∈ l, 1 ≤ x ∧ x ≤ most) ∧ Inc l
instance (most : Int) (l : List Int) : Decidable (IncOK most l) := by unfold IncOK Inc; infer_instance
theorem inc_of_steps {l : List Int} (h : ∀ k x y, l[k + 1]? = some x → l[k]? = some y → y < x) : Inc l := by
  unfold Inc
  rw [List.pairwise_iff_getElem]
  have key : ∀ (d i : Nat) (hj : i + d + 1 < l.length), l[i]'(by omega) < l[i + d + 1] := by
    intro d
    induction d with
    | zero =>
      intro i hj
      exact h i _ _ (List.getElem?_eq_getElem (by omega)) (List.getElem?_eq_getElem (by omega))
    | succ d ih =>
      intro i hj
      have h1 := ih i (by omega)
      have h2 := h (i + d + 1) l[i + (d + 1) + 1] l[i + d + 1] (by rw [List.getElem?_eq_getElem (by omega)]; rfl) (List.getElem?_eq_getElem (by omega))
      omega
  intro i j hi hj hlt
  have := key (j - i - 1) i (by omega)
  simpa [show i + (j - i - 1) + 1 = j by omega] using this
theorem inc_steps {l : List Int} (h : Inc l) {k : Nat} {x y : Int} (hx : l[k + 1]? = some x) (hy : l[k]? = some y) : y < x := by
  unfold Inc at h
  rw [List.pairwise_iff_getElem] at h
  obtain ⟨h1, rfl⟩ := List.getElem?_eq_some_iff.1 hx
  obtain ⟨h2, rfl⟩ := List.getElem?_eq_some_iff.1 hy
  exact h k (k + 1) h2 h1 (by omega)
theorem increasing_eq (l : List Int) (most : Int) (hl : l.length ≤ 9223372036854775807) : avalanche_increasing l most = some (decide (IncOK most l)) := by
  unfold avalanche_increasing
  rcases forIx_inv (step := avalanche_increasing_b1 l most) (l := l) (s := ()) (fun k _ => (∀ i x, i < k → l[i]? = some x → 1 ≤ x ∧ x ≤ most) ∧ ∀ i x y, i + 1 < k → l[i + 1]? = some x → l[i]? = some y → y < x)
    (fun r => r = false ∧ ¬ IncOK most l) ⟨fun i x h => by omega, fun i x y h => by omega⟩ (fun k x u hk ⟨hI1, hI2⟩ => by
      have hlt := (List.getElem?_eq_some_iff.1 hk).1
      have hm := List.mem_of_getElem? hk
      unfold avalanche_increasing_b1
      by_cases h1 : x < 1
      · rw [decide_eq_true h1]; exact .inr ⟨false, rfl, rfl, fun h => by have := h.1 x hm; omega⟩
      rw [decide_eq_false h1, cond_false]
      by_cases h2 : most < x
      · rw [decide_eq_true h2]; exact .inr ⟨false, rfl, rfl, fun h => by have := h.1 x hm; omega⟩
      rw [decide_eq_false h2, cond_false]
      have hI1' : ∀ i y, i < k + 1 → l[i]? = some y → 1 ≤ y ∧ y ≤ most := fun i y hi hy => by
        by_cases e : i = k
        · subst e; rw [hk] at hy; obtain rfl := Option.some.inj hy; omega
        · exact hI1 i y (by omega) hy
      by_cases h3 : (0 : Int) < (k : Int)
      · rw [decide_eq_true h3, cond_true, wrap_pred (by omega) (by omega), idxL_lt (k := k - 1) (by omega), Option.bind_some]
        have hp : l[k - 1]? = some l[k - 1] := List.getElem?_eq_getElem (by omega)
        by_cases h4 : x ≤ l[k - 1]
        · rw [decide_eq_true h4]
          refine .inr ⟨false, rfl, rfl, fun h => ?_⟩
          have := inc_steps h.2 (k := k - 1) (by rw [Nat.sub_add_cancel (by omega)]; exact hk) hp
          omega
        · rw [decide_eq_false h4]
          refine .inl ⟨(), rfl, hI1', fun i a b hi ha hb => ?_⟩
          by_cases e : i + 1 = k
          · rw [e, hk] at ha; obtain rfl := Option.some.inj ha
            obtain rfl : i = k - 1 := by omega
            rw [hp] at hb; obtain rfl := Option.some.inj hb; omega
          · exact hI2 i a b (by omega) ha hb
      · rw [decide_eq_false h3]
        exact .inl ⟨(), rfl, hI1', fun i a b hi ha hb => by omega⟩) with ⟨u, h1, h2, h3⟩ | ⟨r, h1, h2, h3⟩
  · have : IncOK most l := ⟨fun x hx => by
      obtain ⟨i, hi, rfl⟩ := List.getElem_of_mem hx
      exact h2 i _ hi (List.getElem?_eq_getElem hi), inc_of_steps fun k x y hx hy => h3 k x y (List.getElem?_eq_some_iff.1 hx).1 hx hy⟩
    rw [h1, decide_eq_true this]; rfl
  · subst h2
    rw [h1, decide_eq_false h3]; rfl
theorem rising_eq (l : List Int) (most : Int) (hl : l.length ≤ 9223372036854775807) : ref50_rising l most = some (decide (IncOK most l)) := increasing_eq l most hl

/-! ### finding a path -/
theorem find_eq (l : List ApiSlide) (n : Int) : (avalanche_find l n = some (-1) ∧ ∀ x ∈ l, x.ID ≠ n) ∨ (∃ (k : Nat) (x : ApiSlide), avalanche_find l n = some (k : Int) ∧ l[k]? = some x ∧ x.ID = n ∧ ∀ j y, j < k → l[j]? = some y → y.ID ≠ n) := by
  unfold avalanche_find
  rcases forIx_inv (step := avalanche_find_b1 n) (l := l) (s := ()) (fun k _ => ∀ i x, i < k → l[i]? = some x → x.ID ≠ n)
    (fun r => ∃ (k : Nat) (x : ApiSlide), r = (k : Int) ∧ l[k]? = some x ∧ x.ID = n ∧ ∀ j y, j < k → l[j]? = some y → y.ID ≠ n) (fun i x h => by omega) (fun k x u hk hI => by
      unfold avalanche_find_b1
      by_cases e : x.ID = n
      · rw [decide_eq_true e]; exact .inr ⟨_, rfl, k, x, rfl, hk, e, hI⟩
      · rw [decide_eq_false e]
        refine .inl ⟨(), rfl, fun i y hi hy => ?_⟩
        by_cases h : i = k
        · subst h; rw [hk] at hy; obtain rfl := Option.some.inj hy; exact e
        · exact hI i y (by omega) hy) with ⟨u, h1, h2⟩ | ⟨r, h1, k, x, rfl, h2, h3, h4⟩
  · refine .inl ⟨by rw [h1]; rfl, fun x hx => ?_⟩
    obtain ⟨i, hi, rfl⟩ := List.getElem_of_mem hx
    exact h2 i _ hi (List.getElem?_eq_getElem hi)
  · exact .inr ⟨k, x, by rw [h1]; rfl, h2, h3, h4⟩

/-! ### Right -/
def InR (s : ApiSlide) : Prop := 1 ≤ s.ID ∧ s.ID ≤ 9999 ∧ 4 ≤ s.Limit ∧ s.Limit ≤ 100000 ∧ 0 ≤ s.Load ∧ s.Load ≤ 100000 ∧ -1 ≤ s.Controlled ∧ s.Controlled ≤ 20000000
instance (s : ApiSlide) : Decidable (InR s) := by unfold InR; infer_instance
def Lists (s : ApiSlide) : Prop := s.Zones ≠ [] ∧ IncOK 32 s.Zones ∧ IncOK 9999 s.Lifts
instance (s : ApiSlide) : Decidable (Lists s) := by unfold Lists; infer_instance
def Twice (l : List ApiSlide) (k : Nat) (s : ApiSlide) : Prop := ∃ y ∈ l.take k, y.ID = s.ID
instance (l : List ApiSlide) (k : Nat) (s : ApiSlide) : Decidable (Twice l k s) := by unfold Twice; infer_instance
def errAt (l : List ApiSlide) (k : Nat) (s : ApiSlide) : Option Int := if ¬ InR s then some 2 else if Twice l k s then some 7 else if ¬ Lists s then some 1 else none
def ans (o : Option Int) : Option (Out Unit Int) := match o with | none => some (.next ()) | some e => some (.ret e)
theorem inRange_eq (s : ApiSlide) : avalanche_inRange s = some (decide (InR s)) := by
  unfold avalanche_inRange InR
  by_cases h1 : 1 ≤ s.ID <;> by_cases h2 : s.ID ≤ 9999 <;> by_cases h3 : 4 ≤ s.Limit <;> by_cases h4 : s.Limit ≤ 100000 <;> by_cases h5 : 0 ≤ s.Load <;> by_cases h6 : s.Load ≤ 100000 <;> by_cases h7 : -1 ≤ s.Controlled <;> simp [h1, h2, h3, h4, h5, h6, h7]
theorem lists_len (s : ApiSlide) : decide (((s.Zones.length : Nat) : Int) = (0 : Int)) = decide (s.Zones = []) := by
  cases s.Zones <;> simp <;> omega
theorem right_step (l : List ApiSlide) (hl : l.length ≤ 9223372036854775807) (k : Nat) (x : ApiSlide) (hk : l[k]? = some x) (hz : x.Zones.length ≤ 9223372036854775807) (hf : x.Lifts.length ≤ 9223372036854775807) :
    avalanche_Right_b1 l k x () = ans (errAt l k x) := by
  have hlt := (List.getElem?_eq_some_iff.1 hk).1
  unfold avalanche_Right_b1 errAt
  rw [inRange_eq, Option.bind_some]
  by_cases h1 : InR x
  · rw [decide_eq_true h1, Bool.not_true, cond_false, okB_ok ⟨by omega, by omega⟩, if_neg (by simpa using h1)]
    rcases find_eq (l.take k) x.ID with ⟨h2, h3⟩ | ⟨j, y, h2, h3, h4, _⟩
    · rw [h2, Option.bind_some, if_neg (fun ⟨y, hy, e⟩ => h3 y hy e)]
      show (bif decide (((x.Zones.length : Nat) : Int) = (0 : Int)) then _ else _) = _
      rw [lists_len, increasing_eq _ _ hz, increasing_eq _ _ hf]
      unfold Lists
      by_cases h5 : x.Zones = [] <;> by_cases h6 : IncOK 32 x.Zones <;> by_cases h7 : IncOK 9999 x.Lifts <;> simp [h5, h6, h7, ans]
    · rw [h2, Option.bind_some, decide_eq_true (Int.natCast_nonneg j), cond_true, if_pos ⟨y, List.mem_of_getElem? h3, h4⟩]; rfl
  · rw [decide_eq_false h1, if_pos h1]; rfl
theorem ref_twice (l : List ApiSlide) (k : Nat) (x : ApiSlide) (hk : k < l.length) (hl : l.length ≤ 9223372036854775807) :
    (Twice l k x ∧ forN (ref50_Right_b2 l x) k () = some (.ret (.ret 7))) ∨ (¬ Twice l k x ∧ forN (ref50_Right_b2 l x) k () = some (.next ())) := by
  rcases forN_inv (step := ref50_Right_b2 l x) (n := k) (s := ()) (by omega) (fun i _ => ∀ j y, j < i → l[j]? = some y → y.ID ≠ x.ID) (fun r => r = .ret 7 ∧ Twice l k x) (fun j y h => by omega) (fun i u hi hI => by
    unfold ref50_Right_b2
    have hy : l[i]? = some l[i] := List.getElem?_eq_getElem (by omega)
    rw [idxL_nat hy, Option.bind_some]
    by_cases e : l[i].ID = x.ID
    · rw [decide_eq_true e]
      refine .inr ⟨_, rfl, rfl, l[i], List.mem_of_getElem? (i := i) ?_, e⟩
      rw [List.getElem?_take, if_pos hi]; exact hy
    · rw [decide_eq_false e]
      refine .inl ⟨(), rfl, fun j y hj hy' => ?_⟩
      by_cases h : j = i
      · subst h; rw [hy] at hy'; obtain rfl := Option.some.inj hy'; exact e
      · exact hI j y (by omega) hy') with ⟨u, h1, h2⟩ | ⟨r, h1, h2, h3⟩
  · refine .inr ⟨fun ⟨y, hy, e⟩ => ?_, h1⟩
    obtain ⟨j, hj, rfl⟩ := List.getElem_of_mem hy
    rw [List.length_take] at hj
    rw [List.getElem_take] at e
    exact h2 j _ (by omega) (List.getElem?_eq_getElem (by omega)) e
  · subst h2; exact .inl ⟨h3, h1⟩
theorem refright_step (l : List ApiSlide) (hl : l.length ≤ 9223372036854775807) (k : Nat) (x : ApiSlide) (hk : l[k]? = some x) (hz : x.Zones.length ≤ 9223372036854775807) (hf : x.Lifts.length ≤ 9223372036854775807) :
    ref50_Right_b1 l k x () = ans (errAt l k x) := by
  have hlt := (List.getElem?_eq_some_iff.1 hk).1
  unfold ref50_Right_b1 errAt
  by_cases h1 : InR x
  · obtain ⟨a1, a2, a3, a4, a5, a6, a7, a8⟩ := h1
    rw [decide_eq_false (by omega), cond_false, decide_eq_false (by omega), cond_false, decide_eq_false (by omega), cond_false, decide_eq_false (by omega), cond_false, decide_eq_false (by omega), cond_false,
      decide_eq_false (by omega), cond_false, decide_eq_false (by omega), cond_false, decide_eq_false (by omega), cond_false, if_neg (fun hn => hn (show InR x from ⟨a1, a2, a3, a4, a5, a6, a7, a8⟩))]
    rcases ref_twice l k x hlt hl with ⟨h2, h3⟩ | ⟨h2, h3⟩
    · rw [h3, if_pos h2]; rfl
    · rw [h3, if_neg h2, Option.bind_some]
      show (bif decide (((x.Zones.length : Nat) : Int) = (0 : Int)) then _ else _) = _
      rw [lists_len, rising_eq _ _ hz, rising_eq _ _ hf]
      unfold Lists
      by_cases h5 : x.Zones = [] <;> by_cases h6 : IncOK 32 x.Zones <;> by_cases h7 : IncOK 9999 x.Lifts <;> simp [h5, h6, h7, ans]
  · rw [if_pos h1]
    by_cases b1 : x.ID < 1
    · rw [decide_eq_true b1]; rfl
    rw [decide_eq_false b1, cond_false]
    by_cases b2 : 9999 < x.ID
    · rw [decide_eq_true b2]; rfl
    rw [decide_eq_false b2, cond_false]
    by_cases b3 : x.Limit < 4
    · rw [decide_eq_true b3]; rfl
    rw [decide_eq_false b3, cond_false]
    by_cases b4 : 100000 < x.Limit
    · rw [decide_eq_true b4]; rfl
    rw [decide_eq_false b4, cond_false]
    by_cases b5 : x.Load < 0
    · rw [decide_eq_true b5]; rfl
    rw [decide_eq_false b5, cond_false]
    by_cases b6 : 100000 < x.Load
    · rw [decide_eq_true b6]; rfl
    rw [decide_eq_false b6, cond_false]
    by_cases b7 : x.Controlled < -1
    · rw [decide_eq_true b7]; rfl
    rw [decide_eq_false b7, cond_false]
    by_cases b8 : 20000000 < x.Controlled
    · rw [decide_eq_true b8]; rfl
    exact absurd (show InR x from ⟨by omega, by omega, by omega, by omega, by omega, by omega, by omega, by omega⟩) h1
def RightOK (l : List ApiSlide) : Prop := l.length ≤ 32 ∧ ∀ k x, l[k]? = some x → errAt l k x = none
def LensOK (l : List ApiSlide) : Prop := l.length ≤ 9223372036854775807 ∧ ∀ s ∈ l, s.Zones.length ≤ 9223372036854775807 ∧ s.Lifts.length ≤ 9223372036854775807
theorem ans_loop (l : List ApiSlide) (g : Nat → ApiSlide → Option Int) : ∃ r, ((forIx (fun k x (_ : Unit) => ans (g k x)) 0 l ()).bind fun o => o.on fun _ => some (0 : Int)) = some r ∧ ((∀ k x, l[k]? = some x → g k x ≠ some 0) → (r = 0 ↔ ∀ k x, l[k]? = some x → g k x = none)) := by
  rcases forIx_inv (step := fun k x (_ : Unit) => ans (g k x)) (l := l) (s := ()) (fun i _ => ∀ k x, k < i → l[k]? = some x → g k x = none) (fun r => ∃ k x, l[k]? = some x ∧ g k x = some r) (fun k x h => by omega) (fun k x u hk hI => by
    cases hg : g k x with
    | none =>
      refine .inl ⟨(), by simp only [hg, ans], fun i y hi hy => ?_⟩
      by_cases e : i = k
      · subst e; rw [hk] at hy; obtain rfl := Option.some.inj hy; exact hg
      · exact hI i y (by omega) hy
    | some e => exact .inr ⟨e, by simp only [hg, ans], k, x, hk, hg⟩) with ⟨u, h1, h2⟩ | ⟨r, h1, k, x, h2, h3⟩
  · exact ⟨0, by rw [h1]; rfl, fun _ => ⟨fun _ k x hx => h2 k x (List.getElem?_eq_some_iff.1 hx).1 hx, fun _ => rfl⟩⟩
  · refine ⟨r, by rw [h1]; rfl, fun hn => ⟨fun e => ?_, fun h => ?_⟩⟩
    · subst e; exact absurd h3 (hn k x h2)
    · rw [h k x h2] at h3; cases h3
theorem errAt_ne (l : List ApiSlide) (k : Nat) (x : ApiSlide) : errAt l k x ≠ some 0 := by
  unfold errAt; split <;> (try split) <;> (try split) <;> simp
theorem right_ok (l : List ApiSlide) (h : LensOK l) : ∃ r, avalanche_Right l = some r ∧ ref50_Right l = some r ∧ (r = 0 ↔ RightOK l) := by
  unfold avalanche_Right ref50_Right
  by_cases hl : (32 : Int) < ((l.length : Nat) : Int)
  · rw [decide_eq_true hl]
    exact ⟨4, rfl, rfl, fun e => by omega, fun h => by have := h.1; omega⟩
  · rw [decide_eq_false hl, cond_false, cond_false]
    rw [forIx_congr0 (step := avalanche_Right_b1 l) (step' := fun k x (_ : Unit) => ans (errAt l k x)) (fun k x u hx => right_step l h.1 k x hx (h.2 x (List.mem_of_getElem? hx)).1 (h.2 x (List.mem_of_getElem? hx)).2),
      forIx_congr0 (step := ref50_Right_b1 l) (step' := fun k x (_ : Unit) => ans (errAt l k x)) (fun k x u hx => refright_step l h.1 k x hx (h.2 x (List.mem_of_getElem? hx)).1 (h.2 x (List.mem_of_getElem? hx)).2)]
    obtain ⟨r, h1, h2⟩ := ans_loop l (errAt l)
    refine ⟨r, h1, h1, (h2 fun k x _ => errAt_ne l k x).trans ⟨fun h => ⟨by omega, h⟩, fun h => h.2⟩⟩
theorem lens_ok {l : List ApiSlide} (h : OkL OkApiSlide l) : LensOK l := ⟨h.1, fun s hs => ⟨(h.2 s hs).2.1.1, (h.2 s hs).2.2.1.1⟩⟩
theorem law50_AvalancheRight_true (l : List ApiSlide) (hl : OkL OkApiSlide l) : law50_AvalancheRight l = some true := by
  obtain ⟨b, h1, _⟩ := small_eq l
  obtain ⟨r, h2, h3, _⟩ := right_ok l (lens_ok hl)
  simp only [law50_AvalancheRight, alive50, h1, h2, h3, Option.bind_some]
  cases b <;> simp
/-! ### what an accepted path is -/
theorem RightOK.at {l : List ApiSlide} (h : RightOK l) {x : ApiSlide} (hx : x ∈ l) : InR x ∧ Lists x := by
  obtain ⟨k, hk, rfl⟩ := List.getElem_of_mem hx
  have := h.2 k _ (List.getElem?_eq_getElem hk)
  unfold errAt at this
  split at this
  · cases this
  · split at this
    · cases this
    · split at this
      · cases this
      · rename_i a b c; exact ⟨by simpa using a, by simpa using c⟩
theorem RightOK.once {l : List ApiSlide} (h : RightOK l) {i j : Nat} {x y : ApiSlide} (hij : i < j) (hx : l[i]? = some x) (hy : l[j]? = some y) : x.ID ≠ y.ID := fun e => by
  have := h.2 j y hy
  unfold errAt at this
  have ht : Twice l j y := ⟨x, List.mem_of_getElem? (i := i) (by rw [List.getElem?_take, if_pos hij]; exact hx), e⟩
  rw [if_pos ht] at this
  split at this <;> cases this
end Go.Proofs.Ytciaimpdnjpajaa
