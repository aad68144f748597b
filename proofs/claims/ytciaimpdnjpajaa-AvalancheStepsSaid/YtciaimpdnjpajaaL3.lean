/-
  The laws of layer 50 (avalanche) in plain Lean: levels, unstable paths, their zones and lifts.
-/
import Derived.Test.YtciaimpdnjpajaaL2
namespace Go.Proofs.Ytciaimpdnjpajaa
open Go Go.Ab
set_option linter.unusedSimpArgs false
set_option linter.unusedVariables false

/-! ### Level -/
def lvl (levels : List Int) (z : Int) : Int := if 1 ≤ z then (levels[(z - 1).toNat]?).getD 0 else 0
def levF (levels : List Int) : List Int → Int
  | [] => 0
  | z :: r => r.foldl (fun a z => if a < lvl levels z then lvl levels z else a) (lvl levels z)
theorem levF_snoc (levels : List Int) (zs : List Int) (z : Int) : levF levels (zs ++ [z]) = if zs = [] ∨ levF levels zs < lvl levels z then lvl levels z else levF levels zs := by
  cases zs with
  | nil => rfl
  | cons y r =>
    simp only [List.cons_append, levF, List.foldl_append, List.foldl_cons, List.foldl_nil, reduceCtorEq, false_or]
theorem lvl_in {levels : List Int} {z : Int} (hl : levels.length ≤ 9223372036854775807) (h1 : 1 ≤ z) (h2 : z ≤ (levels.length : Int)) : idxL levels (IntKind.i64.wrap (z - 1)) = some (lvl levels z) := by
  rw [wrap_small (by omega) (by omega)]
  have hlt : (z - 1).toNat < levels.length := by omega
  unfold lvl
  rw [if_pos h1, List.getElem?_eq_getElem hlt]
  exact idxL_ok (k := (z - 1).toNat) (by omega) (List.getElem?_eq_getElem hlt)
theorem lvl_out {levels : List Int} {z : Int} (h : ¬ (1 ≤ z ∧ z ≤ (levels.length : Int))) : lvl levels z = 0 := by
  unfold lvl
  by_cases h1 : 1 ≤ z
  · rw [if_pos h1, List.getElem?_eq_none (by omega)]; rfl
  · rw [if_neg h1]
theorem lev_tail (k : Nat) (v sv : Int) : (bif (decide (((k : Nat) : Int) = (0 : Int))) then some (Out.next v) else (bif (decide (sv < v)) then some (Out.next v) else some (Out.next sv)) : Option (Out Int Int)) = some (.next (if k = 0 ∨ sv < v then v else sv)) := by
  by_cases h1 : k = 0
  · rw [decide_eq_true (by omega), if_pos (.inl h1)]; rfl
  · rw [decide_eq_false (by omega), cond_false]
    by_cases h2 : sv < v
    · rw [decide_eq_true h2, if_pos (.inr h2)]; rfl
    · rw [decide_eq_false h2, if_neg (by omega)]; rfl
theorem level_step {levels : List Int} (hl : levels.length ≤ 9223372036854775807) (k : Nat) (x sv : Int) : avalanche_Level_b1 levels k x sv = some (.next (if k = 0 ∨ sv < lvl levels x then lvl levels x else sv)) := by
  unfold avalanche_Level_b1
  by_cases h1 : 1 ≤ x
  · rw [decide_eq_true h1, cond_true]
    by_cases h2 : x ≤ (levels.length : Int)
    · rw [decide_eq_true h2, cond_true, lvl_in hl h1 h2, Option.bind_some]; exact lev_tail k _ sv
    · rw [decide_eq_false h2, cond_false, lvl_out (fun h => h2 h.2)]; exact lev_tail k _ sv
  · rw [decide_eq_false h1, cond_false, lvl_out (fun h => h1 h.1)]; exact lev_tail k _ sv
theorem reflevel_step {levels : List Int} (hl : levels.length ≤ 9223372036854775807) (k : Nat) (x sv : Int) (h1 : 1 ≤ x) : ref50_Level_b1 levels k x sv = some (.next (if k = 0 ∨ sv < lvl levels x then lvl levels x else sv)) := by
  unfold ref50_Level_b1
  by_cases h2 : x ≤ (levels.length : Int)
  · rw [decide_eq_true h2, cond_true, lvl_in hl h1 h2, Option.bind_some]; exact lev_tail k _ sv
  · rw [decide_eq_false h2, cond_false, lvl_out (fun h => h2 h.2)]; exact lev_tail k _ sv
theorem lev_loop {step : Nat → Int → Int → Option (Out Int Int)} {levels zs : List Int} (hs : ∀ k x sv, x ∈ zs → step k x sv = some (.next (if k = 0 ∨ sv < lvl levels x then lvl levels x else sv))) :
    ((forIx step 0 zs 0).bind fun o => o.on fun s => some s) = some (levF levels zs) := by
  obtain ⟨s', h1, h2⟩ := forIx_run (step := step) (l := zs) (s := 0) (fun k s => s = levF levels (zs.take k)) rfl (fun k x s hk hI => by
    have hlt := (List.getElem?_eq_some_iff.1 hk).1
    rw [hs k x s (List.mem_of_getElem? hk)]
    refine ⟨_, rfl, ?_⟩
    rw [List.take_add_one, hk, hI]
    show _ = levF levels (zs.take k ++ [x])
    rw [levF_snoc]
    have : zs.take k = [] ↔ k = 0 := by
      constructor
      · intro h
        have := congrArg List.length h
        simp at this
        rcases this with h | h
        · exact h
        · subst h; simp at hlt
      · intro h; subst h; rfl
    simp only [this])
  rw [h1, h2, List.take_length]; rfl
theorem level_eq (s : ApiSlide) {levels : List Int} (hl : levels.length ≤ 9223372036854775807) : avalanche_Level s levels = some (levF levels s.Zones) :=
  lev_loop fun k x sv _ => level_step hl k x sv
theorem reflevel_eq (s : ApiSlide) {levels : List Int} (hl : levels.length ≤ 9223372036854775807) (hz : ∀ z ∈ s.Zones, 1 ≤ z) : ref50_Level s levels = some (levF levels s.Zones) :=
  lev_loop fun k x sv hx => reflevel_step hl k x sv (hz x hx)

/-! ### Unstable -/
def Unst (s : ApiSlide) (levels : List Int) : Prop :=
  s.Limit ≤ s.Load ∨ (levF levels s.Zones = 3 ∧ s.Limit / 2 ≤ s.Load) ∨ (levF levels s.Zones = 4 ∧ s.Limit / 4 ≤ s.Load) ∨ 4 < levF levels s.Zones
instance (s : ApiSlide) (levels : List Int) : Decidable (Unst s levels) := by unfold Unst; infer_instance
theorem half_eq {n d : Int} (h0 : 0 ≤ n) (h1 : n ≤ 100000) (hd : 1 ≤ d) : IntKind.i64.wrap (Int.tdiv n d) = n / d := by
  have h2 : n / d ≤ n := Int.ediv_le_self d h0
  have h3 : 0 ≤ n / d := Int.ediv_nonneg h0 (by omega)
  rw [Int.tdiv_eq_ediv_of_nonneg h0, wrap_small (by omega) (by omega)]
theorem unstable_eq {s : ApiSlide} (hr : InR s) {levels : List Int} (hl : levels.length ≤ 9223372036854775807) : avalanche_Unstable s levels = some (decide (Unst s levels)) := by
  unfold InR at hr
  unfold avalanche_Unstable
  rw [level_eq s hl, half_eq (by omega) (by omega) (by omega), half_eq (by omega) (by omega) (by omega)]
  by_cases h1 : s.Limit ≤ s.Load
  · rw [decide_eq_true h1, decide_eq_true (show Unst s levels from .inl h1)]; rfl
  rw [decide_eq_false h1, cond_false, Option.bind_some]
  by_cases h2 : levF levels s.Zones = 3
  · rw [decide_eq_true h2, cond_true]
    refine congrArg some (decide_eq_decide.2 ?_)
    unfold Unst; omega
  rw [decide_eq_false h2, cond_false]
  by_cases h3 : levF levels s.Zones = 4
  · rw [decide_eq_true h3, cond_true]
    refine congrArg some (decide_eq_decide.2 ?_)
    unfold Unst; omega
  rw [decide_eq_false h3, cond_false]
  refine congrArg some (decide_eq_decide.2 ?_)
  unfold Unst; omega
theorem refunstable_eq {s : ApiSlide} (hr : InR s) {levels : List Int} (hl : levels.length ≤ 9223372036854775807) (hz : ∀ z ∈ s.Zones, 1 ≤ z) : ref50_Unstable s levels = some (decide (Unst s levels)) := by
  unfold InR at hr
  unfold ref50_Unstable
  rw [reflevel_eq s hl hz, half_eq (by omega) (by omega) (by omega), half_eq (by omega) (by omega) (by omega), Option.bind_some]
  by_cases h1 : 4 < levF levels s.Zones
  · rw [decide_eq_true h1, decide_eq_true (show Unst s levels from .inr (.inr (.inr h1)))]; rfl
  rw [decide_eq_false h1, cond_false]
  by_cases h3 : levF levels s.Zones = 4
  · rw [decide_eq_true h3, cond_true]
    refine congrArg some (decide_eq_decide.2 ?_)
    unfold Unst; omega
  rw [decide_eq_false h3, cond_false]
  by_cases h2 : levF levels s.Zones = 3
  · rw [decide_eq_true h2, cond_true]
    refine congrArg some (decide_eq_decide.2 ?_)
    unfold Unst; omega
  rw [decide_eq_false h2, cond_false]
  refine congrArg some (decide_eq_decide.2 ?_)
  unfold Unst; omega

/-! ### sorted, each once -/
theorem inc_ext : ∀ {a b : List Int}, Inc a → Inc b → (∀ x, x ∈ a ↔ x ∈ b) → a = b
  | [], [], _, _, _ => rfl
  | [], y :: s, _, _, h => absurd ((h y).2 (by simp)) (by simp)
  | x :: r, [], _, _, h => absurd ((h x).1 (by simp)) (by simp)
  | x :: r, y :: s, ha, hb, h => by
    obtain ⟨ha1, ha2⟩ := List.pairwise_cons.1 ha
    obtain ⟨hb1, hb2⟩ := List.pairwise_cons.1 hb
    have e : x = y := by
      rcases List.mem_cons.1 ((h x).1 (by simp)) with e | h1
      · exact e
      · rcases List.mem_cons.1 ((h y).2 (by simp)) with e | h2
        · exact e.symm
        · have := ha1 y h2; have := hb1 x h1; omega
    subst e
    rw [inc_ext ha2 hb2 (fun z => ?_)]
    constructor
    · intro hz
      rcases List.mem_cons.1 ((h z).1 (List.mem_cons_of_mem _ hz)) with e | h1
      · have := ha1 z hz; omega
      · exact h1
    · intro hz
      rcases List.mem_cons.1 ((h z).2 (List.mem_cons_of_mem _ hz)) with e | h1
      · have := hb1 z hz; omega
      · exact h1
def norm (xs : List Int) : List Int := compactI (sortI xs)
theorem sortI_sorted (xs : List Int) : (sortI xs).Pairwise (· ≤ ·) := by
  have := List.pairwise_mergeSort (le := fun x y : Int => decide (x ≤ y)) (fun a b c h1 h2 => by simp at *; omega) (fun a b => by simp; omega) xs
  exact this.imp (fun h => by simpa using h)
theorem sortI_mem (xs : List Int) (a : Int) : a ∈ sortI xs ↔ a ∈ xs := (List.mergeSort_perm xs _).mem_iff
theorem bang_eq {zs : List Int} {j : Nat} (h : j < zs.length) : zs.toArray[j]! = zs[j] := by simp [h]
theorem compact_mem {zs : List Int} (a : Int) : a ∈ compactI zs ↔ a ∈ zs := by
  unfold compactI Lib.compact Lib.compactUpTo
  rw [List.mem_map]
  constructor
  · rintro ⟨j, hj, rfl⟩
    have h1 := List.mem_range.1 (List.mem_filter.1 hj).1
    rw [bang_eq h1]; exact List.getElem_mem h1
  · intro ha
    obtain ⟨i, hi, rfl⟩ := List.getElem_of_mem ha
    induction i with
    | zero => exact ⟨0, List.mem_filter.2 ⟨List.mem_range.2 hi, by simp [Lib.keeps]⟩, bang_eq hi⟩
    | succ i ih =>
      by_cases e : zs[i + 1] = zs[i]
      · rw [e]; exact ih (by omega) (List.getElem_mem _)
      · refine ⟨i + 1, List.mem_filter.2 ⟨List.mem_range.2 hi, ?_⟩, bang_eq hi⟩
        unfold Lib.keeps
        rw [bang_eq hi, Nat.add_sub_cancel, bang_eq (show i < zs.length by omega)]
        exact decide_eq_true (.inr e)
theorem compact_inc {zs : List Int} (h : zs.Pairwise (· ≤ ·)) : Inc (compactI zs) := by
  unfold compactI Lib.compact Lib.compactUpTo Inc
  rw [List.pairwise_map]
  refine (List.pairwise_lt_range.filter _).imp_of_mem (fun {i j} hi hj hlt => ?_)
  obtain ⟨hj1, hj2⟩ := List.mem_filter.1 hj
  have hj1 := List.mem_range.1 hj1
  rw [bang_eq (show i < zs.length by omega), bang_eq hj1]
  unfold Lib.keeps at hj2
  have hne := of_decide_eq_true hj2
  rw [bang_eq hj1, bang_eq (show j - 1 < zs.length by omega)] at hne
  rw [List.pairwise_iff_getElem] at h
  have h1 := h (j - 1) j (by omega) hj1 (by omega)
  rcases Nat.lt_or_ge i (j - 1) with hh | hh
  · have := h i (j - 1) (by omega) (by omega) hh; omega
  · have e : i = j - 1 := by omega
    subst e; omega
theorem norm_inc (xs : List Int) : Inc (norm xs) := compact_inc (sortI_sorted xs)
theorem norm_mem (xs : List Int) (a : Int) : a ∈ norm xs ↔ a ∈ xs := by unfold norm; rw [compact_mem, sortI_mem]

/-! ### Zones and Lifts -/
theorem gather {step : Nat → ApiSlide → List Int → Option (Out (List Int) (List Int))} {l : List ApiSlide} (f : ApiSlide → List Int) (p : ApiSlide → Bool) (hl : l.length ≤ 50) (hf : ∀ x ∈ l, (f x).length ≤ 100)
    (hs : ∀ k x s, x ∈ l → step k x s = bif p x then chk (s.length + (f x).length) (some (Out.next (s ++ f x))) else some (Out.next s)) :
    ((forIx step 0 l []).bind fun o2 => o2.on fun s2 => chk s2.length (chk s2.length (some (compactI (sortI s2))))) = some (norm ((l.filter p).flatMap f)) := by
  obtain ⟨s', h1, h2, h3⟩ := forIx_run (step := step) (l := l) (s := []) (fun k s => s = ((l.take k).filter p).flatMap f ∧ s.length ≤ 100 * k) ⟨by simp, by simp⟩ (fun k x s hk ⟨hI, hn⟩ => by
    have hlt := (List.getElem?_eq_some_iff.1 hk).1
    have hx := List.mem_of_getElem? hk
    have := hf x hx
    rw [hs k x s hx]
    cases hp : p x with
    | true =>
      rw [cond_true, chk_ok (by omega)]
      refine ⟨_, rfl, ?_, by rw [List.length_append]; omega⟩
      rw [List.take_add_one, hk, hI]; simp [hp]
    | false =>
      rw [cond_false]
      refine ⟨_, rfl, ?_, by omega⟩
      rw [List.take_add_one, hk, hI]; simp [hp])
  rw [h1]
  show chk s'.length (chk s'.length _) = _
  rw [chk_ok (by omega), chk_ok (by omega), h2, List.take_length]; rfl
theorem zones_eq {l : List ApiSlide} {levels : List Int} (hs : Small l) (hr : ∀ x ∈ l, InR x) (hl : levels.length ≤ 9223372036854775807) : avalanche_Zones l levels = some (norm ((l.filter fun x => decide (Unst x levels)).flatMap ApiSlide.Zones)) :=
  gather ApiSlide.Zones (fun x => decide (Unst x levels)) hs.1 (fun x hx => (hs.2 x hx).1) (fun k x s hx => by
    unfold avalanche_Zones_b1; rw [unstable_eq (hr x hx) hl, Option.bind_some])
theorem lifts_eq {l : List ApiSlide} {levels : List Int} (hs : Small l) (hr : ∀ x ∈ l, InR x) (hl : levels.length ≤ 9223372036854775807) : avalanche_Lifts l levels = some (norm ((l.filter fun x => decide (Unst x levels)).flatMap ApiSlide.Lifts)) :=
  gather ApiSlide.Lifts (fun x => decide (Unst x levels)) hs.1 (fun x hx => (hs.2 x hx).2) (fun k x s hx => by
    unfold avalanche_Lifts_b1; rw [unstable_eq (hr x hx) hl, Option.bind_some])

/-! ### the reference's join -/
theorem swap_ins (a b : List Int) (x y : Int) : ((a ++ y :: x :: b).set (a.length + 1) y).set a.length x = a ++ x :: y :: b := by
  simp [List.set_append]
theorem ins_loop {at_ : Nat} {out : List Int} {x : Int} (hat : at_ ≤ out.length) (hlen : out.length ≤ 100000000) :
    ∃ a b, ref50_Zones_j4 out x (at_ : Int) = some (.next (a ++ x :: b)) ∧ a ++ b = out ∧ a.length = at_ := by
  unfold ref50_Zones_j4
  rw [chk_ok (by omega), wrap_small (by omega) (by omega)]
  obtain ⟨r, h1, a, b, h2, h3, h4⟩ := whileN_inv (step := ref50_Zones_b5 (at_ : Int)) (fun s => ∃ a b : List Int, s = ((a.length : Int), a ++ x :: b) ∧ a ++ b = out ∧ at_ ≤ a.length)
    (fun r => ∃ a b, r = .next (a ++ x :: b) ∧ a ++ b = out ∧ a.length = at_) (fun s => s.1.toNat) (fun s hI => by
      obtain ⟨a, b, rfl, hab, ha⟩ := hI
      unfold ref50_Zones_b5
      show (∃ s', (bif decide ((at_ : Int) < ((a.length : Nat) : Int)) then _ else _) = _ ∧ _) ∨ _
      by_cases hlt : at_ < a.length
      · rw [decide_eq_true (by omega), cond_true]
        rcases List.eq_nil_or_concat a with e | ⟨a', y, e⟩
        · subst e; simp at hlt
        · rw [List.concat_eq_append] at e
          subst e
          have hl' : (a' ++ [y]).length = a'.length + 1 := by simp
          rw [hl'] at hlt ha
          have hle : a'.length + 1 ≤ out.length := by rw [← hab]; simp
          have e1 : a' ++ [y] ++ x :: b = a' ++ y :: x :: b := by simp
          have g1 : (a' ++ y :: x :: b)[a'.length]? = some y := by simp
          have g2 : (a' ++ y :: x :: b)[a'.length + 1]? = some x := by simp
          have g3 : ((a' ++ y :: x :: b).set (a'.length + 1) y)[a'.length]? = some y := by rw [List.getElem?_set_ne (by omega)]; exact g1
          simp only [hl', e1, wrap_pred (show 0 < a'.length + 1 by omega) (by omega), Nat.add_sub_cancel, idxL_nat g1, idxL_nat g2, Option.bind_some, Int.toNat_natCast, idxL_nat g3, swap_ins]
          exact .inl ⟨_, rfl, ⟨a', y :: b, rfl, by rw [← hab]; simp, by omega⟩, by omega⟩
      · rw [decide_eq_false (by omega), cond_false]
        exact .inr ⟨_, rfl, a, b, rfl, hab, by omega⟩) fuel ((out.length : Int), out ++ [x]) ⟨out, [], rfl, by simp, hat⟩ (by show out.length < fuel; unfold fuel; omega)
  refine ⟨a, b, ?_, h3, h4⟩
  rw [show ((((out.length + 1 : Nat) : Int)) - 1) = (out.length : Int) by omega, h1, h2]; rfl
theorem join_step (k : Nat) (x : Int) {out : List Int} (hi : Inc out) (hlen : out.length ≤ 100000000) :
    ∃ out', ref50_Zones_b2 k x out = some (.next out') ∧ Inc out' ∧ (∀ a, a ∈ out' ↔ a ∈ out ∨ a = x) ∧ out'.length ≤ out.length + 1 := by
  unfold ref50_Zones_b2
  obtain ⟨r, h1, out', h2, h3⟩ := whileN_inv (step := ref50_Zones_b6 out x) (fun (s : Int) => ∃ n : Nat, s = (n : Int) ∧ n ≤ out.length ∧ ∀ i y, i < n → out[i]? = some y → y < x)
    (fun r => ∃ out', r = .next out' ∧ Inc out' ∧ (∀ a, a ∈ out' ↔ a ∈ out ∨ a = x) ∧ out'.length ≤ out.length + 1) (fun s => out.length - s.toNat) (fun s hI => by
      obtain ⟨n, rfl, hn, hI⟩ := hI
      have hins : (∀ y, out[n]? = some y → x < y) → ∃ out', ref50_Zones_j4 out x (n : Int) = some (.next out') ∧ Inc out' ∧ (∀ a, a ∈ out' ↔ a ∈ out ∨ a = x) ∧ out'.length ≤ out.length + 1 := fun hgt => by
        obtain ⟨a, b, g1, g2, g3⟩ := ins_loop (x := x) hn hlen
        refine ⟨_, g1, ?_, fun c => ?_, by rw [← g2]; simp; omega⟩
        · subst g2
          unfold Inc at hi ⊢
          obtain ⟨p1, p2, p3⟩ := List.pairwise_append.1 hi
          have hb : ∀ y ∈ b, x < y := fun y hy => by
            cases b with
            | nil => cases hy
            | cons z b' =>
              have hz : x < z := hgt z (by rw [← g3]; simp)
              rcases List.mem_cons.1 hy with e | hy
              · subst e; exact hz
              · have := (List.pairwise_cons.1 p2).1 y hy; omega
          have ha : ∀ y ∈ a, y < x := fun y hy => by
            obtain ⟨i, hi', rfl⟩ := List.getElem_of_mem hy
            exact hI i _ (by omega) (by rw [List.getElem?_append_left hi']; exact List.getElem?_eq_getElem hi')
          refine List.pairwise_append.2 ⟨p1, List.pairwise_cons.2 ⟨hb, p2⟩, fun y hy z hz => ?_⟩
          rcases List.mem_cons.1 hz with e | hz
          · subst e; exact ha y hy
          · exact p3 y hy z hz
        · subst g2; simp only [List.mem_append, List.mem_cons]
          constructor
          · rintro (h | h | h)
            · exact .inl (.inl h)
            · exact .inr h
            · exact .inl (.inr h)
          · rintro ((h | h) | h)
            · exact .inl h
            · exact .inr (.inr h)
            · exact .inr (.inl h)
      unfold ref50_Zones_b6
      by_cases hlt : n < out.length
      · rw [decide_eq_true (by omega), cond_true, idxL_lt hlt, Option.bind_some]
        have hg : out[n]? = some out[n] := List.getElem?_eq_getElem hlt
        by_cases hx : out[n] < x
        · rw [decide_eq_true hx, cond_true, wrap_add1 (by omega)]
          refine .inl ⟨_, rfl, ⟨n + 1, rfl, by omega, fun i y hi' hy => ?_⟩, by omega⟩
          by_cases e : i = n
          · subst e; rw [hg] at hy; obtain rfl := Option.some.inj hy; exact hx
          · exact hI i y (by omega) hy
        · rw [decide_eq_false hx, cond_false]
          unfold ref50_Zones_j3
          rw [decide_eq_true (by omega), cond_true, idxL_lt hlt, Option.bind_some]
          by_cases e : out[n] = x
          · rw [decide_eq_true e, cond_true]
            refine .inr ⟨_, rfl, out, rfl, hi, fun a => ⟨.inl, fun h => ?_⟩, by omega⟩
            rcases h with h | h
            · exact h
            · rw [h, ← e]; exact List.getElem_mem hlt
          · rw [decide_eq_false e, cond_false]
            obtain ⟨out', g1, g2⟩ := hins (fun y hy => by rw [hg] at hy; obtain rfl := Option.some.inj hy; omega)
            rw [g1]
            exact .inr ⟨_, rfl, out', rfl, g2⟩
      · rw [decide_eq_false (by omega), cond_false, cond_false]
        unfold ref50_Zones_j3
        rw [decide_eq_false (by omega), cond_false]
        obtain ⟨out', g1, g2⟩ := hins (fun y hy => by rw [List.getElem?_eq_none (by omega)] at hy; cases hy)
        rw [g1]
        exact .inr ⟨_, rfl, out', rfl, g2⟩) fuel 0 ⟨0, rfl, by omega, fun i y h => by omega⟩ (by show out.length - 0 < fuel; unfold fuel; omega)
  exact ⟨out', by rw [h1, h2]; rfl, h3⟩
theorem join_loop (zs : List Int) {out : List Int} (hi : Inc out) (hlen : out.length + zs.length ≤ 100000000) :
    ∃ out', forIx ref50_Zones_b2 0 zs out = some (.next out') ∧ Inc out' ∧ (∀ a, a ∈ out' ↔ a ∈ out ∨ a ∈ zs) ∧ out'.length ≤ out.length + zs.length := by
  obtain ⟨s', h1, h2, h3, h4⟩ := forIx_run (step := ref50_Zones_b2) (l := zs) (s := out) (fun k s => Inc s ∧ (∀ a, a ∈ s ↔ a ∈ out ∨ a ∈ zs.take k) ∧ s.length ≤ out.length + k) ⟨hi, by simp, by omega⟩ (fun k x s hk ⟨hI1, hI2, hI3⟩ => by
    have hlt := (List.getElem?_eq_some_iff.1 hk).1
    obtain ⟨out', g1, g2, g3, g4⟩ := join_step k x hI1 (by omega)
    refine ⟨out', g1, g2, fun a => ?_, by omega⟩
    rw [g3, hI2, List.take_add_one, hk]
    simp [or_assoc])
  rw [List.take_length] at h3
  exact ⟨s', h1, h2, h3, h4⟩
theorem refgather {step : Nat → ApiSlide → List Int → Option (Out (List Int) (List Int))} {l : List ApiSlide} (f : ApiSlide → List Int) (p : ApiSlide → Bool) (hl : l.length ≤ 50) (hf : ∀ x ∈ l, (f x).length ≤ 100)
    (hs : ∀ k x s, x ∈ l → step k x s = bif p x then (forIx ref50_Zones_b2 0 (f x) s).bind fun o7 => o7.on fun s7 => some (Out.next s7) else some (Out.next s)) :
    ((forIx step 0 l []).bind fun o2 => o2.on fun s2 => some s2) = some (norm ((l.filter p).flatMap f)) := by
  obtain ⟨s', h1, h2, h3, h4⟩ := forIx_run (step := step) (l := l) (s := []) (fun k s => Inc s ∧ (∀ a, a ∈ s ↔ a ∈ ((l.take k).filter p).flatMap f) ∧ s.length ≤ 100 * k) ⟨List.Pairwise.nil, by simp, by simp⟩ (fun k x s hk ⟨hI1, hI2, hI3⟩ => by
    have hlt := (List.getElem?_eq_some_iff.1 hk).1
    have hx := List.mem_of_getElem? hk
    have := hf x hx
    rw [hs k x s hx]
    cases hp : p x with
    | true =>
      rw [cond_true]
      obtain ⟨out', g1, g2, g3, g4⟩ := join_loop (f x) hI1 (by omega)
      refine ⟨out', by rw [g1]; rfl, g2, fun a => ?_, by omega⟩
      rw [g3, hI2, List.take_add_one, hk]; simp [hp]
    | false =>
      rw [cond_false]
      refine ⟨_, rfl, hI1, fun a => ?_, by omega⟩
      rw [hI2, List.take_add_one, hk]; simp [hp])
  rw [List.take_length] at h3
  rw [h1]
  show some s' = _
  rw [inc_ext h2 (norm_inc _) (fun a => by rw [h3, norm_mem])]
theorem refzones_eq {l : List ApiSlide} {levels : List Int} (hs : Small l) (hr : RightOK l) (hl : levels.length ≤ 9223372036854775807) : ref50_Zones l levels = some (norm ((l.filter fun x => decide (Unst x levels)).flatMap ApiSlide.Zones)) :=
  refgather ApiSlide.Zones (fun x => decide (Unst x levels)) hs.1 (fun x hx => (hs.2 x hx).1) (fun k x s hx => by
    unfold ref50_Zones_b1; rw [refunstable_eq (hr.at hx).1 hl (fun z hz => ((hr.at hx).2.2.1.1 z hz).1), Option.bind_some])
theorem reflifts_eq {l : List ApiSlide} {levels : List Int} (hs : Small l) (hr : RightOK l) (hl : levels.length ≤ 9223372036854775807) : ref50_Lifts l levels = some (norm ((l.filter fun x => decide (Unst x levels)).flatMap ApiSlide.Lifts)) :=
  refgather ApiSlide.Lifts (fun x => decide (Unst x levels)) hs.1 (fun x hx => (hs.2 x hx).2) (fun k x s hx => by
    unfold ref50_Lifts_b1; rw [refunstable_eq (hr.at hx).1 hl (fun z hz => ((hr.at hx).2.2.1.1 z hz).1), Option.bind_some]; rfl)
theorem law50_AvalancheLists_true (l : List ApiSlide) (levels : List Int) (hl : OkL OkApiSlide l) (hv : OkL I64 levels) : law50_AvalancheLists l levels = some true := by
  obtain ⟨b, h1, h2⟩ := accepted_eq l (lens_ok hl)
  unfold law50_AvalancheLists
  rw [alive50, Option.bind_some, h1]
  cases b with
  | false => rfl
  | true =>
    obtain ⟨hs, hr⟩ := h2 rfl
    rw [Bool.not_true, cond_false, Option.bind_some, Bool.not_true, cond_false]
    by_cases hn : (100 : Int) < ((levels.length : Nat) : Int)
    · rw [decide_eq_true hn]; rfl
    rw [decide_eq_false hn, cond_false]
    obtain ⟨u, g1, _⟩ := forIx_run (step := law50_AvalancheLists_b1 levels) (l := l) (s := ()) (fun _ _ => True) trivial (fun k x s hk _ => by
      have hx := List.mem_of_getElem? hk
      have hz : ∀ z ∈ x.Zones, 1 ≤ z := fun z hz => ((hr.at hx).2.2.1.1 z hz).1
      unfold law50_AvalancheLists_b1
      simp only [level_eq x hv.1, reflevel_eq x hv.1 hz, unstable_eq (hr.at hx).1 hv.1, refunstable_eq (hr.at hx).1 hv.1 hz, Option.bind_some, ne_eq, not_true_eq_false, decide_false, cond_false, bne_self_eq_false]
      exact ⟨(), by simp, trivial⟩)
    have hr' : ∀ x ∈ l, InR x := fun x hx => (hr.at hx).1
    simp only [g1, Option.bind_some, Out.on, zones_eq hs hr' hv.1, refzones_eq hs hr hv.1, lifts_eq hs hr' hv.1, reflifts_eq hs hr hv.1, same_eq, decide_true, cond_true]
end Go.Proofs.Ytciaimpdnjpajaa
