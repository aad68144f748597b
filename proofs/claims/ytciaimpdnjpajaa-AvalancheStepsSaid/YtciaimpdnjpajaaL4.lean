/-
  The laws of layer 50 (avalanche) in plain Lean: what grows stays unstable; what is released is calm.
-/
import Derived.Test.YtciaimpdnjpajaaL3
namespace Go.Proofs.Ytciaimpdnjpajaa
open Go Go.Ab
set_option linter.unusedSimpArgs false
set_option linter.unusedVariables false

/-- Paths of the same IDs and lists, in range, are right too. -/
theorem RightOK.turn {l l' : List ApiSlide} (h : RightOK l) (hlen : l'.length = l.length) (hs : ∀ (i : Nat) (x y : ApiSlide), l[i]? = some x → l'[i]? = some y → y.ID = x.ID ∧ y.Zones = x.Zones ∧ y.Lifts = x.Lifts ∧ InR y) : RightOK l' := by
  refine ⟨by have := h.1; omega, fun k y hy => ?_⟩
  have hk := (List.getElem?_eq_some_iff.1 hy).1
  have hx : l[k]? = some l[k] := List.getElem?_eq_getElem (by omega)
  obtain ⟨e1, e2, e3, e4⟩ := hs k _ y hx hy
  have hL := (h.at (List.mem_of_getElem? hx)).2
  unfold errAt
  rw [if_neg (by simpa using e4), if_neg, if_neg (by unfold Lists at hL ⊢; rw [e2, e3]; simpa using hL)]
  rintro ⟨z, hz, e⟩
  obtain ⟨j, hj, rfl⟩ := List.getElem_of_mem hz
  rw [List.length_take] at hj
  rw [List.getElem_take] at e
  have hjx : l[j]? = some l[j] := List.getElem?_eq_getElem (by omega)
  have f1 := (hs j _ _ hjx (List.getElem?_eq_getElem (by omega))).1
  exact h.once (show j < k by omega) hjx hx (by rw [← f1, e, e1])
theorem small_turn {l l' : List ApiSlide} (h : Small l) (hlen : l'.length = l.length) (hs : ∀ (i : Nat) (x y : ApiSlide), l[i]? = some x → l'[i]? = some y → y.Zones = x.Zones ∧ y.Lifts = x.Lifts) : Small l' := by
  refine ⟨by have := h.1; omega, fun y hy => ?_⟩
  obtain ⟨i, hi, rfl⟩ := List.getElem_of_mem hy
  have hx : l[i]? = some l[i] := List.getElem?_eq_getElem (by omega)
  obtain ⟨e1, e2⟩ := hs i _ _ hx (List.getElem?_eq_getElem hi)
  rw [e1, e2]; exact h.2 _ (List.mem_of_getElem? hx)

theorem part_eq (a b : List Int) : law50_part a b = some (decide (∀ x ∈ a, x ∈ b)) := by
  have inner : ∀ (x : Int), forIx (law50_part_b2 x) 0 b false = some (.next (decide (x ∈ b))) := fun x => by
    obtain ⟨s', h1, h2⟩ := forIx_run (step := law50_part_b2 x) (l := b) (s := false) (fun k s => s = decide (x ∈ b.take k)) (by simp) (fun k y s hk hI => by
      unfold law50_part_b2
      cases s with
      | true =>
        refine ⟨true, rfl, ?_⟩
        rw [List.take_add_one, hk]
        have := of_decide_eq_true hI.symm
        simp [this]
      | false =>
        refine ⟨_, rfl, ?_⟩
        rw [List.take_add_one, hk]
        have := of_decide_eq_false hI.symm
        simp [this])
    rw [h1, h2, List.take_length]
  unfold law50_part
  rcases forIx_inv (step := law50_part_b1 b) (l := a) (s := ()) (fun k _ => ∀ i x, i < k → a[i]? = some x → x ∈ b) (fun r => r = false ∧ ¬ ∀ x ∈ a, x ∈ b) (fun i x h => by omega) (fun k x u hk hI => by
    unfold law50_part_b1
    rw [inner x]
    show (∃ s', (bif (!decide (x ∈ b)) then _ else _) = _ ∧ _) ∨ (∃ r, (bif (!decide (x ∈ b)) then _ else _) = _ ∧ _)
    by_cases hx : x ∈ b
    · rw [decide_eq_true hx]
      refine .inl ⟨(), rfl, fun i y hi hy => ?_⟩
      by_cases e : i = k
      · subst e; rw [hk] at hy; obtain rfl := Option.some.inj hy; exact hx
      · exact hI i y (by omega) hy
    · rw [decide_eq_false hx]
      exact .inr ⟨false, rfl, rfl, fun h => hx (h x (List.mem_of_getElem? hk))⟩) with ⟨u, h1, h2⟩ | ⟨r, h1, h2, h3⟩
  · have : ∀ x ∈ a, x ∈ b := fun x hx => by
      obtain ⟨i, hi, rfl⟩ := List.getElem_of_mem hx
      exact h2 i _ hi (List.getElem?_eq_getElem hi)
    rw [h1, decide_eq_true this]; rfl
  · subst h2
    rw [h1, decide_eq_false h3]; rfl

/-! ### higher levels -/
def Above (levels high : List Int) : Prop := ∀ j : Nat, (levels[j]?).getD 0 ≤ (high[j]?).getD 0
theorem lvl_mono {levels high : List Int} (h : Above levels high) (z : Int) : lvl levels z ≤ lvl high z := by
  unfold lvl
  split
  · exact h _
  · omega
theorem fold_mono {levels high : List Int} (h : Above levels high) : ∀ (zs : List Int) (a b : Int), a ≤ b →
    zs.foldl (fun a z => if a < lvl levels z then lvl levels z else a) a ≤ zs.foldl (fun a z => if a < lvl high z then lvl high z else a) b
  | [], a, b, hab => hab
  | z :: r, a, b, hab => by
    simp only [List.foldl_cons]
    refine fold_mono h r _ _ ?_
    have := lvl_mono h z
    split <;> split <;> omega
theorem levF_mono {levels high : List Int} (h : Above levels high) (zs : List Int) : levF levels zs ≤ levF high zs := by
  cases zs with
  | nil => exact Int.le_refl _
  | cons z r => exact fold_mono h r _ _ (lvl_mono h z)
theorem unst_mono {s s' : ApiSlide} {levels high : List Int} (h : Above levels high) (hz : s'.Zones = s.Zones) (hm : s'.Limit = s.Limit) (h0 : 0 ≤ s.Limit) (hl : s.Load ≤ s'.Load) (hu : Unst s levels) : Unst s' high := by
  have := levF_mono h s.Zones
  unfold Unst at *
  rw [hz, hm]
  omega

/-! ### AvalancheGrows -/
theorem bump_at {l : List ApiSlide} {more : Int} (hr : RightOK l) (h0 : 0 ≤ more) {x : ApiSlide} (hx : x ∈ l) : InR (bump more x) := by
  have := (hr.at hx).1
  unfold InR at *
  unfold bump
  refine ⟨this.1, this.2.1, this.2.2.1, this.2.2.2.1, ?_, ?_, this.2.2.2.2.2.2.1, this.2.2.2.2.2.2.2⟩ <;> simp only <;> split <;> omega
theorem bump_right {l : List ApiSlide} {more : Int} (hr : RightOK l) (h0 : 0 ≤ more) : RightOK (l.map (bump more)) := by
  refine hr.turn (by simp) fun i x y hx hy => ?_
  rw [List.getElem?_map, hx] at hy
  obtain rfl := Option.some.inj hy
  exact ⟨rfl, rfl, rfl, bump_at hr h0 (List.mem_of_getElem? hx)⟩
theorem bump_small {l : List ApiSlide} {more : Int} (hs : Small l) : Small (l.map (bump more)) := by
  refine small_turn hs (by simp) fun i x y hx hy => ?_
  rw [List.getElem?_map, hx] at hy
  obtain rfl := Option.some.inj hy
  exact ⟨rfl, rfl⟩
theorem bump_load {x : ApiSlide} {more : Int} (h0 : 0 ≤ more) (hr : InR x) : x.Load ≤ (bump more x).Load := by
  unfold InR at hr
  unfold bump; simp only; split <;> omega
theorem sub_zones {l : List ApiSlide} {levels high : List Int} {more : Int} (f : ApiSlide → List Int) (hf : ∀ x, f (bump more x) = f x) (ha : Above levels high) (h0 : 0 ≤ more) (hr : ∀ x ∈ l, InR x) :
    ∀ a ∈ norm ((l.filter fun x => decide (Unst x levels)).flatMap f), a ∈ norm (((l.map (bump more)).filter fun x => decide (Unst x high)).flatMap f) := by
  intro a h
  rw [norm_mem, List.mem_flatMap] at h ⊢
  obtain ⟨x, hx, ha'⟩ := h
  obtain ⟨hx1, hx2⟩ := List.mem_filter.1 hx
  have := hr x hx1
  refine ⟨bump more x, List.mem_filter.2 ⟨List.mem_map_of_mem hx1, decide_eq_true (unst_mono (s := x) ha rfl rfl (by unfold InR at this; omega) (bump_load h0 this) (of_decide_eq_true hx2))⟩, by rw [hf]; exact ha'⟩
theorem grows_j {l : List ApiSlide} {levels high : List Int} {more : Int} (hs : Small l) (hr : RightOK l) (h0 : 0 ≤ more) (hl : levels.length ≤ 100) (hh : high.length ≤ 100) (ha : Above levels high) (e : Int) :
    law50_AvalancheGrows_j1 l levels (l.map (bump more), e) high = some true := by
  have hr1 : ∀ x ∈ l, InR x := fun x hx => (hr.at hx).1
  have hr2 : ∀ x ∈ l.map (bump more), InR x := fun x hx => ((bump_right hr h0).at hx).1
  unfold law50_AvalancheGrows_j1
  obtain ⟨u, g1, _⟩ := forIx_run (step := law50_AvalancheGrows_b2 levels (l.map (bump more), e) high) (l := l) (s := ()) (fun _ _ => True) trivial (fun k x s hk _ => by
    have hx := List.mem_of_getElem? hk
    have hx1 := hr1 x hx
    have hg : (l.map (bump more))[k]? = some (bump more x) := by rw [List.getElem?_map, hk]; rfl
    unfold law50_AvalancheGrows_b2
    simp only [idxL_nat hg, Option.bind_some]
    rw [decide_eq_false (by have := bump_load h0 hx1; omega), cond_false, decide_eq_false (by simp [bump]), cond_false, unstable_eq hx1 (by omega), Option.bind_some]
    by_cases hu : Unst x levels
    · rw [decide_eq_true hu, cond_true, unstable_eq (bump_at hr h0 hx) (by omega), Option.bind_some, decide_eq_true (unst_mono (s := x) (s' := bump more x) ha rfl rfl (by unfold InR at hx1; omega) (bump_load h0 hx1) hu)]
      exact ⟨(), rfl, trivial⟩
    · rw [decide_eq_false hu]
      exact ⟨(), rfl, trivial⟩)
  simp only [g1, Option.bind_some, Out.on, zones_eq hs hr1 (show levels.length ≤ 9223372036854775807 by omega), zones_eq (bump_small hs) hr2 (show high.length ≤ 9223372036854775807 by omega), lifts_eq hs hr1 (show levels.length ≤ 9223372036854775807 by omega), lifts_eq (bump_small hs) hr2 (show high.length ≤ 9223372036854775807 by omega), part_eq,
    decide_eq_true (sub_zones (more := more) ApiSlide.Zones (fun _ => rfl) ha h0 hr1), decide_eq_true (sub_zones (more := more) ApiSlide.Lifts (fun _ => rfl) ha h0 hr1), cond_true]
theorem grows_b3 {l : List ApiSlide} {levels up : List Int} {y : List ApiSlide × Int} (hv : OkL I64 levels) (hu : OkL U8 up) (hl : levels.length ≤ 100) (hn : up.length ≤ 100)
    (hj : ∀ high : List Int, high.length ≤ 100 → Above levels high → law50_AvalancheGrows_j1 l levels y high = some true) :
    whileN (law50_AvalancheGrows_b3 l levels up y) fuel ((0 : Int), []) = some (.ret true) := by
  obtain ⟨r, h1, h2⟩ := whileN_inv (step := law50_AvalancheGrows_b3 l levels up y) (fun s => ∃ (n : Nat) (high : List Int), s = ((n : Int), high) ∧ high.length = n ∧ n ≤ 100 ∧ ∀ j, j < n → (levels[j]?).getD 0 ≤ (high[j]?).getD 0)
    (fun r => r = true) (fun s => 100 - s.1.toNat) (fun s hI => by
      obtain ⟨n, high, rfl, hlen, h100, hI⟩ := hI
      have snoc : ∀ v : Int, (levels[n]?).getD 0 ≤ v → ∀ j, j < n + 1 → (levels[j]?).getD 0 ≤ ((high ++ [v])[j]?).getD 0 := fun v hv j hj => by
        by_cases e : j = n
        · subst e; rw [List.getElem?_append_right (by omega), hlen, Nat.sub_self]; exact hv
        · rw [List.getElem?_append_left (by omega)]; exact hI j (by omega)
      have next : ∀ v : Int, n < 100 → (levels[n]?).getD 0 ≤ v → (∃ s', chk (high.length + 1) (some (Out.next ((IntKind.i64.wrap ((n : Int) + (1 : Int))), (high ++ [v])))) = some (Out.next (ρ := Bool) s') ∧ (∃ (n : Nat) (high : List Int), s' = ((n : Int), high) ∧ high.length = n ∧ n ≤ 100 ∧ ∀ j, j < n → (levels[j]?).getD 0 ≤ (high[j]?).getD 0) ∧ 100 - s'.1.toNat < 100 - n) := fun v hlt hv => by
        rw [chk_ok (by omega), wrap_add1 (by omega)]
        exact ⟨_, rfl, ⟨n + 1, high ++ [v], rfl, by simp [hlen], by omega, snoc v hv⟩, by simp; omega⟩
      have hU : ∀ (h : n < up.length), 0 ≤ up[n] ∧ up[n] ≤ 255 := fun h => hu.2 _ (List.getElem_mem h)
      have hV : ∀ (h : n < levels.length), I64 levels[n] := fun h => hv.2 _ (List.getElem_mem h)
      unfold law50_AvalancheGrows_b3
      simp only [Int.toNat_natCast]
      by_cases c1 : n < levels.length
      · have ge : levels[n]? = some levels[n] := List.getElem?_eq_getElem c1
        have g0 : (levels[n]?).getD 0 = levels[n] := by rw [ge]; rfl
        rw [decide_eq_true (show ((n : Nat) : Int) < ((levels.length : Nat) : Int) by omega), cond_true, cond_true, cond_true, idxL_nat ge, Option.bind_some]
        by_cases c2 : n < up.length
        · rw [decide_eq_true (show ((n : Nat) : Int) < ((up.length : Nat) : Int) by omega), cond_true]
          by_cases c3 : levels[n] < 1000
          · have := hU c2
            have := hV c1
            unfold I64 at this
            rw [decide_eq_true c3, cond_true, idxL_lt c2, Option.bind_some, wrap_small (n := up[n]) (by omega) (by omega), wrap_small (n := levels[n] + up[n]) (by omega) (by omega)]
            exact .inl (next _ (by omega) (by rw [g0]; omega))
          · rw [decide_eq_false c3, cond_false]
            exact .inl (next _ (by omega) (by rw [g0]; omega))
        · rw [decide_eq_false (show ¬ ((n : Nat) : Int) < ((up.length : Nat) : Int) by omega), cond_false]
          exact .inl (next _ (by omega) (by rw [g0]; omega))
      · have g0 : (levels[n]?).getD 0 = 0 := by rw [List.getElem?_eq_none (by omega)]; rfl
        rw [decide_eq_false (show ¬ ((n : Nat) : Int) < ((levels.length : Nat) : Int) by omega), cond_false, cond_false]
        by_cases c2 : n < up.length
        · have := hU c2
          rw [decide_eq_true (show ((n : Nat) : Int) < ((up.length : Nat) : Int) by omega), cond_true, cond_true, idxL_lt c2, Option.bind_some, wrap_small (n := up[n]) (by omega) (by omega), wrap_small (n := 0 + up[n]) (by omega) (by omega)]
          exact .inl (next _ (by omega) (by rw [g0]; omega))
        · rw [decide_eq_false (show ¬ ((n : Nat) : Int) < ((up.length : Nat) : Int) by omega), cond_false]
          refine .inr ⟨true, ?_, rfl⟩
          rw [hj high (by omega) (fun j => ?_)]; rfl
          by_cases hjn : j < n
          · exact hI j hjn
          · rw [List.getElem?_eq_none (by omega), List.getElem?_eq_none (by omega)]; exact Int.le_refl _) fuel (0, []) ⟨0, [], rfl, rfl, by omega, fun j h => by omega⟩ (by show 100 - 0 < fuel; unfold fuel; omega)
  rw [h1, h2]
theorem law50_AvalancheGrows_true (l : List ApiSlide) (fresh gust : Int) (levels up : List Int) (hl : OkL OkApiSlide l) (_ : I64 fresh) (_ : I64 gust) (hv : OkL I64 levels) (hu : OkL U8 up) : law50_AvalancheGrows l fresh gust levels up = some true := by
  obtain ⟨b, h1, h2⟩ := small_eq l
  obtain ⟨r, h3, _, h5⟩ := right_ok l (lens_ok hl)
  unfold law50_AvalancheGrows
  rw [alive50, Option.bind_some, h1, Bool.not_true, cond_false, Option.bind_some]
  cases b with
  | false => rfl
  | true =>
    rw [Bool.not_true, cond_false, h3, Option.bind_some]
    by_cases hr0 : r = 0
    · have hs := h2 rfl
      have hr := h5.1 hr0
      rw [decide_eq_false (by simpa using hr0), cond_false]
      by_cases c1 : (100 : Int) < ((levels.length : Nat) : Int)
      · rw [decide_eq_true c1]; rfl
      by_cases c2 : (100 : Int) < ((up.length : Nat) : Int)
      · rw [decide_eq_true c2, decide_eq_false c1]; rfl
      rw [decide_eq_false c1, decide_eq_false c2, cond_false, cond_false, (grow_eq fresh gust hs (fun x hx => (hr.at hx).1)).1, Option.bind_some]
      by_cases hb : growBad fresh gust
      · rw [if_pos hb]; rfl
      · rw [if_neg hb]
        have h0 := (more_bd hb).1
        obtain ⟨r', g1, _, g2⟩ := right_ok _ (small_lens (bump_small (more := moreOf fresh gust) hs))
        have e0 := g2.2 (bump_right hr h0)
        subst e0
        show (bif decide ((0 : Int) ≠ 0) then _ else (bif decide (((((l.map (bump (moreOf fresh gust))).length : Nat)) : Int) ≠ ((l.length : Nat) : Int)) then _ else (avalanche_Right (l.map (bump (moreOf fresh gust)))).bind _)) = _
        rw [g1, decide_eq_false (by simp), cond_false, decide_eq_false (by simp), cond_false, Option.bind_some, decide_eq_false (by simp), cond_false,
          grows_b3 hv hu (by omega) (by omega) (fun high hh ha => grows_j hs hr h0 (by omega) hh ha 0)]
        rfl
    · rw [decide_eq_true (by simpa using hr0)]; rfl

/-! ### AvalancheCalm -/
theorem set_get {l : List ApiSlide} {k i : Nat} {x y z w : ApiSlide} (hk : l[k]? = some x) (hi : l[i]? = some y) (h : (l.set k z)[i]? = some w) : (i = k ∧ w = z ∧ y = x) ∨ (i ≠ k ∧ w = y) := by
  by_cases e : i = k
  · subst e
    rw [List.getElem?_set_self (List.getElem?_eq_some_iff.1 hi).1] at h
    rw [hk] at hi
    exact .inl ⟨rfl, (Option.some.inj h).symm, (Option.some.inj hi).symm⟩
  · rw [List.getElem?_set_ne (Ne.symm e), hi] at h
    exact .inr ⟨e, (Option.some.inj h).symm⟩
theorem law50_AvalancheCalm_true (l : List ApiSlide) (n t : Int) (levels : List Int) (hl : OkL OkApiSlide l) (_ : I64 n) (_ : I64 t) (hv : OkL I64 levels) : law50_AvalancheCalm l n t levels = some true := by
  obtain ⟨b, h1, h2⟩ := small_eq l
  obtain ⟨r, h3, _, h5⟩ := right_ok l (lens_ok hl)
  unfold law50_AvalancheCalm
  rw [alive50, Option.bind_some, h1, Bool.not_true, cond_false, Option.bind_some]
  cases b with
  | false => rfl
  | true =>
    rw [Bool.not_true, cond_false, h3, Option.bind_some]
    by_cases hr0 : r = 0
    · have hs := h2 rfl
      have hr := h5.1 hr0
      rw [decide_eq_false (by simpa using hr0), cond_false]
      by_cases c1 : (100 : Int) < ((levels.length : Nat) : Int)
      · rw [decide_eq_true c1]; rfl
      rw [decide_eq_false c1, cond_false]
      rcases control_eq n t hs with ⟨g1, _, _⟩ | ⟨k, x, hk, hx, hfirst, ⟨_, g1, _⟩ | ⟨hb, g1, _⟩⟩
      · rw [g1]; rfl
      · rw [g1]; rfl
      · have hxm := List.mem_of_getElem? hk
        have hxr := (hr.at hxm).1
        have hrel : InR (released t x) := by
          unfold ctlBad at hb; unfold InR at hxr ⊢; unfold released; simp only; omega
        have hsm : Small (l.set k (released t x)) := small_turn hs (by simp) fun i y w hy hw => by
          rcases set_get hk hy hw with ⟨_, rfl, rfl⟩ | ⟨_, rfl⟩
          · exact ⟨rfl, rfl⟩
          · exact ⟨rfl, rfl⟩
        have hrt : RightOK (l.set k (released t x)) := hr.turn (by simp) fun i y w hy hw => by
          rcases set_get hk hy hw with ⟨_, rfl, rfl⟩ | ⟨_, rfl⟩
          · exact ⟨rfl, rfl, rfl, hrel⟩
          · exact ⟨rfl, rfl, rfl, (hr.at (List.mem_of_getElem? hy)).1⟩
        obtain ⟨r', g2, _, g3⟩ := right_ok _ (small_lens hsm)
        have e0 := g3.2 hrt
        subst e0
        rw [g1, Option.bind_some]
        show (bif decide ((0 : Int) ≠ 0) then _ else (bif decide (((((l.set k (released t x)).length : Nat)) : Int) ≠ ((l.length : Nat) : Int)) then _ else (avalanche_Right (l.set k (released t x))).bind _)) = _
        rw [g2, decide_eq_false (by simp), cond_false, decide_eq_false (by simp), cond_false, Option.bind_some, decide_eq_false (by simp), cond_false]
        obtain ⟨s', g4, g5⟩ := forIx_run (step := law50_AvalancheCalm_b1 n t levels (l.set k (released t x), 0)) (l := l) (s := (0 : Int)) (fun i s => s = if k < i then 1 else 0) (by simp) (fun i y s hi hI => by
          have hlt := (List.getElem?_eq_some_iff.1 hi).1
          unfold law50_AvalancheCalm_b1
          by_cases e : y.ID = n
          · have hik : i = k := by
              rcases Nat.lt_trichotomy i k with h | h | h
              · exact absurd e (hfirst i y h hi)
              · exact h
              · exact absurd (hx.trans e.symm) (hr.once h hk hi)
            subst hik
            rw [hk] at hi; obtain rfl := Option.some.inj hi
            have hg : (l.set i (released t x))[i]? = some (released t x) := List.getElem?_set_self hlt
            rw [decide_eq_false (by simpa using e), cond_false]
            simp only [idxL_nat hg, Option.bind_some]
            rw [decide_eq_false (by simp [released]), cond_false, decide_eq_false (by simp [released]), cond_false, unstable_eq hrel hv.1, level_eq x hv.1, Option.bind_some, Option.bind_some]
            have hun : decide (Unst (released t x) levels) = decide (4 < levF levels x.Zones) := decide_eq_decide.2 (by
              unfold InR at hxr; unfold Unst released; simp only; omega)
            rw [hun, bne_self_eq_false, cond_false]
            refine ⟨_, rfl, ?_⟩
            rw [hI, if_neg (by omega), if_pos (by omega)]; rfl
          · have hik : i ≠ k := fun h => by subst h; rw [hk] at hi; obtain rfl := Option.some.inj hi; exact e hx
            have hg : (l.set k (released t x))[i]? = some y := by rw [List.getElem?_set_ne (Ne.symm hik)]; exact hi
            rw [decide_eq_true (by simpa using e), cond_true]
            simp only [idxL_nat hg, Option.bind_some, sameOne_eq, decide_true, Bool.not_true, cond_false]
            refine ⟨s, rfl, ?_⟩
            rw [hI]
            by_cases h : k < i
            · rw [if_pos h, if_pos (by omega)]
            · rw [if_neg h, if_neg (by omega)])
        rw [g4]
        have hkl := (List.getElem?_eq_some_iff.1 hk).1
        rw [if_pos hkl] at g5
        subst g5; rfl
    · rw [decide_eq_true (by simpa using hr0)]; rfl
end Go.Proofs.Ytciaimpdnjpajaa
