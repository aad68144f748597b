/-
  The laws of layer 50 (avalanche) in plain Lean.
-/
import Derived.Test.YtciaimpdnjpajaaL1
namespace Go.Proofs.Ytciaimpdnjpajaa
open Go Go.Ab
set_option linter.unusedSimpArgs false
set_option linter.unusedVariables false

/-! ### equality of lists -/
theorem same_loop {α : Type} [DecidableEq α] {step : Nat → α → Unit → Option (Out Unit Bool)} {a b : List α} (hl : a.length = b.length) (hs : ∀ k x y, a[k]? = some x → b[k]? = some y → step k x () = bif decide (x ≠ y) then some (.ret false) else some (.next ())) :
    ((forIx step 0 a ()).bind fun o => o.on fun _ => some true) = some (decide (a = b)) := by
  rcases forIx_inv (step := step) (l := a) (s := ()) (fun k _ => ∀ i x, i < k → a[i]? = some x → b[i]? = some x) (fun r => r = false ∧ a ≠ b) (fun i x h => by omega) (fun k x u hk hI => by
    have hlt := (List.getElem?_eq_some_iff.1 hk).1
    have hy : b[k]? = some b[k] := List.getElem?_eq_getElem (by omega)
    rw [hs k x _ hk hy]
    by_cases e : x = b[k]
    · rw [decide_eq_false (by simpa using e)]
      refine .inl ⟨(), rfl, fun i z hi hz => ?_⟩
      by_cases h : i = k
      · subst h; rw [hk] at hz; obtain rfl := Option.some.inj hz; rw [hy, ← e]
      · exact hI i z (by omega) hz
    · rw [decide_eq_true (by simpa using e)]
      refine .inr ⟨false, rfl, rfl, fun h => e ?_⟩
      subst h
      rw [hk] at hy; exact Option.some.inj hy) with ⟨u, h1, h2⟩ | ⟨r, h1, h2, h3⟩
  · have : a = b := by
      apply List.ext_getElem? fun i => ?_
      rcases Nat.lt_or_ge i a.length with h | h
      · have := h2 i a[i] h (List.getElem?_eq_getElem h)
        rw [this, List.getElem?_eq_getElem h]
      · rw [List.getElem?_eq_none h, List.getElem?_eq_none (by omega)]
    rw [h1, decide_eq_true this]; rfl
  · subst h2
    rw [h1, decide_eq_false h3]; rfl
theorem same_eq (a b : List Int) : ref50_Same a b = some (decide (a = b)) := by
  unfold ref50_Same
  by_cases hl : a.length = b.length
  · rw [decide_eq_false (by omega), cond_false]
    refine same_loop hl fun k x y hx hy => ?_
    simp only [ref50_Same_b1, idxL_nat hy, Option.bind_some]
  · rw [decide_eq_true (by omega), decide_eq_false (fun h => hl (by rw [h]))]; rfl
theorem sameOne_eq (a b : ApiSlide) : ref50_SameOne a b = some (decide (a = b)) := by
  unfold ref50_SameOne
  simp only [same_eq, Option.bind_some]
  cases a with | mk a1 a2 a3 a4 a5 a6 => cases b with | mk b1 b2 b3 b4 b5 b6 =>
  simp only [ApiSlide.mk.injEq]
  by_cases e1 : a1 = b1 <;> by_cases e2 : a2 = b2 <;> by_cases e3 : a3 = b3 <;> by_cases e4 : a4 = b4 <;> by_cases e5 : a5 = b5 <;> by_cases e6 : a6 = b6 <;> simp [e1, e2, e3, e4, e5, e6]
theorem sameSlides_eq (a b : List ApiSlide) : ref50_SameSlides a b = some (decide (a = b)) := by
  unfold ref50_SameSlides
  by_cases hl : a.length = b.length
  · rw [decide_eq_false (by omega), cond_false]
    refine same_loop hl fun k x y hx hy => ?_
    simp only [ref50_SameSlides_b1, idxL_nat hy, Option.bind_some, sameOne_eq]
    by_cases e : x = y <;> simp [e]
  · rw [decide_eq_true (by omega), decide_eq_false (fun h => hl (by rw [h]))]; rfl

/-! ### copies -/
theorem small_lens {l : List ApiSlide} (h : Small l) : LensOK l := ⟨by have := h.1; omega, fun s hs => by have := h.2 s hs; omega⟩
theorem copied_eq {l : List ApiSlide} (h : Small l) : avalanche_copied l = some l := by
  unfold avalanche_copied
  rw [chk_ok (by have := h.1; omega)]
  obtain ⟨s', h1, h2⟩ := forIx_run (step := avalanche_copied_b1) (l := l) (s := []) (fun k s => s = l.take k) rfl (fun k x s hk hI => by
    have hlt := (List.getElem?_eq_some_iff.1 hk).1
    have hs := h.2 x (List.mem_of_getElem? hk)
    have hlen : s.length = k := by rw [hI, List.length_take]; omega
    unfold avalanche_copied_b1 slices_Clone_sint_int
    rw [chk_ok (by omega), Option.bind_some, chk_ok (by omega), Option.bind_some, chk_ok (by have := h.1; omega)]
    refine ⟨_, rfl, ?_⟩
    rw [hI, List.take_add_one, hk]; cases x; rfl)
  rw [h1, h2, List.take_length]; rfl
theorem own_eq {l : List ApiSlide} (h : Small l) : ref50_Own l = some l := by
  unfold ref50_Own
  obtain ⟨s', h1, h2⟩ := forIx_run (step := ref50_Own_b1) (l := l) (s := []) (fun k s => s = l.take k) rfl (fun k x s hk hI => by
    have hlt := (List.getElem?_eq_some_iff.1 hk).1
    have hs := h.2 x (List.mem_of_getElem? hk)
    have hlen : s.length = k := by rw [hI, List.length_take]; omega
    unfold ref50_Own_b1
    rw [chk_ok (by omega), chk_ok (by omega), chk_ok (by have := h.1; omega)]
    refine ⟨_, rfl, ?_⟩
    rw [hI, List.take_add_one, hk]; rfl)
  rw [h1, h2, List.take_length]; rfl

/-! ### Grow -/
def bump (more : Int) (s : ApiSlide) : ApiSlide := { s with Load := if 100000 < s.Load + more then 100000 else s.Load + more }
def moreOf (fresh gust : Int) : Int := if 10000 < gust then fresh + (gust - 10000) / 1000 else fresh
def growBad (fresh gust : Int) : Prop := fresh < 0 ∨ 2000 < fresh ∨ gust < 0 ∨ 100000 < gust
instance (fresh gust : Int) : Decidable (growBad fresh gust) := by unfold growBad; infer_instance
theorem wrap_small {n : Int} (h : -9223372036854775808 ≤ n) (h2 : n ≤ 9223372036854775807) : IntKind.i64.wrap n = n := by simp [IntKind.wrap, IntKind.bits, IntKind.signed] <;> omega
theorem more_eq {fresh gust : Int} (h : ¬ growBad fresh gust) (hg : 10000 < gust) : IntKind.i64.wrap (fresh + (IntKind.i64.wrap (Int.tdiv (IntKind.i64.wrap (gust - (10000 : Int))) (1000 : Int)))) = moreOf fresh gust := by
  unfold growBad at h
  unfold moreOf
  rw [if_pos hg, wrap_small (n := gust - 10000) (by omega) (by omega), Int.tdiv_eq_ediv_of_nonneg (by omega), wrap_small (n := (gust - 10000) / 1000) (by omega) (by omega), wrap_small (by omega) (by omega)]
theorem more_bd {fresh gust : Int} (h : ¬ growBad fresh gust) : 0 ≤ moreOf fresh gust ∧ moreOf fresh gust ≤ 200000 := by
  unfold growBad at h; unfold moreOf; split <;> omega
theorem set_map_step {α : Type} {g : α → α} {l : List α} {k : Nat} {x : α} (hk : l[k]? = some x) : ((l.take k).map g ++ l.drop k).set k (g x) = (l.take (k + 1)).map g ++ l.drop (k + 1) := by
  obtain ⟨hlt, rfl⟩ := List.getElem?_eq_some_iff.1 hk
  have hlen : ((l.take k).map g).length = k := by simp; omega
  rw [List.set_append_right _ _ (by omega), hlen, Nat.sub_self, List.drop_eq_getElem_cons hlt, List.set_cons_zero, List.take_add_one, hk, List.map_append, List.append_assoc]
  rfl
theorem get_map_step {α : Type} {g : α → α} {l : List α} {k : Nat} {x : α} (hk : l[k]? = some x) : ((l.take k).map g ++ l.drop k)[k]? = some x := by
  obtain ⟨hlt, rfl⟩ := List.getElem?_eq_some_iff.1 hk
  have hlen : ((l.take k).map g).length = k := by simp; omega
  rw [List.getElem?_append_right (by omega), hlen, Nat.sub_self, List.drop_eq_getElem_cons hlt]; rfl
theorem grow_j {l : List ApiSlide} {more : Int} (hs : Small l) (hr : ∀ x ∈ l, InR x) (h0 : 0 ≤ more) (h1 : more ≤ 200000) : avalanche_Grow_j1 l more = some (l.map (bump more), 0) := by
  unfold avalanche_Grow_j1
  rw [copied_eq hs, Option.bind_some]
  obtain ⟨s', h2, h3⟩ := forIx_run (step := avalanche_Grow_b2 more) (l := l) (s := l) (fun k s => s = (l.take k).map (bump more) ++ l.drop k) (by simp) (fun k x s hk hI => by
    have hx := hr x (List.mem_of_getElem? hk)
    unfold InR at hx
    unfold avalanche_Grow_b2
    rw [idxL_nat (by rw [hI]; exact get_map_step hk), Option.bind_some, wrap_small (n := x.Load + more) (by omega) (by omega)]
    refine ⟨_, rfl, ?_⟩
    rw [hI, ← set_map_step hk]; rfl)
  rw [h2, h3]; simp [Out.on]
theorem refgrow_j {l : List ApiSlide} {more : Int} (hs : Small l) (hr : ∀ x ∈ l, InR x) (h0 : 0 ≤ more) (h1 : more ≤ 200000) : ref50_Grow_j1 l more = some (l.map (bump more), 0) := by
  unfold ref50_Grow_j1
  rw [own_eq hs, Option.bind_some]
  obtain ⟨r, h2, h3⟩ := whileN_inv (step := ref50_Grow_b2 more) (fun s => ∃ k : Nat, k ≤ l.length ∧ s = ((k : Int), (l.take k).map (bump more) ++ l.drop k)) (fun r => r = (l.map (bump more), 0)) (fun s => l.length - s.1.toNat) (fun s hI => by
    obtain ⟨k, hk, rfl⟩ := hI
    have hlen : ((l.take k).map (bump more) ++ l.drop k).length = l.length := by simp; omega
    unfold ref50_Grow_b2
    show (∃ s', (bif decide (((k : Nat) : Int) < (((((l.take k).map (bump more) ++ l.drop k).length) : Nat) : Int)) then _ else _) = _ ∧ _) ∨ _
    rw [hlen]
    by_cases hlt : k < l.length
    · rw [decide_eq_true (by omega), cond_true]
      have hg : l[k]? = some l[k] := List.getElem?_eq_getElem hlt
      have hx := hr l[k] (List.mem_of_getElem? hg)
      unfold InR at hx
      simp only [idxL_nat (get_map_step (g := bump more) hg), Option.bind_some, wrap_small (n := l[k].Load + more) (by omega) (by omega), Int.toNat_natCast, wrap_add1 (show k < 9223372036854775807 by have := hs.1; omega), List.set_set]
      refine .inl ?_
      by_cases hb : 100000 < l[k].Load + more
      · rw [decide_eq_true hb]
        refine ⟨_, rfl, ⟨k + 1, by omega, ?_⟩, by simp; omega⟩
        rw [← set_map_step hg]; simp only [bump, if_pos hb]
      · rw [decide_eq_false hb]
        refine ⟨_, rfl, ⟨k + 1, by omega, ?_⟩, by simp; omega⟩
        rw [← set_map_step hg]; simp only [bump, if_neg hb]
    · rw [decide_eq_false (by omega), cond_false]
      obtain rfl : k = l.length := by omega
      exact .inr ⟨_, rfl, by simp⟩) fuel (0, l) ⟨0, by omega, by simp⟩ (by have := hs.1; show l.length - 0 < fuel; unfold fuel; omega)
  rw [h2, h3]; rfl
theorem grow_eq {l : List ApiSlide} (fresh gust : Int) (hs : Small l) (hr : ∀ x ∈ l, InR x) :
    avalanche_Grow l fresh gust = some (if growBad fresh gust then ([], 2) else (l.map (bump (moreOf fresh gust)), 0)) ∧ ref50_Grow l fresh gust = some (if growBad fresh gust then ([], 2) else (l.map (bump (moreOf fresh gust)), 0)) := by
  unfold avalanche_Grow ref50_Grow
  by_cases hb : growBad fresh gust
  · rw [if_pos hb]
    unfold growBad at hb
    by_cases b1 : fresh < 0
    · rw [decide_eq_true b1]; exact ⟨rfl, rfl⟩
    rw [decide_eq_false b1, cond_false, cond_false]
    by_cases b2 : 2000 < fresh
    · rw [decide_eq_true b2]; exact ⟨rfl, rfl⟩
    rw [decide_eq_false b2, cond_false, cond_false]
    by_cases b3 : gust < 0
    · rw [decide_eq_true b3]; exact ⟨rfl, rfl⟩
    rw [decide_eq_false b3, cond_false, cond_false]
    by_cases b4 : 100000 < gust
    · rw [decide_eq_true b4]; exact ⟨rfl, rfl⟩
    omega
  · rw [if_neg hb]
    have hm := more_bd hb
    have hb' := hb
    unfold growBad at hb'
    rw [decide_eq_false (by omega), cond_false, cond_false, decide_eq_false (by omega), cond_false, cond_false, decide_eq_false (by omega), cond_false, cond_false, decide_eq_false (by omega), cond_false, cond_false]
    by_cases hg : 10000 < gust
    · rw [decide_eq_true hg, cond_true, cond_true, more_eq hb hg]
      exact ⟨grow_j hs hr hm.1 hm.2, refgrow_j hs hr hm.1 hm.2⟩
    · rw [decide_eq_false hg, cond_false, cond_false]
      have e : moreOf fresh gust = fresh := if_neg hg
      rw [e] at hm ⊢
      exact ⟨grow_j hs hr hm.1 hm.2, refgrow_j hs hr hm.1 hm.2⟩
theorem accepted_eq (l : List ApiSlide) (h : LensOK l) : ∃ b, law50_accepted l = some b ∧ (b = true → Small l ∧ RightOK l) := by
  obtain ⟨b, h1, h2⟩ := small_eq l
  obtain ⟨r, h3, h4, h5⟩ := right_ok l h
  unfold law50_accepted
  rw [h1, Option.bind_some]
  cases b with
  | false => exact ⟨false, rfl, fun e => by cases e⟩
  | true => exact ⟨decide (r = 0), by rw [cond_true, h4]; rfl, fun e => ⟨h2 rfl, h5.1 (of_decide_eq_true e)⟩⟩
theorem law50_AvalancheLoads_true (l : List ApiSlide) (fresh gust : Int) (hl : OkL OkApiSlide l) (_ : I64 fresh) (_ : I64 gust) : law50_AvalancheLoads l fresh gust = some true := by
  obtain ⟨b, h1, h2⟩ := accepted_eq l (lens_ok hl)
  unfold law50_AvalancheLoads
  rw [alive50, Option.bind_some, h1]
  cases b with
  | false => rfl
  | true =>
    obtain ⟨hs, hr⟩ := h2 rfl
    obtain ⟨g1, g2⟩ := grow_eq fresh gust hs (fun x hx => (hr.at hx).1)
    simp only [g1, g2, Option.bind_some, sameSlides_eq, decide_true, Bool.not_true, cond_false, cond_true]

/-! ### Control -/
def released (t : Int) (x : ApiSlide) : ApiSlide := { x with Load := 0, Controlled := t }
def ctlBad (t : Int) (x : ApiSlide) : Prop := t < x.Controlled ∨ t < 0 ∨ 20000000 < t
instance (t : Int) (x : ApiSlide) : Decidable (ctlBad t x) := by unfold ctlBad; infer_instance
theorem control_eq {l : List ApiSlide} (n t : Int) (hs : Small l) :
    (avalanche_Control l n t = some ([], 8) ∧ ref50_Control l n t = some ([], 8) ∧ ∀ x ∈ l, x.ID ≠ n) ∨
    ∃ (k : Nat) (x : ApiSlide), l[k]? = some x ∧ x.ID = n ∧ (∀ j y, j < k → l[j]? = some y → y.ID ≠ n) ∧
      ((ctlBad t x ∧ avalanche_Control l n t = some ([], 11) ∧ ref50_Control l n t = some ([], 11)) ∨
       (¬ ctlBad t x ∧ avalanche_Control l n t = some (l.set k (released t x), 0) ∧ ref50_Control l n t = some (l.set k (released t x), 0))) := by
  unfold avalanche_Control ref50_Control
  rw [own_eq hs, Option.bind_some]
  rcases find_eq l n with ⟨h1, h2⟩ | ⟨k, x, h1, h2, h3, h4⟩
  · refine .inl ⟨by rw [h1]; rfl, ?_, h2⟩
    obtain ⟨u, h5, _⟩ := forIx_run (step := ref50_Control_b1 n t l) (l := l) (s := ()) (fun _ _ => True) trivial (fun k x s hk _ => by
      unfold ref50_Control_b1
      rw [decide_eq_true (h2 x (List.mem_of_getElem? hk))]
      exact ⟨(), rfl, trivial⟩)
    rw [h5]; rfl
  · refine .inr ⟨k, x, h2, h3, h4, ?_⟩
    have hlt := (List.getElem?_eq_some_iff.1 h2).1
    have e1 : decide (((k : Nat) : Int) < 0) = false := decide_eq_false (by omega)
    have hset : idxL l ((k : Nat) : Int) = some x := idxL_nat h2
    rcases forIx_inv (step := ref50_Control_b1 n t l) (l := l) (s := ()) (fun i _ => i ≤ k) (fun r => r = if ctlBad t x then ([], 11) else (l.set k (released t x), 0)) (by omega) (fun i y u hi hI => by
      unfold ref50_Control_b1
      by_cases e : y.ID = n
      · have hik : i = k := by
          by_cases hh : i = k
          · exact hh
          · exact absurd e (h4 i y (by omega) hi)
        subst hik
        rw [h2] at hi; obtain rfl := Option.some.inj hi
        rw [decide_eq_false (by simpa using e), cond_false]
        refine .inr ?_
        by_cases hb : ctlBad t x
        · rw [if_pos hb]
          unfold ctlBad at hb
          by_cases b1 : t < x.Controlled
          · rw [decide_eq_true b1]; exact ⟨_, rfl, rfl⟩
          rw [decide_eq_false b1, cond_false]
          by_cases b2 : t < 0
          · rw [decide_eq_true b2]; exact ⟨_, rfl, rfl⟩
          rw [decide_eq_false b2, cond_false, decide_eq_true (by omega)]
          exact ⟨_, rfl, rfl⟩
        · rw [if_neg hb]
          unfold ctlBad at hb
          rw [decide_eq_false (by omega), cond_false, decide_eq_false (by omega), cond_false, decide_eq_false (by omega), cond_false, List.set_set]
          exact ⟨_, rfl, rfl⟩
      · rw [decide_eq_true (by simpa using e)]
        refine .inl ⟨(), rfl, ?_⟩
        by_cases hh : i = k
        · subst hh; rw [h2] at hi; obtain rfl := Option.some.inj hi; exact absurd h3 e
        · omega) with ⟨u, g1, g2⟩ | ⟨r, g1, rfl⟩
    · omega
    rw [g1, h1, Option.bind_some, e1, cond_false, hset, Option.bind_some, copied_eq hs]
    by_cases hb : ctlBad t x
    · refine .inl ⟨hb, ?_, by rw [if_pos hb]; rfl⟩
      unfold ctlBad at hb
      by_cases b1 : t < x.Controlled
      · rw [decide_eq_true b1]; rfl
      rw [decide_eq_false b1, cond_false]
      by_cases b2 : t < 0
      · rw [decide_eq_true b2]; rfl
      rw [decide_eq_false b2, cond_false, decide_eq_true (by omega)]; rfl
    · refine .inr ⟨hb, ?_, by rw [if_neg hb]; rfl⟩
      unfold ctlBad at hb
      rw [decide_eq_false (by omega), cond_false, decide_eq_false (by omega), cond_false, decide_eq_false (by omega), cond_false, Option.bind_some, hset, Option.bind_some, Int.toNat_natCast, List.set_set]; rfl
theorem law50_AvalancheControls_true (l : List ApiSlide) (n t : Int) (hl : OkL OkApiSlide l) (_ : I64 n) (_ : I64 t) : law50_AvalancheControls l n t = some true := by
  obtain ⟨b, h1, h2⟩ := accepted_eq l (lens_ok hl)
  unfold law50_AvalancheControls
  rw [alive50, Option.bind_some, h1]
  cases b with
  | false => rfl
  | true =>
    obtain ⟨hs, hr⟩ := h2 rfl
    rcases control_eq n t hs with ⟨g1, g2, _⟩ | ⟨k, x, _, _, _, ⟨_, g1, g2⟩ | ⟨_, g1, g2⟩⟩ <;>
    simp only [g1, g2, Option.bind_some, sameSlides_eq, decide_true, Bool.not_true, cond_false, cond_true]
end Go.Proofs.Ytciaimpdnjpajaa
