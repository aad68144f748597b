/-
  The laws of layer 50 (avalanche) in plain Lean: new snow in two steps loads as much as at once.
-/
import Derived.Test.YtciaimpdnjpajaaL4
namespace Go.Proofs.Ytciaimpdnjpajaa
open Go Go.Ab
set_option linter.unusedSimpArgs false
set_option linter.unusedVariables false

theorem growF_j {l : List ApiSlide} {more : Int} (hs : Small l) (hr : ∀ x ∈ l, InR x) (h0 : 0 ≤ more) (h1 : more ≤ 200000) : avalanche_GrowF_j1 l more = some (l.map (bump more), 0) := by
  unfold avalanche_GrowF_j1
  rw [chk_ok (by have := hs.1; omega)]
  obtain ⟨s', h2, h3⟩ := forIx_run (step := avalanche_GrowF_b2) (l := l) (s := []) (fun k s => s = l.take k) rfl (fun k x s hk hI => by
    have hlt := (List.getElem?_eq_some_iff.1 hk).1
    have hs' := hs.2 x (List.mem_of_getElem? hk)
    have hlen : s.length = k := by rw [hI, List.length_take]; omega
    unfold avalanche_GrowF_b2 slices_Clone_sint_int
    rw [chk_ok (by omega), Option.bind_some, chk_ok (by omega), Option.bind_some, chk_ok (by have := hs.1; omega)]
    refine ⟨_, rfl, ?_⟩
    rw [hI, List.take_add_one, hk]; cases x; rfl)
  rw [List.take_length] at h3
  rw [h3] at h2
  obtain ⟨s'', h4, h5⟩ := forIx_run (step := avalanche_GrowF_b3 more) (l := l) (s := l) (fun k s => s = (l.take k).map (bump more) ++ l.drop k) (by simp) (fun k x s hk hI => by
    have hx := hr x (List.mem_of_getElem? hk)
    unfold InR at hx
    unfold avalanche_GrowF_b3
    rw [idxL_nat (by rw [hI]; exact get_map_step hk), Option.bind_some, wrap_small (n := x.Load + more) (by omega) (by omega)]
    refine ⟨_, rfl, ?_⟩
    rw [hI, ← set_map_step hk]; rfl)
  rw [h2, Option.bind_some]
  show (forIx (avalanche_GrowF_b3 more) 0 l l).bind _ = _
  rw [h4, h5]; simp [Out.on]
theorem growF_eq {l : List ApiSlide} (fresh gust : Int) (hs : Small l) (hr : ∀ x ∈ l, InR x) (hb : ¬ growBad fresh gust) : avalanche_GrowF l fresh gust = some (l.map (bump (moreOf fresh gust)), 0) := by
  unfold avalanche_GrowF
  have hm := more_bd hb
  have hb' := hb
  unfold growBad at hb'
  rw [decide_eq_false (by omega), cond_false, decide_eq_false (by omega), cond_false, decide_eq_false (by omega), cond_false, decide_eq_false (by omega), cond_false]
  by_cases hg : 10000 < gust
  · rw [decide_eq_true hg, cond_true, more_eq hb hg]
    exact growF_j hs hr hm.1 hm.2
  · rw [decide_eq_false hg, cond_false]
    have e : moreOf fresh gust = fresh := if_neg hg
    rw [e] at hm ⊢
    exact growF_j hs hr hm.1 hm.2
theorem bump_twice {x : ApiSlide} {a b : Int} (ha : 0 ≤ a) (hb : 0 ≤ b) (hr : InR x) : bump b (bump a x) = bump (a + b) x := by
  unfold InR at hr
  have : (if 100000 < (if 100000 < x.Load + a then 100000 else x.Load + a) + b then 100000 else (if 100000 < x.Load + a then 100000 else x.Load + a) + b) = if 100000 < x.Load + (a + b) then 100000 else x.Load + (a + b) := by
    repeat' split
    all_goals omega
  unfold bump
  simp only
  rw [this]
theorem law50_AvalancheSteps_true (l : List ApiSlide) (a b : Int) (hl : OkL OkApiSlide l) (ha : U16 a) (hb : U16 b) : law50_AvalancheSteps l a b = some true := by
  obtain ⟨c, h1, h2⟩ := small_eq l
  obtain ⟨e, g1, _, g3⟩ := right_ok l (lens_ok hl)
  unfold U16 at ha hb
  unfold law50_AvalancheSteps
  rw [alive50, Option.bind_some, h1, Option.bind_some, g1, Option.bind_some, Bool.not_true, cond_false, wrap_small (n := a) (by omega) (by omega), wrap_small (n := b) (by omega) (by omega), wrap_small (n := a + b) (by omega) (by omega)]
  cases c with
  | false => rfl
  | true =>
    rw [Bool.not_true, cond_false]
    by_cases he : e = 0
    · subst he
      rw [decide_eq_false (fun h => h rfl), cond_false]
      by_cases hab : 2000 < a + b
      · rw [decide_eq_true hab]; rfl
      · rw [decide_eq_false hab, cond_false]
        have hs := h2 rfl
        have hr := g3.1 rfl
        have hin : ∀ x ∈ l, InR x := fun x hx => (hr.at hx).1
        have k1 := growF_eq a 0 hs hin (by unfold growBad; omega)
        have k2 := growF_eq (l := l.map (bump a)) b 10000 (bump_small hs) (fun x hx => ((bump_right hr ha.1).at hx).1) (by unfold growBad; omega)
        have k3 := growF_eq (a + b) 10999 hs hin (by unfold growBad; omega)
        have m1 : moreOf a 0 = a := by unfold moreOf; rw [if_neg (by omega)]
        have m2 : moreOf b 10000 = b := by unfold moreOf; rw [if_neg (by omega)]
        have m3 : moreOf (a + b) 10999 = a + b := by unfold moreOf; rw [if_pos (by omega)]; omega
        rw [m1] at k1; rw [m2] at k2; rw [m3] at k3
        have hz : ∀ x ∈ l.map (bump a), x.Zones ≠ [] := by
          intro x hx
          obtain ⟨y, hy, rfl⟩ := List.mem_map.1 hx
          exact (hr.at hy).2.1
        have hyz : (l.map (bump a)).map (bump b) = l.map (bump (a + b)) := by
          rw [List.map_map]
          exact List.map_congr_left fun x hx => bump_twice ha.1 hb.1 (hin x hx)
        simp only [own_eq hs, k1, k2, k3, Option.bind_some, hyz, sameSlides_eq, decide_true, Bool.not_true, cond_false, cond_true, okB, decide_eq_true hz]
    · rw [decide_eq_true he]; rfl
end Go.Proofs.Ytciaimpdnjpajaa
