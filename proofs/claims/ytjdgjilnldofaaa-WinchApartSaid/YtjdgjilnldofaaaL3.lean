/-
  WinchApart in plain Lean: whatever is laid, no two ropes sweep a run at the same time.
-/
import Derived.Test.YtjdgjilnldofaaaL2
namespace Go.Proofs.Ytjdgjilnldofaaa
open Go Go.Ab
set_option linter.unusedSimpArgs false
set_option linter.unusedVariables false

theorem atT_snoc (l : List ApiWinchLine) (x : ApiWinchLine) (t : Int) : atT (l ++ [x]) t = if x.From ≤ t ∧ t < x.To then atT l t ++ [x] else atT l t := by
  unfold atT
  rw [List.filter_append]
  by_cases h : x.From ≤ t ∧ t < x.To
  · rw [if_pos h, List.filter_cons_of_pos (by simp [h]), List.filter_nil]
  · rw [if_neg h, List.filter_cons_of_neg (by simpa using h), List.filter_nil, List.append_nil]
theorem apart_at {l : List ApiWinchLine} (ok : RopesOK l) (t : Int) : (atT l t).Pairwise fun a b => a.Groomer ≠ b.Groomer ∧ ∀ x ∈ a.Runs, x ∉ b.Runs := by
  have h : (atT l t).Pairwise fun a b => clash a b = false := ok.apart.sublist List.filter_sublist
  refine List.Pairwise.imp_of_mem (fun {a b} ha hb hc => ?_) h
  have ha := (mem_atT.1 ha).2
  have hb := (mem_atT.1 hb).2
  unfold clash at hc
  rw [decide_eq_true (show a.From < b.To by omega), decide_eq_true (show b.From < a.To by omega)] at hc
  simp only [Bool.true_and, Bool.or_eq_false_iff, decide_eq_false_iff_not, List.any_eq_false, decide_eq_true_eq] at hc
  exact ⟨hc.1, fun x hx => by simpa using hc.2 x hx⟩
theorem runsAt_nodup {l : List ApiWinchLine} (ok : RopesOK l) (t : Int) : (runsAt l t).Nodup := by
  unfold runsAt List.Nodup
  rw [List.pairwise_flatMap]
  refine ⟨fun w hw => (ok.rope w (mem_atT.1 hw).1).runs.inc.nodup, ?_⟩
  exact (apart_at ok t).imp fun {a b} h x hx y hy (e : x = y) => h.2 x hx (e ▸ hy)
theorem inner_runs {r xs : List Int} (hi : Inc xs) (hd : ∀ x ∈ r, x ∉ xs) (hr : r.length ≤ 100000) (hx : xs.length ≤ 100) : forIx law46_WinchApart_b5 0 xs r = some (.next (r ++ xs)) := by
  obtain ⟨s', h1, h2⟩ := forIx_run (step := law46_WinchApart_b5) (l := xs) (s := r) (fun k s => s = r ++ xs.take k) (by simp) (fun k x s hk hI => by
    have hlt := (List.getElem?_eq_some_iff.1 hk).1
    have hn : x ∉ s := by
      rw [hI, List.mem_append]
      rintro (h | h)
      · exact hd x h (List.mem_of_getElem? hk)
      · obtain ⟨j, hj⟩ := List.mem_iff_getElem?.1 h
        rw [List.getElem?_take] at hj
        split at hj
        · rename_i hjk
          have := inc_get hi hj hk hjk; omega
        · cases hj
    have hlen : s.length ≤ 100100 := by rw [hI, List.length_append, List.length_take]; omega
    unfold law46_WinchApart_b5
    rw [lhas_eq, Option.bind_some, decide_eq_false hn, cond_false, chk_ok (by omega)]
    exact ⟨_, rfl, by rw [hI, take_succ_some hk, List.append_assoc]⟩)
  rw [h1, h2, List.take_length]
theorem outer_runs {l : List ApiWinchLine} (ok : RopesOK l) (hr : ∀ w ∈ l, w.Runs.length ≤ 100) (t : Int) : ∃ g, forIx (law46_WinchApart_b4 t) 0 l ([], []) = some (.next (runsAt l t, g)) := by
  obtain ⟨s', h1, h2⟩ := forIx_run (step := law46_WinchApart_b4 t) (l := l) (s := ([], [])) (fun k s => s = (runsAt (l.take k) t, (atT (l.take k) t).map (·.Groomer))) (by simp [runsAt, atT]) (fun k x s hk hI => by
    have hlt := (List.getElem?_eq_some_iff.1 hk).1
    have hmem := List.mem_of_getElem? hk
    subst hI
    unfold law46_WinchApart_b4
    rw [take_succ_some hk, runsAt_snoc, atT_snoc]
    dsimp only
    by_cases h1 : t < x.From
    · rw [decide_eq_true h1, if_neg (by omega), if_neg (by omega)]; exact ⟨_, rfl, rfl⟩
    rw [decide_eq_false h1, cond_false]
    by_cases h2 : x.To ≤ t
    · rw [decide_eq_true h2, if_neg (by omega), if_neg (by omega)]; exact ⟨_, rfl, rfl⟩
    rw [decide_eq_false h2, cond_false, if_pos (by omega), if_pos (by omega)]
    have ok1 : RopesOK (l.take k ++ [x]) := by rw [← take_succ_some hk]; exact ok.sub (List.take_sublist _ _)
    have hp := apart_at ok1 t
    rw [atT_snoc, if_pos (by omega), List.pairwise_append] at hp
    have hp := fun w hw => hp.2.2 w hw x (by simp)
    have hg : x.Groomer ∉ (atT (l.take k) t).map (·.Groomer) := by
      rw [List.mem_map]
      rintro ⟨w, hw, e⟩
      exact (hp w hw).1 e
    have hlen : ((atT (l.take k) t).map (·.Groomer)).length ≤ 16 := by
      rw [List.length_map]
      have h1 := List.length_filter_le (fun w : ApiWinchLine => decide (w.From ≤ t) && decide (t < w.To)) (l.take k)
      have h2 := ok.len
      unfold atT
      rw [List.length_take] at h1
      omega
    have hrl : (runsAt (l.take k) t).length ≤ 1600 := by
      have h3 := len_runsAt (l := l.take k) (t := t) fun w hw => hr w (List.mem_of_mem_take hw)
      have h4 := ok.len
      rw [List.length_take] at h3
      omega
    have hd : ∀ y ∈ runsAt (l.take k) t, y ∉ x.Runs := by
      intro y hy
      obtain ⟨w, hw, ht, hm⟩ := mem_runsAt.1 hy
      exact (hp w (mem_atT.2 ⟨hw, ht⟩)).2 y hm
    rw [lhas_eq, Option.bind_some, decide_eq_false hg, cond_false, chk_ok (by omega), inner_runs (ok.rope x hmem).runs.inc hd (by omega) (hr x hmem), Option.bind_some]
    exact ⟨_, rfl, by rw [List.map_append]; rfl⟩)
  rw [h1, h2, List.take_length]
  exact ⟨_, rfl⟩
theorem apart_end {l : List ApiWinchLine} (ok : RopesOK l) (hr : ∀ w ∈ l, w.Runs.length ≤ 100) (t : Int) : law46_WinchApart_j1 t l = some true := by
  have few : Few l := ⟨by have := ok.len; omega, hr⟩
  obtain ⟨e, r1, r2, r3⟩ := right_eq few.big
  obtain rfl := r3.2 ok
  obtain ⟨g, hg⟩ := outer_runs ok hr t
  unfold law46_WinchApart_j1
  rw [r2, Option.bind_some]
  show ((forIx (law46_WinchApart_b4 t) 0 l ([], [])).bind _) = _
  rw [hg, Option.bind_some]
  show law46_WinchApart_j2 t l (runsAt l t) = _
  unfold law46_WinchApart_j2
  rw [swept_eq few, Option.bind_some]
  have hb : (runsAt l t).length ≤ 4000 := by have := len_runsAt (l := l) (t := t) hr; have := few.len; omega
  have hlen : (norm (runsAt l t)).length = (runsAt l t).length := by
    have h1 := nodup_len (norm_inc (runsAt l t)).nodup (fun x hx => (norm_mem _ x).1 hx)
    have h2 := nodup_len (runsAt_nodup ok t) (fun x hx => (norm_mem _ x).2 hx)
    omega
  have loop : forIx (law46_WinchApart_b3 (runsAt l t) (norm (runsAt l t))) 0 (norm (runsAt l t)) () = some (.next ()) := forIx_all.2 fun i x hx => by
    have hlt := (List.getElem?_eq_some_iff.1 hx).1
    unfold law46_WinchApart_b3
    rw [lhas_eq, Option.bind_some, decide_eq_true ((norm_mem _ x).1 (List.mem_of_getElem? hx)), Nat.zero_add]
    show (bif decide ((0 : Int) < (i : Int)) then _ else _) = _
    by_cases h0 : (0 : Int) < (i : Int)
    · rw [decide_eq_true h0, cond_true, wrap_pred (by omega) (by omega)]
      have hy : (norm (runsAt l t))[i - 1]? = some (norm (runsAt l t))[i - 1] := List.getElem?_eq_getElem (by omega)
      generalize (norm (runsAt l t))[i - 1] = y at hy
      have := inc_get (norm_inc _) hy hx (by omega)
      rw [idxL_nat hy, Option.bind_some, decide_eq_false (show ¬ x ≤ y by omega)]; rfl
    · rw [decide_eq_false h0]; rfl
  rw [loop, Option.bind_some]
  show some (decide _) = _
  rw [decide_eq_true (by omega)]
theorem law46_WinchApart_true (l more : List ApiWinchLine) (t : Int) (_ : OkL OkApiWinchLine l) (_ : OkL OkApiWinchLine more) (_ : I64 t) : law46_WinchApart l more t = some true := by
  unfold law46_WinchApart
  rw [alive46, Option.bind_some]
  obtain ⟨b, hb, hf⟩ := lright_eq l
  show ((law46_right l).bind _) = _
  rw [hb, Option.bind_some]
  cases b with
  | false => rfl
  | true =>
    obtain ⟨few, ok⟩ := hf.1 rfl
    obtain ⟨b2, hb2, hf2⟩ := few_eq more
    show ((law46_few more).bind _) = _
    rw [hb2, Option.bind_some]
    cases b2 with
    | false => rfl
    | true =>
      have fm := hf2.1 rfl
      show (bif decide ((30 : Int) < (more.length : Int)) then _ else _) = _
      by_cases h30 : (30 : Int) < (more.length : Int)
      · rw [decide_eq_true h30]; rfl
      rw [decide_eq_false h30, cond_false]
      obtain ⟨s', h1, h2, h3⟩ := forIx_run (step := law46_WinchApart_b6) (l := more) (s := l) (fun k sv => RopesOK sv ∧ ∀ w ∈ sv, w.Runs.length ≤ 100) ⟨ok, few.runs⟩ (fun k x s hk hI => by
        obtain ⟨i1, i2⟩ := hI
        have hx := fm.runs x (List.mem_of_getElem? hk)
        have hl := i1.len
        obtain ⟨e, e1, _, e3⟩ := lay_eq (l := s) (w := x) (fun v hv => by have := i2 v hv; omega) (by omega) (by omega)
        unfold law46_WinchApart_b6
        rw [e3, Option.bind_some]
        by_cases h0 : e = 0
        · rw [if_pos h0]
          dsimp only
          rw [wrap_add1 (by omega), decide_eq_true rfl, cond_true, decide_eq_false (by simp), cond_false]
          refine ⟨_, rfl, e1.1 h0, fun w hw => ?_⟩
          rw [List.mem_append, List.mem_singleton] at hw
          rcases hw with hw | rfl
          · exact i2 w hw
          · exact hx
        · rw [if_neg h0]
          dsimp only
          rw [decide_eq_false h0, cond_false, decide_eq_false (by simp), cond_false]
          exact ⟨_, rfl, i1, i2⟩)
      rw [h1, Option.bind_some]
      exact apart_end h2 h3 t
end Go.Proofs.Ytjdgjilnldofaaa
