/-
  The laws of layer 46 (winch) in plain Lean: each answers true.
-/
import Derived.Test.YtjdgjilnldofaaaL1
namespace Go.Proofs.Ytjdgjilnldofaaa
open Go Go.Ab
set_option linter.unusedSimpArgs false
set_option linter.unusedVariables false

theorem inner_eq {l : List ApiWinchLine} {x : ApiWinchLine} {k : Nat} (hk : k ≤ l.length) (hl : l.length ≤ 16) :
    (forN (ref46_Right_b2 l x) k () = some (.next ()) ∧ ∀ (j : Nat) w, j < k → l[j]? = some w → clash w x = false) ∨ (forN (ref46_Right_b2 l x) k () = some (.ret (.ret 15)) ∧ ∃ (j : Nat) (w : ApiWinchLine), j < k ∧ l[j]? = some w ∧ clash w x = true) := by
  rcases forN_inv (n := k) (step := ref46_Right_b2 l x) (s := ()) (by omega) (fun i _ => ∀ (j : Nat) w, j < i → l[j]? = some w → clash w x = false) (fun r => r = .ret 15 ∧ ∃ (j : Nat) (w : ApiWinchLine), j < k ∧ l[j]? = some w ∧ clash w x = true)
    (fun j w h => by omega) (fun i s hi hI => by
      have hw : l[i]? = some l[i] := List.getElem?_eq_getElem (by omega)
      generalize l[i] = w at hw
      unfold ref46_Right_b2
      rw [idxL_nat hw, Option.bind_some, rclash_eq, Option.bind_some]
      cases hc : clash w x with
      | true => exact .inr ⟨_, rfl, rfl, i, w, hi, hw, hc⟩
      | false =>
        refine .inl ⟨(), rfl, fun j w' hj hw' => ?_⟩
        by_cases e : j = i
        · subst e; rw [hw] at hw'; obtain rfl := Option.some.inj hw'; exact hc
        · exact hI j w' (by omega) hw') with ⟨s', h1, h2⟩ | ⟨r, h1, rfl, h2⟩
  · exact .inl ⟨h1, h2⟩
  · exact .inr ⟨h1, h2⟩
theorem step_eq {l : List ApiWinchLine} {x : ApiWinchLine} {k : Nat} (hk : l[k]? = some x) (hl : l.length ≤ 16) (hr : x.Runs.length ≤ 549755813888) : winch_Right_b1 l k x () = ref46_Right_b1 l k x () := by
  have hlt := (List.getElem?_eq_some_iff.1 hk).1
  unfold winch_Right_b1 ref46_Right_b1
  obtain ⟨b, hb, hbr⟩ := runs_eq hr
  rw [rising_eq, hb, Option.bind_some, Option.bind_some]
  cases b with
  | false => rfl
  | true =>
    have hinc := (hbr.1 rfl).inc
    have hin : forN (winch_Right_b2 l k x) k () = forN (ref46_Right_b2 l x) k () := by
      unfold forN
      rw [if_pos (by omega), if_pos (by omega)]
      refine forIx_congr0 fun i u s hi => ?_
      have hik : i < k := getElem?_repl hi
      have hw : l[i]? = some l[i] := List.getElem?_eq_getElem (by omega)
      generalize l[i] = w at hw
      have hw' : (l.take k)[i]? = some w := by rw [List.getElem?_take, if_pos hik]; exact hw
      unfold winch_Right_b2 ref46_Right_b2
      rw [idxL_nat hw, idxL_nat hw', Option.bind_some, Option.bind_some, conflict_eq hinc hr, rclash_eq, decide_eq_true (show (0 : Int) ≤ (i : Int) by omega)]
      cases clash w x <;> rfl
    rw [hin, okB_ok (show (0 : Int) ≤ (k : Int) ∧ (k : Int) ≤ (l.length : Int) by omega)]
theorem right_eq {l : List ApiWinchLine} (hr : ∀ w ∈ l, w.Runs.length ≤ 549755813888) : ∃ e, ref46_Right l = some e ∧ winch_Right l = some e ∧ (e = 0 ↔ RopesOK l) := by
  unfold winch_Right ref46_Right
  by_cases h16 : (16 : Int) < (l.length : Int)
  · rw [decide_eq_true h16]
    exact ⟨4, rfl, rfl, by simp, fun h => by have := h.len; omega⟩
  rw [decide_eq_false h16, cond_false, cond_false]
  rw [forIx_congr0 (step := winch_Right_b1 l) (step' := ref46_Right_b1 l) fun i x s hi => step_eq hi (by omega) (hr x (List.mem_of_getElem? hi))]
  rcases forIx_inv (step := ref46_Right_b1 l) (l := l) (s := ()) (fun k _ => ∀ (i : Nat) w, i < k → l[i]? = some w → RopeOK w ∧ ∀ (j : Nat) v, j < i → l[j]? = some v → clash v w = false) (fun r => r ≠ 0 ∧ ¬ RopesOK l)
    (fun i w h => by omega) (fun k x u hk hI => by
      have hlt := (List.getElem?_eq_some_iff.1 hk).1
      have hmem := List.mem_of_getElem? hk
      unfold ref46_Right_b1
      by_cases h1 : x.Groomer < 1
      · rw [decide_eq_true h1]; exact .inr ⟨_, rfl, by simp, fun h => by have := (h.rope x hmem).g1; omega⟩
      rw [decide_eq_false h1, cond_false]
      by_cases h2 : 9999 < x.Groomer
      · rw [decide_eq_true h2]; exact .inr ⟨_, rfl, by simp, fun h => by have := (h.rope x hmem).g2; omega⟩
      rw [decide_eq_false h2, cond_false]
      by_cases h3 : x.From < 0
      · rw [decide_eq_true h3]; exact .inr ⟨_, rfl, by simp, fun h => by have := (h.rope x hmem).f0; omega⟩
      rw [decide_eq_false h3, cond_false]
      by_cases h4 : x.To ≤ x.From
      · rw [decide_eq_true h4]; exact .inr ⟨_, rfl, by simp, fun h => by have := (h.rope x hmem).ft; omega⟩
      rw [decide_eq_false h4, cond_false]
      by_cases h5 : 20000000 < x.To
      · rw [decide_eq_true h5]; exact .inr ⟨_, rfl, by simp, fun h => by have := (h.rope x hmem).t1; omega⟩
      rw [decide_eq_false h5, cond_false]
      obtain ⟨b, hb, hbr⟩ := runs_eq (hr x hmem)
      rw [hb, Option.bind_some]
      cases b with
      | false => exact .inr ⟨1, rfl, by simp, fun h => by have := hbr.2 (h.rope x hmem).runs; cases this⟩
      | true =>
        rcases inner_eq (l := l) (x := x) (k := k) (by omega) (by omega) with ⟨h6, h7⟩ | ⟨h6, j, w, hj, hw, hc⟩
        · refine .inl ⟨(), by rw [h6]; rfl, fun i w hi hw => ?_⟩
          by_cases e : i = k
          · subst e; rw [hk] at hw; obtain rfl := Option.some.inj hw
            exact ⟨⟨by omega, by omega, by omega, by omega, by omega, hbr.1 rfl⟩, h7⟩
          · exact hI i w (by omega) hw
        · refine .inr ⟨15, by rw [h6]; rfl, by simp, fun h => ?_⟩
          obtain ⟨h8, rfl⟩ := List.getElem?_eq_some_iff.1 hw
          obtain ⟨h9, rfl⟩ := List.getElem?_eq_some_iff.1 hk
          have := (List.pairwise_iff_getElem.1 h.apart) j k h8 h9 hj
          rw [this] at hc; cases hc) with ⟨s', h1, h2⟩ | ⟨r, h1, h2, h3⟩
  · rw [h1]
    refine ⟨0, rfl, rfl, fun _ => ?_, fun _ => rfl⟩
    refine ⟨by omega, fun w hw => ?_, ?_⟩
    · obtain ⟨i, hi⟩ := List.mem_iff_getElem?.1 hw
      exact (h2 i w (List.getElem?_eq_some_iff.1 hi).1 hi).1
    · rw [List.pairwise_iff_getElem]
      intro i j hi hj hij
      exact (h2 j _ hj (List.getElem?_eq_getElem hj)).2 i _ hij (List.getElem?_eq_getElem hi)
  · rw [h1]
    exact ⟨r, rfl, rfl, fun e => absurd e h2, fun h => absurd h h3⟩

structure Few (l : List ApiWinchLine) : Prop where
  len : l.length ≤ 40
  runs : ∀ w ∈ l, w.Runs.length ≤ 100
theorem few_eq (l : List ApiWinchLine) : ∃ b, law46_few l = some b ∧ (b = true ↔ Few l) := by
  unfold law46_few
  by_cases h : (40 : Int) < (l.length : Int)
  · rw [decide_eq_true h]; exact ⟨false, rfl, by simp, fun h => by have := h.len; omega⟩
  rw [decide_eq_false h, cond_false, all_loop (step := law46_few_b1) (fun w => decide (w.Runs.length ≤ 100)) (fun k x hx => by
    unfold law46_few_b1
    by_cases h : x.Runs.length ≤ 100
    · rw [decide_eq_true h, decide_eq_false (show ¬ (100 : Int) < (x.Runs.length : Int) by omega)]; rfl
    · rw [decide_eq_false h, decide_eq_true (show (100 : Int) < (x.Runs.length : Int) by omega)]; rfl)]
  refine ⟨_, rfl, ?_⟩
  rw [List.all_eq_true]
  exact ⟨fun h => ⟨by omega, fun w hw => by simpa using h w hw⟩, fun h w hw => by simpa using h.runs w hw⟩
theorem Few.big {l : List ApiWinchLine} (h : Few l) : ∀ w ∈ l, w.Runs.length ≤ 549755813888 := fun w hw => by have := h.runs w hw; omega
theorem lright_eq (l : List ApiWinchLine) : ∃ b, law46_right l = some b ∧ (b = true ↔ Few l ∧ RopesOK l) := by
  unfold law46_right
  obtain ⟨b, hb, hf⟩ := few_eq l
  rw [hb, Option.bind_some]
  cases b with
  | false => exact ⟨false, rfl, by simp, fun h => hf.2 h.1⟩
  | true =>
    obtain ⟨e, h1, h2, h3⟩ := right_eq (hf.1 rfl).big
    rw [h1]
    refine ⟨_, rfl, ?_⟩
    rw [decide_eq_true_eq, h3]
    exact ⟨fun h => ⟨hf.1 rfl, h⟩, fun h => h.2⟩

/-- the ropes that sweep at a time, and their runs -/
def atT (l : List ApiWinchLine) (t : Int) : List ApiWinchLine := l.filter fun w => decide (w.From ≤ t) && decide (t < w.To)
def runsAt (l : List ApiWinchLine) (t : Int) : List Int := (atT l t).flatMap (·.Runs)
theorem mem_atT {l : List ApiWinchLine} {t : Int} {w : ApiWinchLine} : w ∈ atT l t ↔ w ∈ l ∧ w.From ≤ t ∧ t < w.To := by simp [atT]
theorem mem_runsAt {l : List ApiWinchLine} {t n : Int} : n ∈ runsAt l t ↔ ∃ w ∈ l, (w.From ≤ t ∧ t < w.To) ∧ n ∈ w.Runs := by
  unfold runsAt
  rw [List.mem_flatMap]
  constructor
  · rintro ⟨w, hw, hn⟩; exact ⟨w, (mem_atT.1 hw).1, (mem_atT.1 hw).2, hn⟩
  · rintro ⟨w, hw, ht, hn⟩; exact ⟨w, mem_atT.2 ⟨hw, ht⟩, hn⟩
theorem len_runsAt {l : List ApiWinchLine} {t : Int} (h : ∀ w ∈ l, w.Runs.length ≤ 100) : (runsAt l t).length ≤ 100 * l.length := by
  induction l with
  | nil => simp [runsAt, atT]
  | cons w l ih =>
    have ih := ih fun w hw => h w (List.mem_cons_of_mem _ hw)
    have hw := h w (by simp)
    unfold runsAt atT at ih ⊢
    rw [List.filter_cons]
    split
    · rw [List.flatMap_cons, List.length_append, List.length_cons]; omega
    · rw [List.length_cons]; omega
theorem runsAt_snoc (l : List ApiWinchLine) (x : ApiWinchLine) (t : Int) : runsAt (l ++ [x]) t = if x.From ≤ t ∧ t < x.To then runsAt l t ++ x.Runs else runsAt l t := by
  unfold runsAt atT
  rw [List.filter_append]
  by_cases h : x.From ≤ t ∧ t < x.To
  · rw [if_pos h, List.filter_cons_of_pos (by simp [h]), List.filter_nil, List.flatMap_append]; simp
  · rw [if_neg h, List.filter_cons_of_neg (by simpa using h), List.filter_nil, List.append_nil]
theorem swept_eq {l : List ApiWinchLine} (h : Few l) (t : Int) : winch_Swept l t = some (norm (runsAt l t)) := by
  unfold winch_Swept
  obtain ⟨s', h1, h2⟩ := forIx_run (step := winch_Swept_b1 t) (l := l) (s := []) (fun k s => s = runsAt (l.take k) t) (by simp [runsAt, atT]) (fun k x s hk hI => by
    have hlt := (List.getElem?_eq_some_iff.1 hk).1
    have hlen : s.length ≤ 100 * k := by
      rw [hI]
      have := len_runsAt (l := l.take k) (t := t) fun w hw => h.runs w (List.mem_of_mem_take hw)
      rw [List.length_take] at this; omega
    have hx := h.runs x (List.mem_of_getElem? hk)
    have hl := h.len
    rw [take_succ_some hk, runsAt_snoc]
    unfold winch_Swept_b1
    by_cases h1 : x.From ≤ t
    · rw [decide_eq_true h1, cond_true]
      by_cases h2 : t < x.To
      · rw [decide_eq_true h2, cond_true, chk_ok (by omega), if_pos ⟨h1, h2⟩, hI]
        exact ⟨_, rfl, rfl⟩
      · rw [decide_eq_false h2, cond_false, if_neg (fun h => h2 h.2)]
        exact ⟨_, rfl, hI⟩
    · rw [decide_eq_false h1, cond_false, if_neg (fun h => h1 h.1)]
      exact ⟨_, rfl, hI⟩)
  rw [List.take_length] at h2
  have hl := len_runsAt (l := l) (t := t) h.runs
  have := h.len
  rw [h1, Option.bind_some]
  show chk s'.length _ = _
  rw [h2, chk_ok (by omega), chk_ok (by omega)]; rfl
theorem rswept_eq {l : List ApiWinchLine} (hr : RopesOK l) (t : Int) : ref46_Swept l t = some (norm (runsAt l t)) := by
  unfold ref46_Swept
  obtain ⟨s', h1, h2, h3, h4⟩ := forN_run (ρ := List Int) (n := 9999) (step := ref46_Swept_b1 l t) (s := []) (by omega) (fun k s => Inc s ∧ s.length ≤ k ∧ ∀ n, n ∈ s ↔ (n ≤ k ∧ n ∈ runsAt l t))
    ⟨List.Pairwise.nil, by simp, fun n => by
      constructor
      · intro h; simp at h
      · rintro ⟨h, hn⟩
        obtain ⟨w, hw, _, hm⟩ := mem_runsAt.1 hn
        have := (hr.rope w hw).runs.lo n hm; simp at h; omega⟩ (fun k s hk hI => by
    obtain ⟨i1, i2, i3⟩ := hI
    unfold ref46_Swept_b1
    rw [forIx_first (step := ref46_Swept_b2 t s k) (fun w => decide (w.From ≤ t) && (decide (t < w.To) && decide (((k : Nat) : Int) + 1 ∈ w.Runs))) (fun _ => .next (s ++ [((k : Nat) : Int) + 1])) (fun j w hw => by
      unfold ref46_Swept_b2
      rw [has_eq]
      by_cases h1 : w.From ≤ t <;> by_cases h2 : t < w.To <;> by_cases h3 : ((k : Nat) : Int) + 1 ∈ w.Runs <;> simp [h1, h2, h3, chk_ok (show s.length + 1 ≤ 549755813888 by omega)])]
    have old : ∀ n, n ∈ runsAt l t → n ≤ ((k + 1 : Nat) : Int) → n ≤ (k : Int) ∨ n = (k : Int) + 1 := fun n _ h => by omega
    cases hf : l.find? (fun w => decide (w.From ≤ t) && (decide (t < w.To) && decide (((k : Nat) : Int) + 1 ∈ w.Runs))) with
    | some w =>
      have hp := List.find?_some hf
      have hw := List.mem_of_find?_eq_some hf
      simp only [Bool.and_eq_true, decide_eq_true_eq] at hp
      have hin : ((k : Nat) : Int) + 1 ∈ runsAt l t := mem_runsAt.2 ⟨w, hw, ⟨hp.1, hp.2.1⟩, hp.2.2⟩
      refine ⟨_, rfl, ?_, by simp; omega, fun n => ?_⟩
      · unfold Inc
        rw [List.pairwise_append]
        exact ⟨i1, by simp, fun a ha b hb => by simp at hb; have := ((i3 a).1 ha).1; omega⟩
      · rw [List.mem_append, i3, List.mem_singleton]
        constructor
        · rintro (h | rfl)
          · exact ⟨by omega, h.2⟩
          · exact ⟨by omega, hin⟩
        · rintro ⟨h, hn⟩
          rcases old n hn h with h | h
          · exact .inl ⟨h, hn⟩
          · exact .inr h
    | none =>
      refine ⟨_, rfl, i1, by omega, fun n => ?_⟩
      rw [i3]
      constructor
      · rintro ⟨h, hn⟩; exact ⟨by omega, hn⟩
      · rintro ⟨h, hn⟩
        rcases old n hn h with h | rfl
        · exact ⟨h, hn⟩
        · obtain ⟨w, hw, ht, hm⟩ := mem_runsAt.1 hn
          have := List.find?_eq_none.1 hf w hw
          simp [ht.1, ht.2, hm] at this)
  rw [h1, Option.bind_some]
  show some s' = _
  congr 1
  refine inc_ext h2 (norm_inc _) fun n => ?_
  rw [norm_mem, h4]
  refine ⟨fun h => h.2, fun h => ⟨?_, h⟩⟩
  obtain ⟨w, hw, _, hm⟩ := mem_runsAt.1 h
  exact (hr.rope w hw).runs.hi n hm

/-- a rope sweeps at a time of an interval -/
def meets (w : ApiWinchLine) (F T : Int) : Bool := decide (F < T ∧ w.From < T ∧ F < w.To)
def freeB (l : List ApiWinchLine) (n F T : Int) : Bool := l.all fun w => !(meets w F T && decide (n ∈ w.Runs))
theorem free_eq {l : List ApiWinchLine} (h : ∀ w ∈ l, RopeOK w ∧ w.Runs.length ≤ 549755813888) (n : Int) (s : ApiInterval) : winch_Free l n s = some (freeB l n s.From s.To) := by
  unfold winch_Free
  by_cases h0 : s.To ≤ s.From
  · rw [decide_eq_true h0, cond_true]
    congr 1
    refine (List.all_eq_true.2 fun w hw => ?_).symm
    unfold meets
    rw [decide_eq_false (by omega)]; rfl
  rw [decide_eq_false h0, cond_false]
  exact all_loop (step := winch_Free_b1 n s) (fun w => !(meets w s.From s.To && decide (n ∈ w.Runs))) fun k w hw => by
    unfold winch_Free_b1 meets
    rw [sweeps_eq (h w hw).1.runs.inc (h w hw).2]
    by_cases h1 : w.From < s.To <;> by_cases h2 : s.From < w.To <;> by_cases h3 : n ∈ w.Runs <;> simp [h1, h2, h3, show s.From < s.To by omega]
theorem rfree_eq {l : List ApiWinchLine} (h : ∀ w ∈ l, RopeOK w) (n : Int) (s : ApiInterval) : ref46_Free l n s = some (freeB l n s.From s.To) := by
  unfold ref46_Free
  exact all_loop (step := ref46_Free_b1 n s) (fun w => !(meets w s.From s.To && decide (n ∈ w.Runs))) fun k w hw => by
    unfold ref46_Free_b1
    rw [has_eq, Option.bind_some]
    have hft := (h w hw).ft
    have : decide ((if w.From < s.From then s.From else w.From) < (if s.To < w.To then s.To else w.To)) = meets w s.From s.To := by
      unfold meets
      rw [decide_eq_decide]
      split <;> split <;> omega
    rw [this]
    cases decide (n ∈ w.Runs) <;> cases meets w s.From s.To <;> rfl
theorem copy_eq {w : ApiWinchLine} (h : w.Runs.length ≤ 549755813888) : winch_copyOf w = some w := by
  unfold winch_copyOf slices_Clone_sint_int
  rw [chk_ok h]; rfl
theorem clear_eq {l : List ApiWinchLine} (h : ∀ w ∈ l, w.Runs.length ≤ 549755813888) (hl : l.length ≤ 549755813888) (t : Int) : winch_Clear l t = some (l.filter fun w => decide (t < w.To)) := by
  unfold winch_Clear
  rw [forIx_collect (ρ := List ApiWinchLine) (step := winch_Clear_b1 t) (fun w => decide (t < w.To)) (fun w => w) hl fun k x s hx => by
    unfold winch_Clear_b1; rw [copy_eq (h x hx), Option.bind_some]]
  simp [Out.on]
theorem rclear_eq {l : List ApiWinchLine} (hl : l.length ≤ 549755813888) (t : Int) : ref46_Clear l t = some (l.filter fun w => decide (t < w.To)) := by
  unfold ref46_Clear
  rw [forIx_collect (ρ := List ApiWinchLine) (step := ref46_Clear_b1 t) (fun w => decide (t < w.To)) (fun w => w) hl fun k x s hx => rfl]
  simp [Out.on]
theorem lay_eq {l : List ApiWinchLine} {w : ApiWinchLine} (h : ∀ v ∈ l, v.Runs.length ≤ 549755813888) (hw : w.Runs.length ≤ 549755813888) (hl : l.length ≤ 1000000) :
    ∃ e, (e = 0 ↔ RopesOK (l ++ [w])) ∧ ref46_Lay l w = some (if e = 0 then (l ++ [w], 0) else ([], e)) ∧ winch_Lay l w = some (if e = 0 then (l ++ [w], 0) else ([], e)) := by
  obtain ⟨e, h1, h2, h3⟩ := right_eq (l := l ++ [w]) (fun v hv => by
    rw [List.mem_append, List.mem_singleton] at hv
    rcases hv with hv | rfl
    · exact h v hv
    · exact hw)
  refine ⟨e, h3, ?_, ?_⟩
  · unfold ref46_Lay
    rw [chk_ok (by omega), chk_ok (by omega), h1, Option.bind_some]
    by_cases h0 : e = 0
    · subst h0; rfl
    · rw [decide_eq_true h0, if_neg h0]; rfl
  · unfold winch_Lay
    rw [wrap_add1 (by omega), chkI_ok (by omega)]
    have hc := forIx_collect (ρ := List ApiWinchLine × Int) (step := winch_Lay_b1) (l := l) (fun _ => true) (fun w => w) (by omega) fun k x s hx => by
      unfold winch_Lay_b1; rw [copy_eq (h x hx), Option.bind_some]; rfl
    have hf : (l.filter fun _ => true).map (fun w => w) = l := by simp
    rw [hc, hf, Option.bind_some]
    show ((winch_copyOf w).bind _) = _
    rw [copy_eq hw, Option.bind_some, chk_ok (by omega), h2, Option.bind_some]
    by_cases h0 : e = 0
    · subst h0; rfl
    · rw [decide_eq_true h0, if_neg h0]; rfl

theorem alive46 : law46_alive = some true := by
  have hr1 : ref46_Right [⟨1, 100, 200, [5, 9]⟩, ⟨2, 150, 300, [7]⟩] = some 0 := by decide +kernel
  have few : Few [⟨1, 100, 200, [5, 9]⟩, ⟨2, 150, 300, [7]⟩] := ⟨by decide, by decide⟩
  have ok : RopesOK [⟨1, 100, 200, [5, 9]⟩, ⟨2, 150, 300, [7]⟩] := by
    obtain ⟨e, h1, _, h3⟩ := right_eq few.big
    rw [hr1] at h1; exact h3.1 (Option.some.inj h1).symm
  have hr : winch_Right [⟨1, 100, 200, [5, 9]⟩, ⟨2, 150, 300, [7]⟩] = some 0 := by
    obtain ⟨e, h1, h2, _⟩ := right_eq few.big
    rw [hr1] at h1; rw [h2, ← h1]
  have lay : ∀ w x, w.Runs.length ≤ 100 → ref46_Lay [⟨1, 100, 200, [5, 9]⟩, ⟨2, 150, 300, [7]⟩] w = some x → winch_Lay [⟨1, 100, 200, [5, 9]⟩, ⟨2, 150, 300, [7]⟩] w = some x := by
    intro w x hw h
    obtain ⟨e, _, h2, h3⟩ := lay_eq (w := w) few.big (by omega) (by decide)
    rw [h3, ← h2, h]
  have h1 := lay ⟨3, 199, 250, [9]⟩ ([], 15) (by decide) (by decide +kernel)
  have h2 := lay ⟨3, 200, 250, [9]⟩ ([⟨1, 100, 200, [5, 9]⟩, ⟨2, 150, 300, [7]⟩, ⟨3, 200, 250, [9]⟩], 0) (by decide) (by decide +kernel)
  have h3 := lay ⟨2, 250, 400, [11]⟩ ([], 15) (by decide) (by decide +kernel)
  have h4 := clear_eq few.big (by decide) 200
  have e4 : (([⟨1, 100, 200, [5, 9]⟩, ⟨2, 150, 300, [7]⟩] : List ApiWinchLine).filter fun w => decide (200 < w.To)) = [⟨2, 150, 300, [7]⟩] := by decide
  rw [e4] at h4
  have s1 := swept_eq few 100
  have s2 := swept_eq few 150
  have s3 := swept_eq few 200
  have s4 := swept_eq few 300
  have e1 : norm (runsAt [⟨1, 100, 200, [5, 9]⟩, ⟨2, 150, 300, [7]⟩] 100) = [5, 9] := by
    rw [show runsAt [⟨1, 100, 200, [5, 9]⟩, ⟨2, 150, 300, [7]⟩] 100 = [5, 9] by decide]
    exact inc_ext (norm_inc _) (by unfold Inc; decide) fun x => norm_mem _ _
  have e2 : norm (runsAt [⟨1, 100, 200, [5, 9]⟩, ⟨2, 150, 300, [7]⟩] 150) = [5, 7, 9] := by
    rw [show runsAt [⟨1, 100, 200, [5, 9]⟩, ⟨2, 150, 300, [7]⟩] 150 = [5, 9, 7] by decide]
    exact inc_ext (norm_inc _) (by unfold Inc; decide) fun x => by rw [norm_mem]; simp; omega
  have e3 : norm (runsAt [⟨1, 100, 200, [5, 9]⟩, ⟨2, 150, 300, [7]⟩] 200) = [7] := by
    rw [show runsAt [⟨1, 100, 200, [5, 9]⟩, ⟨2, 150, 300, [7]⟩] 200 = [7] by decide]
    exact inc_ext (norm_inc _) (by unfold Inc; decide) fun x => norm_mem _ _
  have e5 : norm (runsAt [⟨1, 100, 200, [5, 9]⟩, ⟨2, 150, 300, [7]⟩] 300) = [] := by
    rw [show runsAt [⟨1, 100, 200, [5, 9]⟩, ⟨2, 150, 300, [7]⟩] 300 = [] by decide]
    exact inc_ext (norm_inc _) (by unfold Inc; decide) fun x => norm_mem _ _
  rw [e1] at s1; rw [e2] at s2; rw [e3] at s3; rw [e5] at s4
  have okw : ∀ w ∈ ([⟨1, 100, 200, [5, 9]⟩, ⟨2, 150, 300, [7]⟩] : List ApiWinchLine), RopeOK w ∧ w.Runs.length ≤ 549755813888 := fun w hw => ⟨ok.rope w hw, few.big w hw⟩
  have f1 := free_eq okw 7 ⟨0, 150⟩
  have f2 := free_eq okw 7 ⟨0, 151⟩
  have g1 : freeB [⟨1, 100, 200, [5, 9]⟩, ⟨2, 150, 300, [7]⟩] 7 0 150 = true := by decide
  have g2 : freeB [⟨1, 100, 200, [5, 9]⟩, ⟨2, 150, 300, [7]⟩] 7 0 151 = false := by decide
  dsimp only at f1 f2
  rw [g1] at f1; rw [g2] at f2
  simp [law46_alive, law46_rope, h1, h2, h3, h4, hr, s1, s2, s3, s4, f1, f2, rSame_eq, rSameInts_eq]

theorem law46_WinchRights_true (l : List ApiWinchLine) (_ : OkL OkApiWinchLine l) : law46_WinchRights l = some true := by
  unfold law46_WinchRights
  rw [alive46, Option.bind_some]
  obtain ⟨b, hb, hf⟩ := few_eq l
  show ((law46_few l).bind _) = _
  rw [hb, Option.bind_some]
  cases b with
  | false => rfl
  | true =>
    obtain ⟨e, h1, h2, _⟩ := right_eq (hf.1 rfl).big
    show ((winch_Right l).bind _) = _
    rw [h1, h2]; simp
theorem law46_WinchLays_true (l : List ApiWinchLine) (w : ApiWinchLine) (_ : OkL OkApiWinchLine l) (_ : OkApiWinchLine w) : law46_WinchLays l w = some true := by
  unfold law46_WinchLays
  rw [alive46, Option.bind_some]
  obtain ⟨b, hb, hf⟩ := lright_eq l
  show ((law46_right l).bind _) = _
  rw [hb, Option.bind_some]
  cases b with
  | false => rfl
  | true =>
    obtain ⟨few, ok⟩ := hf.1 rfl
    by_cases hw : (100 : Int) < (w.Runs.length : Int)
    · rw [decide_eq_true hw]; rfl
    rw [decide_eq_false hw]
    obtain ⟨e, _, h2, h3⟩ := lay_eq (w := w) few.big (by omega) (by have := few.len; omega)
    show ((winch_Lay l w).bind _) = _
    rw [h2, h3]
    simp [rSame_eq]
theorem law46_WinchSweeps_true (l : List ApiWinchLine) (t : Int) (_ : OkL OkApiWinchLine l) (_ : I64 t) : law46_WinchSweeps l t = some true := by
  unfold law46_WinchSweeps
  rw [alive46, Option.bind_some]
  obtain ⟨b, hb, hf⟩ := lright_eq l
  show ((law46_right l).bind _) = _
  rw [hb, Option.bind_some]
  cases b with
  | false => rfl
  | true =>
    obtain ⟨few, ok⟩ := hf.1 rfl
    show ((winch_Swept l t).bind _) = _
    have := few.len
    rw [swept_eq few, rswept_eq ok]
    simp [rSame_eq, rSameInts_eq, clear_eq few.big (show l.length ≤ 549755813888 by omega), rclear_eq (show l.length ≤ 549755813888 by omega)]
theorem law46_WinchFrees_true (l : List ApiWinchLine) (n : Int) (s : ApiInterval) (_ : OkL OkApiWinchLine l) (_ : I64 n) (_ : OkApiInterval s) : law46_WinchFrees l n s = some true := by
  unfold law46_WinchFrees
  rw [alive46, Option.bind_some]
  obtain ⟨b, hb, hf⟩ := lright_eq l
  show ((law46_right l).bind _) = _
  rw [hb, Option.bind_some]
  cases b with
  | false => rfl
  | true =>
    obtain ⟨few, ok⟩ := hf.1 rfl
    show ((winch_Free l n s).bind _) = _
    rw [free_eq (fun w hw => ⟨ok.rope w hw, few.big w hw⟩), rfree_eq ok.rope]
    simp
theorem freeB_iff {l : List ApiWinchLine} {n F T : Int} : freeB l n F T = true ↔ ∀ w ∈ l, n ∈ w.Runs → ¬ (F < T ∧ w.From < T ∧ F < w.To) := by
  unfold freeB meets
  rw [List.all_eq_true]
  constructor
  · intro h w hw hn hm
    have := h w hw
    simp [hn, hm] at this
  · intro h w hw
    by_cases hn : n ∈ w.Runs
    · have := h w hw hn
      simp [hn]; omega
    · simp [hn]
theorem law46_WinchSecond_true (l : List ApiWinchLine) (n : Int) (a : Arr3Int) (_ : OkL OkApiWinchLine l) (_ : I64 n) (_ : OkArr3Int a) : law46_WinchSecond l n a = some true := by
  obtain ⟨p, q, r⟩ := a
  unfold law46_WinchSecond
  rw [alive46, Option.bind_some]
  obtain ⟨b, hb, hf⟩ := lright_eq l
  show ((law46_right l).bind _) = _
  rw [hb, Option.bind_some]
  cases b with
  | false => rfl
  | true =>
    obtain ⟨few, ok⟩ := hf.1 rfl
    dsimp only [Bool.not_true, cond_false]
    by_cases h1 : p < -1
    · rw [decide_eq_true h1]; rfl
    rw [decide_eq_false h1, cond_false]
    by_cases h2 : 20000001 < p
    · rw [decide_eq_true h2]; rfl
    rw [decide_eq_false h2, cond_false]
    by_cases h3 : q < p
    · rw [decide_eq_true h3]; rfl
    rw [decide_eq_false h3, cond_false]
    by_cases h4 : r < q
    · rw [decide_eq_true h4]; rfl
    rw [decide_eq_false h4, cond_false]
    have okw : ∀ w ∈ l, RopeOK w ∧ w.Runs.length ≤ 549755813888 := fun w hw => ⟨ok.rope w hw, few.big w hw⟩
    rw [wrap_i64 (by omega) (by omega)]
    rw [swept_eq few, Option.bind_some, lhas_eq, Option.bind_some]
    simp only [free_eq okw, Option.bind_some]
    have hne : decide (n ∈ norm (runsAt l p)) = !freeB l n p (p + 1) := by
      cases hfb : freeB l n p (p + 1) with
      | true =>
        rw [decide_eq_false]; rfl
        intro hn
        rw [norm_mem] at hn
        obtain ⟨w, hw, ht, hm⟩ := mem_runsAt.1 hn
        exact freeB_iff.1 hfb w hw hm (by omega)
      | false =>
        rw [decide_eq_true]; rfl
        rw [norm_mem]
        apply Classical.byContradiction
        intro hn
        have : freeB l n p (p + 1) = true := freeB_iff.2 fun w hw hm hh => hn (mem_runsAt.2 ⟨w, hw, by omega, hm⟩)
        rw [this] at hfb; cases hfb
    have hlast : freeB l n q p = true := freeB_iff.2 fun w hw hm hh => by omega
    have hall : freeB l n p r = (freeB l n p q && freeB l n q r) := by
      rw [Bool.eq_iff_iff, Bool.and_eq_true, freeB_iff, freeB_iff, freeB_iff]
      constructor
      · intro h
        exact ⟨fun w hw hm hh => h w hw hm (by omega), fun w hw hm hh => h w hw hm (by omega)⟩
      · rintro ⟨ha, hb⟩ w hw hm hh
        have h5 := ha w hw hm
        have h6 := hb w hw hm
        have := (ok.rope w hw).ft
        omega
    rw [hne, hlast, hall]
    cases freeB l n p (p + 1) <;> cases freeB l n p q <;> cases freeB l n q r <;> rfl
theorem Few.sub {l m : List ApiWinchLine} (h : Few l) (hs : m.Sublist l) : Few m := ⟨Nat.le_trans hs.length_le h.len, fun w hw => h.runs w (hs.subset hw)⟩
theorem RopesOK.sub {l m : List ApiWinchLine} (h : RopesOK l) (hs : m.Sublist l) : RopesOK m := ⟨Nat.le_trans hs.length_le h.len, fun w hw => h.rope w (hs.subset hw), h.apart.sublist hs⟩
theorem law46_WinchClears_true (l : List ApiWinchLine) (t u : Int) (_ : OkL OkApiWinchLine l) (_ : I64 t) (_ : I64 u) : law46_WinchClears l t u = some true := by
  unfold law46_WinchClears
  rw [alive46, Option.bind_some]
  obtain ⟨b, hb, hf⟩ := lright_eq l
  show ((law46_right l).bind _) = _
  rw [hb, Option.bind_some]
  cases b with
  | false => rfl
  | true =>
    obtain ⟨few, ok⟩ := hf.1 rfl
    show (bif decide (u < t) then _ else _) = _
    by_cases h1 : u < t
    · rw [decide_eq_true h1]; rfl
    rw [decide_eq_false h1, cond_false]
    have hl := few.len
    have fm : Few (l.filter fun w => decide (t < w.To)) := few.sub List.filter_sublist
    have om : RopesOK (l.filter fun w => decide (t < w.To)) := ok.sub List.filter_sublist
    have hm := fm.len
    obtain ⟨e, r1, r2, r3⟩ := right_eq fm.big
    obtain rfl := r3.2 om
    have loop : forIx (law46_WinchClears_b1 t) 0 (l.filter fun w => decide (t < w.To)) () = some (.next ()) := forIx_all.2 fun i x hx => by
      have := (List.mem_filter.1 (List.mem_of_getElem? hx)).2
      unfold law46_WinchClears_b1
      rw [decide_eq_false (by simp at this; omega)]; rfl
    have ra : ∀ s, t ≤ s → runsAt (l.filter fun w => decide (t < w.To)) s = runsAt l s := by
      intro s hs
      unfold runsAt atT
      rw [List.filter_filter]
      congr 1
      refine List.filter_congr fun w _ => ?_
      by_cases h1 : w.From ≤ s <;> by_cases h2 : s < w.To <;> simp [h1, h2]
      omega
    rw [clear_eq few.big (by omega), Option.bind_some, loop, Option.bind_some]
    show ((winch_Right _).bind _) = _
    rw [r2, Option.bind_some]
    simp only [swept_eq fm, swept_eq few, Option.bind_some, rSameInts_eq, ra t (Int.le_refl t), ra u (by omega), clear_eq fm.big (show (l.filter fun w => decide (t < w.To)).length ≤ 549755813888 by omega), clear_eq few.big (show l.length ≤ 549755813888 by omega), rSame_eq, List.filter_filter]
    have : (l.filter fun a => decide (u < a.To) && decide (t < a.To)) = l.filter fun a => decide (u < a.To) := List.filter_congr fun w _ => by
      by_cases h2 : u < w.To <;> simp [h2]; omega
    simp [this]
end Go.Proofs.Ytjdgjilnldofaaa
