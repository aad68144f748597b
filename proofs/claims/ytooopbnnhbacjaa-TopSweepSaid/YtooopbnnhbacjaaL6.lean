/-
  Package sweep in plain Lean: which runs are ready, what a push does, the order.
-/
import Derived.Test.YtooopbnnhbacjaaL5
namespace Go.Proofs.Ytooopbnnhbacjaa
open Go Go.Ab
set_option linter.unusedSimpArgs false
set_option linter.unusedVariables false

def toN (m : ApiMap) (r : Int) : Int := (runF m r).1.To
def frN (m : ApiMap) (r : Int) : Int := (runF m r).1.From
/-- the run a comes before the run b -/
def Bf (m : ApiMap) (a b : Int) : Prop := toN m a = frN m b
instance (m : ApiMap) (a b : Int) : Decidable (Bf m a b) := by unfold Bf; infer_instance
theorem run_eq (m : ApiMap) (id : Int) : terrain_Run m id = some (runF m id) := findG_eq fun _ _ _ => rfl
theorem rrun_eq (m : ApiMap) (id : Int) : ref10_Run m id = some (runF m id) := findG_eq fun _ _ _ => rfl
theorem rhas_eq (l : List Int) (n : Int) : ref10_Has l n = some (decide (n ∈ l)) := has_loop fun k x hx => rfl
theorem sbefore_eq (m : ApiMap) (a b : Int) : sweep_before m a b = some (decide (Bf m a b)) := by
  unfold sweep_before
  rw [run_eq, run_eq]; rfl
/-- runs that can be a sweep -/
structure SwOK (m : ApiMap) (R : List Int) : Prop where
  ex : ∀ r ∈ R, (runF m r).2 = true
  rise : ∀ (k : Nat) x y, R[k + 1]? = some x → R[k]? = some y → y < x
  len : R.length ≤ 12
  down : ∀ r ∈ R, toN m r ∈ m.Bases ∨ ∃ q ∈ R, Bf m r q
theorem inc_rise {l : List Int} (h : ∀ (k : Nat) (x y : Int), l[k + 1]? = some x → l[k]? = some y → y < x) : Inc l := by
  have key : ∀ (d i : Nat) (x y : Int), l[i]? = some x → l[i + d + 1]? = some y → x < y := by
    intro d
    induction d with
    | zero => intro i x y hx hy; exact h i y x hy hx
    | succ d ih =>
      intro i x y hx hy
      have hlt := (List.getElem?_eq_some_iff.1 hy).1
      have hz : l[i + d + 1]? = some (l[i + d + 1]'(by omega)) := List.getElem?_eq_getElem _
      have h1 := ih i x _ hx hz
      have h2 := h (i + d + 1) y _ (by rw [show i + d + 1 + 1 = i + (d + 1) + 1 by omega]; exact hy) hz
      omega
  unfold Inc
  rw [List.pairwise_iff_getElem]
  intro i j hi hj hij
  have := key (j - i - 1) i l[i] l[j] (List.getElem?_eq_getElem hi) (by rw [show i + (j - i - 1) + 1 = j by omega]; exact List.getElem?_eq_getElem hj)
  omega
theorem SwOK.nodup {m : ApiMap} {R : List Int} (h : SwOK m R) : R.Nodup := (inc_rise h.rise).nodup
theorem idx_inj {l : List Int} (hn : l.Nodup) {i j : Nat} {n : Int} (h : l[i]? = some n) (k : l[j]? = some n) : i = j := by
  obtain ⟨h1, h2⟩ := List.getElem?_eq_some_iff.1 h
  obtain ⟨k1, k2⟩ := List.getElem?_eq_some_iff.1 k
  exact nodup_idx hn (h2.trans k2.symm)
theorem run_mem {m : ApiMap} {r : Int} (h : (runF m r).2 = true) : (runF m r).1 ∈ m.Runs ∧ (runF m r).1.ID = r := runF_true h
/-- how high a run begins -/
def alt (m : ApiMap) (r : Int) : Int := (nodeF m (frN m r)).1.Alt
theorem bf_alt {m : ApiMap} (M : MapOK m) {R : List Int} (S : SwOK m R) {r q : Int} (hr : r ∈ R) (h : Bf m r q) : alt m q < alt m r := by
  have := (M.runs _ (run_mem (S.ex r hr)).1).2.2.2
  unfold alt
  rw [← show toN m r = frN m q from h]
  exact this
theorem bf_ne {m : ApiMap} (M : MapOK m) {R : List Int} (S : SwOK m R) {r q : Int} (hr : r ∈ R) (h : Bf m r q) : r ≠ q := by
  intro e; subst e
  have := bf_alt M S hr h
  omega
theorem max_ex (f : Int → Int) : ∀ {l : List Int}, l ≠ [] → ∃ x ∈ l, ∀ y ∈ l, f y ≤ f x
  | [], h => absurd rfl h
  | [x], _ => ⟨x, by simp, by simp⟩
  | x :: y :: l, _ => by
    obtain ⟨z, hz, h⟩ := max_ex f (l := y :: l) (by simp)
    by_cases c : f z ≤ f x
    · refine ⟨x, by simp, fun w hw => ?_⟩
      rcases List.mem_cons.1 hw with rfl | hw
      · exact Int.le_refl _
      · have := h w hw; omega
    · refine ⟨z, List.mem_cons_of_mem _ hz, fun w hw => ?_⟩
      rcases List.mem_cons.1 hw with rfl | hw
      · omega
      · exact h w hw

/-! ### what is possible, what is ready -/
def Poss (m : ApiMap) (R done : List Int) (run : Int) : Prop := ∀ x ∈ R, Bf m x run → x ∈ done
instance (m : ApiMap) (R done : List Int) (run : Int) : Decidable (Poss m R done run) := by unfold Poss; infer_instance
theorem possible_eq (m : ApiMap) (s : ApiSweep) (done : List Int) (run : Int) : sweep_possible m s done run = some (decide (Poss m s.Runs done run)) := by
  unfold sweep_possible
  rw [all_loop (step := sweep_possible_b1 m done run) (fun x => !decide (Bf m x run) || decide (x ∈ done)) (fun k x hx => by
    unfold sweep_possible_b1
    rw [sbefore_eq, Option.bind_some]
    by_cases h : Bf m x run
    · rw [decide_eq_true h, cond_true, contains_eq, Option.bind_some]
      cases decide (x ∈ done) <;> rfl
    · rw [decide_eq_false h]; rfl)]
  congr 1
  rw [Bool.eq_iff_iff, List.all_eq_true, decide_eq_true_eq]
  unfold Poss
  constructor
  · intro h x hx hb
    have := h x hx
    simp [hb] at this; exact this
  · intro h x hx
    by_cases hb : Bf m x run
    · simp [h x hx hb]
    · simp [hb]
def readyF (m : ApiMap) (R done : List Int) : List Int := R.filter fun r => !decide (r ∈ done) && decide (Poss m R done r)
theorem ready_eq {m : ApiMap} {s : ApiSweep} (hl : s.Runs.length ≤ 100000) (done : List Int) : sweep_ready m s done = some (readyF m s.Runs done) := by
  unfold sweep_ready
  rw [forIx_collect (step := sweep_ready_b1 m s done) (fun r => !decide (r ∈ done) && decide (Poss m s.Runs done r)) id (by omega) (fun k x t hx => by
    unfold sweep_ready_b1
    rw [contains_eq, Option.bind_some]
    by_cases h : x ∈ done
    · rw [decide_eq_true h]; rfl
    · rw [decide_eq_false h, Bool.not_false, cond_true, possible_eq, Option.bind_some, Bool.true_and]; rfl)]
  rw [List.map_id]; rfl
theorem ready_mem {m : ApiMap} {R done : List Int} {r : Int} : r ∈ readyF m R done ↔ r ∈ R ∧ r ∉ done ∧ Poss m R done r := by
  unfold readyF
  simp [List.mem_filter]
theorem ready_some {m : ApiMap} (M : MapOK m) {R : List Int} (S : SwOK m R) {done : List Int} {r : Int} (hr : r ∈ R) (hd : r ∉ done) : readyF m R done ≠ [] := by
  have hne : (R.filter fun r => !decide (r ∈ done)) ≠ [] := by
    intro h
    have : r ∈ R.filter fun r => !decide (r ∈ done) := List.mem_filter.2 ⟨hr, by simp [hd]⟩
    rw [h] at this; cases this
  obtain ⟨x, hx, hmax⟩ := max_ex (alt m) hne
  obtain ⟨hx1, hx2⟩ := List.mem_filter.1 hx
  intro h
  have : x ∈ readyF m R done := ready_mem.2 ⟨hx1, by simpa using hx2, fun y hy hb => by
    by_cases c : y ∈ done
    · exact c
    · have h1 := hmax y (List.mem_filter.2 ⟨hy, by simp [c]⟩)
      have h2 := bf_alt M S hy hb
      omega⟩
  rw [h] at this; cases this
/-- runs that are done: in an order that is allowed -/
structure Dn (m : ApiMap) (R done : List Int) : Prop where
  nodup : done.Nodup
  sub : ∀ r ∈ done, r ∈ R
  closed : ∀ q ∈ done, ∀ x ∈ R, Bf m x q → x ∈ done
theorem Dn.nil (m : ApiMap) (R : List Int) : Dn m R [] := ⟨List.nodup_nil, by simp, by simp⟩
theorem Dn.add {m : ApiMap} {R done : List Int} (h : Dn m R done) {r : Int} (hr : r ∈ readyF m R done) : Dn m R (done ++ [r]) := by
  obtain ⟨h1, h2, h3⟩ := ready_mem.1 hr
  refine ⟨?_, fun q hq => ?_, fun q hq x hx hb => ?_⟩
  · rw [List.nodup_append]
    refine ⟨h.nodup, by simp, fun a ha b hb e => ?_⟩
    simp at hb; subst hb; subst e; exact h2 ha
  · rcases List.mem_append.1 hq with hq | hq
    · exact h.sub q hq
    · simp at hq; subst hq; exact h1
  · rcases List.mem_append.1 hq with hq | hq
    · exact List.mem_append.2 (.inl (h.closed q hq x hx hb))
    · simp at hq; subst hq; exact List.mem_append.2 (.inl (h3 x hx hb))
theorem Dn.len {m : ApiMap} {R done : List Int} (h : Dn m R done) : done.length ≤ R.length := nodup_len h.nodup h.sub
theorem Dn.full {m : ApiMap} {R done : List Int} (h : Dn m R done) (hl : R.length ≤ done.length) (hR : R.Nodup) : ∀ r ∈ R, r ∈ done := by
  intro r hr
  by_cases c : r ∈ done
  · exact c
  · have := nodup_len (a := r :: done) (b := R) (List.nodup_cons.2 ⟨c, h.nodup⟩) (by
      intro x hx
      rcases List.mem_cons.1 hx with rfl | hx
      · exact hr
      · exact h.sub x hx)
    simp at this; omega

/-! ### the order -/
theorem order_from {m : ApiMap} (M : MapOK m) {s : ApiSweep} (S : SwOK m s.Runs) : ∀ (n : Nat) (done : List Int), Dn m s.Runs done → s.Runs.length - done.length < n →
    ∃ O, whileN (sweep_Order_b1 m s) n (readyF m s.Runs done, done) = some (.ret O) ∧ Dn m s.Runs O ∧ (∃ t, O = done ++ t ∧ ∀ (k : Nat) r, t[k]? = some r → r ∈ readyF m s.Runs (done ++ t.take k)) ∧ s.Runs.length ≤ O.length
  | 0, done, hD, h => by omega
  | n + 1, done, hD, h => by
    have hl := S.len
    have hdl := hD.len
    rw [whileN]
    cases hrd : readyF m s.Runs done with
    | nil =>
      refine ⟨done, rfl, hD, ⟨[], by simp, by simp⟩, ?_⟩
      refine nodup_len S.nodup fun r hr => ?_
      by_cases c : r ∈ done
      · exact c
      · exact absurd hrd (ready_some M S hr c)
    | cons a l =>
      have ha : a ∈ readyF m s.Runs done := by rw [hrd]; simp
      have hD' := hD.add ha
      have hlt : done.length < s.Runs.length := by
        have := hD'.len; simp at this; omega
      have st : sweep_Order_b1 m s (a :: l, done) = some (.next (readyF m s.Runs (done ++ [a]), done ++ [a])) := by
        unfold sweep_Order_b1
        rw [decide_eq_true (by simp only [List.length_cons]; omega), cond_true, idxL_zero (x := a) rfl, Option.bind_some]
        simp only
        rw [chk_ok (by omega), ready_eq (by omega)]; rfl
      rw [st]
      obtain ⟨O, h1, h2, ⟨t, h3, h4⟩, h5⟩ := order_from M S n (done ++ [a]) hD' (by simp; omega)
      refine ⟨O, h1, h2, ⟨a :: t, by rw [h3]; simp, fun k r hk => ?_⟩, h5⟩
      cases k with
      | zero => simp at hk; subst hk; simpa using ha
      | succ k =>
        have := h4 k r (by simpa using hk)
        simpa using this
theorem order_eq {m : ApiMap} (M : MapOK m) {s : ApiSweep} (S : SwOK m s.Runs) : ∃ O, sweep_Order m s = some O ∧ Dn m s.Runs O ∧ (∀ (k : Nat) r, O[k]? = some r → r ∈ readyF m s.Runs (O.take k)) ∧ ∀ r ∈ s.Runs, r ∈ O := by
  have hl := S.len
  obtain ⟨O, h1, h2, ⟨t, h3, h4⟩, h5⟩ := order_from M S fuel [] (Dn.nil _ _) (by unfold fuel; omega)
  simp at h3; subst h3
  refine ⟨O, ?_, h2, fun k r hk => by simpa using h4 k r hk, h2.full h5 S.nodup⟩
  unfold sweep_Order
  rw [ready_eq (by omega), Option.bind_some, h1]; rfl

/-! ### pushing -/
theorem index_at {l : List Int} (hn : l.Nodup) {i : Nat} {v : Int} (h : l[i]? = some v) : slices_Index_sint_int l v = some (i : Int) := by
  unfold slices_Index_sint_int
  have key : ∀ (l : List Int) (j i : Nat), l.Nodup → l[i]? = some v → forIx (slices_Index_sint_int_b1 v) j l () = some (.ret ((j + i : Nat) : Int)) := by
    intro l
    induction l with
    | nil => intro j i _ h; simp at h
    | cons x l ih =>
      intro j i hn h
      rw [forIx]
      unfold slices_Index_sint_int_b1
      cases i with
      | zero => simp at h; rw [decide_eq_true h.symm]; rfl
      | succ i =>
        rw [List.nodup_cons] at hn
        have h' : l[i]? = some v := by simpa using h
        have : ¬ v = x := fun e => hn.1 (e ▸ List.mem_of_getElem? h')
        rw [decide_eq_false this]
        have := ih (j + 1) i hn.2 h'
        unfold slices_Index_sint_int_b1 at this
        rw [show j + (i + 1) = j + 1 + i by omega]
        exact this
  rw [key l 0 i hn h, Nat.zero_add]; rfl
theorem below_eq {m : ApiMap} (s : ApiSweep) (run : Int) : (∃ (j : Nat) (q : Int), sweep_below m s run = some (j : Int) ∧ s.Runs[j]? = some q ∧ Bf m run q) ∨ (sweep_below m s run = some (-1) ∧ ∀ q ∈ s.Runs, ¬ Bf m run q) := by
  unfold sweep_below
  rcases forIx_inv (step := sweep_below_b1 m run) (l := s.Runs) (s := ()) (fun k _ => ∀ q ∈ s.Runs.take k, ¬ Bf m run q) (fun r => ∃ (j : Nat) (q : Int), r = (j : Int) ∧ s.Runs[j]? = some q ∧ Bf m run q) (by simp) (fun k x u hk hI => by
    unfold sweep_below_b1
    rw [sbefore_eq, Option.bind_some]
    by_cases h : Bf m run x
    · rw [decide_eq_true h]; exact .inr ⟨_, rfl, k, x, rfl, hk, h⟩
    · rw [decide_eq_false h]
      refine .inl ⟨(), rfl, fun q hq => ?_⟩
      rw [take_succ_some hk] at hq
      rcases List.mem_append.1 hq with hq | hq
      · exact hI q hq
      · simp at hq; subst hq; exact h) with ⟨u, h1, h2⟩ | ⟨r, h1, j, q, rfl, h3, h4⟩
  · rw [List.take_length] at h2
    exact .inr ⟨by rw [h1]; rfl, h2⟩
  · exact .inl ⟨j, q, by rw [h1]; rfl, h3, h4⟩
theorem setI_get {α : Type} {l : List α} {i : Nat} (hi : i < l.length) (v : α) (k : Nat) : (l.set i v)[k]? = if k = i then some v else l[k]? := by
  rw [List.getElem?_set]
  by_cases h : i = k
  · subst h; simp [hi]
  · rw [if_neg h, if_neg (fun e => h e.symm)]
theorem sum_set : ∀ (l : List Int) (i : Nat) (v x : Int), l[i]? = some x → (l.set i v).sum = l.sum - x + v
  | [], i, v, x, h => by simp at h
  | a :: l, 0, v, x, h => by simp at h; subst h; simp; omega
  | a :: l, i + 1, v, x, h => by
    have := sum_set l i v x (by simpa using h)
    simp [this]; omega
theorem le_sum : ∀ {l : List Int}, (∀ v ∈ l, 0 ≤ v) → ∀ v ∈ l, v ≤ l.sum
  | [], _, v, h => by cases h
  | a :: l, h0, v, h => by
    have hs : 0 ≤ l.sum := by
      have : ∀ {l : List Int}, (∀ v ∈ l, 0 ≤ v) → 0 ≤ l.sum := by
        intro l
        induction l with
        | nil => intro _; simp
        | cons a l ih => intro h; have := h a (by simp); have := ih fun v hv => h v (List.mem_cons_of_mem _ hv); simp; omega
      exact this fun v hv => h0 v (List.mem_cons_of_mem _ hv)
    have ha := h0 a (by simp)
    rw [List.sum_cons]
    rcases List.mem_cons.1 h with rfl | h
    · omega
    · have := le_sum (fun v hv => h0 v (List.mem_cons_of_mem _ hv)) v h
      omega
/-- who is where, and who has left, while the runs in done were swept; S persons in all -/
structure Ppl (R done : List Int) (S : Int) (left : List Int) (gone : Int) : Prop where
  len : left.length = R.length
  nn : ∀ v ∈ left, 0 ≤ v
  sum : left.sum + gone = S
  pos : 0 ≤ gone
  zero : ∀ (x : Nat) r, R[x]? = some r → r ∈ done → left[x]? = some 0
/-- one push, as the program computes it -/
def pushE (m : ApiMap) (s : ApiSweep) (left : List Int) (y16 : Int) : Option (Int × List Int) :=
  (idxL left y16).bind fun x_18 => (idxL s.Runs y16).bind fun x_19 => (terrain_Run m x_19).bind fun y20 => (slices_Contains_sint_int m.Bases y20.1.To).bind fun y21 => (bif y21 then some (x_18, (left.set y16.toNat (0 : Int))) else (sweep_below m s x_19).bind fun y23 => (bif (decide ((0 : Int) ≤ y23)) then (idxL (left.set y16.toNat (0 : Int)) y23).bind fun x_25 => some ((0 : Int), ((left.set y16.toNat (0 : Int)).set y23.toNat (IntKind.i64.wrap (x_25 + x_18)))) else some ((0 : Int), left)))
theorem push_ok {m : ApiMap} (M : MapOK m) {s : ApiSweep} (S : SwOK m s.Runs) {done left : List Int} {T gone : Int} (hT : 0 ≤ T ∧ T ≤ 1000000) (hD : Dn m s.Runs done) (hP : Ppl s.Runs done T left gone) {i : Nat} {r : Int} (hi : s.Runs[i]? = some r) (hr : r ∈ readyF m s.Runs done) :
    ∃ n l, pushE m s left (i : Int) = some (n, l) ∧ l.length = left.length ∧ 0 ≤ n ∧ n ≤ 1000000 ∧ Ppl s.Runs (done ++ [r]) T l (gone + n) := by
  obtain ⟨r1, r2, r3⟩ := ready_mem.1 hr
  have hil := (List.getElem?_eq_some_iff.1 hi).1
  have hlen := hP.len
  have hx : left[i]? = some (left[i]'(by omega)) := List.getElem?_eq_getElem _
  generalize left[i]'(by omega) = a at hx
  have ha0 := hP.nn a (List.mem_of_getElem? hx)
  have ha1 := le_sum hP.nn a (List.mem_of_getElem? hx)
  have hps := hP.sum
  have hpp := hP.pos
  have hnd := S.nodup
  unfold pushE
  rw [idxL_nat hx, Option.bind_some, idxL_nat hi, Option.bind_some, run_eq, Option.bind_some, contains_eq, Option.bind_some, Int.toNat_natCast]
  have z0 : (left.set i 0)[i]? = some 0 := by rw [setI_get (by omega), if_pos rfl]
  by_cases hb : (runF m r).1.To ∈ m.Bases
  · rw [decide_eq_true hb, cond_true]
    refine ⟨a, _, rfl, by simp, ha0, by omega, by simpa using hlen, fun v hv => ?_, by rw [sum_set _ _ _ _ hx]; omega, by omega, fun x q hq hqd => ?_⟩
    · rcases List.mem_or_eq_of_mem_set hv with hv | rfl
      · exact hP.nn v hv
      · exact Int.le_refl _
    · rw [setI_get (by omega)]
      by_cases hxi : x = i
      · rw [if_pos hxi]
      · rw [if_neg hxi]
        rcases List.mem_append.1 hqd with hqd | hqd
        · exact hP.zero x q hq hqd
        · simp at hqd; subst hqd
          exact absurd (idx_inj hnd hq hi) hxi
  · rw [decide_eq_false hb, cond_false]
    rcases below_eq s r (m := m) with ⟨j, q, h1, h2, h3⟩ | ⟨h1, h2⟩
    · have hjl := (List.getElem?_eq_some_iff.1 h2).1
      have hji : j ≠ i := fun e => by
        subst e
        rw [hi] at h2; obtain rfl := Option.some.inj h2
        exact bf_ne M S r1 h3 rfl
      have hy : left[j]? = some (left[j]'(by omega)) := List.getElem?_eq_getElem _
      generalize left[j]'(by omega) = b at hy
      have hb0 := hP.nn b (List.mem_of_getElem? hy)
      have hb1 := le_sum hP.nn b (List.mem_of_getElem? hy)
      have hy' : (left.set i 0)[j]? = some b := by rw [setI_get (by omega), if_neg hji]; exact hy
      rw [h1, Option.bind_some, decide_eq_true (by omega), cond_true, idxL_nat hy', Option.bind_some, Int.toNat_natCast, wrap_i64 (by omega) (by omega)]
      refine ⟨0, _, rfl, by simp, Int.le_refl _, by omega, by simpa using hlen, fun v hv => ?_, ?_, by omega, fun x q' hq hqd => ?_⟩
      · rcases List.mem_or_eq_of_mem_set hv with hv | rfl
        · rcases List.mem_or_eq_of_mem_set hv with hv | rfl
          · exact hP.nn v hv
          · exact Int.le_refl _
        · omega
      · rw [sum_set _ _ _ _ hy', sum_set _ _ _ _ hx]; omega
      · rw [setI_get (by simp; omega)]
        by_cases hxj : x = j
        · exfalso
          subst hxj
          rw [h2] at hq; obtain rfl := Option.some.inj hq
          rcases List.mem_append.1 hqd with hqd | hqd
          · exact r2 (hD.closed q hqd r r1 h3)
          · simp at hqd; subst hqd
            exact bf_ne M S r1 h3 rfl
        · rw [if_neg hxj, setI_get (by omega)]
          by_cases hxi : x = i
          · rw [if_pos hxi]
          · rw [if_neg hxi]
            rcases List.mem_append.1 hqd with hqd | hqd
            · exact hP.zero x q' hq hqd
            · simp at hqd; subst hqd
              exact absurd (idx_inj hnd hq hi) hxi
    · exfalso
      rcases S.down r r1 with h | ⟨q, hq, hbq⟩
      · exact hb h
      · exact h2 q hq hbq
theorem formed_eq {s : ApiSweep} {people : List Int} (hl : people.length = s.Runs.length) (hp : ∀ v ∈ people, 0 ≤ v ∧ v ≤ 1000000) : sweep_formed s people = some true := by
  unfold sweep_formed
  rw [decide_eq_false (by omega), cond_false, all_loop (step := sweep_formed_b1) (fun _ => true) (fun k x hx => by
    have := hp x hx
    unfold sweep_formed_b1
    rw [decide_eq_false (by omega), cond_false, decide_eq_false (by omega)]; rfl)]
  simp
/-- All counts everybody. -/
theorem all_eq {m : ApiMap} (M : MapOK m) {s : ApiSweep} (S : SwOK m s.Runs) {people : List Int} (hl : people.length = s.Runs.length) (hp : ∀ v ∈ people, 0 ≤ v ∧ v ≤ 1000) (hs : people.sum ≤ 1000000) :
    sweep_All m s people = some (people.sum, 0, 0) := by
  have hlen := S.len
  have hs0 : 0 ≤ people.sum := by
    have : ∀ {l : List Int}, (∀ v ∈ l, 0 ≤ v) → 0 ≤ l.sum := by
      intro l
      induction l with
      | nil => intro _; simp
      | cons a l ih => intro h; have := h a (by simp); have := ih fun v hv => h v (List.mem_cons_of_mem _ hv); simp; omega
    exact this fun v hv => (hp v hv).1
  obtain ⟨O, o1, o2, o3, o4⟩ := order_eq M S
  unfold sweep_All slices_Clone_sint_int
  rw [formed_eq hl (fun v hv => by have := hp v hv; omega), Option.bind_some, Bool.not_true, cond_false, chk_ok (by omega), Option.bind_some, o1, Option.bind_some]
  obtain ⟨t, t1, t2, t3⟩ := forIx_run (ρ := Int × Int × Int) (step := sweep_All_b3 m s) (l := O) (s := ((0 : Int), people)) (fun k t => Dn m s.Runs (O.take k) ∧ Ppl s.Runs (O.take k) people.sum t.2 t.1)
    ⟨by simpa using Dn.nil m s.Runs, hl, fun v hv => (hp v hv).1, by simp, Int.le_refl _, by simp⟩ (fun k r t hk ⟨i1, i2⟩ => by
      obtain ⟨g, left⟩ := t
      simp only at i2
      have hr := o3 k r hk
      obtain ⟨i, hi, hir⟩ := List.getElem_of_mem (ready_mem.1 hr).1
      have hi' : s.Runs[i]? = some r := by rw [List.getElem?_eq_getElem hi, hir]
      obtain ⟨n, l, p1, p2, p3, p4, p5⟩ := push_ok M S ⟨hs0, hs⟩ i1 i2 hi' hr
      have hg := i2.pos
      have hgs := i2.sum
      have hls : 0 ≤ left.sum := by
        have : ∀ {l : List Int}, (∀ v ∈ l, 0 ≤ v) → 0 ≤ l.sum := by
          intro l
          induction l with
          | nil => intro _; simp
          | cons a l ih => intro h; have := h a (by simp); have := ih fun v hv => h v (List.mem_cons_of_mem _ hv); simp; omega
        exact this i2.nn
      refine ⟨(g + n, l), ?_, by rw [take_succ_some hk]; exact i1.add hr, by rw [take_succ_some hk]; exact p5⟩
      unfold sweep_All_b3
      rw [index_at S.nodup hi', Option.bind_some]
      simp only
      unfold pushE at p1
      rw [p1, Option.bind_some]
      simp only
      rw [okB_ok p2, wrap_i64 (by omega) (by omega)])
  rw [t1, Option.bind_some]
  show sweep_All_j1 t.1 t.2 = _
  rw [List.take_length] at t2 t3
  have hz : ∀ v ∈ t.2, v = 0 := fun v hv => by
    obtain ⟨x, hx, hxv⟩ := List.getElem_of_mem hv
    have hxl : x < s.Runs.length := by rw [← t3.len]; exact hx
    have := t3.zero x _ (List.getElem?_eq_getElem hxl) (o4 _ (List.getElem_mem hxl))
    rw [List.getElem?_eq_getElem hx, hxv] at this
    exact Option.some.inj this
  have hsum0 : t.2.sum = 0 := by
    have : ∀ {l : List Int}, (∀ v ∈ l, v = 0) → l.sum = 0 := by
      intro l
      induction l with
      | nil => intro _; simp
      | cons a l ih => intro h; have := h a (by simp); have := ih fun v hv => h v (List.mem_cons_of_mem _ hv); simp; omega
    exact this hz
  have hts := t3.sum
  unfold sweep_All_j1
  obtain ⟨z, z1, z2⟩ := forIx_run (ρ := Int × Int × Int) (step := sweep_All_b2) (l := t.2) (s := (0 : Int)) (fun k z => z = 0) rfl (fun k v z hk hz' => by
    have := hz v (List.mem_of_getElem? hk)
    subst this; subst hz'
    exact ⟨0, rfl, rfl⟩)
  rw [z1, z2]
  show some (t.1, (0 : Int), (0 : Int)) = _
  have : t.1 = people.sum := by omega
  rw [this]
end Go.Proofs.Ytooopbnnhbacjaa
