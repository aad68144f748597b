/-
  The law of the closing sweep, in plain Lean: it answers true.
-/
import Derived.Test.YtooopbnnhbacjaaL7
namespace Go.Proofs.Ytooopbnnhbacjaa
open Go Go.Ab
set_option linter.unusedSimpArgs false
set_option linter.unusedVariables false

theorem sweepAlive_eq : top_sweepAlive = some true := by decide +kernel
theorem sum0 : ∀ {l : List Int}, (∀ v ∈ l, 0 ≤ v) → 0 ≤ l.sum
  | [], _ => by simp
  | a :: l, h => by
    have := h a (by simp)
    have := sum0 fun v hv => h v (List.mem_cons_of_mem _ hv)
    simp; omega
theorem sum_le : ∀ {l : List Int} {B : Int}, (∀ v ∈ l, v ≤ B) → l.sum ≤ B * l.length
  | [], B, _ => by simp
  | a :: l, B, h => by
    have := h a (by simp)
    have := sum_le (B := B) fun v hv => h v (List.mem_cons_of_mem _ hv)
    simp [Int.mul_add]; omega
/-- what holds at the head of the law's loop -/
structure SI (m : ApiMap) (R : List Int) (T : Int) (k : Nat) (s : List Int × Int × List Int × List ApiSwept × Int) : Prop where
  runs : s.2.2.1 = R
  begun : s.2.2.2.2 = 0
  len : s.2.2.2.1.length = k
  sw : SwL m R s.2.2.2.1
  ppl : Ppl R (runsOf s.2.2.2.1) T s.1 s.2.1
theorem tail_ok {m : ApiMap} (M : MapOK m) {R : List Int} (S : SwOK m R) {T : Int} (hT : 0 ≤ T ∧ T ≤ 100000) {left : List Int} {gone : Int} {sw : List ApiSwept} {k : Nat} (hk : sw.length = k) (hkR : k < R.length) (hsw : SwL m R sw) (hP : Ppl R (runsOf sw) T left gone) {y : List Int} (hy : y = readyF m R (runsOf sw)) {q : Nat} (hq : q < y.length) :
    (∃ s', top_TopSweep_j4 m R left gone R sw 0 k y (q : Int) = some (.next s') ∧ SI m R T (k + 1) s') ∨ (∃ r, top_TopSweep_j4 m R left gone R sw 0 k y (q : Int) = some (.ret r) ∧ r = true) := by
  have hrl := S.len
  have hx : y[q]? = some y[q] := List.getElem?_eq_getElem hq
  generalize y[q] = r at hx
  have hr : r ∈ readyF m R (runsOf sw) := by rw [← hy]; exact List.mem_of_getElem? hx
  obtain ⟨i, hi, hir⟩ := List.getElem_of_mem (ready_mem.1 hr).1
  have hi' : R[i]? = some r := by rw [List.getElem?_eq_getElem hi, hir]
  have hlen := hP.len
  have hli : left[i]? = some (left[i]'(by omega)) := List.getElem?_eq_getElem _
  generalize left[i]'(by omega) = fnd at hli
  unfold top_TopSweep_j4
  obtain ⟨f, f1, f2⟩ := forIx_run (ρ := Out (List Int × Int × List Int × List ApiSwept × Int) Bool) (step := top_TopSweep_b8 left y (q : Int)) (l := R) (s := (0 : Int)) (fun k f => i < k → f = fnd) (fun h => by omega) (fun j x f hj hI => by
    have hjl := (List.getElem?_eq_some_iff.1 hj).1
    unfold top_TopSweep_b8
    rw [idxL_nat hx, Option.bind_some]
    by_cases e : x = r
    · have hji : j = i := idx_inj S.nodup hj (e ▸ hi')
      subst hji
      rw [decide_eq_true e, cond_true, idxL_nat hli]
      exact ⟨fnd, rfl, fun _ => rfl⟩
    · rw [decide_eq_false e]
      refine ⟨f, rfl, fun h => hI ?_⟩
      have : i ≠ j := fun e' => by subst e'; rw [hi'] at hj; exact e (Option.some.inj hj).symm
      omega)
  have hf : f = fnd := f2 hi
  subst hf
  rw [f1, Option.bind_some]
  show (∃ s', top_TopSweep_j5 m R left gone R sw 0 k y (q : Int) f = some (.next s') ∧ _) ∨ ∃ r, top_TopSweep_j5 m R left gone R sw 0 k y (q : Int) f = some (.ret r) ∧ r = true
  have hf0 := hP.nn f (List.mem_of_getElem? hli)
  unfold top_TopSweep_j5
  by_cases hbig : (1000 : Int) < f
  · rw [decide_eq_true hbig]; exact .inr ⟨true, rfl, rfl⟩
  rw [decide_eq_false hbig, cond_false, idxL_nat hx, Option.bind_some]
  have hg := hP.pos
  have hs := hP.sum
  have hls := sum0 hP.nn
  obtain ⟨n, l, p1, p2, p3, p4⟩ := spush_eq M (s := ⟨R, sw, 0⟩) S (T := T) (by omega) hsw.dn hP hr
  have hl := p4.len
  have hsw' := hsw.add (w := ⟨r, 1, (k : Int), f⟩) rfl ⟨hf0, by show f ≤ 1000; omega⟩ (by show (k : Int) = _; omega) hr
  rw [p1, Option.bind_some]
  simp only
  rw [decide_eq_false (by simp), cond_false, decide_eq_false (by simp only at hl; omega), cond_false, do_eq S hsw hsw', Option.bind_some]
  simp only
  rw [decide_eq_false (by simp), cond_false]
  have hro : runsOf (sw ++ [ApiSwept.mk r 1 (k : Int) f]) = runsOf sw ++ [r] := by unfold runsOf; simp
  have chkL : forIx (top_TopSweep_b6 R (l, n, 0)) 0 (sw ++ [ApiSwept.mk r 1 (k : Int) f]) () = some (.next ()) := by
    refine forIx_all.2 fun j w hj => ?_
    unfold top_TopSweep_b6
    have hin : forIx (top_TopSweep_b7 (l, n, 0) w) 0 R () = some (.next ()) := by
      refine forIx_all.2 fun x v hv => ?_
      rw [Nat.zero_add]
      unfold top_TopSweep_b7
      by_cases e : v = w.Run
      · have hz := p4.zero x v hv (by
          show v ∈ runsOf sw ++ [r]
          rw [← hro, e]
          exact List.mem_map_of_mem (List.mem_of_getElem? hj))
        rw [decide_eq_true e, cond_true]
        simp only
        rw [idxL_nat hz]; rfl
      · rw [decide_eq_false e]; rfl
    rw [hin]; rfl
  rw [chkL, Option.bind_some]
  have hps := p4.sum
  have hls' := sum0 p4.nn
  refine .inl ⟨_, rfl, rfl, rfl, by simp; omega, hsw', ?_⟩
  show Ppl R (runsOf (sw ++ [ApiSwept.mk r 1 (k : Int) f])) T l (IntKind.i64.wrap (gone + n))
  rw [hro, wrap_i64 (by omega) (by omega)]
  exact p4
theorem top_TopSweep_true (m : ApiMap) (runs people choices : List Int) (hm : OkApiMap m) (hr : OkL I64 runs) (hp : OkL I64 people) (hc : OkL I64 choices) : top_TopSweep m runs people choices = some true := by
  unfold top_TopSweep
  rw [sweepAlive_eq, Option.bind_some, Bool.not_true, cond_false]
  by_cases c1 : (12 : Int) < ((m.Nodes.length : Nat) : Int)
  · rw [decide_eq_true c1]; rfl
  rw [decide_eq_false c1, cond_false]
  by_cases c2 : (12 : Int) < ((m.Runs.length : Nat) : Int)
  · rw [decide_eq_true c2]; rfl
  rw [decide_eq_false c2, cond_false]
  by_cases c3 : (12 : Int) < ((m.Lifts.length : Nat) : Int)
  · rw [decide_eq_true c3]; rfl
  rw [decide_eq_false c3, cond_false]
  by_cases c4 : (12 : Int) < ((runs.length : Nat) : Int)
  · rw [decide_eq_true c4]; rfl
  rw [decide_eq_false c4, cond_false]
  by_cases c5 : (12 : Int) < ((people.length : Nat) : Int)
  · rw [decide_eq_true c5]; rfl
  rw [decide_eq_false c5, cond_false]
  by_cases c6 : (60 : Int) < ((choices.length : Nat) : Int)
  · rw [decide_eq_true c6]; rfl
  rw [decide_eq_false c6, cond_false]
  obtain ⟨e, e1, e2⟩ := right10_eq m
  rw [e1, Option.bind_some]
  by_cases he : e = 0
  case neg => rw [decide_eq_true he]; rfl
  subst he
  have M := e2 |>.1 rfl
  rw [decide_eq_false (by simp), cond_false]
  obtain ⟨f, f1, f2⟩ := rright_ok (m := m) (R := runs) (by omega)
  rw [f1, Option.bind_some]
  by_cases hf : f = 0
  case neg => rw [decide_eq_true hf]; rfl
  subst hf
  have S := f2 rfl
  rw [decide_eq_false (by simp), cond_false]
  by_cases c7 : ((people.length : Nat) : Int) ≠ ((runs.length : Nat) : Int)
  · rw [decide_eq_true c7]; rfl
  rw [decide_eq_false c7, cond_false]
  rcases forIx_inv (step := top_TopSweep_b11) (l := people) (s := (0 : Int)) (fun k z => z = (people.take k).sum ∧ ∀ v ∈ people.take k, 0 ≤ v ∧ v ≤ 1000) (fun r => r = true) ⟨by simp, by simp⟩ (fun k v z hk ⟨i1, i2⟩ => by
    have hlt := (List.getElem?_eq_some_iff.1 hk).1
    unfold top_TopSweep_b11
    by_cases d1 : v < 0
    · rw [decide_eq_true d1]; exact .inr ⟨true, rfl, rfl⟩
    rw [decide_eq_false d1, cond_false]
    by_cases d2 : (1000 : Int) < v
    · rw [decide_eq_true d2]; exact .inr ⟨true, rfl, rfl⟩
    rw [decide_eq_false d2, cond_false]
    have h1 := sum0 fun v hv => (i2 v hv).1
    have h2 := sum_le fun v hv => (i2 v hv).2
    have h3 : (people.take k).length ≤ 12 := by simp; omega
    refine .inl ⟨_, rfl, ?_, fun w hw => ?_⟩
    · rw [take_succ_some hk, List.sum_append, wrap_i64 (by omega) (by omega), i1]; simp
    · rw [take_succ_some hk] at hw
      rcases List.mem_append.1 hw with hw | hw
      · exact i2 w hw
      · simp at hw; subst hw; omega) with ⟨T, g1, g2, g3⟩ | ⟨r, g1, rfl⟩
  case inr => rw [g1]; rfl
  rw [List.take_length] at g2 g3
  rw [g1, Option.bind_some]
  show top_TopSweep_j1 m runs people choices T = _
  have hT0 := sum0 fun v hv => (g3 v hv).1
  have hT1 := sum_le fun v hv => (g3 v hv).2
  have hpl : people.length ≤ 12 := by omega
  have hTb : 0 ≤ T ∧ T ≤ 12000 := by omega
  unfold top_TopSweep_j1
  obtain ⟨home, h1, h2⟩ := home_eq M runs
  rw [h1, Option.bind_some]
  have hhome : forIx (top_TopSweep_b9 m home) 0 runs () = some (.next ()) := by
    refine forIx_all.2 fun k r hk => ?_
    unfold top_TopSweep_b9
    rw [rrun_eq, Option.bind_some]
    have hin : (runF m r).1.From ∈ home := (h2.mem _).2 (home_all M S _ r (List.mem_of_getElem? hk) (Nat.le_refl _))
    obtain ⟨z, z1, z2⟩ := forIx_run (ρ := Out Unit Bool) (step := top_TopSweep_b10 (runF m r)) (l := home) (s := false) (fun k z => z = decide ((runF m r).1.From ∈ home.take k)) (by simp) (fun j x z hj hI => by
      unfold top_TopSweep_b10
      cases z with
      | true =>
        refine ⟨true, rfl, ?_⟩
        have := of_decide_eq_true hI.symm
        rw [decide_eq_true]
        rw [take_succ_some hj]
        exact List.mem_append.2 (.inl this)
      | false =>
        refine ⟨_, rfl, ?_⟩
        have := of_decide_eq_false hI.symm
        rw [take_succ_some hj]
        by_cases e : x = (runF m r).1.From
        · rw [decide_eq_true e, decide_eq_true]
          rw [← e]; simp
        · rw [decide_eq_false e, decide_eq_false]
          intro hm
          rcases List.mem_append.1 hm with hm | hm
          · exact this hm
          · simp at hm; exact e hm.symm)
    rw [List.take_length, decide_eq_true hin] at z2
    rw [z1, z2]; rfl
  rw [hhome, Option.bind_some]
  show top_TopSweep_j2 m runs people choices T = _
  unfold top_TopSweep_j2
  rw [chk_ok (by omega)]
  rcases forIx_inv (step := top_TopSweep_b3 m runs choices) (l := runs) (s := (people, (0 : Int), runs, [], (0 : Int))) (SI m runs T) (fun r => r = true)
    ⟨rfl, rfl, rfl, ⟨fun j w h => by simp at h⟩, by show people.length = runs.length; omega, fun v hv => (g3 v hv).1, by simp only; omega, Int.le_refl _, fun x r hx hr => by simp [runsOf] at hr⟩ (fun k x s hk hI => by
      have hlt := (List.getElem?_eq_some_iff.1 hk).1
      obtain ⟨left, gone, R, sw, bg⟩ := s
      have hR := hI.runs
      have hb := hI.begun
      have hl := hI.len
      have hsw := hI.sw
      have hP := hI.ppl
      simp only at hR hb hl hsw hP
      subst hR hb
      unfold top_TopSweep_b3
      simp only
      rw [snext_eq (s := ⟨R, sw, 0⟩) (by simp only; omega) (by simp only; omega), Option.bind_some]
      simp only
      have hex : ∃ r ∈ R, r ∉ runsOf sw := by
        by_cases hall : ∀ r ∈ R, r ∈ runsOf sw
        · exfalso
          have := nodup_len S.nodup hall
          unfold runsOf at this
          rw [List.length_map] at this
          omega
        · have := Classical.not_forall.1 hall
          obtain ⟨r, hr⟩ := this
          exact ⟨r, by have := Classical.not_imp.1 hr; exact this.1, by have := Classical.not_imp.1 hr; exact this.2⟩
      obtain ⟨r0, hr0, hr1⟩ := hex
      have hne := ready_some M S hr0 hr1
      have hyl : 0 < (readyF m R (runsOf sw)).length := List.length_pos_iff.2 hne
      rw [decide_eq_false (by omega), cond_false]
      have base := fun q hq => tail_ok M S (T := T) (by omega) (k := k) hl (by omega) hsw hP (y := readyF m R (runsOf sw)) rfl (q := q) hq
      by_cases d1 : ((k : Nat) : Int) < ((choices.length : Nat) : Int)
      · have hch : choices[k]? = some (choices[k]'(by omega)) := List.getElem?_eq_getElem _
        generalize choices[k]'(by omega) = ch at hch
        rw [decide_eq_true d1, cond_true, idxL_nat hch, Option.bind_some]
        by_cases d2 : (0 : Int) < ch
        · rw [decide_eq_true d2, cond_true, nz_ok (by omega), Int.tmod_eq_emod_of_nonneg (by omega)]
          have h1 := Int.emod_nonneg ch (show (((readyF m R (runsOf sw)).length : Nat) : Int) ≠ 0 by omega)
          have h2 := Int.emod_lt_of_pos ch (show (0 : Int) < (((readyF m R (runsOf sw)).length : Nat) : Int) by omega)
          have := base (ch % (((readyF m R (runsOf sw)).length : Nat) : Int)).toNat (by omega)
          rwa [Int.toNat_of_nonneg h1] at this
        · rw [decide_eq_false d2, cond_false]; exact base 0 hyl
      · rw [decide_eq_false d1, cond_false]; exact base 0 hyl) with ⟨s, s1, s2⟩ | ⟨r, s1, rfl⟩
  case inr => rw [s1]; rfl
  rw [s1, Option.bind_some]
  obtain ⟨left, gone, R, sw, bg⟩ := s
  have hR := s2.runs
  have hb := s2.begun
  have hl := s2.len
  have hsw := s2.sw
  have hP := s2.ppl
  simp only at hR hb hl hsw hP
  subst hR hb
  simp only [Out.on]
  have hfull := hsw.dn.full (by unfold runsOf; rw [List.length_map]; omega) S.nodup
  have hz : ∀ v ∈ left, v = 0 := fun v hv => by
    obtain ⟨x, hx, hxv⟩ := List.getElem_of_mem hv
    have hxl : x < R.length := by rw [← hP.len]; exact hx
    have := hP.zero x _ (List.getElem?_eq_getElem hxl) (hfull _ (List.getElem_mem hxl))
    rw [List.getElem?_eq_getElem hx, hxv] at this
    exact Option.some.inj this
  have hsum0 : left.sum = 0 := by
    have : ∀ {l : List Int}, (∀ v ∈ l, v = 0) → l.sum = 0 := by
      intro l
      induction l with
      | nil => intro _; simp
      | cons a l ih => intro h; have := h a (by simp); have := ih fun v hv => h v (List.mem_cons_of_mem _ hv); simp; omega
    exact this hz
  have hps := hP.sum
  rw [all_eq M (s := ⟨R, sw, 0⟩) S (by simp only; omega) g3 (by omega), Option.bind_some, done_eq (s := ⟨R, sw, 0⟩) (by simp only; omega) hfull, Option.bind_some, cond_true]
  simp only
  rw [decide_eq_true (show gone = T by omega), cond_true, g2]
  simp
end Go.Proofs.Ytooopbnnhbacjaa
