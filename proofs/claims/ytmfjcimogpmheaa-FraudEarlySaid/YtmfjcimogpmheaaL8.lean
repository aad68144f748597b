/-
  Layer 32 (fraud): honest rides, an early one, a detour, in plain Lean.
-/
import Derived.Test.YtmfjcimogpmheaaL7
namespace Go.Proofs.Ytmfjcimogpmheaa
open Go Go.Ab
set_option linter.unusedSimpArgs false
set_option linter.unusedVariables false

/-! ### a detour -/
theorem law32_FraudDetour_true (m : ApiMap) (a b c : Int) (hm : OkApiMap m) (ha : I64 a) (hb : I64 b) (hc : I64 c) : law32_FraudDetour m a b c = some true := by
  unfold law32_FraudDetour
  obtain ⟨r, h1, h2⟩ := right10_eq m
  rw [alive32, Option.bind_some, h1, Bool.not_true, cond_false, Option.bind_some]
  by_cases hr : r = 0
  · subst hr
    have M := h2.1 rfl
    rw [decide_eq_false (by simp), cond_false]
    obtain ⟨x, x1, _, x3⟩ := time_eq M a c
    obtain ⟨y, y1, _, y3⟩ := time_eq M c b
    obtain ⟨z, z1, _, z3⟩ := time_eq M a b
    rw [x1, y1, z1, Option.bind_some, Option.bind_some]
    cases x3 with
    | none _ => rfl
    | @some v fa fc hv =>
    cases y3 with
    | none _ => rfl
    | @some w _ fb hw =>
      simp only [Bool.not_true, cond_false, Option.bind_some]
      obtain ⟨e, he, e1, e2, e3⟩ := mapE_lift (liftF_true fc).1
      obtain ⟨es, p1, p2⟩ := hv.walk
      obtain ⟨fs, q1, q2⟩ := hw.walk
      have hch : Chain (mapE m) (liftF m a).1.To (es ++ e :: fs) (liftF m b).1.From := chain_app.2 ⟨_, p1, he, e1, by rw [e2]; exact q1⟩
      have hsc := sec_bound (M.lifts _ (liftF_true fc).1).1
      have hsa := sec_bound (M.lifts _ (liftF_true fa).1).1
      have hvb := least_bound M hv
      have hwb := least_bound M hw
      cases z3 with
      | none hno => exact absurd hch (hno fa fb _)
      | @some u _ _ hu =>
        have := hu.least _ hch
        rw [ecost_app, ecost_cons] at this
        simp only [cond_true]
        rw [wrap_i64 (by omega) (by omega), decide_eq_true (by omega)]
  · rw [decide_eq_true hr]; rfl

/-! ### places in a part of a list -/
def rk {α : Type} (p : α → Bool) (l : List α) (i : Nat) : Nat := ((l.take i).filter p).length
theorem rk_succ {α : Type} {p : α → Bool} {l : List α} {i : Nat} {x : α} (h : l[i]? = some x) : rk p l (i + 1) = rk p l i + if p x then 1 else 0 := by
  unfold rk
  rw [take_succ_some h, List.filter_append, List.length_append]
  cases hp : p x <;> simp [hp]
theorem rk_mono {α : Type} {p : α → Bool} {l : List α} {i : Nat} : ∀ {d : Nat}, i + d ≤ l.length → rk p l i ≤ rk p l (i + d)
  | 0, _ => Nat.le_refl _
  | d + 1, h => by
    have := rk_mono (p := p) (l := l) (i := i) (d := d) (by omega)
    have hx : l[i + d]? = some (l[i + d]'(by omega)) := List.getElem?_eq_getElem _
    rw [show i + (d + 1) = i + d + 1 by omega, rk_succ hx]; omega
theorem rk_same {α : Type} {p : α → Bool} {l : List α} {i : Nat} : ∀ {d : Nat}, i + d ≤ l.length → (∀ j x, i ≤ j → j < i + d → l[j]? = some x → p x = false) → rk p l (i + d) = rk p l i
  | 0, _, _ => rfl
  | d + 1, h, hn => by
    have := rk_same (p := p) (l := l) (i := i) (d := d) (by omega) fun j x h1 h2 h3 => hn j x h1 (by omega) h3
    have hx : l[i + d]? = some (l[i + d]'(by omega)) := List.getElem?_eq_getElem _
    rw [show i + (d + 1) = i + d + 1 by omega, rk_succ hx, hn _ _ (by omega) (by omega) hx, this]; rfl
theorem rk_get {α : Type} {p : α → Bool} {l : List α} {i : Nat} {x : α} (h : l[i]? = some x) (hp : p x = true) : (l.filter p)[rk p l i]? = some x := by
  obtain ⟨h1, h2⟩ := List.getElem?_eq_some_iff.1 h
  have e : l = l.take i ++ x :: l.drop (i + 1) := by
    rw [← h2, ← List.drop_eq_getElem_cons h1, List.take_append_drop]
  have : l.filter p = (l.take i).filter p ++ x :: (l.drop (i + 1)).filter p := by
    rw [e, List.filter_append, List.filter_cons_of_pos hp, ← e]
  rw [this]
  unfold rk
  simp

/-! ### rides -/
/-- the rides of an honest skier -/
structure RidesOK (m : ApiMap) (serial : Int) (legs : List Skilaw32Leg) (x : List ApiRide) : Prop where
  each : ∀ (i : Nat) r, x[i]? = some r → r.Serial = serial ∧ r.Counter = (i : Int) + 1 ∧ 0 ≤ r.At ∧ r.At ≤ 500 + i * 2000000
  step : ∀ (i : Nat) r r', x[i]? = some r → x[i + 1]? = some r' → ∃ g, legs[i + 1]? = some g ∧ (timeV m r.Lift r'.Lift).2 = true ∧ r'.At = r.At + (timeV m r.Lift r'.Lift).1 + g.Wait
theorem tmod_place {a : Int} {n : Nat} (ha : 0 ≤ a ∧ a ≤ 255) (hn : 0 < n) : ∃ k : Nat, (IntKind.i64.wrap a).tmod (n : Int) = (k : Int) ∧ k < n := by
  rw [wrap_i64 (by omega) (by omega), Int.tmod_eq_emod_of_nonneg ha.1]
  have h1 := Int.emod_nonneg a (show (n : Int) ≠ 0 by omega)
  have h2 := Int.emod_lt_of_pos a (show (0 : Int) < n by omega)
  exact ⟨(a % n).toNat, by omega, by omega⟩
theorem rides_eq {m : ApiMap} (M : MapOK m) (hne : 0 < m.Lifts.length) (serial : Int) {fr : Int} (hfr : 0 ≤ fr ∧ fr ≤ 500) {legs : List Skilaw32Leg} (hl : legs.length ≤ 20) (hw : ∀ g ∈ legs, U8 g.Lift ∧ U8 g.Wait) :
    ∃ x ok, law32_rides m serial fr legs = some (x, ok) ∧ (ok = true → x.length = legs.length ∧ RidesOK m serial legs x) := by
  rcases forIx_inv (ρ := List ApiRide × Bool) (step := law32_rides_b1 m serial) (l := legs) (s := (fr, [])) (fun k s => s.2.length = k ∧ RidesOK m serial legs s.2 ∧ (k = 0 → s.1 = fr) ∧ ∀ r, 0 < k → s.2[k - 1]? = some r → s.1 = r.At) (fun r => r.2 = false)
    ⟨rfl, ⟨fun i r h => by simp at h, fun i r r' h => by simp at h⟩, fun _ => rfl, fun r h => by omega⟩ (fun k g s hk ⟨i1, i2, i3, i4⟩ => by
      obtain ⟨t, out⟩ := s
      simp only at i1 i2 i3 i4
      have hlt := (List.getElem?_eq_some_iff.1 hk).1
      obtain ⟨hg1, hg2⟩ := hw g (List.mem_of_getElem? hk)
      obtain ⟨q, q1, q2⟩ := tmod_place hg1 hne
      have hx : m.Lifts[q]? = some m.Lifts[q] := List.getElem?_eq_getElem q2
      generalize m.Lifts[q] = lf at hx
      have app : ∀ (t' : Int), 0 ≤ t' → t' ≤ 500 + k * 2000000 → (∀ r, 0 < k → out[k - 1]? = some r → (timeV m r.Lift lf.ID).2 = true ∧ t' = r.At + (timeV m r.Lift lf.ID).1 + g.Wait) → RidesOK m serial legs (out ++ [⟨1, ((k + 1 : Nat) : Int), serial, ((k + 1 : Nat) : Int), 0, lf.ID, t'⟩]) := fun t' h0 h1 h2 => by
        refine ⟨fun i r hr => ?_, fun i r r' hr hr' => ?_⟩
        · rw [List.getElem?_append] at hr
          split at hr
          · exact i2.each i r hr
          · rename_i hik
            have : i - out.length = 0 := by
              have := (List.getElem?_eq_some_iff.1 hr).1
              simp at this; omega
            rw [this] at hr
            simp at hr
            subst hr
            have : i = k := by omega
            subst this
            exact ⟨rfl, by simp, h0, h1⟩
        · rw [List.getElem?_append] at hr hr'
          split at hr'
          · rename_i hik
            rw [if_pos (by omega)] at hr
            exact i2.step i r r' hr hr'
          · rename_i hik
            have : i + 1 - out.length = 0 := by
              have := (List.getElem?_eq_some_iff.1 hr').1
              simp at this; omega
            rw [this] at hr'
            simp at hr'
            subst hr'
            have hik' : i + 1 = k := by omega
            rw [if_pos (by omega)] at hr
            obtain ⟨e1, e2⟩ := h2 r (by omega) (by rw [← hik']; exact hr)
            exact ⟨g, by rw [hik']; exact hk, e1, e2⟩
      have last : ∀ (t' : Int) r, (out ++ [ApiRide.mk 1 ((k + 1 : Nat) : Int) serial ((k + 1 : Nat) : Int) 0 lf.ID t'])[k + 1 - 1]? = some r → t' = r.At := fun t' r hr => by
        rw [Nat.add_sub_cancel, List.getElem?_append_right (by omega)] at hr
        rw [i1] at hr; simp at hr; subst hr; rfl
      unfold law32_rides_b1
      rw [nz_ok (by omega), q1, idxL_nat hx, Option.bind_some]
      by_cases hk0 : k = 0
      · subst hk0
        rw [decide_eq_false (by simp), cond_false]
        simp only
        rw [chk_ok (by omega), wrap_add1 (by omega)]
        refine .inl ⟨_, rfl, by rw [List.length_append, i1]; rfl, app t (by have := i3 rfl; omega) (by have := i3 rfl; omega) (fun r h => by omega), fun h => by omega, fun r _ hr => last t r hr⟩
      · have hp : out[k - 1]? = some (out[k - 1]'(by omega)) := List.getElem?_eq_getElem _
        generalize out[k - 1]'(by omega) = pr at hp
        have ht := i4 pr (by omega) hp
        have hpe := i2.each (k - 1) pr hp
        rw [decide_eq_true (by omega), cond_true, wrap_pred (by omega) (by omega)]
        simp only
        rw [idxL_nat hp, Option.bind_some]
        obtain ⟨t1, _, t3⟩ := timeV_eq M pr.Lift lf.ID
        have hb := t3.bound M
        rw [t1, Option.bind_some]
        cases hok : (timeV m pr.Lift lf.ID).2 with
        | false => exact .inr ⟨_, rfl, rfl⟩
        | true =>
          have hgw : 0 ≤ g.Wait ∧ g.Wait ≤ 255 := hg2
          have hkk : (((k - 1 : Nat) : Int)) = (k : Int) - 1 := by omega
          rw [hkk] at hpe
          rw [Bool.not_true, cond_false, chk_ok (by omega), wrap_i64 (x := t + _) (by omega) (by omega), wrap_i64 (x := g.Wait) (by omega) (by omega), wrap_i64 (x := t + _ + _) (by omega) (by omega), wrap_add1 (by omega)]
          refine .inl ⟨_, rfl, by simp; omega, app _ (by omega) (by omega) (fun r _ hr => ?_), fun h => by omega, fun r _ hr => last _ r hr⟩
          rw [hp] at hr; obtain rfl := Option.some.inj hr
          exact ⟨hok, by rw [ht]⟩) with ⟨s, h1, h2, h3, _⟩ | ⟨r, h1, h2⟩
  · exact ⟨s.2, true, by unfold law32_rides; rw [h1]; rfl, fun _ => ⟨h2, h3⟩⟩
  · obtain ⟨x, ok⟩ := r
    exact ⟨x, ok, by unfold law32_rides; rw [h1]; rfl, fun h => by simp only at h2; rw [h2] at h; cases h⟩

/-! ### two lists mixed -/
def mix {α : Type} : List α → List α → List α
  | [], b => b
  | x :: a, [] => x :: mix a []
  | x :: a, y :: b => x :: y :: mix a b
theorem mix_cons {α : Type} (x y : α) (a b : List α) : mix (x :: a) (y :: b) = x :: y :: mix a b := rfl
theorem mix_nil {α : Type} : ∀ a : List α, mix a [] = a
  | [] => rfl
  | x :: a => by unfold mix; rw [mix_nil a]
theorem mix_filter {α : Type} (p : α → Bool) : ∀ (a b : List α), (∀ x ∈ a, p x = true) → (∀ y ∈ b, p y = false) → (mix a b).filter p = a
  | [], b, _, hb => by
    unfold mix
    rw [List.filter_eq_nil_iff]
    intro y hy; rw [hb y hy]; simp
  | x :: a, [], ha, hb => by
    rw [mix_nil, List.filter_eq_self]; exact ha
  | x :: a, y :: b, ha, hb => by
    unfold mix
    rw [List.filter_cons_of_pos (ha x (by simp)), List.filter_cons_of_neg (by rw [hb y (by simp)]; simp), mix_filter p a b (fun z hz => ha z (List.mem_cons_of_mem _ hz)) fun z hz => hb z (List.mem_cons_of_mem _ hz)]
theorem mix_filter' {α : Type} (p : α → Bool) : ∀ (a b : List α), (∀ x ∈ a, p x = false) → (∀ y ∈ b, p y = true) → (mix a b).filter p = b
  | [], b, _, hb => by
    unfold mix
    rw [List.filter_eq_self]; exact hb
  | x :: a, [], ha, hb => by
    rw [mix_nil, List.filter_eq_nil_iff]
    intro y hy; rw [ha y hy]; simp
  | x :: a, y :: b, ha, hb => by
    unfold mix
    rw [List.filter_cons_of_neg (by rw [ha x (by simp)]; simp), List.filter_cons_of_pos (hb y (by simp)), mix_filter' p a b (fun z hz => ha z (List.mem_cons_of_mem _ hz)) fun z hz => hb z (List.mem_cons_of_mem _ hz)]
theorem mix_mem {α : Type} {z : α} : ∀ (a b : List α), z ∈ mix a b → z ∈ a ∨ z ∈ b
  | [], b, h => .inr h
  | x :: a, [], h => by rw [mix_nil] at h; exact .inl h
  | x :: a, y :: b, h => by
    unfold mix at h
    rcases List.mem_cons.1 h with rfl | h
    · exact .inl (by simp)
    · rcases List.mem_cons.1 h with rfl | h
      · exact .inr (by simp)
      · rcases mix_mem a b h with h | h
        · exact .inl (List.mem_cons_of_mem _ h)
        · exact .inr (List.mem_cons_of_mem _ h)
theorem mix_len {α : Type} : ∀ (a b : List α), (mix a b).length = a.length + b.length
  | [], b => by simp [mix]
  | x :: a, [] => by rw [mix_nil]; simp
  | x :: a, y :: b => by unfold mix; simp [mix_len a b]; omega
theorem dropG {α : Type} {l : List α} {k : Nat} {x : α} (h : l[k]? = some x) : l.drop k = x :: l.drop (k + 1) := by
  obtain ⟨h1, h2⟩ := List.getElem?_eq_some_iff.1 h
  rw [List.drop_eq_getElem_cons h1, h2]
theorem mixed_loop {a b : List ApiRide} (ha : a.length ≤ 100) (hb : b.length ≤ 100) : ∀ (n i : Nat) (out : List ApiRide), a.length + b.length + 1 ≤ n + i → i ≤ 200 → out.length ≤ 2 * i → whileN (law32_mixed_b1 a b) n ((i : Int), out) = some (.ret (out ++ mix (a.drop i) (b.drop i))) ∨ n = 0
  | 0, i, out, _, _, _ => .inr rfl
  | n + 1, i, out, hn, hi, ho => by
    refine .inl ?_
    have again : ∀ out', i + 1 ≤ 200 → out'.length ≤ 2 * (i + 1) → (a.length + b.length + 1 ≤ n + (i + 1)) → (i < a.length ∨ i < b.length) → whileN (law32_mixed_b1 a b) n (((i + 1 : Nat) : Int), out') = some (.ret (out' ++ mix (a.drop (i + 1)) (b.drop (i + 1)))) := fun out' h1 h2 h3 h4 => by
      rcases mixed_loop ha hb n (i + 1) out' h3 h1 h2 with h | h
      · exact h
      · omega
    unfold whileN law32_mixed_b1
    simp only
    by_cases h1 : i < a.length
    · have hx : a[i]? = some a[i] := List.getElem?_eq_getElem h1
      generalize a[i] = x at hx
      rw [decide_eq_true (show (i : Int) < ((a.length : Nat) : Int) by omega), cond_true, cond_true, cond_true, idxL_nat hx, Option.bind_some, chk_ok (by omega), wrap_add1 (by omega), dropG hx]
      by_cases h2 : i < b.length
      · have hy : b[i]? = some b[i] := List.getElem?_eq_getElem h2
        generalize b[i] = y at hy
        rw [decide_eq_true (show (i : Int) < ((b.length : Nat) : Int) by omega), cond_true, idxL_nat hy, Option.bind_some, chk_ok (by omega), dropG hy]
        show whileN (law32_mixed_b1 a b) n _ = _
        rw [again _ (by omega) (by simp; omega) (by omega) (.inl h1), mix_cons]
        simp
      · rw [decide_eq_false (show ¬ (i : Int) < ((b.length : Nat) : Int) by omega), cond_false]
        show whileN (law32_mixed_b1 a b) n _ = _
        rw [again _ (by omega) (by simp; omega) (by omega) (.inl h1), List.drop_of_length_le (i := i) (l := b) (by omega), List.drop_of_length_le (i := i + 1) (l := b) (by omega), mix_nil, mix_nil]
        simp
    · rw [decide_eq_false (show ¬ (i : Int) < ((a.length : Nat) : Int) by omega), cond_false, List.drop_of_length_le (i := i) (l := a) (by omega)]
      by_cases h2 : i < b.length
      · have hy : b[i]? = some b[i] := List.getElem?_eq_getElem h2
        generalize b[i] = y at hy
        rw [decide_eq_true (show (i : Int) < ((b.length : Nat) : Int) by omega), cond_true, cond_false, cond_true, idxL_nat hy, Option.bind_some, chk_ok (by omega), wrap_add1 (by omega), dropG hy]
        show whileN (law32_mixed_b1 a b) n _ = _
        rw [again _ (by omega) (by simp; omega) (by omega) (.inr h2), List.drop_of_length_le (i := i + 1) (l := a) (by omega)]
        simp [mix]
      · rw [decide_eq_false (show ¬ (i : Int) < ((b.length : Nat) : Int) by omega), cond_false, List.drop_of_length_le (i := i) (l := b) (by omega)]
        simp [mix, Out.cont]
theorem mixed_eq {a b : List ApiRide} (ha : a.length ≤ 100) (hb : b.length ≤ 100) : law32_mixed a b = some (mix a b) := by
  unfold law32_mixed
  rcases mixed_loop ha hb fuel 0 [] (by unfold fuel; omega) (by omega) (by simp) with h | h
  · simp only [Int.ofNat_eq_natCast, Int.natCast_zero] at h
    rw [h]; rfl
  · unfold fuel at h; omega

/-! ### honest rides -/
theorem early_iff {a b d : Int} (ha : 0 ≤ a ∧ a ≤ 4611686018427387904) (hb : -1 ≤ b ∧ b ≤ 4611686018427387904) (hd : 0 ≤ d ∧ d ≤ 4611686018427387904) : earlyV a b d = decide (b - a < d) := by
  unfold earlyV
  by_cases h : b < a
  · rw [decide_eq_true h, decide_eq_true (show b - a < d by omega)]; rfl
  · rw [decide_eq_false h, Bool.false_or]
    have e1 : IntKind.u64.wrap b = b := by rw [IntKind.wrap_u64]; omega
    have e2 : IntKind.u64.wrap a = a := by rw [IntKind.wrap_u64]; omega
    have e3 : IntKind.u64.wrap d = d := by rw [IntKind.wrap_u64]; omega
    have e4 : IntKind.u64.wrap (b - a) = b - a := by rw [IntKind.wrap_u64]; omega
    rw [e1, e2, e3, e4]
/-- what honest skiers' rides are, mixed in any way: those of each medium are honest -/
structure Honest (m : ApiMap) (l : List ApiRide) : Prop where
  len : l.length ≤ 1000
  parts : ∀ r ∈ l, ∃ legs, (∀ g ∈ legs, U8 g.Lift ∧ U8 g.Wait) ∧ RidesOK m r.Serial legs (l.filter fun q => decide (q.Serial = r.Serial))
theorem Honest.imp {m : ApiMap} (M : MapOK m) {l : List ApiRide} (h : Honest m l) (i : Nat) : impAt m l i = none := by
  cases hi : impAt m l i with
  | none => rfl
  | some p =>
    exfalso
    unfold impAt at hi
    obtain ⟨x, h1, h2⟩ := bindE hi
    obtain ⟨k, h3, h4⟩ := bindE h2
    obtain ⟨y, h5, h6⟩ := bindE h4
    obtain ⟨n1, n2, ⟨z, n3, n4⟩, n5⟩ := nx_some rfl h3
    rw [h5] at n3; obtain rfl := Option.some.inj n3
    obtain ⟨legs, hu, hR⟩ := h.parts x (List.mem_of_getElem? h1)
    have hpx : (fun q : ApiRide => decide (q.Serial = x.Serial)) x = true := by simp
    have hpy : (fun q : ApiRide => decide (q.Serial = x.Serial)) y = true := by simp [n4]
    have g1 := rk_get (p := fun q : ApiRide => decide (q.Serial = x.Serial)) h1 hpx
    have g2 := rk_get (p := fun q : ApiRide => decide (q.Serial = x.Serial)) h5 hpy
    have g3 : rk (fun q : ApiRide => decide (q.Serial = x.Serial)) l k = rk (fun q : ApiRide => decide (q.Serial = x.Serial)) l i + 1 := by
      have := rk_same (p := fun q : ApiRide => decide (q.Serial = x.Serial)) (l := l) (i := i + 1) (d := k - (i + 1)) (by omega) fun j w j1 j2 j3 => by simp; exact n5 j w j1 (by omega) j3
      rw [show i + 1 + (k - (i + 1)) = k by omega, rk_succ h1, if_pos hpx] at this
      exact this
    rw [g3] at g2
    obtain ⟨g, s1, s2, s3⟩ := hR.step _ x y g1 g2
    have e1 := hR.each _ x g1
    have e2 := hR.each _ y g2
    have hg : 0 ≤ g.Wait ∧ g.Wait ≤ 255 := (hu g (List.mem_of_getElem? s1)).2
    obtain ⟨_, _, t3⟩ := timeV_eq M x.Lift y.Lift
    have hb := t3.bound M
    have hrk : rk (fun q : ApiRide => decide (q.Serial = x.Serial)) l i ≤ 1000 := by
      unfold rk
      refine Nat.le_trans (List.length_filter_le _ _) ?_
      have := h.len
      simp; omega
    have : badP m x y = false := by
      unfold badP
      rw [s2, early_iff (by omega) (by omega) (by omega), decide_eq_false (by omega)]; rfl
    rw [this] at h6
    cases h6
theorem Honest.keys {m : ApiMap} {l : List ApiRide} (h : Honest m l) {i j : Nat} {x y : ApiRide} (hij : i < j) (hx : l[i]? = some x) (hy : l[j]? = some y) : keyR x ≠ keyR y := by
  intro e
  obtain ⟨e1, e2⟩ := pk_inj e
  obtain ⟨legs, _, hR⟩ := h.parts x (List.mem_of_getElem? hx)
  have hpx : (fun q : ApiRide => decide (q.Serial = x.Serial)) x = true := by simp
  have hpy : (fun q : ApiRide => decide (q.Serial = x.Serial)) y = true := by simp [e1]
  have g1 := hR.each _ _ (rk_get (p := fun q : ApiRide => decide (q.Serial = x.Serial)) hx hpx)
  have g2 := hR.each _ _ (rk_get (p := fun q : ApiRide => decide (q.Serial = x.Serial)) hy hpy)
  have hj := (List.getElem?_eq_some_iff.1 hy).1
  have := rk_mono (p := fun q : ApiRide => decide (q.Serial = x.Serial)) (l := l) (i := i + 1) (d := j - (i + 1)) (by omega)
  rw [show i + 1 + (j - (i + 1)) = j by omega, rk_succ hx, if_pos hpx] at this
  omega
theorem Honest.none {m : ApiMap} (M : MapOK m) {l : List ApiRide} (h : Honest m l) : fraud_Impossible m l = some [] ∧ fraud_Clones l = some [] ∧ fraud_Suspects m l = some [] := by
  have hlen := h.len
  refine ⟨?_, ?_, ?_⟩
  · rw [fimp_eq M (by omega)]
    have : impL m l = [] := by
      refine List.eq_nil_iff_forall_not_mem.2 fun p hp => ?_
      obtain ⟨i, _, h2⟩ := impL_mem.1 hp
      rw [h.imp M i] at h2; cases h2
    rw [this]
  · rw [fclones_eq (by omega)]
    have : clL 0 l = [] := by
      refine List.eq_nil_iff_forall_not_mem.2 fun p hp => ?_
      obtain ⟨i, j, x, y, h1, h2, h3, h4, _⟩ := clL_mem.1 hp
      exact h.keys h1 h2 h3 h4
    rw [this]
  · obtain ⟨r, h1, _, _, h2⟩ := sus_same M (l := l) (by omega)
    have : r = [] := by
      refine List.eq_nil_iff_forall_not_mem.2 fun a ha => ?_
      rcases (h2 a).1 ha with ⟨i, x, p, g1, _⟩ | ⟨i, j, x, y, g1, g2, g3, g4, _⟩
      · rw [h.imp M i] at g1; cases g1
      · exact h.keys g1 g2 g3 g4
    rw [h1, this]
theorem law32_FraudHonest_true (m : ApiMap) (a b : List Skilaw32Leg) (hm : OkApiMap m) (ha : OkL OkSkilaw32Leg a) (hb : OkL OkSkilaw32Leg b) : law32_FraudHonest m a b = some true := by
  unfold law32_FraudHonest
  obtain ⟨r, h1, h2⟩ := right10_eq m
  rw [alive32, Option.bind_some, h1, Bool.not_true, cond_false, Option.bind_some]
  by_cases hr : r = 0
  · subst hr
    have M := h2.1 rfl
    rw [decide_eq_false (by simp), cond_false]
    by_cases c1 : ((m.Lifts.length : Nat) : Int) = 0
    · rw [decide_eq_true c1]; rfl
    rw [decide_eq_false c1, cond_false]
    by_cases c2 : (20 : Int) < ((a.length : Nat) : Int)
    · rw [decide_eq_true c2]; rfl
    rw [decide_eq_false c2, cond_false]
    by_cases c3 : (20 : Int) < ((b.length : Nat) : Int)
    · rw [decide_eq_true c3]; rfl
    rw [decide_eq_false c3, cond_false]
    obtain ⟨x, ok, x1, x2⟩ := rides_eq M (by omega) 7 (fr := 500) (by omega) (legs := a) (by omega) ha.2
    obtain ⟨y, is, y1, y2⟩ := rides_eq M (by omega) 8 (fr := 400) (by omega) (legs := b) (by omega) hb.2
    rw [x1, y1, Option.bind_some, Option.bind_some]
    cases ok with
    | false => rfl
    | true =>
    cases is with
    | false => rfl
    | true =>
      obtain ⟨xl, xR⟩ := x2 rfl
      obtain ⟨yl, yR⟩ := y2 rfl
      simp only [Bool.not_true, cond_false]
      rw [mixed_eq (by omega) (by omega), Option.bind_some]
      have sx : ∀ q ∈ x, q.Serial = 7 := fun q hq => by
        obtain ⟨i, hi, rfl⟩ := List.getElem_of_mem hq
        exact (xR.each i _ (List.getElem?_eq_getElem hi)).1
      have sy : ∀ q ∈ y, q.Serial = 8 := fun q hq => by
        obtain ⟨i, hi, rfl⟩ := List.getElem_of_mem hq
        exact (yR.each i _ (List.getElem?_eq_getElem hi)).1
      have H : Honest m (mix x y) := ⟨by rw [mix_len]; omega, fun r hr => by
        rcases mix_mem x y hr with h | h
        · rw [sx r h, mix_filter _ x y (fun z hz => by simp [sx z hz]) (fun z hz => by simp [sy z hz])]
          exact ⟨a, ha.2, xR⟩
        · rw [sy r h, mix_filter' _ x y (fun z hz => by simp [sx z hz]) (fun z hz => by simp [sy z hz])]
          exact ⟨b, hb.2, yR⟩⟩
      obtain ⟨e1, e2, e3⟩ := H.none M
      rw [e1, e2, e3]; rfl
  · rw [decide_eq_true hr]; rfl
end Go.Proofs.Ytmfjcimogpmheaa
