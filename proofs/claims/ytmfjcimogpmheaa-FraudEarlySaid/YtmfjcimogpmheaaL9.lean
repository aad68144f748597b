/-
  Layer 32 (fraud): an early ride is reported, in plain Lean.
-/
import Derived.Test.YtmfjcimogpmheaaL8
namespace Go.Proofs.Ytmfjcimogpmheaa
open Go Go.Ab
set_option linter.unusedSimpArgs false
set_option linter.unusedVariables false

theorem fm_one {β : Type} {f : Nat → Option β} {i : Nat} {v : β} (hi : f i = some v) : ∀ {n : Nat}, (∀ j, j < n → j ≠ i → f j = none) → (List.range n).filterMap f = if i < n then [v] else []
  | 0, _ => by simp
  | n + 1, h => by
    rw [List.range_succ, List.filterMap_append, fm_one hi (n := n) fun j hj hne => h j (by omega) hne]
    by_cases e : i = n
    · subst e
      simp [hi]
    · have := h n (by omega) (fun k => e k.symm)
      by_cases e' : i < n
      · rw [if_pos e', if_pos (by omega)]; simp [this]
      · rw [if_neg e', if_neg (by omega)]; simp [this]
theorem early_iff' {a b d : Int} (ha : -1000 ≤ a ∧ a ≤ 4611686018427387904) (hb : -1000 ≤ b ∧ b ≤ 4611686018427387904) (hd : 0 ≤ d ∧ d ≤ 4611686018427387904) : earlyV a b d = decide (b - a < d) := by
  unfold earlyV
  by_cases h : b < a
  · rw [decide_eq_true h, decide_eq_true (show b - a < d by omega)]; rfl
  · rw [decide_eq_false h, Bool.false_or]
    have e3 : IntKind.u64.wrap d = d := by rw [IntKind.wrap_u64]; omega
    have e4 : IntKind.u64.wrap (IntKind.u64.wrap b - IntKind.u64.wrap a) = b - a := by
      rw [IntKind.wrap_u64, IntKind.wrap_u64, IntKind.wrap_u64]; omega
    rw [e3, e4]
def shiftR (e : Int) (r : ApiRide) : ApiRide := ⟨r.Gate, r.Seq, r.Serial, r.Counter, r.Product, r.Lift, r.At - e⟩
/-- an early list: the rides from i on are early -/
structure Early (x : List ApiRide) (i : Nat) (e : Int) (s : List ApiRide) : Prop where
  len : s.length = x.length
  get : ∀ (j : Nat) r, x[j]? = some r → s[j]? = some (if i ≤ j then shiftR e r else r)
theorem early_list {m : ApiMap} (M : MapOK m) {legs : List Skilaw32Leg} (hu : ∀ g ∈ legs, U8 g.Lift ∧ U8 g.Wait) {x s : List ApiRide} (hl : x.length ≤ 20) (hR : RidesOK m 7 legs x) {i : Nat} {g : Skilaw32Leg} (h0 : 0 < i) (hi : i < x.length) (hg : legs[i]? = some g) (hs : Early x i (1 + g.Wait) s) :
    fraud_Impossible m s = some [⟨((i - 1 : Nat) : Int), (i : Int)⟩] ∧ fraud_Suspects m s = some [7] := by
  have hsl := hs.len
  have hgw : 0 ≤ g.Wait ∧ g.Wait ≤ 255 := (hu g (List.mem_of_getElem? hg)).2
  have ser : ∀ (j : Nat) r, s[j]? = some r → r.Serial = 7 := fun j r hr => by
    have hj := (List.getElem?_eq_some_iff.1 hr).1
    have hx : x[j]? = some (x[j]'(by omega)) := List.getElem?_eq_getElem _
    generalize x[j]'(by omega) = q at hx
    have := hs.get j q hx
    rw [hr] at this
    have := Option.some.inj this
    have hq := (hR.each j q hx).1
    subst this
    split
    · exact hq
    · exact hq
  have at_ : ∀ j, j < s.length → impAt m s j = if j + 1 = i then some ⟨((i - 1 : Nat) : Int), (i : Int)⟩ else none := fun j hj => by
    have hx : x[j]? = some (x[j]'(by omega)) := List.getElem?_eq_getElem _
    generalize x[j]'(by omega) = q at hx
    have hsj := hs.get j q hx
    by_cases hlast : j + 1 < s.length
    · have hx' : x[j + 1]? = some (x[j + 1]'(by omega)) := List.getElem?_eq_getElem _
      generalize x[j + 1]'(by omega) = q' at hx'
      have hsj' := hs.get (j + 1) q' hx'
      have hnx : nx (if i ≤ j then shiftR (1 + g.Wait) q else q).Serial (j + 1) (s.drop (j + 1)) = some (j + 1) := nx_of (Nat.le_refl _) hsj' (by rw [ser _ _ hsj', ser _ _ hsj]) fun k z h1 h2 => by omega
      unfold impAt
      rw [hsj, Option.bind_some, hnx, Option.bind_some, hsj', Option.bind_some]
      obtain ⟨g', s1, s2, s3⟩ := hR.step j q q' hx hx'
      have e1 := hR.each _ q hx
      have e2 := hR.each _ q' hx'
      have hg' : 0 ≤ g'.Wait ∧ g'.Wait ≤ 255 := (hu g' (List.mem_of_getElem? s1)).2
      obtain ⟨_, _, t3⟩ := timeV_eq M q.Lift q'.Lift
      have hb := t3.bound M
      by_cases c : j + 1 = i
      · rw [if_pos c, if_neg (show ¬ i ≤ j by omega), if_pos (show i ≤ j + 1 by omega)]
        rw [c] at s1
        rw [hg] at s1; obtain rfl := Option.some.inj s1
        have : badP m q (shiftR (1 + g.Wait) q') = true := by
          unfold badP shiftR
          simp only
          rw [s2, early_iff' (by omega) (by omega) (by omega), decide_eq_true (by omega)]; rfl
        rw [if_pos this, show i - 1 = j by omega, c]
      · rw [if_neg c]
        have : badP m (if i ≤ j then shiftR (1 + g.Wait) q else q) (if i ≤ j + 1 then shiftR (1 + g.Wait) q' else q') = false := by
          by_cases c' : i ≤ j
          · rw [if_pos c', if_pos (show i ≤ j + 1 by omega)]
            unfold badP shiftR
            simp only
            rw [s2, early_iff' (by omega) (by omega) (by omega), decide_eq_false (by omega)]; rfl
          · rw [if_neg c', if_neg (show ¬ i ≤ j + 1 by omega)]
            unfold badP
            rw [s2, early_iff' (by omega) (by omega) (by omega), decide_eq_false (by omega)]; rfl
        rw [this]; simp
    · have hnx : nx (if i ≤ j then shiftR (1 + g.Wait) q else q).Serial (j + 1) (s.drop (j + 1)) = none := by
        rw [List.drop_of_length_le (by omega)]; rfl
      unfold impAt
      rw [hsj, Option.bind_some, hnx, if_neg (show ¬ j + 1 = i by omega)]; rfl
  have himp : impL m s = [⟨((i - 1 : Nat) : Int), (i : Int)⟩] := by
    unfold impL
    rw [fm_one (i := i - 1) (v := ⟨((i - 1 : Nat) : Int), (i : Int)⟩) (by rw [at_ _ (by omega), if_pos (by omega)]) fun j hj hne => by rw [at_ j hj, if_neg (by omega)], if_pos (by omega)]
  refine ⟨by rw [fimp_eq M (by omega), himp], ?_⟩
  obtain ⟨r, h1, _, h2, h3⟩ := sus_same M (l := s) (by omega)
  have : r = [7] := inc_ext h2 (by simp [Inc]) fun a => by
    rw [h3]
    constructor
    · rintro (⟨j, y, p, _, g2, g3⟩ | ⟨j, k, y, z, _, g2, _, _, g3⟩)
      · rw [← g3, ser j y g2]; simp
      · rw [← g3, ser j y g2]; simp
    · intro ha
      have ha : a = 7 := by simpa using ha
      subst ha
      have hx : s[i - 1]? = some (s[i - 1]'(by omega)) := List.getElem?_eq_getElem _
      exact .inl ⟨i - 1, _, _, by rw [at_ _ (by omega), if_pos (by omega)], hx, ser _ _ hx⟩
  rw [h1, this]
theorem law32_FraudEarly_true (m : ApiMap) (a : List Skilaw32Leg) (at_ : Int) (hm : OkApiMap m) (ha : OkL OkSkilaw32Leg a) (hat : U8 at_) : law32_FraudEarly m a at_ = some true := by
  unfold law32_FraudEarly
  obtain ⟨r, h1, h2⟩ := right10_eq m
  rw [alive32, Option.bind_some, h1, Bool.not_true, cond_false, Option.bind_some]
  by_cases hr : r = 0
  · subst hr
    have M := h2.1 rfl
    rw [decide_eq_false (by simp), cond_false]
    by_cases c1 : ((m.Lifts.length : Nat) : Int) = 0
    · rw [decide_eq_true c1]; rfl
    rw [decide_eq_false c1, cond_false]
    by_cases c2 : (20 : Int) < ((a.length : Nat) : Int)
    · rw [decide_eq_true c2]; rfl
    rw [decide_eq_false c2, cond_false]
    by_cases c3 : ((a.length : Nat) : Int) < 2
    · rw [decide_eq_true c3]; rfl
    rw [decide_eq_false c3, cond_false]
    obtain ⟨x, ok, x1, x2⟩ := rides_eq M (by omega) 7 (fr := 500) (by omega) (legs := a) (by omega) ha.2
    rw [x1, Option.bind_some]
    cases ok with
    | false => rfl
    | true =>
      obtain ⟨xl, xR⟩ := x2 rfl
      simp only [Bool.not_true, cond_false]
      have hl1 : IntKind.i64.wrap (((a.length : Nat) : Int) - 1) = ((a.length - 1 : Nat) : Int) := wrap_pred (by omega) (by omega)
      obtain ⟨q, q1, q2⟩ := tmod_place (n := a.length - 1) hat (by omega)
      have hi : IntKind.i64.wrap ((1 : Int) + Int.tmod (IntKind.i64.wrap at_) (IntKind.i64.wrap (((a.length : Nat) : Int) - 1))) = ((q + 1 : Nat) : Int) := by
        rw [hl1, q1, wrap_i64 (by omega) (by omega)]; omega
      have hg : a[q + 1]? = some (a[q + 1]'(by omega)) := List.getElem?_eq_getElem _
      generalize a[q + 1]'(by omega) = g at hg
      have hgw : 0 ≤ g.Wait ∧ g.Wait ≤ 255 := (ha.2 g (List.mem_of_getElem? hg)).2
      rw [hi, idxL_nat hg, Option.bind_some, nz_ok (by rw [hl1]; omega)]
      obtain ⟨b, e1, e2⟩ := whileN_count (step := law32_FraudEarly_b1 m a at_ g) (fun c s => s.1 = ((q + 1 + c : Nat) : Int) ∧ q + 1 + c ≤ x.length ∧ s.2.length = x.length ∧ ∀ (j : Nat) r, x[j]? = some r → s.2[j]? = some (if q + 1 ≤ j ∧ j < q + 1 + c then shiftR (1 + g.Wait) r else r)) (fun b => b = true) 20 (fun c s ⟨i1, i2, i3, i4⟩ => by
        obtain ⟨k, s⟩ := s
        simp only at i1 i3 i4
        subst i1
        unfold law32_FraudEarly_b1
        simp only
        rw [hi]
        by_cases hend : q + 1 + c < x.length
        · rw [decide_eq_true (by omega), cond_true]
          have hx : x[q + 1 + c]? = some (x[q + 1 + c]'(by omega)) := List.getElem?_eq_getElem _
          generalize x[q + 1 + c]'(by omega) = rd at hx
          have hs := i4 _ _ hx
          rw [if_neg (by omega)] at hs
          have hrd := xR.each _ _ hx
          rw [idxL_nat hs, Option.bind_some, wrap_i64 (x := g.Wait) (by omega) (by omega), wrap_i64 (x := 1 + g.Wait) (by omega) (by omega), wrap_i64 (x := rd.At - _) (by omega) (by omega), wrap_add1 (by omega), Int.toNat_natCast]
          refine .inl ⟨_, rfl, by omega, rfl, by omega, by simp; omega, fun j r hr => ?_⟩
          simp only
          rw [setI_get (by omega)]
          by_cases hj : j = q + 1 + c
          · subst hj
            rw [hx] at hr; obtain rfl := Option.some.inj hr
            rw [if_pos rfl, if_pos (by omega)]; rfl
          · rw [if_neg hj, i4 j r hr]
            by_cases hc : q + 1 ≤ j ∧ j < q + 1 + c
            · rw [if_pos hc, if_pos (by omega)]
            · rw [if_neg hc, if_neg (by omega)]
        · rw [decide_eq_false (by omega), cond_false]
          obtain ⟨f1, f2⟩ := early_list M ha.2 (x := x) (s := s) (by omega) xR (i := q + 1) (by omega) (by omega) hg ⟨i3, fun j r hr => by
            have hj := (List.getElem?_eq_some_iff.1 hr).1
            rw [i4 j r hr]
            by_cases hc : q + 1 ≤ j
            · rw [if_pos hc, if_pos (by omega)]
            · rw [if_neg hc, if_neg (by omega)]⟩
          rw [f1, f2]
          refine .inr ⟨true, ?_, rfl⟩
          have w1 : IntKind.i64.wrap (((q + 1 : Nat) : Int) - 1) = ((q + 1 - 1 : Nat) : Int) := wrap_pred (by omega) (by omega)
          rw [w1]
          simp [idxL]) fuel 0 (((q + 1 : Nat) : Int), x) ⟨rfl, by omega, rfl, fun j r hr => by rw [if_neg (by omega)]; exact hr⟩ (by unfold fuel; omega) (by omega)
      rw [e1, e2]; rfl
  · rw [decide_eq_true hr]; rfl
end Go.Proofs.Ytmfjcimogpmheaa
