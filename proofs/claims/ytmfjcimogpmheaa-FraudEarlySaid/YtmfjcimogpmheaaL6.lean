/-
  Layer 32 (fraud): successive rides, too early ones, clones, in plain Lean.
-/
import Derived.Test.YtmfjcimogpmheaaL5
namespace Go.Proofs.Ytmfjcimogpmheaa
open Go Go.Ab
set_option linter.unusedSimpArgs false
set_option linter.unusedVariables false

/-- the first place at k or behind with a serial number -/
def nx (s : Int) : Nat → List ApiRide → Option Nat
  | _, [] => none
  | k, x :: l => if x.Serial = s then some k else nx s (k + 1) l
theorem nx_some {s : Int} {l : List ApiRide} : ∀ {d k j : Nat}, l.length - k = d → nx s k (l.drop k) = some j → k ≤ j ∧ j < l.length ∧ (∃ y, l[j]? = some y ∧ y.Serial = s) ∧ ∀ i y, k ≤ i → i < j → l[i]? = some y → y.Serial ≠ s
  | 0, k, j, hd, h => by rw [List.drop_of_length_le (by omega)] at h; cases h
  | d + 1, k, j, hd, h => by
    have hlt : k < l.length := by omega
    rw [List.drop_eq_getElem_cons hlt] at h
    unfold nx at h
    split at h
    · rename_i hs
      obtain rfl := Option.some.inj h
      exact ⟨Nat.le_refl _, hlt, ⟨_, List.getElem?_eq_getElem hlt, hs⟩, fun i y h1 h2 => by omega⟩
    · rename_i hs
      obtain ⟨h1, h2, h3, h4⟩ := nx_some (d := d) (by omega) h
      refine ⟨by omega, h2, h3, fun i y g1 g2 g3 => ?_⟩
      by_cases e : i = k
      · subst e
        rw [List.getElem?_eq_getElem hlt] at g3
        obtain rfl := Option.some.inj g3
        exact hs
      · exact h4 i y (by omega) g2 g3
theorem nx_none {s : Int} {l : List ApiRide} : ∀ {d k : Nat}, l.length - k = d → nx s k (l.drop k) = none → ∀ i y, k ≤ i → l[i]? = some y → y.Serial ≠ s
  | 0, k, hd, h, i, y, h1, h2 => by have := (List.getElem?_eq_some_iff.1 h2).1; omega
  | d + 1, k, hd, h, i, y, h1, h2 => by
    have hlt : k < l.length := by omega
    rw [List.drop_eq_getElem_cons hlt] at h
    unfold nx at h
    split at h
    · cases h
    · rename_i hs
      by_cases e : i = k
      · subst e
        rw [List.getElem?_eq_getElem hlt] at h2
        obtain rfl := Option.some.inj h2
        exact hs
      · exact nx_none (d := d) (by omega) h i y (by omega) h2
theorem nx_of {s : Int} {l : List ApiRide} {k j : Nat} {y : ApiRide} (hk : k ≤ j) (hy : l[j]? = some y) (hs : y.Serial = s) (hn : ∀ i z, k ≤ i → i < j → l[i]? = some z → z.Serial ≠ s) : nx s k (l.drop k) = some j := by
  cases h : nx s k (l.drop k) with
  | none => exact absurd hs (nx_none rfl h j y hk hy)
  | some j' =>
    obtain ⟨h1, h2, ⟨z, h3, h3'⟩, h4⟩ := nx_some rfl h
    rcases Nat.lt_trichotomy j j' with e | e | e
    · exact absurd hs (h4 j y hk e hy)
    · rw [e]
    · exact absurd h3' (hn j' z h1 e h3)
def val0 : Option Nat → Int
  | none => 0
  | some j => j
theorem drop_some {l : List ApiRide} {k : Nat} {x : ApiRide} (h : l[k]? = some x) : l.drop k = x :: l.drop (k + 1) := by
  obtain ⟨h1, h2⟩ := List.getElem?_eq_some_iff.1 h
  rw [List.drop_eq_getElem_cons h1, h2]
theorem next_from {l : List ApiRide} (hl : l.length ≤ 1000000) {i : Nat} {x : ApiRide} (hi : l[i]? = some x) : ∀ (n k : Nat), l.length - k < n → k ≤ l.length → whileN (ref32_next_b1 l (i : Int)) n (k : Int) = some (.ret (match nx x.Serial k (l.drop k) with | some j => (j : Int) | none => -1))
  | 0, k, h, _ => by omega
  | n + 1, k, h, hk => by
    rw [whileN]
    by_cases hlt : k < l.length
    · have hx : l[k]? = some l[k] := List.getElem?_eq_getElem hlt
      generalize l[k] = y at hx
      have st : ref32_next_b1 l (i : Int) (k : Int) = bif decide (y.Serial = x.Serial) then some (.ret (k : Int)) else some (.next ((k + 1 : Nat) : Int)) := by
        unfold ref32_next_b1
        rw [decide_eq_true (by omega), cond_true, idxL_nat hx, idxL_nat hi, Option.bind_some, Option.bind_some, wrap_add1 (by omega)]
      rw [st, drop_some hx]
      unfold nx
      by_cases hs : y.Serial = x.Serial
      · rw [decide_eq_true hs, cond_true, if_pos hs]; rfl
      · rw [decide_eq_false hs, cond_false, if_neg hs]
        exact next_from hl hi n (k + 1) (by omega) (by omega)
    · have st : ref32_next_b1 l (i : Int) (k : Int) = some (.ret (-1)) := by
        unfold ref32_next_b1
        rw [decide_eq_false (by omega), cond_false]
      rw [st, List.drop_of_length_le (by omega)]; rfl
theorem next_eq {l : List ApiRide} (hl : l.length ≤ 1000000) {i : Nat} {x : ApiRide} (hi : l[i]? = some x) : ref32_next l (i : Int) = some (match nx x.Serial (i + 1) (l.drop (i + 1)) with | some j => (j : Int) | none => -1) := by
  have := (List.getElem?_eq_some_iff.1 hi).1
  unfold ref32_next
  rw [wrap_add1 (by omega), next_from hl hi fuel (i + 1) (by unfold fuel; omega) (by omega)]; rfl
theorem setI_get {α : Type} {l : List α} {i : Nat} (hi : i < l.length) (v : α) (k : Nat) : (l.set i v)[k]? = if k = i then some v else l[k]? := by
  rw [List.getElem?_set]
  by_cases h : i = k
  · subst h; simp [hi]
  · rw [if_neg h, if_neg (fun e => h e.symm)]
theorem successors_eq {l : List ApiRide} (hl : l.length ≤ 1000000) : ∃ y, fraud_successors l = some y ∧ y.length = l.length ∧ ∀ (i : Nat) x, l[i]? = some x → y[i]? = some (val0 (nx x.Serial (i + 1) (l.drop (i + 1)))) := by
  obtain ⟨r, h1, h2, h3⟩ := whileN_count (step := fraud_successors_b1 l) (fun c s => s.1 = (l.length : Int) - c - 1 ∧ c ≤ l.length ∧ s.2.1.length = l.length ∧ (∀ (i : Nat) x, l.length - c ≤ i → l[i]? = some x → s.2.1[i]? = some (val0 (nx x.Serial (i + 1) (l.drop (i + 1))))) ∧ ∀ q, mget (0 : Int) s.2.2 q = val0 (nx q (l.length - c) (l.drop (l.length - c))))
    (fun y => y.length = l.length ∧ ∀ (i : Nat) x, l[i]? = some x → y[i]? = some (val0 (nx x.Serial (i + 1) (l.drop (i + 1))))) l.length (fun c s ⟨i1, i2, i3, i4, i5⟩ => by
      obtain ⟨i, out, g⟩ := s
      simp only at i1 i3 i4 i5
      subst i1
      unfold fraud_successors_b1
      simp only
      by_cases hc : c = l.length
      · subst hc
        rw [decide_eq_false (by omega), cond_false]
        exact .inr ⟨_, rfl, i3, fun i x hx => i4 i x (by omega) hx⟩
      · obtain ⟨p, hp⟩ : ∃ p : Nat, l.length = p + c + 1 := ⟨l.length - c - 1, by omega⟩
        have e1 : (l.length : Int) - c - 1 = (p : Int) := by omega
        rw [e1]
        have hx : l[p]? = some (l[p]'(by omega)) := List.getElem?_eq_getElem _
        generalize l[p]'(by omega) = x at hx
        rw [decide_eq_true (by omega), cond_true, idxL_nat hx, Option.bind_some, idxL_lt (by omega), Option.bind_some, Int.toNat_natCast]
        have e2 : l.length - c = p + 1 := by omega
        rw [e2] at i4 i5
        refine .inl ⟨_, rfl, by omega, ?_, by omega, by simp; omega, fun i y hi hy => ?_, fun q => ?_⟩
        · simp only; rw [wrap_i64] <;> omega
        · simp only
          rw [setI_get (by omega)]
          by_cases h : i = p
          · subst h
            rw [hx] at hy; obtain rfl := Option.some.inj hy
            rw [if_pos rfl, i5]
          · rw [if_neg h]; exact i4 i y (by omega) hy
        · simp only
          rw [mget_mset, show l.length - (c + 1) = p by omega, drop_some hx]
          unfold nx
          by_cases h : x.Serial = q
          · rw [if_pos h, if_pos h]; rfl
          · rw [if_neg h, if_neg h]; exact i5 q) fuel 0 ((l.length : Int) - 1, List.replicate l.length 0, []) ⟨by simp, by omega, by simp, fun i x hi hx => by have := (List.getElem?_eq_some_iff.1 hx).1; omega, fun q => by simp [mget, nx, val0]⟩ (by unfold fuel; omega) (by omega)
  refine ⟨r, ?_, h2, h3⟩
  unfold fraud_successors
  rw [chk_ok (by omega), wrap_i64 (by omega) (by omega), h1]; rfl

/-! ### too early -/
def earlyV (a b d : Int) : Bool := decide (b < a) || decide (IntKind.u64.wrap (IntKind.u64.wrap b - IntKind.u64.wrap a) < IntKind.u64.wrap d)
theorem early_eq (a b d : Int) : fraud_early a b d = some (earlyV a b d) := by
  unfold fraud_early earlyV
  by_cases h : b < a
  · rw [decide_eq_true h]; rfl
  · rw [decide_eq_false h]; rfl
theorem rearly_eq (a b d : Int) : ref32_early a b d = some (earlyV a b d) := early_eq a b d
def timeV (m : ApiMap) (a b : Int) : Int × Bool := (fraud_Time m a b).getD (0, false)
theorem timeV_eq {m : ApiMap} (M : MapOK m) (a b : Int) : fraud_Time m a b = some (timeV m a b) ∧ ref32_Time m a b = some (timeV m a b) ∧ TimeRes m a b (timeV m a b) := by
  obtain ⟨r, h1, h2, h3⟩ := time_eq M a b
  have : timeV m a b = r := by unfold timeV; rw [h1]; rfl
  rw [this]; exact ⟨h1, h2, h3⟩
def badP (m : ApiMap) (x y : ApiRide) : Bool := !(timeV m x.Lift y.Lift).2 || earlyV x.At y.At (timeV m x.Lift y.Lift).1
def impAt (m : ApiMap) (l : List ApiRide) (i : Nat) : Option ApiSuspicion :=
  (l[i]?).bind fun x => (nx x.Serial (i + 1) (l.drop (i + 1))).bind fun k => (l[k]?).bind fun y => if badP m x y then some ⟨(i : Int), (k : Int)⟩ else none
def impL (m : ApiMap) (l : List ApiRide) : List ApiSuspicion := (List.range l.length).filterMap (impAt m l)
theorem imp_succ (m : ApiMap) (l : List ApiRide) (k : Nat) : (List.range (k + 1)).filterMap (impAt m l) = (List.range k).filterMap (impAt m l) ++ (impAt m l k).toList := by
  rw [List.range_succ, List.filterMap_append]
  cases h : impAt m l k <;> simp [h]
theorem filterMap_len {α β : Type} (f : α → Option β) (l : List α) : (l.filterMap f).length ≤ l.length := List.length_filterMap_le f l
theorem rimp_eq {m : ApiMap} (M : MapOK m) {l : List ApiRide} (hl : l.length ≤ 1000000) : ref32_Impossible m l = some (impL m l) := by
  obtain ⟨s, h1, h2⟩ := forIx_run (ρ := List ApiSuspicion) (step := ref32_Impossible_b1 m l) (l := l) (s := []) (fun k s => s = (List.range k).filterMap (impAt m l)) rfl (fun k x s hk hI => by
    have hlt := (List.getElem?_eq_some_iff.1 hk).1
    have hsl : s.length ≤ k := by rw [hI]; exact Nat.le_trans (filterMap_len _ _) (by simp)
    have key : ∃ s', ref32_Impossible_b1 m l k x s = some (.next s') ∧ s' = s ++ (impAt m l k).toList := by
      unfold ref32_Impossible_b1 impAt
      rw [next_eq hl hk, Option.bind_some, hk, Option.bind_some]
      cases hn : nx x.Serial (k + 1) (l.drop (k + 1)) with
      | none => exact ⟨s, rfl, by simp⟩
      | some j =>
        obtain ⟨j1, j2, ⟨y, j3, j4⟩, j5⟩ := nx_some rfl hn
        simp only
        obtain ⟨t1, t2, t3⟩ := timeV_eq M x.Lift y.Lift
        rw [decide_eq_false (by omega), cond_false, idxL_nat j3, Option.bind_some, t2, Option.bind_some, Option.bind_some, j3, Option.bind_some]
        unfold badP
        cases (timeV m x.Lift y.Lift).2 with
        | false => rw [chk_ok (by omega)]; exact ⟨_, rfl, by simp⟩
        | true =>
          rw [Bool.not_true, cond_false, rearly_eq, Option.bind_some]
          cases earlyV x.At y.At (timeV m x.Lift y.Lift).1 with
          | true => rw [cond_true, chk_ok (by omega)]; exact ⟨_, rfl, by simp⟩
          | false => exact ⟨_, rfl, by simp⟩
    obtain ⟨s', e1, e2⟩ := key
    exact ⟨s', e1, by rw [e2, hI, imp_succ]⟩)
  unfold ref32_Impossible
  rw [h1, h2]; rfl
theorem fimp_eq {m : ApiMap} (M : MapOK m) {l : List ApiRide} (hl : l.length ≤ 1000000) : fraud_Impossible m l = some (impL m l) := by
  obtain ⟨y, y1, y2, y3⟩ := successors_eq hl
  obtain ⟨s, h1, h2, h3⟩ := forIx_run (ρ := List ApiSuspicion) (step := fraud_Impossible_b1 m l) (l := y) (s := ([], [])) (fun k s => s.2 = (List.range k).filterMap (impAt m l) ∧ ∀ a b, mhas s.1 (pk a b) = true → mget (FraudLeast.mk 0 false) s.1 (pk a b) = ⟨(timeV m a b).1, (timeV m a b).2⟩) ⟨rfl, fun a b h => by cases h⟩ (fun k v s hk ⟨hI, hJ⟩ => by
    obtain ⟨g, s⟩ := s
    simp only at hI hJ
    have hlt := (List.getElem?_eq_some_iff.1 hk).1
    have hsl : s.length ≤ k := by rw [hI]; exact Nat.le_trans (filterMap_len _ _) (by simp)
    have hx : l[k]? = some (l[k]'(by omega)) := List.getElem?_eq_getElem _
    generalize l[k]'(by omega) = x at hx
    have hv := y3 k x hx
    rw [hk] at hv
    obtain rfl := Option.some.inj hv
    have key : ∃ g' s', fraud_Impossible_b1 m l k (val0 (nx x.Serial (k + 1) (l.drop (k + 1)))) (g, s) = some (.next (g', s')) ∧ s' = s ++ (impAt m l k).toList ∧ ∀ a b, mhas g' (pk a b) = true → mget (FraudLeast.mk 0 false) g' (pk a b) = ⟨(timeV m a b).1, (timeV m a b).2⟩ := by
      unfold fraud_Impossible_b1 impAt
      rw [hx, Option.bind_some]
      cases hn : nx x.Serial (k + 1) (l.drop (k + 1)) with
      | none => exact ⟨g, s, rfl, by simp, hJ⟩
      | some j =>
        obtain ⟨j1, j2, ⟨z, j3, j4⟩, j5⟩ := nx_some rfl hn
        unfold val0
        simp only
        obtain ⟨t1, t2, t3⟩ := timeV_eq M x.Lift z.Lift
        rw [decide_eq_false (by omega), cond_false, idxL_nat hx, Option.bind_some, idxL_nat j3, Option.bind_some, Option.bind_some, j3, Option.bind_some]
        unfold badP
        cases hm : mhas g (pk x.Lift z.Lift) with
        | true =>
          rw [hJ _ _ hm]
          simp only
          rw [Bool.not_true, cond_false]
          cases (timeV m x.Lift z.Lift).2 with
          | false => rw [chk_ok (by omega)]; exact ⟨_, _, rfl, by simp, hJ⟩
          | true =>
            rw [Bool.not_true, cond_false, early_eq, Option.bind_some]
            cases earlyV x.At z.At (timeV m x.Lift z.Lift).1 with
            | true => rw [cond_true, chk_ok (by omega)]; exact ⟨_, _, rfl, by simp, hJ⟩
            | false => exact ⟨_, _, rfl, by simp, hJ⟩
        | false =>
          have hJ' : ∀ a b, mhas (mset g (pk x.Lift z.Lift) (FraudLeast.mk (timeV m x.Lift z.Lift).1 (timeV m x.Lift z.Lift).2)) (pk a b) = true → mget (FraudLeast.mk 0 false) (mset g (pk x.Lift z.Lift) (FraudLeast.mk (timeV m x.Lift z.Lift).1 (timeV m x.Lift z.Lift).2)) (pk a b) = ⟨(timeV m a b).1, (timeV m a b).2⟩ := by
            intro a b hab
            rw [mget_mset]
            by_cases e : pk x.Lift z.Lift = pk a b
            · obtain ⟨rfl, rfl⟩ := pk_inj e
              rw [if_pos rfl]
            · rw [if_neg e]
              rw [mhas_mset, decide_eq_false e] at hab
              exact hJ a b (by simpa using hab)
          rw [Bool.not_false, cond_true, t1, Option.bind_some]
          generalize hq : timeV m x.Lift z.Lift = q at hJ' ⊢
          obtain ⟨q1, q2⟩ := q
          cases q2 with
          | false => simp only [Bool.not_false, cond_true]; rw [chk_ok (by omega)]; exact ⟨_, _, rfl, by simp, hJ'⟩
          | true =>
            simp only [Bool.not_true, cond_false]
            rw [early_eq, Option.bind_some]
            cases earlyV x.At z.At q1 with
            | true => rw [cond_true, chk_ok (by omega)]; exact ⟨_, _, rfl, by simp, hJ'⟩
            | false => exact ⟨_, _, rfl, by simp, hJ'⟩
    obtain ⟨g', s', e1, e2, e3⟩ := key
    exact ⟨(g', s'), e1, by simp only; rw [e2, hI, imp_succ], e3⟩)
  unfold fraud_Impossible
  rw [y1, Option.bind_some, h1, Option.bind_some]
  show some s.2 = _
  rw [h2, y2]; rfl

/-! ### clones -/
def keyR (x : ApiRide) : Int := pk x.Serial x.Counter
/-- the places at k or behind with a key -/
def ix (q : Int) : Nat → List ApiRide → List Int
  | _, [] => []
  | k, x :: l => if keyR x = q then (k : Int) :: ix q (k + 1) l else ix q (k + 1) l
def clL : Nat → List ApiRide → List ApiSuspicion
  | _, [] => []
  | k, x :: l => (ix (keyR x) (k + 1) l).map (fun j => ⟨(k : Int), j⟩) ++ clL (k + 1) l
theorem ix_cons (q : Int) (k : Nat) (x : ApiRide) (l : List ApiRide) : ix q k (x :: l) = if keyR x = q then (k : Int) :: ix q (k + 1) l else ix q (k + 1) l := rfl
theorem clL_cons (k : Nat) (x : ApiRide) (l : List ApiRide) : clL k (x :: l) = (ix (keyR x) (k + 1) l).map (fun j => ⟨(k : Int), j⟩) ++ clL (k + 1) l := rfl
theorem ix_snoc (q : Int) : ∀ (l : List ApiRide) (k : Nat) (x : ApiRide), ix q k (l ++ [x]) = ix q k l ++ if keyR x = q then [((k + l.length : Nat) : Int)] else []
  | [], k, x => by simp [ix]
  | y :: l, k, x => by
    rw [List.cons_append]
    unfold ix
    rw [ix_snoc q l (k + 1) x, List.length_cons, show k + 1 + l.length = k + (l.length + 1) by omega]
    split <;> simp
theorem ix_len (q : Int) : ∀ (l : List ApiRide) (k : Nat), (ix q k l).length ≤ l.length
  | [], k => by simp [ix]
  | x :: l, k => by
    unfold ix
    have := ix_len q l (k + 1)
    split <;> simp <;> omega
theorem groups_get (l : List ApiRide) (q : Int) : mget [] (fraud_Clones_groups l) q = ix q 0 l := by
  have key : ∀ k, k ≤ l.length → mget [] (fraud_Clones_groups (l.take k)) q = ix q 0 (l.take k) := by
    intro k
    induction k with
    | zero => intro _; simp [fraud_Clones_groups, mget, ix]
    | succ k ih =>
      intro hk
      have hx : l[k]? = some (l[k]'(by omega)) := List.getElem?_eq_getElem _
      generalize l[k]'(by omega) = x at hx
      rw [fraud_Clones_groups_snoc hx, mget_gadd, take_succ_some hx, ix_snoc, ih (by omega)]
      have : (l.take k).length = k := by simp; omega
      rw [this, Nat.zero_add]
      unfold keyR
      split <;> simp
  have := key l.length (Nat.le_refl _)
  rwa [List.take_length] at this
theorem clones_inner (g : List (Int × List Int)) (k : Nat) (x : ApiRide) {r : List Int} (hr : (mget [] g (pk x.Serial x.Counter)).drop 1 = r) (hrl : r.length ≤ 1000000) (out : List ApiSuspicion) (ho : out.length ≤ 100000000000) :
    forN (fraud_Clones_b2 g k x) r.length out = some (.next (out ++ r.map (fun j => ⟨(k : Int), j⟩))) := by
  obtain ⟨s, h1, h2⟩ := forN_run (ρ := Out (List (Int × List Int) × List ApiSuspicion) (List ApiSuspicion)) (step := fraud_Clones_b2 g k x) (n := r.length) (s := out) (by omega) (fun i s => s = out ++ (r.take i).map (fun j => ⟨(k : Int), j⟩)) (by simp) (fun i s hi hI => by
    have hx : r[i]? = some r[i] := List.getElem?_eq_getElem hi
    generalize r[i] = y at hx
    unfold fraud_Clones_b2
    have hs : s.length ≤ out.length + i := by rw [hI]; simp; omega
    rw [hr, idxL_nat hx, Option.bind_some, chk_ok (by omega)]
    exact ⟨_, rfl, by rw [hI, take_succ_some hx]; simp⟩)
  rw [h1, h2, List.take_length]
theorem fclones_loop : ∀ (l : List ApiRide) (k : Nat) (g : List (Int × List Int)) (out : List ApiSuspicion), (∀ q, mget [] g q = ix q k l) → l.length ≤ 10000 → out.length ≤ 100000000 - l.length * 10000 → ∃ g', forIx fraud_Clones_b1 k l (g, out) = some (.next (g', out ++ clL k l))
  | [], k, g, out, hg, hl, ho => ⟨g, by simp [forIx, clL]⟩
  | x :: l, k, g, out, hg, hl, ho => by
    rw [List.length_cons] at hl ho
    have hgx : mget [] g (pk x.Serial x.Counter) = (k : Int) :: ix (keyR x) (k + 1) l := by
      rw [hg, ix_cons, if_pos (show keyR x = pk x.Serial x.Counter from rfl)]; rfl
    have hil := ix_len (keyR x) l (k + 1)
    unfold forIx fraud_Clones_b1
    simp only
    rw [hgx, List.length_cons, okB_ok (by omega), List.drop_one, List.tail_cons, Nat.add_sub_cancel]
    rw [clones_inner g k x (r := ix (keyR x) (k + 1) l) (by rw [hgx]; rfl) (by omega) out (by omega)]
    obtain ⟨g', h⟩ := fclones_loop l (k + 1) (mset g (pk x.Serial x.Counter) (ix (keyR x) (k + 1) l)) (out ++ (ix (keyR x) (k + 1) l).map (fun j => ⟨(k : Int), j⟩)) (fun q => by
      rw [mget_mset]
      by_cases e : pk x.Serial x.Counter = q
      · subst e; rw [if_pos rfl]; rfl
      · rw [if_neg e, hg, ix_cons, if_neg (show ¬ keyR x = q from e)]) (by omega) (by simp; omega)
    refine ⟨g', ?_⟩
    show forIx fraud_Clones_b1 (k + 1) l _ = _
    rw [h, clL_cons, List.append_assoc]
theorem fclones_eq {l : List ApiRide} (hl : l.length ≤ 1000) : fraud_Clones l = some (clL 0 l) := by
  obtain ⟨g', h⟩ := fclones_loop l 0 (fraud_Clones_groups l) [] (groups_get l) (by omega) (by simp)
  unfold fraud_Clones
  rw [chk_ok (by omega), h]; rfl
theorem rclones_b2 {l : List ApiRide} (hl : l.length ≤ 10000) (i : Nat) (x : ApiRide) : ∀ (n k : Nat) (out : List ApiSuspicion), l.length - k < n → k ≤ l.length → out.length + (l.length - k) ≤ 100000000000 → whileN (ref32_Clones_b2 l i x) n ((k : Int), out) = some (.ret (.next (out ++ (ix (keyR x) k (l.drop k)).map (fun j => ⟨(i : Int), j⟩))))
  | 0, k, out, h, _, _ => by omega
  | n + 1, k, out, h, hk, ho => by
    unfold whileN ref32_Clones_b2
    simp only
    by_cases hlt : k < l.length
    · have hx : l[k]? = some l[k] := List.getElem?_eq_getElem hlt
      generalize l[k] = y at hx
      rw [decide_eq_true (by omega), cond_true, idxL_nat hx, Option.bind_some, drop_some hx, wrap_add1 (by omega)]
      unfold ix
      by_cases hs : x.Serial = y.Serial
      · rw [decide_eq_true hs, cond_true]
        by_cases hc : x.Counter = y.Counter
        · have : keyR y = keyR x := by unfold keyR; rw [hs, hc]
          rw [decide_eq_true hc, cond_true, if_pos this, chk_ok (by omega)]
          have := rclones_b2 hl i x n (k + 1) (out ++ [⟨(i : Int), (k : Int)⟩]) (by omega) (by omega) (by simp; omega)
          show whileN (ref32_Clones_b2 l i x) n _ = _
          rw [this, List.append_assoc]; rfl
        · have : ¬ keyR y = keyR x := fun e => hc (pk_inj e).2.symm
          rw [decide_eq_false hc, cond_false, if_neg this]
          exact rclones_b2 hl i x n (k + 1) out (by omega) (by omega) (by omega)
      · have : ¬ keyR y = keyR x := fun e => hs (pk_inj e).1.symm
        rw [decide_eq_false hs, cond_false, if_neg this]
        exact rclones_b2 hl i x n (k + 1) out (by omega) (by omega) (by omega)
    · rw [decide_eq_false (by omega), cond_false, List.drop_of_length_le (by omega)]; simp [ix, Out.cont]
theorem clL_snoc (l : List ApiRide) (hl : l.length ≤ 10000) : ∃ s, forIx (ref32_Clones_b1 l) 0 l [] = some (.next s) ∧ s = clL 0 l := by
  have key : ∀ (d k : Nat) (out : List ApiSuspicion), l.length - k = d → k ≤ l.length → out.length ≤ k * 10000 → forIx (ref32_Clones_b1 l) k (l.drop k) out = some (.next (out ++ clL k (l.drop k))) := by
    intro d
    induction d with
    | zero =>
      intro k out hd hk ho
      rw [List.drop_of_length_le (by omega)]
      simp [forIx, clL]
    | succ d ih =>
      intro k out hd hk ho
      have hx : l[k]? = some (l[k]'(by omega)) := List.getElem?_eq_getElem _
      generalize l[k]'(by omega) = x at hx
      rw [drop_some hx]
      unfold forIx ref32_Clones_b1
      rw [wrap_add1 (by omega), rclones_b2 hl k x fuel (k + 1) out (by unfold fuel; omega) (by omega) (by omega), Option.bind_some]
      have hil := ix_len (keyR x) (l.drop (k + 1)) (k + 1)
      rw [List.length_drop] at hil
      show forIx (ref32_Clones_b1 l) (k + 1) (l.drop (k + 1)) _ = _
      rw [ih (k + 1) _ (by omega) (by omega) (by simp; omega)]
      rw [clL_cons, List.append_assoc]
  have := key l.length 0 [] (by omega) (by omega) (by simp)
  rw [List.drop_zero, List.nil_append] at this
  exact ⟨_, this, rfl⟩
theorem rclones_eq {l : List ApiRide} (hl : l.length ≤ 1000) : ref32_Clones l = some (clL 0 l) := by
  obtain ⟨s, h1, h2⟩ := clL_snoc l (by omega)
  unfold ref32_Clones
  rw [h1, h2]; rfl
theorem same32_eq (a b : List ApiSuspicion) : ref32_Same a b = some (decide (a = b)) :=
  same_len fun k x y hx hy => by
    unfold ref32_Same_b1
    rw [idxL_nat hy, Option.bind_some]
    congr 1
    obtain ⟨x1, x2⟩ := x
    obtain ⟨y1, y2⟩ := y
    by_cases h1 : x1 = y1 <;> by_cases h2 : x2 = y2 <;> simp [h1, h2]
end Go.Proofs.Ytmfjcimogpmheaa
