/-
  The least cost of the walks between two nodes; walks that come to no node twice.
-/
import Derived.Test.YtmfjcimogpmheaaL3
namespace Go.Proofs.Ytmfjcimogpmheaa
open Go Go.Ab
set_option linter.unusedSimpArgs false
set_option linter.unusedVariables false

/-- v is the least cost of a walk from f to n -/
structure Least (l : List ApiEdge) (f n v : Int) : Prop where
  walk : ∃ es, Chain l f es n ∧ v = ecost es
  least : ∀ es, Chain l f es n → v ≤ ecost es
theorem Least.unique {l : List ApiEdge} {f n v w : Int} (h : Least l f n v) (k : Least l f n w) : v = w := by
  obtain ⟨es, h1, h2⟩ := h.walk
  obtain ⟨es', k1, k2⟩ := k.walk
  have := h.least es' k1
  have := k.least es h1
  omega
theorem Best.cost {l : List ApiEdge} {t n : Int} {p : Int × Nat} (h : Best l t n p) : Least l n t p.1 := by
  obtain ⟨es, h1, h2⟩ := h.walk
  refine ⟨⟨es, h1, by rw [h2]; rfl⟩, fun es' h' => ?_⟩
  have := h.least es' h'
  unfold lexle cst at this; simp only at this; omega
theorem dup_split_map {α β : Type} [DecidableEq β] (f : α → β) {es : List α} (h : ¬ (es.map f).Nodup) : ∃ a e b e' d, es = a ++ e :: (b ++ e' :: d) ∧ f e = f e' := by
  obtain ⟨a, x, b, d, e⟩ := dup_split h
  obtain ⟨a', r, rfl, e1, e2⟩ := List.map_eq_append_iff.1 e
  obtain ⟨y, r', rfl, e3, e4⟩ := List.map_eq_cons_iff.1 e2
  obtain ⟨b', r'', rfl, e5, e6⟩ := List.map_eq_append_iff.1 e4
  obtain ⟨y', d', rfl, e7, e8⟩ := List.map_eq_cons_iff.1 e6
  exact ⟨a', y, b', y', d', rfl, by rw [e3, e7]⟩
theorem ecost_nonneg {b : List ApiEdge} (h : ∀ e ∈ b, 0 ≤ e.Cost) : 0 ≤ ecost b := by
  induction b with
  | nil => simp [ecost]
  | cons x b ih => rw [ecost_cons]; have := h x (by simp); have := ih fun y hy => h y (List.mem_cons_of_mem _ hy); omega
/-- For each walk there is one that leaves no node twice, and costs no more. -/
theorem shortenN {l : List ApiEdge} (h0 : ∀ e ∈ l, 0 ≤ e.Cost) {S : List Int} (hS : ∀ e ∈ l, e.From ∈ S) : ∀ (k : Nat) {n t : Int} {es : List ApiEdge}, es.length ≤ k → Chain l n es t → ∃ es', Chain l n es' t ∧ es'.length ≤ S.length ∧ ecost es' ≤ ecost es
  | 0, n, t, es, hk, h => ⟨es, h, by omega, Int.le_refl _⟩
  | k + 1, n, t, es, hk, h => by
    by_cases hn : (es.map (·.From)).Nodup
    · refine ⟨es, h, ?_, Int.le_refl _⟩
      have := nodup_len (b := S) hn fun x hx => by
        obtain ⟨e, he, rfl⟩ := List.mem_map.1 hx
        exact hS e (Chain.mem h e he)
      rwa [List.length_map] at this
    · obtain ⟨a, e, b, e', d, rfl, hee⟩ := dup_split_map (fun e : ApiEdge => e.From) hn
      obtain ⟨m, h1, h2, h3, h4⟩ := chain_app.1 h
      obtain ⟨m', h5, h6, h7, h8⟩ := chain_app.1 h4
      have hmm : e'.From = m := by rw [← h3]; exact hee.symm
      have hc : Chain l n (a ++ e' :: d) t := chain_app.2 ⟨m, h1, h6, hmm, h8⟩
      obtain ⟨es', g1, g2, g3⟩ := shortenN h0 hS k (by simp at hk ⊢; omega) hc
      refine ⟨es', g1, g2, Int.le_trans g3 ?_⟩
      have hb : 0 ≤ ecost b := ecost_nonneg fun x hx => h0 x (Chain.mem h5 x hx)
      have he := h0 e h2
      simp only [ecost_app, ecost_cons]
      omega
/-- costs by place: what a list of costs of ways from f says -/
structure CSound (l : List ApiEdge) (ids : List Int) (f : Int) (best : List Int) (j : Nat) : Prop where
  len : best.length = ids.length
  val : ∀ (k : Nat) (n v : Int), ids[k]? = some n → best[k]? = some v → v = -1 ∨ (0 ≤ v ∧ ∃ es, Chain l f es n ∧ es.length ≤ j ∧ v = ecost es)
theorem CSound.mono {l : List ApiEdge} {ids : List Int} {f : Int} {best : List Int} {j j' : Nat} (h : CSound l ids f best j) (hj : j ≤ j') : CSound l ids f best j' :=
  ⟨h.len, fun k n v hn hv => by
    rcases h.val k n v hn hv with h | ⟨h0, es, h1, h2, h3⟩
    · exact .inl h
    · exact .inr ⟨h0, es, h1, by omega, h3⟩⟩
def CCov (l : List ApiEdge) (ids : List Int) (f : Int) (best : List Int) (i : Nat) : Prop := ∀ (k : Nat) (n v : Int) es, ids[k]? = some n → best[k]? = some v → Chain l f es n → es.length ≤ i → 0 ≤ v ∧ v ≤ ecost es
def CLe (a b : List Int) : Prop := ∀ (k : Nat) (v w : Int), a[k]? = some v → b[k]? = some w → 0 ≤ v → 0 ≤ w ∧ w ≤ v
theorem CLe.refl (a : List Int) : CLe a a := fun k v w h1 h2 h0 => by
  rw [h1] at h2; obtain rfl := Option.some.inj h2; exact ⟨h0, Int.le_refl _⟩
/-- what the edge e brings -/
def CEdge (ids : List Int) (a b : List Int) (e : ApiEdge) : Prop := ∀ (i k : Nat) (v w : Int), ids[i]? = some e.From → ids[k]? = some e.To → a[i]? = some v → b[k]? = some w → 0 ≤ v → 0 ≤ w ∧ w ≤ v + e.Cost
theorem chain_last {l : List ApiEdge} {f n : Int} {es : List ApiEdge} (h : Chain l f es n) (hne : es ≠ []) : ∃ es' e, es = es' ++ [e] ∧ Chain l f es' e.From ∧ e ∈ l ∧ e.To = n := by
  have he : es = es.dropLast ++ [es.getLast hne] := (List.dropLast_concat_getLast hne).symm
  rw [he] at h
  obtain ⟨m, h1, h2, h3, h4⟩ := chain_app.1 h
  exact ⟨_, _, he, by rw [h3]; exact h1, h2, h4⟩
theorem CCov.pass {l : List ApiEdge} {ids : List Int} {f : Int} {a b : List Int} {i : Nat} (h : CCov l ids f a i) (ha : a.length = ids.length) (hb : b.length = ids.length) (hle : CLe a b) (he : ∀ e ∈ l, CEdge ids a b e) (hfr : ∀ e ∈ l, e.From ∈ ids) : CCov l ids f b (i + 1) := by
  intro k n v es hn hv hc hl
  by_cases hne : es = []
  · subst hne
    have hk := (List.getElem?_eq_some_iff.1 hn).1
    have hak : a[k]? = some (a[k]'(by omega)) := List.getElem?_eq_getElem _
    generalize a[k]'(by omega) = u at hak
    obtain ⟨h1, h2⟩ := h k n u [] hn hak hc (Nat.zero_le _)
    obtain ⟨h3, h4⟩ := hle k u v hak hv h1
    exact ⟨h3, by omega⟩
  · obtain ⟨es', e, rfl, h1, h2, h3⟩ := chain_last hc hne
    obtain ⟨i', hi', hif⟩ := List.getElem_of_mem (hfr e h2)
    have hif' : ids[i']? = some e.From := by rw [List.getElem?_eq_getElem hi', hif]
    have hak : a[i']? = some (a[i']'(by omega)) := List.getElem?_eq_getElem _
    generalize a[i']'(by omega) = u at hak
    obtain ⟨g1, g2⟩ := h i' e.From u es' hif' hak h1 (by simp at hl; omega)
    obtain ⟨g3, g4⟩ := he e h2 i' k u v hif' (by rw [hn, h3]) hak hv g1
    refine ⟨g3, ?_⟩
    rw [ecost_app, ecost_cons, ecost_nil]; omega
theorem least_of {l : List ApiEdge} (h0 : ∀ e ∈ l, 0 ≤ e.Cost) {ids : List Int} (hfr : ∀ e ∈ l, e.From ∈ ids) {f : Int} {best : List Int} {j : Nat} (hs : CSound l ids f best j) (hc : CCov l ids f best ids.length) {k : Nat} {n v : Int} (hn : ids[k]? = some n) (hv : best[k]? = some v) :
    (v = -1 ∧ ∀ es, ¬ Chain l f es n) ∨ (0 ≤ v ∧ Least l f n v) := by
  have key : ∀ es, Chain l f es n → 0 ≤ v ∧ v ≤ ecost es := fun es h => by
    obtain ⟨es', g1, g2, g3⟩ := shortenN h0 hfr _ (Nat.le_refl _) h
    obtain ⟨h1, h2⟩ := hc k n v es' hn hv g1 g2
    exact ⟨h1, by omega⟩
  rcases hs.val k n v hn hv with h | ⟨h1, es, h2, h3, h4⟩
  · exact .inl ⟨h, fun es hes => by have := (key es hes).1; omega⟩
  · exact .inr ⟨h1, ⟨es, h2, h4⟩, fun es hes => (key es hes).2⟩
end Go.Proofs.Ytmfjcimogpmheaa
