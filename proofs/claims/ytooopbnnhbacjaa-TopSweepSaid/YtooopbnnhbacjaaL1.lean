/-
  What is reached along edges; walks, what they cost; tables of the best ones, relaxed edge by edge.
-/
import Derived.Test.YtooopbnnhbacjaaW6
import Derived.Test.YtooopbnnhbacjaaSkXA
namespace Go.Proofs.Ytooopbnnhbacjaa
open Go Go.Ab
set_option linter.unusedSimpArgs false
set_option linter.unusedVariables false

/-- what is reached from S -/
inductive Rch (l : List ApiEdge) (S : Int → Prop) : Int → Prop
  | base {n : Int} : S n → Rch l S n
  | step {e : ApiEdge} : e ∈ l → Rch l S e.From → Rch l S e.To
theorem Rch.mono {l l' : List ApiEdge} {S T : Int → Prop} (hl : ∀ e ∈ l, e ∈ l') (hS : ∀ n, S n → T n) {n : Int} (h : Rch l S n) : Rch l' T n := by
  induction h with
  | base h => exact .base (hS _ h)
  | step he _ ih => exact .step (hl _ he) ih
/-- a rising list of what is reached -/
structure RchList (l : List ApiEdge) (f r : List Int) : Prop where
  inc : Inc r
  mem : ∀ n, n ∈ r ↔ Rch l (· ∈ f) n
theorem RchList.unique {l : List ApiEdge} {f r r' : List Int} (h : RchList l f r) (h' : RchList l f r') : r = r' :=
  inc_ext h.inc h'.inc fun x => by rw [h.mem, h'.mem]
theorem RchList.of_closed {l : List ApiEdge} {f r : List Int} (h : Inc r) (h1 : ∀ n ∈ r, Rch l (· ∈ f) n) (h2 : ∀ n ∈ f, n ∈ r) (h3 : ∀ e ∈ l, e.From ∈ r → e.To ∈ r) : RchList l f r :=
  ⟨h, fun n => ⟨h1 n, fun hr => by
    induction hr with
    | base h => exact h2 _ h
    | step he _ ih => exact h3 _ he ih⟩⟩
theorem rch_bound {l : List ApiEdge} {f : List Int} {n : Int} (h : Rch l (· ∈ f) n) : n ∈ f ++ l.map (·.To) := by
  cases h with
  | base h => exact List.mem_append.2 (.inl h)
  | step he _ => exact List.mem_append.2 (.inr (List.mem_map_of_mem he))

def IsNode (l : List ApiEdge) (n : Int) : Prop := ∃ e ∈ l, n = e.From ∨ n = e.To
/-! ### the edges turned round -/
def turnE (e : ApiEdge) : ApiEdge := ⟨e.ID, e.To, e.From, e.Cost⟩
def turn (l : List ApiEdge) : List ApiEdge := l.map turnE
theorem turnE_turnE (e : ApiEdge) : turnE (turnE e) = e := rfl
theorem turn_turn (l : List ApiEdge) : turn (turn l) = l := by
  unfold turn; rw [List.map_map]; exact (List.map_congr_left (g := id) fun e _ => rfl).trans (List.map_id l)
theorem mem_turn {l : List ApiEdge} {e : ApiEdge} : e ∈ turn l ↔ turnE e ∈ l := by
  unfold turn
  rw [List.mem_map]
  constructor
  · rintro ⟨x, hx, rfl⟩; exact hx
  · intro h; exact ⟨turnE e, h, rfl⟩
def Chain (l : List ApiEdge) : Int → List ApiEdge → Int → Prop
  | n, [], t => n = t
  | n, e :: es, t => e ∈ l ∧ e.From = n ∧ Chain l e.To es t
def ecost (es : List ApiEdge) : Int := (es.map (·.Cost)).sum
theorem ecost_nil : ecost [] = 0 := rfl
theorem ecost_cons (e : ApiEdge) (es : List ApiEdge) : ecost (e :: es) = e.Cost + ecost es := by simp [ecost]
theorem ecost_app : ∀ (a b : List ApiEdge), ecost (a ++ b) = ecost a + ecost b
  | [], b => by simp [ecost]
  | e :: a, b => by rw [List.cons_append, ecost_cons, ecost_cons, ecost_app a b]; omega
theorem chain_app {l : List ApiEdge} : ∀ {a b : List ApiEdge} {n t : Int}, Chain l n (a ++ b) t ↔ ∃ m, Chain l n a m ∧ Chain l m b t
  | [], b, n, t => by simp [Chain]
  | e :: a, b, n, t => by
    simp only [List.cons_append, Chain, chain_app (a := a)]
    constructor
    · rintro ⟨h1, h2, m, h3, h4⟩; exact ⟨m, ⟨h1, h2, h3⟩, h4⟩
    · rintro ⟨m, ⟨h1, h2, h3⟩, h4⟩; exact ⟨h1, h2, m, h3, h4⟩
theorem Chain.mem {l : List ApiEdge} : ∀ {es : List ApiEdge} {n t : Int}, Chain l n es t → ∀ e ∈ es, e ∈ l
  | [], n, t, h, e, he => by simp at he
  | x :: es, n, t, h, e, he => by
    rcases List.mem_cons.1 he with rfl | he
    · exact h.1
    · exact Chain.mem h.2.2 e he
theorem Chain.mono {l l' : List ApiEdge} (hs : ∀ e ∈ l, e ∈ l') : ∀ {es : List ApiEdge} {n t : Int}, Chain l n es t → Chain l' n es t
  | [], n, t, h => h
  | x :: es, n, t, h => ⟨hs _ h.1, h.2.1, Chain.mono hs h.2.2⟩
theorem Chain.det {l : List ApiEdge} : ∀ {es : List ApiEdge} {n t t' : Int}, Chain l n es t → Chain l n es t' → t = t'
  | [], n, t, t', h, h' => h.symm.trans h'
  | x :: es, n, t, t', h, h' => Chain.det h.2.2 h'.2.2
theorem ecost_bounds {M : Int} : ∀ {es : List ApiEdge}, (∀ e ∈ es, 0 ≤ e.Cost ∧ e.Cost ≤ M) → 0 ≤ ecost es ∧ ecost es ≤ M * es.length
  | [], h => by simp [ecost]
  | e :: es, h => by
    have h1 := h e (by simp)
    have h2 := ecost_bounds (es := es) fun x hx => h x (List.mem_cons_of_mem _ hx)
    rw [ecost_cons, List.length_cons, Int.natCast_add, Int.mul_add]
    omega
/-- pairs of a cost and a number of edges, in order -/
def lexle (a b : Int × Nat) : Prop := a.1 < b.1 ∨ (a.1 = b.1 ∧ a.2 ≤ b.2)
theorem lexle.refl (a : Int × Nat) : lexle a a := .inr ⟨rfl, Nat.le_refl _⟩
theorem lexle.trans {a b c : Int × Nat} (h : lexle a b) (k : lexle b c) : lexle a c := by
  unfold lexle at *; omega
theorem lexle.antisymm {a b : Int × Nat} (h : lexle a b) (k : lexle b a) : a = b := by
  obtain ⟨a1, a2⟩ := a; obtain ⟨b1, b2⟩ := b
  unfold lexle at *
  simp only at h k
  have h1 : a1 = b1 := by omega
  have h2 : a2 = b2 := by omega
  rw [h1, h2]
theorem lexle.add {a b : Int × Nat} (h : lexle a b) (c : Int) : lexle (a.1 + c, a.2 + 1) (b.1 + c, b.2 + 1) := by
  unfold lexle at *; simp only; omega
theorem lexle.sub {a b : Int × Nat} {c : Int} (h : lexle (a.1 + c, a.2 + 1) (b.1 + c, b.2 + 1)) : lexle a b := by
  unfold lexle at *; simp only at h; omega
def cst (es : List ApiEdge) : Int × Nat := (ecost es, es.length)
theorem cst_cons (e : ApiEdge) (es : List ApiEdge) : cst (e :: es) = ((cst es).1 + e.Cost, (cst es).2 + 1) := by
  unfold cst; rw [ecost_cons, Int.add_comm]; rfl
theorem dup_split {α : Type} [DecidableEq α] : ∀ {es : List α}, ¬ es.Nodup → ∃ a e b d, es = a ++ e :: (b ++ e :: d)
  | [], h => absurd List.nodup_nil h
  | x :: es, h => by
    by_cases hx : x ∈ es
    · obtain ⟨b, d, rfl⟩ := List.append_of_mem hx
      exact ⟨[], x, b, d, rfl⟩
    · have : ¬ es.Nodup := fun hn => h (List.nodup_cons.2 ⟨hx, hn⟩)
      obtain ⟨a, e, b, d, rfl⟩ := dup_split this
      exact ⟨x :: a, e, b, d, rfl⟩
/-- For each walk there is one that uses no edge twice, and is no worse. -/
theorem shorten {l : List ApiEdge} (h0 : ∀ e ∈ l, 0 ≤ e.Cost) : ∀ (k : Nat) {n t : Int} {es : List ApiEdge}, es.length ≤ k → Chain l n es t → ∃ es', Chain l n es' t ∧ es'.length ≤ l.length ∧ lexle (cst es') (cst es)
  | 0, n, t, es, hk, h => ⟨es, h, by omega, .refl _⟩
  | k + 1, n, t, es, hk, h => by
    by_cases hn : es.Nodup
    · exact ⟨es, h, nodup_len hn (Chain.mem h), .refl _⟩
    · obtain ⟨a, e, b, d, rfl⟩ := dup_split hn
      obtain ⟨m, h1, h2, h3, h4⟩ := chain_app.1 h
      obtain ⟨m', h5, h6, h7, h8⟩ := chain_app.1 h4
      have hc : Chain l n (a ++ e :: d) t := chain_app.2 ⟨m, h1, h2, h3, h8⟩
      obtain ⟨es', g1, g2, g3⟩ := shorten h0 k (by simp at hk ⊢; omega) hc
      refine ⟨es', g1, g2, g3.trans ?_⟩
      have hb : 0 ≤ ecost b := by
        have : ∀ {b : List ApiEdge}, (∀ e ∈ b, 0 ≤ e.Cost) → 0 ≤ ecost b := by
          intro b
          induction b with
          | nil => intro _; simp [ecost]
          | cons x b ih => intro h; rw [ecost_cons]; have := h x (by simp); have := ih fun y hy => h y (List.mem_cons_of_mem _ hy); omega
        exact this fun x hx => h0 x (Chain.mem h5 x hx)
      have he := h0 e h2
      unfold lexle cst
      simp only [ecost_app, ecost_cons, List.length_append, List.length_cons]
      omega
theorem Chain.rev {l : List ApiEdge} (turnE : ApiEdge → ApiEdge) (hT : ∀ e, (turnE e).From = e.To ∧ (turnE e).To = e.From) : ∀ {es : List ApiEdge} {n t : Int}, Chain l n es t → Chain (l.map turnE) t (es.reverse.map turnE) n
  | [], n, t, h => by have : n = t := h; subst this; exact rfl
  | e :: es, n, t, h => by
    rw [List.reverse_cons, List.map_append, chain_app]
    exact ⟨e.To, Chain.rev turnE hT h.2.2, List.mem_map_of_mem h.1, (hT e).1, (hT e).2.trans h.2.1⟩
theorem ecost_rev (turnE : ApiEdge → ApiEdge) (hT : ∀ e, (turnE e).Cost = e.Cost) : ∀ (es : List ApiEdge), ecost (es.reverse.map turnE) = ecost es
  | [] => rfl
  | e :: es => by
    rw [List.reverse_cons, List.map_append, ecost_app, ecost_rev turnE hT es, ecost_cons]
    simp [ecost, hT]; omega

/-- p is the cost and the number of edges of a best walk from n to t -/
structure Best (l : List ApiEdge) (t n : Int) (p : Int × Nat) : Prop where
  walk : ∃ es, Chain l n es t ∧ p = cst es
  least : ∀ es, Chain l n es t → lexle p (cst es)
theorem Best.unique {l : List ApiEdge} {t n : Int} {p q : Int × Nat} (h : Best l t n p) (k : Best l t n q) : p = q := by
  obtain ⟨es, h1, h2⟩ := h.walk
  obtain ⟨es', k1, k2⟩ := k.walk
  exact (k2 ▸ h.least es' k1).antisymm (h2 ▸ k.least es h1)
theorem Best.short {l : List ApiEdge} (h0 : ∀ e ∈ l, 0 ≤ e.Cost) {t n : Int} {p : Int × Nat} (h : Best l t n p) : p.2 ≤ l.length := by
  obtain ⟨es, h1, h2⟩ := h.walk
  obtain ⟨es', g1, g2, g3⟩ := shorten h0 _ (Nat.le_refl _) h1
  have := (h.least es' g1).antisymm (h2 ▸ g3)
  rw [this]; exact g2
theorem Best.at_end {l : List ApiEdge} (h0 : ∀ e ∈ l, 0 ≤ e.Cost) {t : Int} : Best l t t (0, 0) := by
  refine ⟨⟨[], rfl, rfl⟩, fun es h => ?_⟩
  have : 0 ≤ ecost es := by
    have : ∀ {b : List ApiEdge}, (∀ e ∈ b, 0 ≤ e.Cost) → 0 ≤ ecost b := by
      intro b
      induction b with
      | nil => intro _; simp [ecost]
      | cons x b ih => intro h; rw [ecost_cons]; have := h x (by simp); have := ih fun y hy => h y (List.mem_cons_of_mem _ hy); omega
    exact this fun x hx => h0 x (Chain.mem h x hx)
  unfold lexle cst; simp only; omega
/-- the edge e begins a best walk from n -/
def Good (l : List ApiEdge) (t n : Int) (e : ApiEdge) : Prop := e ∈ l ∧ e.From = n ∧ ∃ p, Best l t e.To p ∧ Best l t n (p.1 + e.Cost, p.2 + 1)
theorem Best.step {l : List ApiEdge} {t n : Int} {p : Int × Nat} (h : Best l t n p) (hn : n ≠ t) : ∃ e, Good l t n e := by
  obtain ⟨es, h1, h2⟩ := h.walk
  cases es with
  | nil => exact absurd h1 hn
  | cons e es =>
    refine ⟨e, h1.1, h1.2.1, cst es, ⟨⟨es, h1.2.2, rfl⟩, fun es' h' => ?_⟩, by rw [← cst_cons, ← h2]; exact h⟩
    have := h.least (e :: es') ⟨h1.1, h1.2.1, h'⟩
    rw [h2, cst_cons, cst_cons] at this
    exact this.sub
theorem Best.pos {l : List ApiEdge} {t n : Int} {p : Int × Nat} (h : Best l t n p) (hn : n ≠ t) : 0 < p.2 := by
  obtain ⟨es, h1, h2⟩ := h.walk
  cases es with
  | nil => exact absurd h1 hn
  | cons e es => rw [h2]; simp [cst]
/-- the IDs of the path that is taken: at each node the first edge that begins a best walk -/
inductive PathRes (l : List ApiEdge) (t : Int) : Int → List Int → Prop
  | done : PathRes l t t []
  | step {n : Int} {i : Nat} {e : ApiEdge} {ids : List Int} : n ≠ t → l[i]? = some e → Good l t n e → (∀ j e', j < i → l[j]? = some e' → ¬ Good l t n e') → PathRes l t e.To ids → PathRes l t n (e.ID :: ids)
theorem PathRes.unique {l : List ApiEdge} {t n : Int} {a b : List Int} (h : PathRes l t n a) (k : PathRes l t n b) : a = b := by
  induction h generalizing b with
  | done =>
    cases k with
    | done => rfl
    | step hn => exact absurd rfl hn
  | @step n i e ids hn hi hg hf _ ih =>
    cases k with
    | done => exact absurd rfl hn
    | @step _ i' e' ids' hn' hi' hg' hf' hr' =>
      have : i = i' := by
        rcases Nat.lt_trichotomy i i' with h | h | h
        · exact absurd hg (hf' i e h hi)
        · exact h
        · exact absurd hg' (hf i' e' h hi')
      subst this
      rw [hi] at hi'
      obtain rfl := Option.some.inj hi'
      rw [ih hr']
theorem PathRes.walk {l : List ApiEdge} {t n : Int} {ids : List Int} (h : PathRes l t n ids) {p : Int × Nat} (hb : Best l t n p) (h0 : ∀ e ∈ l, 0 ≤ e.Cost) : ∃ es, Chain l n es t ∧ es.map (·.ID) = ids ∧ cst es = p := by
  induction h generalizing p with
  | done => exact ⟨[], rfl, rfl, (Best.at_end h0).unique hb⟩
  | @step n i e ids hn hi hg hf _ ih =>
    obtain ⟨g1, g2, q, g3, g4⟩ := hg
    obtain ⟨es, e1, e2, e3⟩ := ih g3
    exact ⟨e :: es, ⟨g1, g2, e1⟩, by rw [List.map_cons, e2], by rw [cst_cons, e3]; exact g4.unique hb⟩
/-- what Shortest answers -/
inductive SpRes (l : List ApiEdge) (f t : Int) : List Int × Int × Bool → Prop
  | none : (∀ es, ¬ Chain l f es t) → SpRes l f t ([], 0, false)
  | some {p : Int × Nat} {ids : List Int} : Best l t f p → PathRes l t f ids → SpRes l f t (ids, p.1, true)
theorem SpRes.unique {l : List ApiEdge} {f t : Int} {r r' : List Int × Int × Bool} (h : SpRes l f t r) (k : SpRes l f t r') : r = r' := by
  cases h with
  | none h =>
    cases k with
    | none => rfl
    | some hb => obtain ⟨es, h1, _⟩ := hb.walk; exact absurd h1 (h es)
  | some hb hp =>
    cases k with
    | none k => obtain ⟨es, h1, _⟩ := hb.walk; exact absurd h1 (k es)
    | some kb kp => rw [hb.unique kb, hp.unique kp]

/-! ### tables -/
abbrev Tab := Int → Option (Int × Nat)
def lexlt (a b : Int × Nat) : Prop := a.1 < b.1 ∨ (a.1 = b.1 ∧ a.2 < b.2)
instance (a b : Int × Nat) : Decidable (lexlt a b) := by unfold lexlt; infer_instance
def btr (a : Int × Nat) : Option (Int × Nat) → Bool
  | none => true
  | some b => decide (lexlt a b)
def thru (e : ApiEdge) (p : Int × Nat) : Int × Nat := (p.1 + e.Cost, p.2 + 1)
def upd (T : Tab) (e : ApiEdge) : Bool := match T e.To with | none => false | some p => btr (thru e p) (T e.From)
def relax (T : Tab) (e : ApiEdge) : Tab := match T e.To with | none => T | some p => if btr (thru e p) (T e.From) then fun n => if n = e.From then some (thru e p) else T n else T
def TLe (x y : Option (Int × Nat)) : Prop := ∀ b, y = some b → ∃ a, x = some a ∧ lexle a b
theorem TLe.refl (x : Option (Int × Nat)) : TLe x x := fun b h => ⟨b, h, .refl b⟩
theorem TLe.trans {x y z : Option (Int × Nat)} (h : TLe x y) (k : TLe y z) : TLe x z := fun b hb => by
  obtain ⟨a, h1, h2⟩ := k b hb
  obtain ⟨c, h3, h4⟩ := h a h1
  exact ⟨c, h3, h4.trans h2⟩
theorem relax_no {T : Tab} {e : ApiEdge} (h : upd T e = false) : relax T e = T := by
  unfold upd at h; unfold relax
  cases ht : T e.To with
  | none => rfl
  | some p => rw [ht] at h; simp only at h ⊢; rw [h]; rfl
theorem relax_yes {T : Tab} {e : ApiEdge} {p : Int × Nat} (ht : T e.To = some p) (h : btr (thru e p) (T e.From) = true) : relax T e = fun n => if n = e.From then some (thru e p) else T n := by
  unfold relax; rw [ht]; simp only; rw [if_pos h]
theorem not_btr {a : Int × Nat} {x : Option (Int × Nat)} (h : btr a x = false) : TLe x (some a) := by
  intro b hb
  obtain rfl := Option.some.inj hb
  cases x with
  | none => cases h
  | some c =>
    refine ⟨c, rfl, ?_⟩
    have := of_decide_eq_false h
    unfold lexlt at this; unfold lexle; omega
theorem relax_imp (T : Tab) (e : ApiEdge) (n : Int) : TLe (relax T e n) (T n) := by
  cases hu : upd T e with
  | false => rw [relax_no hu]; exact .refl _
  | true =>
    cases ht : T e.To with
    | none => unfold upd at hu; rw [ht] at hu; cases hu
    | some p =>
      have hb : btr (thru e p) (T e.From) = true := by unfold upd at hu; rw [ht] at hu; exact hu
      rw [relax_yes ht hb]; dsimp only
      by_cases h : n = e.From
      · subst h
        rw [if_pos rfl]
        intro b hb'
        rw [hb'] at hb
        have := of_decide_eq_true hb
        exact ⟨_, rfl, by unfold lexlt at this; unfold lexle; omega⟩
      · rw [if_neg h]; exact .refl _
theorem relax_edge {T : Tab} {e : ApiEdge} {p : Int × Nat} (ht : T e.To = some p) : TLe (relax T e e.From) (some (thru e p)) := by
  cases hb : btr (thru e p) (T e.From) with
  | false =>
    have : upd T e = false := by unfold upd; rw [ht]; exact hb
    rw [relax_no this]; exact not_btr hb
  | true => rw [relax_yes ht hb]; dsimp only; rw [if_pos rfl]; exact .refl _
/-- each entry is that of a walk, with at most j edges -/
def Sound (l : List ApiEdge) (t : Int) (T : Tab) (j : Nat) : Prop := ∀ n p, T n = some p → p.2 ≤ j ∧ ∃ es, Chain l n es t ∧ p = cst es
theorem Sound.relax {l : List ApiEdge} {t : Int} {T : Tab} {j : Nat} (h : Sound l t T j) {e : ApiEdge} (he : e ∈ l) : Sound l t (relax T e) (j + 1) := by
  have h' : Sound l t T (j + 1) := fun n p hp => ⟨by have := (h n p hp).1; omega, (h n p hp).2⟩
  cases hu : upd T e with
  | false => rw [relax_no hu]; exact h'
  | true =>
    cases ht : T e.To with
    | none => unfold upd at hu; rw [ht] at hu; cases hu
    | some p =>
      have hb : btr (thru e p) (T e.From) = true := by unfold upd at hu; rw [ht] at hu; exact hu
      rw [relax_yes ht hb]
      intro n q hq; dsimp only at hq
      by_cases hn : n = e.From
      · rw [if_pos hn] at hq
        obtain rfl := Option.some.inj hq
        obtain ⟨h1, es, h2, h3⟩ := h _ _ ht
        refine ⟨by simp only [thru]; omega, e :: es, ⟨he, hn.symm, h2⟩, ?_⟩
        rw [cst_cons, ← h3]; rfl
      · rw [if_neg hn] at hq; exact h' n q hq
def Cov (l : List ApiEdge) (t : Int) (T : Tab) (i : Nat) : Prop := ∀ n es, Chain l n es t → es.length ≤ i → TLe (T n) (some (cst es))
def pass (l : List ApiEdge) (T : Tab) : Tab := l.foldl relax T
theorem fold_imp : ∀ (l : List ApiEdge) (T : Tab) (n : Int), TLe (l.foldl relax T n) (T n)
  | [], T, n => .refl _
  | e :: l, T, n => (fold_imp l (relax T e) n).trans (relax_imp T e n)
theorem fold_edge : ∀ (l : List ApiEdge) (T : Tab), ∀ e ∈ l, ∀ p, T e.To = some p → TLe (l.foldl relax T e.From) (some (thru e p))
  | [], T, e, he, p, hp => by simp at he
  | x :: l, T, e, he, p, hp => by
    rcases List.mem_cons.1 he with rfl | he
    · exact (fold_imp l _ _).trans (relax_edge hp)
    · obtain ⟨q, h1, h2⟩ := relax_imp T x e.To p hp
      refine (fold_edge l (relax T x) e he q h1).trans ?_
      intro b hb
      obtain rfl := Option.some.inj hb
      exact ⟨_, rfl, h2.add e.Cost⟩
theorem Cov.pass {l : List ApiEdge} {t : Int} {T : Tab} {i : Nat} (h : Cov l t T i) : Cov l t (pass l T) (i + 1) := by
  intro n es hc hi
  cases es with
  | nil => exact (fold_imp l T n).trans (h n [] hc (Nat.zero_le _))
  | cons e es =>
    obtain ⟨p, h1, h2⟩ := h e.To es hc.2.2 (by simp at hi; omega) _ rfl
    have := fold_edge l T e hc.1 p h1
    rw [hc.2.1] at this
    refine this.trans fun b hb => ?_
    obtain rfl := Option.some.inj hb
    exact ⟨_, rfl, by rw [cst_cons]; exact h2.add e.Cost⟩
theorem Cov.closed {l : List ApiEdge} {t : Int} {T : Tab} (h : Cov l t T 0) (hc : ∀ e ∈ l, upd T e = false) : ∀ i, Cov l t T i := by
  intro i n es
  induction es generalizing n i with
  | nil => intro h1 _; exact h n [] h1 (Nat.zero_le _)
  | cons e es ih =>
    intro h1 _
    obtain ⟨p, h2, h3⟩ := ih es.length e.To h1.2.2 (Nat.le_refl _) _ rfl
    have hu := hc e h1.1
    unfold upd at hu
    rw [h2] at hu
    have := not_btr hu
    rw [h1.2.1] at this
    refine this.trans fun b hb => ?_
    obtain rfl := Option.some.inj hb
    exact ⟨_, rfl, by rw [cst_cons]; exact h3.add e.Cost⟩
theorem Cov.all {l : List ApiEdge} (h0 : ∀ e ∈ l, 0 ≤ e.Cost) {t : Int} {T : Tab} {i : Nat} (h : Cov l t T i) (hi : l.length ≤ i) : ∀ j, Cov l t T j := by
  intro j n es hc _
  obtain ⟨es', g1, g2, g3⟩ := shorten h0 _ (Nat.le_refl _) hc
  refine (h n es' g1 (by omega)).trans fun b hb => ?_
  obtain rfl := Option.some.inj hb
  exact ⟨_, rfl, g3⟩
/-- a table of the best ones -/
structure Exact (l : List ApiEdge) (t : Int) (T : Tab) : Prop where
  best : ∀ n p, T n = some p ↔ Best l t n p
  cov : ∀ i, Cov l t T i
theorem Exact.of {l : List ApiEdge} {t : Int} {T : Tab} {j : Nat} (hs : Sound l t T j) (hc : ∀ i, Cov l t T i) : Exact l t T := by
  have key : ∀ n p, T n = some p → Best l t n p := fun n p hp => by
    refine ⟨(hs n p hp).2, fun es h => ?_⟩
    obtain ⟨a, h1, h2⟩ := hc es.length n es h (Nat.le_refl _) _ rfl
    rw [hp] at h1; obtain rfl := Option.some.inj h1
    exact h2
  refine ⟨fun n p => ⟨key n p, fun hb => ?_⟩, hc⟩
  obtain ⟨es, h1, h2⟩ := hb.walk
  obtain ⟨a, h3, h4⟩ := hc es.length n es h1 (Nat.le_refl _) _ rfl
  rw [h3, (key n a h3).unique hb]
theorem Exact.none {l : List ApiEdge} {t : Int} {T : Tab} (h : Exact l t T) {n : Int} (hn : T n = none) : ∀ es, ¬ Chain l n es t := fun es hc => by
  obtain ⟨a, h1, _⟩ := h.cov es.length n es hc (Nat.le_refl _) _ rfl
  rw [hn] at h1; cases h1
theorem Exact.closed {l : List ApiEdge} {t : Int} {T : Tab} (h : Exact l t T) : ∀ e ∈ l, upd T e = false := by
  intro e he
  unfold upd
  cases ht : T e.To with
  | none => rfl
  | some p =>
    obtain ⟨es, h1, h2⟩ := ((h.best _ _).1 ht).walk
    obtain ⟨q, h3, h4⟩ := h.cov _ e.From (e :: es) ⟨he, rfl, h1⟩ (Nat.le_refl _) _ rfl
    rw [h3]
    rw [cst_cons, ← h2] at h4
    refine decide_eq_false fun hlt => ?_
    unfold lexlt thru at hlt; unfold lexle at h4; simp only at hlt h4; omega
/-- there is a best walk where there is a walk -/
theorem best_ex {l : List ApiEdge} (h0 : ∀ e ∈ l, 0 ≤ e.Cost) {t n : Int} {es : List ApiEdge} (h : Chain l n es t) : ∃ p, Best l t n p := by
  let T0 : Tab := fun n => if n = t then some (0, 0) else none
  have s0 : Sound l t T0 0 := fun n p hp => by
    by_cases hn : n = t
    · rw [show T0 n = some (0, 0) from if_pos hn] at hp
      obtain rfl := Option.some.inj hp
      exact ⟨Nat.le_refl _, [], hn, rfl⟩
    · rw [show T0 n = none from if_neg hn] at hp; cases hp
  have c0 : Cov l t T0 0 := fun n es hc hl => by
    have : es = [] := List.length_eq_zero_iff.1 (by omega)
    subst this
    have hn : n = t := hc
    intro b hb
    obtain rfl := Option.some.inj hb
    exact ⟨(0, 0), if_pos hn, .refl _⟩
  have sp : ∀ (l' : List ApiEdge), (∀ e ∈ l', e ∈ l) → ∀ T j, Sound l t T j → ∃ j', Sound l t (l'.foldl relax T) j' := by
    intro l'
    induction l' with
    | nil => intro _ T j hs; exact ⟨j, hs⟩
    | cons e l' ih => intro hm T j hs; exact ih (fun x hx => hm x (List.mem_cons_of_mem _ hx)) _ _ (hs.relax (hm e (by simp)))
  have key : ∀ i : Nat, ∃ T j, Sound l t T j ∧ Cov l t T i := by
    intro i
    induction i with
    | zero => exact ⟨T0, 0, s0, c0⟩
    | succ i ih =>
      obtain ⟨T, j, h1, h2⟩ := ih
      obtain ⟨j', h3⟩ := sp l (fun _ h => h) T j h1
      exact ⟨_, j', h3, h2.pass⟩
  obtain ⟨T, j, h1, h2⟩ := key l.length
  have hx := Exact.of h1 (h2.all h0 (Nat.le_refl _))
  obtain ⟨a, h3, _⟩ := hx.cov es.length n es h (Nat.le_refl _) _ rfl
  exact ⟨a, (hx.best _ _).1 h3⟩

/-! ### reached along a walk; turned round; told by IDs -/
theorem rch_chain {l : List ApiEdge} {S : Int → Prop} {t : Int} : Rch l S t ↔ ∃ n es, S n ∧ Chain l n es t := by
  constructor
  · intro h
    induction h with
    | base h => exact ⟨_, [], h, rfl⟩
    | @step e he _ ih =>
      obtain ⟨n, es, h1, h2⟩ := ih
      exact ⟨n, es ++ [e], h1, chain_app.2 ⟨_, h2, he, rfl, rfl⟩⟩
  · rintro ⟨n, es, h1, h2⟩
    have key : ∀ (es : List ApiEdge) (n : Int), Rch l S n → Chain l n es t → Rch l S t := by
      intro es
      induction es with
      | nil => intro n h1 h2; exact (show n = t from h2) ▸ h1
      | cons e es ih => intro n h1 h2; exact ih e.To (.step h2.1 (h2.2.1 ▸ h1)) h2.2.2
    exact key es n (.base h1) h2
theorem chain_turn {l : List ApiEdge} {n t : Int} {p : Int × Nat} (h : ∃ es, Chain l n es t ∧ cst es = p) : ∃ es, Chain (turn l) t es n ∧ cst es = p := by
  obtain ⟨es, h1, rfl⟩ := h
  refine ⟨es.reverse.map turnE, h1.rev turnE (fun e => ⟨rfl, rfl⟩), ?_⟩
  unfold cst
  rw [ecost_rev turnE (fun e => rfl)]; simp
theorem chain_turn_iff {l : List ApiEdge} {n t : Int} {p : Int × Nat} : (∃ es, Chain (turn l) t es n ∧ cst es = p) ↔ ∃ es, Chain l n es t ∧ cst es = p :=
  ⟨fun h => by have := chain_turn h; rwa [turn_turn] at this, chain_turn⟩
theorem best_turn {l : List ApiEdge} {n t : Int} {p : Int × Nat} (h : Best l t n p) : Best (turn l) n t p := by
  obtain ⟨es, h1, h2⟩ := h.walk
  obtain ⟨es', h3, h4⟩ := chain_turn ⟨es, h1, rfl⟩
  refine ⟨⟨es', h3, by rw [h4, h2]⟩, fun q hq => ?_⟩
  obtain ⟨q', h5, h6⟩ := chain_turn_iff.1 ⟨q, hq, rfl⟩
  rw [← h6]; exact h.least q' h5
theorem ids_inj {l : List ApiEdge} (hn : (l.map (·.ID)).Nodup) {a b : ApiEdge} (ha : a ∈ l) (hb : b ∈ l) (e : a.ID = b.ID) : a = b := by
  induction l with
  | nil => simp at ha
  | cons c l ih =>
    rw [List.map_cons, List.nodup_cons] at hn
    rcases List.mem_cons.1 ha with ha' | ha'
    · rcases List.mem_cons.1 hb with hb' | hb'
      · rw [ha', hb']
      · exact absurd (List.mem_map.2 ⟨b, hb', by rw [← ha']; exact e.symm⟩) hn.1
    · rcases List.mem_cons.1 hb with hb' | hb'
      · exact absurd (List.mem_map.2 ⟨a, ha', by rw [← hb']; exact e⟩) hn.1
      · exact ih hn.2 ha' hb'
theorem ids_list_inj {l : List ApiEdge} (hn : (l.map (·.ID)).Nodup) : ∀ {a b : List ApiEdge}, (∀ e ∈ a, e ∈ l) → (∀ e ∈ b, e ∈ l) → a.map (·.ID) = b.map (·.ID) → a = b
  | [], [], _, _, _ => rfl
  | [], _ :: _, _, _, h => by simp at h
  | _ :: _, [], _, _, h => by simp at h
  | x :: a, y :: b, ha, hb, h => by
    rw [List.map_cons, List.map_cons, List.cons.injEq] at h
    rw [ids_inj hn (ha x (by simp)) (hb y (by simp)) h.1, ids_list_inj hn (fun e he => ha e (List.mem_cons_of_mem _ he)) (fun e he => hb e (List.mem_cons_of_mem _ he)) h.2]
theorem nodup_idx {α : Type} {o : List α} (h : o.Nodup) {i j : Nat} {hi : i < o.length} {hj : j < o.length} (e : o[i] = o[j]) : i = j := by
  have hp := List.pairwise_iff_getElem.1 h
  rcases Nat.lt_trichotomy i j with h | h | h
  · exact absurd e (hp i j hi hj h)
  · exact h
  · exact absurd e.symm (hp j i hj hi h)
end Go.Proofs.Ytooopbnnhbacjaa
