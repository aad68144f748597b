/-
  What the reference of layer 10 accepts, in plain Lean: a map that is right. (The tests of the program, which the reference is compared with, are told here as plain functions named tq_..)
-/
import Derived.Test.YtooopbnnhbacjaaL3
import Derived.Test.YtooopbnnhbacjaaSkXA
namespace Go.Proofs.Ytooopbnnhbacjaa
open Go Go.Ab
set_option linter.unusedSimpArgs false
set_option linter.unusedVariables false

def tq_within (n_ : Int) (least : Int) (most : Int) : Option (Bool) :=
  (bif (decide (least ≤ n_)) then some (decide (n_ ≤ most)) else some false)
def tq_rightNodes_b1 (m : ApiMap) (k0 : Nat) (x_2 : ApiNode) (sv : Unit) : Option (Out (Unit) (Int)) :=
  (tq_within x_2.ID (1 : Int) (9999 : Int)).bind fun y3 => (bif (!y3) then some (Out.ret (2 : Int)) else (tq_within x_2.Alt (0 : Int) (5000 : Int)).bind fun y4 => (bif (!y4) then some (Out.ret (2 : Int)) else (bif (decide ((0 : Int) < ((k0 : Nat) : Int))) then (idxL m.Nodes (IntKind.i64.wrap (((k0 : Nat) : Int) - (1 : Int)))).bind fun x_5 => (bif (decide (x_2.ID ≤ x_5.ID)) then some (Out.ret (7 : Int)) else some (Out.next ())) else some (Out.next ()))))
def tq_rightNodes (m : ApiMap) : Option (Int) :=
  (forIx (tq_rightNodes_b1 m) 0 m.Nodes ()).bind fun o0 => o0.on fun s0 => some (0 : Int)
def tq_rightLifts_j2 (m : ApiMap) (x_2 : ApiLift) : Option (Out (Unit) (Int)) :=
  (ref10_Node m x_2.From).bind fun y10 => (ref10_Node m x_2.To).bind fun y11 => (bif (!y10.2) then some (Out.ret (8 : Int)) else (bif (!y11.2) then some (Out.ret (8 : Int)) else (bif (decide (y11.1.Alt ≤ y10.1.Alt)) then some (Out.ret (11 : Int)) else nz x_2.Spacing ((bif (decide ((Int.tmod (IntKind.i64.wrap ((2 : Int) * x_2.Length)) x_2.Spacing) ≠ (0 : Int))) then some (Out.ret (1 : Int)) else nz x_2.Spacing ((tq_within (IntKind.i64.wrap (Int.tdiv (IntKind.i64.wrap ((2 : Int) * x_2.Length)) x_2.Spacing)) (1 : Int) (200 : Int)).bind fun y12 => (bif (!y12) then some (Out.ret (1 : Int)) else some (Out.next ()))))))))
def tq_rightLifts_b1 (m : ApiMap) (k0 : Nat) (x_2 : ApiLift) (sv : Unit) : Option (Out (Unit) (Int)) :=
  (tq_within x_2.ID (1 : Int) (9999 : Int)).bind fun y3 => (bif (!y3) then some (Out.ret (2 : Int)) else (tq_within x_2.Operator (1 : Int) (8 : Int)).bind fun y4 => (bif (!y4) then some (Out.ret (2 : Int)) else (tq_within x_2.Length (10 : Int) (6000 : Int)).bind fun y5 => (bif (!y5) then some (Out.ret (2 : Int)) else (tq_within x_2.Speed (500 : Int) (12000 : Int)).bind fun y6 => (bif (!y6) then some (Out.ret (2 : Int)) else (tq_within x_2.Seats (1 : Int) (16 : Int)).bind fun y7 => (bif (!y7) then some (Out.ret (2 : Int)) else (tq_within x_2.Spacing (5 : Int) (1000 : Int)).bind fun y8 => (bif (!y8) then some (Out.ret (2 : Int)) else (bif (decide ((0 : Int) < ((k0 : Nat) : Int))) then (idxL m.Lifts (IntKind.i64.wrap (((k0 : Nat) : Int) - (1 : Int)))).bind fun x_13 => (bif (decide (x_2.ID ≤ x_13.ID)) then some (Out.ret (7 : Int)) else tq_rightLifts_j2 m x_2) else tq_rightLifts_j2 m x_2)))))))
def tq_rightLifts (m : ApiMap) : Option (Int) :=
  (forIx (tq_rightLifts_b1 m) 0 m.Lifts ()).bind fun o0 => o0.on fun s0 => some (0 : Int)
def tq_rightRuns_b1 (m : ApiMap) (k0 : Nat) (x_2 : ApiRun) (sv : Unit) : Option (Out (Unit) (Int)) :=
  (tq_within x_2.ID (1 : Int) (9999 : Int)).bind fun y3 => (bif (!y3) then some (Out.ret (2 : Int)) else (tq_within x_2.Operator (1 : Int) (8 : Int)).bind fun y4 => (bif (!y4) then some (Out.ret (2 : Int)) else (tq_within x_2.Grade (1 : Int) (4 : Int)).bind fun y5 => (bif (!y5) then some (Out.ret (2 : Int)) else (tq_within x_2.Zone (1 : Int) (32 : Int)).bind fun y6 => (bif (!y6) then some (Out.ret (2 : Int)) else (tq_within x_2.Length (10 : Int) (20000 : Int)).bind fun y7 => (bif (!y7) then some (Out.ret (2 : Int)) else (bif (decide ((0 : Int) < ((k0 : Nat) : Int))) then (idxL m.Runs (IntKind.i64.wrap (((k0 : Nat) : Int) - (1 : Int)))).bind fun x_8 => (bif (decide (x_2.ID ≤ x_8.ID)) then some (Out.ret (7 : Int)) else (ref10_Node m x_2.From).bind fun y9 => (ref10_Node m x_2.To).bind fun y10 => (bif (!y9.2) then some (Out.ret (8 : Int)) else (bif (!y10.2) then some (Out.ret (8 : Int)) else (bif (decide (y9.1.Alt ≤ y10.1.Alt)) then some (Out.ret (11 : Int)) else some (Out.next ()))))) else (ref10_Node m x_2.From).bind fun y11 => (ref10_Node m x_2.To).bind fun y12 => (bif (!y11.2) then some (Out.ret (8 : Int)) else (bif (!y12.2) then some (Out.ret (8 : Int)) else (bif (decide (y11.1.Alt ≤ y12.1.Alt)) then some (Out.ret (11 : Int)) else some (Out.next ()))))))))))
def tq_rightRuns (m : ApiMap) : Option (Int) :=
  (forIx (tq_rightRuns_b1 m) 0 m.Runs ()).bind fun o0 => o0.on fun s0 => some (0 : Int)
def tq_rightBases_b2 (m : ApiMap) (k1 : Nat) (x_3 : Int) (sv : Unit) : Option (Out (Unit) (Int)) :=
  (bif (decide ((0 : Int) < ((k1 : Nat) : Int))) then (idxL m.Bases (IntKind.i64.wrap (((k1 : Nat) : Int) - (1 : Int)))).bind fun x_4 => (bif (decide (x_3 ≤ x_4)) then some (Out.ret (7 : Int)) else some (Out.next ())) else some (Out.next ()))
def tq_rightBases_j1 (m : ApiMap) : Option (Int) :=
  (forIx (tq_rightBases_b2 m) 0 m.Bases ()).bind fun o1 => o1.on fun s1 => some (0 : Int)
def tq_rightBases_b3 (m : ApiMap) (k4 : Nat) (x_6 : Int) (sv : Unit) : Option (Out (Unit) (Int)) :=
  (ref10_Node m x_6).bind fun y7 => (bif (!y7.2) then some (Out.ret (8 : Int)) else some (Out.next ()))
def tq_rightBases (m : ApiMap) : Option (Int) :=
  (bif (decide (((m.Bases.length : Nat) : Int) = (0 : Int))) then some (8 : Int) else (forIx (tq_rightBases_b3 m) 0 m.Bases ()).bind fun o4 => o4.on fun s4 => tq_rightBases_j1 m)
def tq_Right (m : ApiMap) : Option (Int) :=
  (bif (decide ((64 : Int) < ((m.Nodes.length : Nat) : Int))) then some (4 : Int) else (bif (decide ((32 : Int) < ((m.Lifts.length : Nat) : Int))) then some (4 : Int) else (bif (decide ((64 : Int) < ((m.Runs.length : Nat) : Int))) then some (4 : Int) else (bif (decide ((64 : Int) < ((m.Bases.length : Nat) : Int))) then some (4 : Int) else (tq_rightNodes m).bind fun y1 => (bif (decide (y1 ≠ (0 : Int))) then some y1 else (tq_rightLifts m).bind fun y2 => (bif (decide (y2 ≠ (0 : Int))) then some y2 else (tq_rightRuns m).bind fun y3 => (bif (decide (y3 ≠ (0 : Int))) then some y3 else (tq_rightBases m).bind fun y4 => some y4)))))))

def findG {α : Type} (idf : α → Int) (d : α) (l : List α) (id : Int) : α × Bool := match l.find? (fun x => decide (idf x = id)) with | some x => (x, true) | none => (d, false)
def nodeF (m : ApiMap) (id : Int) : ApiNode × Bool := findG ApiNode.ID ⟨0, 0⟩ m.Nodes id
def liftF (m : ApiMap) (id : Int) : ApiLift × Bool := findG ApiLift.ID ⟨0, 0, 0, 0, 0, 0, 0, 0⟩ m.Lifts id
def runF (m : ApiMap) (id : Int) : ApiRun × Bool := findG ApiRun.ID ⟨0, 0, 0, 0, 0, 0, 0⟩ m.Runs id

theorem findG_eq {α : Type} {idf : α → Int} {d : α} {l : List α} {id : Int} {step : Nat → α → Unit → Option (Out Unit (α × Bool))} (hs : ∀ k x, x ∈ l → step k x () = bif decide (idf x = id) then some (.ret (x, true)) else some (.next ())) :
    ((forIx step 0 l ()).bind fun o => o.on fun _ => some (d, false)) = some (findG idf d l id) := by
  rw [forIx_first (fun x => decide (idf x = id)) (fun x => (x, true)) hs, findG]
  cases l.find? (fun x => decide (idf x = id)) <;> rfl
theorem findG_true {α : Type} {idf : α → Int} {d : α} {l : List α} {id : Int} (h : (findG idf d l id).2 = true) : (findG idf d l id).1 ∈ l ∧ idf (findG idf d l id).1 = id := by
  unfold findG at h ⊢
  split
  · rename_i x hx
    exact ⟨List.mem_of_find?_eq_some hx, by simpa using List.find?_some hx⟩
  · rename_i hx; rw [hx] at h; cases h
theorem findG_mem {α : Type} {idf : α → Int} {d : α} {l : List α} {x : α} (h : x ∈ l) : (findG idf d l (idf x)).2 = true := by
  unfold findG
  split
  · rfl
  · rename_i hx
    have := List.find?_eq_none.1 hx x h
    simp at this

theorem nodeF_true {m : ApiMap} {id : Int} (h : (nodeF m id).2 = true) : (nodeF m id).1 ∈ m.Nodes ∧ (nodeF m id).1.ID = id := findG_true h
theorem liftF_true {m : ApiMap} {id : Int} (h : (liftF m id).2 = true) : (liftF m id).1 ∈ m.Lifts ∧ (liftF m id).1.ID = id := findG_true h
theorem runF_true {m : ApiMap} {id : Int} (h : (runF m id).2 = true) : (runF m id).1 ∈ m.Runs ∧ (runF m id).1.ID = id := findG_true h
theorem ref10_Node_eq (m : ApiMap) (id : Int) : ref10_Node m id = some (nodeF m id) := findG_eq fun _ _ _ => rfl

theorem within_eq (n lo hi : Int) : tq_within n lo hi = some (decide (lo ≤ n ∧ n ≤ hi)) := by
  unfold tq_within
  by_cases h : lo ≤ n
  · simp [h]
  · simp [h]
theorem in_eq (n lo hi : Int) : ref10_in n lo hi = some (decide (lo ≤ n ∧ n ≤ hi)) := within_eq n lo hi

/-- each element has a greater number than the one before it -/
def Rising {α : Type} (idf : α → Int) (l : List α) : Prop := ∀ k x y, l[k + 1]? = some x → l[k]? = some y → idf y < idf x
/-- the test of a number against the one before it, in a loop -/
def before {α ρ : Type} (idf : α → Int) (l : List α) (k : Nat) (x : α) (bad good : Option (Out Unit ρ)) : Option (Out Unit ρ) :=
  bif decide (0 < ((k : Nat) : Int)) then (idxL l (IntKind.i64.wrap ((k : Int) - 1))).bind fun y => bif decide (idf x ≤ idf y) then bad else good else good
theorem before_eq {α ρ : Type} {idf : α → Int} {l : List α} {k : Nat} {x : α} {bad good : Option (Out Unit ρ)} (hk : l[k]? = some x) (hl : l.length ≤ 100000) :
    ((∀ y, 0 < k → l[k - 1]? = some y → idf y < idf x) ∧ before idf l k x bad good = good) ∨ (¬ (∀ y, 0 < k → l[k - 1]? = some y → idf y < idf x) ∧ before idf l k x bad good = bad) := by
  have hlt := (List.getElem?_eq_some_iff.1 hk).1
  unfold before
  by_cases h0 : 0 < k
  · rw [decide_eq_true (by omega), cond_true, wrap_pred h0 (by omega), idxL_lt (by omega)]
    have hy : l[k - 1]? = some l[k - 1] := List.getElem?_eq_getElem (by omega)
    show (_ ∧ (bif decide (idf x ≤ idf l[k - 1]) then bad else good) = _) ∨ (_ ∧ (bif decide (idf x ≤ idf l[k - 1]) then bad else good) = _)
    by_cases hle : idf x ≤ idf l[k - 1]
    · rw [decide_eq_true hle, cond_true]
      refine .inr ⟨fun h => ?_, rfl⟩
      have := h _ h0 hy
      omega
    · rw [decide_eq_false hle, cond_false]
      refine .inl ⟨fun y _ hy' => ?_, rfl⟩
      rw [hy] at hy'
      obtain rfl := Option.some.inj hy'
      omega
  · rw [decide_eq_false (by omega), cond_false]
    exact .inl ⟨fun y h => absurd h h0, rfl⟩
theorem rising_iff {α : Type} {idf : α → Int} {l : List α} : Rising idf l ↔ ∀ (k : Nat) x, l[k]? = some x → ∀ y, 0 < k → l[k - 1]? = some y → idf y < idf x := by
  constructor
  · intro h k x hx y h0 hy
    refine h (k - 1) x y ?_ hy
    rwa [show k - 1 + 1 = k by omega]
  · intro h k x y hx hy
    exact h (k + 1) x hx y (by omega) (by simpa using hy)

def NodeOK (x : ApiNode) : Prop := (1 ≤ x.ID ∧ x.ID ≤ 9999) ∧ (0 ≤ x.Alt ∧ x.Alt ≤ 5000)
def LeadsUp (m : ApiMap) (a b : Int) : Prop := (nodeF m a).2 = true ∧ (nodeF m b).2 = true ∧ (nodeF m a).1.Alt < (nodeF m b).1.Alt
def LiftNum (x : ApiLift) : Prop := (1 ≤ x.ID ∧ x.ID ≤ 9999) ∧ (1 ≤ x.Operator ∧ x.Operator ≤ 8) ∧ (10 ≤ x.Length ∧ x.Length ≤ 6000) ∧ (500 ≤ x.Speed ∧ x.Speed ≤ 12000) ∧ (1 ≤ x.Seats ∧ x.Seats ≤ 16) ∧ (5 ≤ x.Spacing ∧ x.Spacing ≤ 1000)
def Carriers (x : ApiLift) : Prop := (2 * x.Length).tmod x.Spacing = 0 ∧ 1 ≤ (2 * x.Length).tdiv x.Spacing ∧ (2 * x.Length).tdiv x.Spacing ≤ 200
def LiftOK (m : ApiMap) (x : ApiLift) : Prop := LiftNum x ∧ LeadsUp m x.From x.To ∧ Carriers x
def RunNum (x : ApiRun) : Prop := (1 ≤ x.ID ∧ x.ID ≤ 9999) ∧ (1 ≤ x.Operator ∧ x.Operator ≤ 8) ∧ (1 ≤ x.Grade ∧ x.Grade ≤ 4) ∧ (1 ≤ x.Zone ∧ x.Zone ≤ 32) ∧ (10 ≤ x.Length ∧ x.Length ≤ 20000)
def RunOK (m : ApiMap) (x : ApiRun) : Prop := RunNum x ∧ LeadsUp m x.To x.From
structure MapOK (m : ApiMap) : Prop where
  lenN : m.Nodes.length ≤ 64
  lenL : m.Lifts.length ≤ 32
  lenR : m.Runs.length ≤ 64
  lenB : m.Bases.length ≤ 64
  nodes : ∀ x ∈ m.Nodes, NodeOK x
  nodesR : Rising ApiNode.ID m.Nodes
  lifts : ∀ x ∈ m.Lifts, LiftOK m x
  liftsR : Rising ApiLift.ID m.Lifts
  runs : ∀ x ∈ m.Runs, RunOK m x
  runsR : Rising ApiRun.ID m.Runs
  some : m.Bases ≠ []
  bases : ∀ b ∈ m.Bases, (nodeF m b).2 = true
  basesR : Rising (fun b : Int => b) m.Bases

/-- A loop of tests, each of which answers an error: it answers 0 exactly where no test answers one. -/
theorem tests {α : Type} {step : Nat → α → Unit → Option (Out Unit Int)} {l : List α} (ok : Nat → α → Prop) (hs : ∀ k x, l[k]? = some x → (step k x () = some (.next ()) ∧ ok k x) ∨ (∃ r, step k x () = some (.ret r) ∧ r ≠ 0 ∧ ¬ ok k x)) :
    ∃ r, ((forIx step 0 l ()).bind fun o => o.on fun _ => some 0) = some r ∧ (r = 0 ↔ ∀ k x, l[k]? = some x → ok k x) := by
  rcases forIx_inv (step := step) (l := l) (s := ()) (fun k _ => ∀ i x, i < k → l[i]? = some x → ok i x) (fun r => r ≠ 0 ∧ ∃ k x, l[k]? = some x ∧ ¬ ok k x) (fun i x h => by omega) (fun k x u hk hI => by
    rcases hs k x hk with ⟨h1, h2⟩ | ⟨r, h1, h2, h3⟩
    · refine .inl ⟨(), h1, fun i y hi hy => ?_⟩
      by_cases h : i = k
      · subst h; rw [hk] at hy; obtain rfl := Option.some.inj hy; exact h2
      · exact hI i y (by omega) hy
    · exact .inr ⟨r, h1, h2, k, x, hk, h3⟩) with ⟨u, h1, h2⟩ | ⟨r, h1, h2, k, x, hk, h3⟩
  · refine ⟨0, by rw [h1]; rfl, fun _ k x hk => h2 k x (List.getElem?_eq_some_iff.1 hk).1 hk, fun _ => rfl⟩
  · refine ⟨r, by rw [h1]; rfl, fun h => absurd h h2, fun h => absurd (h k x hk) h3⟩

theorem all_iff {α : Type} {l : List α} {P : α → Prop} {Q : Nat → α → Prop} : (∀ (k : Nat) x, l[k]? = some x → P x ∧ Q k x) ↔ (∀ x ∈ l, P x) ∧ ∀ (k : Nat) x, l[k]? = some x → Q k x := by
  constructor
  · intro h
    refine ⟨fun x hx => ?_, fun k x hk => (h k x hk).2⟩
    obtain ⟨k, hk⟩ := List.getElem?_of_mem hx
    exact (h k x hk).1
  · intro h k x hk
    exact ⟨h.1 x (List.mem_of_getElem? hk), h.2 k x hk⟩

theorem rightNodes_ok (m : ApiMap) (hl : m.Nodes.length ≤ 64) : ∃ r, tq_rightNodes m = some r ∧ (r = 0 ↔ (∀ x ∈ m.Nodes, NodeOK x) ∧ Rising ApiNode.ID m.Nodes) := by
  rw [rising_iff, ← all_iff]
  refine tests _ fun k x hk => ?_
  have hb : tq_rightNodes_b1 m k x () = (bif !decide (1 ≤ x.ID ∧ x.ID ≤ 9999) then some (Out.ret 2) else bif !decide (0 ≤ x.Alt ∧ x.Alt ≤ 5000) then some (Out.ret 2) else before ApiNode.ID m.Nodes k x (some (Out.ret 7)) (some (Out.next ()))) := by
    simp only [tq_rightNodes_b1, within_eq, Option.bind_some]; rfl
  rw [hb]
  by_cases h1 : 1 ≤ x.ID ∧ x.ID ≤ 9999
  · by_cases h2 : 0 ≤ x.Alt ∧ x.Alt ≤ 5000
    · rw [decide_eq_true h1, decide_eq_true h2]
      rcases before_eq (idf := ApiNode.ID) (bad := some (Out.ret (7 : Int))) (good := some (Out.next ())) hk (by omega) with ⟨h3, e⟩ | ⟨h3, e⟩
      · exact .inl ⟨e, ⟨h1, h2⟩, h3⟩
      · exact .inr ⟨7, e, by decide, fun h => h3 h.2⟩
    · rw [decide_eq_true h1, decide_eq_false h2]
      exact .inr ⟨2, rfl, by decide, fun h => h2 h.1.2⟩
  · rw [decide_eq_false h1]
    exact .inr ⟨2, rfl, by decide, fun h => h1 h.1.1⟩
theorem ref10_nodes_eq (m : ApiMap) : ref10_nodes m.Nodes = tq_rightNodes m := rfl

theorem wrap2 {n : Int} (h : 10 ≤ n ∧ n ≤ 6000) : IntKind.i64.wrap (2 * n) = 2 * n := by rw [wrap_i64] <;> omega
theorem tdiv_bound {a b : Int} (ha : 0 ≤ a) (hb : 0 < b) : 0 ≤ a.tdiv b ∧ a.tdiv b ≤ a := by
  rw [Int.tdiv_eq_ediv_of_nonneg ha]
  exact ⟨Int.ediv_nonneg ha (by omega), Int.ediv_le_self _ ha⟩
theorem wrap_tdiv {n s : Int} (h : 10 ≤ n ∧ n ≤ 6000) (hs : 5 ≤ s ∧ s ≤ 1000) : IntKind.i64.wrap ((2 * n).tdiv s) = (2 * n).tdiv s := by
  have := tdiv_bound (a := 2 * n) (b := s) (by omega) (by omega)
  rw [wrap_i64] <;> omega

/-- the tests of a lift or run behind its number: does it lead up, from a to b? -/
def leads (m : ApiMap) (a b : Int) (good : Option (Out Unit Int)) : Option (Out Unit Int) :=
  bif !(nodeF m a).2 then some (.ret 8) else bif !(nodeF m b).2 then some (.ret 8) else bif decide ((nodeF m b).1.Alt ≤ (nodeF m a).1.Alt) then some (.ret 11) else good
theorem leads_eq (m : ApiMap) (a b : Int) (good : Option (Out Unit Int)) : (LeadsUp m a b ∧ leads m a b good = good) ∨ (¬ LeadsUp m a b ∧ ∃ r, leads m a b good = some (.ret r) ∧ r ≠ 0) := by
  unfold leads LeadsUp
  cases h1 : (nodeF m a).2 with
  | false => exact .inr ⟨by simp, 8, rfl, by decide⟩
  | true =>
    cases h2 : (nodeF m b).2 with
    | false => exact .inr ⟨by simp, 8, rfl, by decide⟩
    | true =>
      by_cases h3 : (nodeF m b).1.Alt ≤ (nodeF m a).1.Alt
      · rw [decide_eq_true h3]
        exact .inr ⟨fun h => by omega, 11, rfl, by decide⟩
      · rw [decide_eq_false h3]
        exact .inl ⟨⟨rfl, rfl, by omega⟩, rfl⟩
def carr (x : ApiLift) (good : Option (Out Unit Int)) : Option (Out Unit Int) :=
  nz x.Spacing (bif decide ((IntKind.i64.wrap (2 * x.Length)).tmod x.Spacing ≠ 0) then some (.ret 1) else nz x.Spacing (bif !decide (1 ≤ IntKind.i64.wrap ((IntKind.i64.wrap (2 * x.Length)).tdiv x.Spacing) ∧ IntKind.i64.wrap ((IntKind.i64.wrap (2 * x.Length)).tdiv x.Spacing) ≤ 200) then some (.ret 1) else good))
theorem carr_eq {x : ApiLift} (hl : 10 ≤ x.Length ∧ x.Length ≤ 6000) (hs : 5 ≤ x.Spacing ∧ x.Spacing ≤ 1000) (good : Option (Out Unit Int)) : (Carriers x ∧ carr x good = good) ∨ (¬ Carriers x ∧ ∃ r, carr x good = some (.ret r) ∧ r ≠ 0) := by
  unfold carr Carriers
  rw [nz_ok (by omega), nz_ok (by omega), wrap2 hl, wrap_tdiv hl hs]
  by_cases h1 : (2 * x.Length).tmod x.Spacing = 0
  · rw [decide_eq_false (by simpa using h1)]
    by_cases h2 : 1 ≤ (2 * x.Length).tdiv x.Spacing ∧ (2 * x.Length).tdiv x.Spacing ≤ 200
    · rw [decide_eq_true h2]; exact .inl ⟨⟨h1, h2.1, h2.2⟩, rfl⟩
    · rw [decide_eq_false h2]; exact .inr ⟨fun h => h2 h.2, 1, rfl, by decide⟩
  · rw [decide_eq_true (by simpa using h1)]; exact .inr ⟨fun h => h1 h.1, 1, rfl, by decide⟩

theorem rightLifts_ok (m : ApiMap) (hl : m.Lifts.length ≤ 32) : ∃ r, tq_rightLifts m = some r ∧ (r = 0 ↔ (∀ x ∈ m.Lifts, LiftOK m x) ∧ Rising ApiLift.ID m.Lifts) := by
  rw [rising_iff, ← all_iff]
  refine tests _ fun k x hk => ?_
  have hb : tq_rightLifts_b1 m k x () = (bif !decide (1 ≤ x.ID ∧ x.ID ≤ 9999) then some (Out.ret 2) else bif !decide (1 ≤ x.Operator ∧ x.Operator ≤ 8) then some (Out.ret 2) else bif !decide (10 ≤ x.Length ∧ x.Length ≤ 6000) then some (Out.ret 2) else
      bif !decide (500 ≤ x.Speed ∧ x.Speed ≤ 12000) then some (Out.ret 2) else bif !decide (1 ≤ x.Seats ∧ x.Seats ≤ 16) then some (Out.ret 2) else bif !decide (5 ≤ x.Spacing ∧ x.Spacing ≤ 1000) then some (Out.ret 2) else
      before ApiLift.ID m.Lifts k x (some (Out.ret 7)) (leads m x.From x.To (carr x (some (.next ()))))) := by
    simp only [tq_rightLifts_b1, tq_rightLifts_j2, within_eq, ref10_Node_eq, Option.bind_some]; rfl
  rw [hb]
  by_cases h1 : 1 ≤ x.ID ∧ x.ID ≤ 9999
  case neg => rw [decide_eq_false h1]; exact .inr ⟨2, rfl, by decide, fun h => h1 h.1.1.1⟩
  by_cases h2 : 1 ≤ x.Operator ∧ x.Operator ≤ 8
  case neg => rw [decide_eq_true h1, decide_eq_false h2]; exact .inr ⟨2, rfl, by decide, fun h => h2 h.1.1.2.1⟩
  by_cases h3 : 10 ≤ x.Length ∧ x.Length ≤ 6000
  case neg => rw [decide_eq_true h1, decide_eq_true h2, decide_eq_false h3]; exact .inr ⟨2, rfl, by decide, fun h => h3 h.1.1.2.2.1⟩
  by_cases h4 : 500 ≤ x.Speed ∧ x.Speed ≤ 12000
  case neg => rw [decide_eq_true h1, decide_eq_true h2, decide_eq_true h3, decide_eq_false h4]; exact .inr ⟨2, rfl, by decide, fun h => h4 h.1.1.2.2.2.1⟩
  by_cases h5 : 1 ≤ x.Seats ∧ x.Seats ≤ 16
  case neg => rw [decide_eq_true h1, decide_eq_true h2, decide_eq_true h3, decide_eq_true h4, decide_eq_false h5]; exact .inr ⟨2, rfl, by decide, fun h => h5 h.1.1.2.2.2.2.1⟩
  by_cases h6 : 5 ≤ x.Spacing ∧ x.Spacing ≤ 1000
  case neg => rw [decide_eq_true h1, decide_eq_true h2, decide_eq_true h3, decide_eq_true h4, decide_eq_true h5, decide_eq_false h6]; exact .inr ⟨2, rfl, by decide, fun h => h6 h.1.1.2.2.2.2.2⟩
  rw [decide_eq_true h1, decide_eq_true h2, decide_eq_true h3, decide_eq_true h4, decide_eq_true h5, decide_eq_true h6]
  rcases before_eq (idf := ApiLift.ID) (bad := some (Out.ret (7 : Int))) (good := leads m x.From x.To (carr x (some (.next ())))) hk (by omega) with ⟨h7, e⟩ | ⟨h7, e⟩
  case inr => exact .inr ⟨7, e, by decide, fun h => h7 h.2⟩
  rcases leads_eq m x.From x.To (carr x (some (.next ()))) with ⟨h8, e2⟩ | ⟨h8, r, e2, hr⟩
  case inr => exact .inr ⟨r, e.trans e2, hr, fun h => h8 h.1.2.1⟩
  rcases carr_eq h3 h6 (some (.next ())) with ⟨h9, e3⟩ | ⟨h9, r, e3, hr⟩
  case inr => exact .inr ⟨r, e.trans (e2.trans e3), hr, fun h => h9 h.1.2.2⟩
  exact .inl ⟨e.trans (e2.trans e3), ⟨⟨h1, h2, h3, h4, h5, h6⟩, h8, h9⟩, h7⟩

theorem rightRuns_ok (m : ApiMap) (hl : m.Runs.length ≤ 64) : ∃ r, tq_rightRuns m = some r ∧ (r = 0 ↔ (∀ x ∈ m.Runs, RunOK m x) ∧ Rising ApiRun.ID m.Runs) := by
  rw [rising_iff, ← all_iff]
  refine tests _ fun k x hk => ?_
  have hlead : ∀ (good : Option (Out Unit Int)), (bif !(nodeF m x.From).2 then some (.ret 8) else bif !(nodeF m x.To).2 then some (.ret 8) else bif decide ((nodeF m x.From).1.Alt ≤ (nodeF m x.To).1.Alt) then some (.ret 11) else good) = leads m x.To x.From good := by
    intro good
    unfold leads
    cases (nodeF m x.From).2 <;> cases (nodeF m x.To).2 <;> rfl
  have hb : tq_rightRuns_b1 m k x () = (bif !decide (1 ≤ x.ID ∧ x.ID ≤ 9999) then some (Out.ret 2) else bif !decide (1 ≤ x.Operator ∧ x.Operator ≤ 8) then some (Out.ret 2) else bif !decide (1 ≤ x.Grade ∧ x.Grade ≤ 4) then some (Out.ret 2) else
      bif !decide (1 ≤ x.Zone ∧ x.Zone ≤ 32) then some (Out.ret 2) else bif !decide (10 ≤ x.Length ∧ x.Length ≤ 20000) then some (Out.ret 2) else
      before ApiRun.ID m.Runs k x (some (Out.ret 7)) (leads m x.To x.From (some (.next ())))) := by
    simp only [tq_rightRuns_b1, within_eq, ref10_Node_eq, Option.bind_some, hlead]; rfl
  rw [hb]
  by_cases h1 : 1 ≤ x.ID ∧ x.ID ≤ 9999
  case neg => rw [decide_eq_false h1]; exact .inr ⟨2, rfl, by decide, fun h => h1 h.1.1.1⟩
  by_cases h2 : 1 ≤ x.Operator ∧ x.Operator ≤ 8
  case neg => rw [decide_eq_true h1, decide_eq_false h2]; exact .inr ⟨2, rfl, by decide, fun h => h2 h.1.1.2.1⟩
  by_cases h3 : 1 ≤ x.Grade ∧ x.Grade ≤ 4
  case neg => rw [decide_eq_true h1, decide_eq_true h2, decide_eq_false h3]; exact .inr ⟨2, rfl, by decide, fun h => h3 h.1.1.2.2.1⟩
  by_cases h4 : 1 ≤ x.Zone ∧ x.Zone ≤ 32
  case neg => rw [decide_eq_true h1, decide_eq_true h2, decide_eq_true h3, decide_eq_false h4]; exact .inr ⟨2, rfl, by decide, fun h => h4 h.1.1.2.2.2.1⟩
  by_cases h5 : 10 ≤ x.Length ∧ x.Length ≤ 20000
  case neg => rw [decide_eq_true h1, decide_eq_true h2, decide_eq_true h3, decide_eq_true h4, decide_eq_false h5]; exact .inr ⟨2, rfl, by decide, fun h => h5 h.1.1.2.2.2.2⟩
  rw [decide_eq_true h1, decide_eq_true h2, decide_eq_true h3, decide_eq_true h4, decide_eq_true h5]
  rcases before_eq (idf := ApiRun.ID) (bad := some (Out.ret (7 : Int))) (good := leads m x.To x.From (some (.next ()))) hk (by omega) with ⟨h7, e⟩ | ⟨h7, e⟩
  case inr => exact .inr ⟨7, e, by decide, fun h => h7 h.2⟩
  rcases leads_eq m x.To x.From (some (.next ())) with ⟨h8, e2⟩ | ⟨h8, r, e2, hr⟩
  case inr => exact .inr ⟨r, e.trans e2, hr, fun h => h8 h.1.2⟩
  exact .inl ⟨e.trans e2, ⟨⟨h1, h2, h3, h4, h5⟩, h8⟩, h7⟩

/-- Tests that all answer the same error. -/
theorem testsC {α : Type} {step : Nat → α → Unit → Option (Out Unit Int)} {l : List α} (e : Int) (ok : Nat → α → Prop) (hs : ∀ k x, l[k]? = some x → (step k x () = some (.next ()) ∧ ok k x) ∨ (step k x () = some (.ret e) ∧ ¬ ok k x)) :
    (forIx step 0 l () = some (.next ()) ∧ ∀ k x, l[k]? = some x → ok k x) ∨ (forIx step 0 l () = some (.ret e) ∧ ¬ ∀ k x, l[k]? = some x → ok k x) := by
  rcases forIx_inv (step := step) (l := l) (s := ()) (fun k _ => ∀ i x, i < k → l[i]? = some x → ok i x) (fun r => r = e ∧ ∃ k x, l[k]? = some x ∧ ¬ ok k x) (fun i x h => by omega) (fun k x u hk hI => by
    rcases hs k x hk with ⟨h1, h2⟩ | ⟨h1, h3⟩
    · refine .inl ⟨(), h1, fun i y hi hy => ?_⟩
      by_cases h : i = k
      · subst h; rw [hk] at hy; obtain rfl := Option.some.inj hy; exact h2
      · exact hI i y (by omega) hy
    · exact .inr ⟨e, h1, rfl, k, x, hk, h3⟩) with ⟨u, h1, h2⟩ | ⟨r, h1, h2, k, x, hk, h3⟩
  · exact .inl ⟨h1, fun k x hk => h2 k x (List.getElem?_eq_some_iff.1 hk).1 hk⟩
  · subst h2; exact .inr ⟨h1, fun h => h3 (h k x hk)⟩

theorem bases1 (m : ApiMap) : (forIx (tq_rightBases_b3 m) 0 m.Bases () = some (.next ()) ∧ ∀ b ∈ m.Bases, (nodeF m b).2 = true) ∨ (forIx (tq_rightBases_b3 m) 0 m.Bases () = some (.ret 8) ∧ ¬ ∀ b ∈ m.Bases, (nodeF m b).2 = true) := by
  have h := testsC (step := tq_rightBases_b3 m) (l := m.Bases) 8 (fun _ b => (nodeF m b).2 = true) (fun k x hk => by
    simp only [tq_rightBases_b3, ref10_Node_eq, Option.bind_some]
    cases (nodeF m x).2 <;> simp)
  have e : (∀ (k : Nat) x, m.Bases[k]? = some x → (nodeF m x).2 = true) ↔ ∀ b ∈ m.Bases, (nodeF m b).2 = true :=
    ⟨fun h b hb => by obtain ⟨k, hk⟩ := List.getElem?_of_mem hb; exact h k b hk, fun h k x hk => h x (List.mem_of_getElem? hk)⟩
  rwa [e] at h
theorem bases2 (m : ApiMap) (hl : m.Bases.length ≤ 64) : (forIx (tq_rightBases_b2 m) 0 m.Bases () = some (.next ()) ∧ Rising (fun b : Int => b) m.Bases) ∨ (forIx (tq_rightBases_b2 m) 0 m.Bases () = some (.ret 7) ∧ ¬ Rising (fun b : Int => b) m.Bases) := by
  rw [rising_iff]
  refine testsC _ _ fun k x hk => ?_
  rcases before_eq (idf := fun b : Int => b) (bad := some (Out.ret (7 : Int))) (good := some (Out.next ())) hk (by omega) with ⟨h, e⟩ | ⟨h, e⟩
  · exact .inl ⟨e, h⟩
  · exact .inr ⟨e, h⟩
theorem bases2R (m : ApiMap) (hl : m.Bases.length ≤ 64) : (forN (ref10_bases_b2 m) (m.Bases.length - 1) () = some (.next ()) ∧ Rising (fun b : Int => b) m.Bases) ∨ (forN (ref10_bases_b2 m) (m.Bases.length - 1) () = some (.ret 7) ∧ ¬ Rising (fun b : Int => b) m.Bases) := by
  have hn : m.Bases.length - 1 ≤ 9223372036854775807 := by omega
  rw [forN, if_pos hn]
  have h := testsC (step := ref10_bases_b2 m) (l := List.replicate (m.Bases.length - 1) ()) 7 (fun k _ => ∀ x y, m.Bases[k + 1]? = some x → m.Bases[k]? = some y → y < x) (fun k u hk => by
    have hk := getElem?_repl hk
    have h1 : m.Bases[k + 1]? = some m.Bases[k + 1] := List.getElem?_eq_getElem (by omega)
    have h2 : m.Bases[k]? = some m.Bases[k] := List.getElem?_eq_getElem (by omega)
    have e1 : idxL m.Bases ((k : Int) + 1) = some m.Bases[k + 1] := idxL_ok (by omega) h1
    have e2 : idxL m.Bases (IntKind.i64.wrap ((k : Int) + 1 - 1)) = some m.Bases[k] := idxL_ok (by rw [wrap_i64] <;> omega) h2
    simp only [ref10_bases_b2, e1, e2, Option.bind_some]
    by_cases hle : m.Bases[k + 1] ≤ m.Bases[k]
    · rw [decide_eq_true hle]
      exact .inr ⟨rfl, fun h => by have := h _ _ h1 h2; omega⟩
    · rw [decide_eq_false hle]
      refine .inl ⟨rfl, fun x y hx hy => ?_⟩
      rw [h1] at hx; rw [h2] at hy
      obtain rfl := Option.some.inj hx; obtain rfl := Option.some.inj hy
      omega)
  have e : (∀ (k : Nat) (u : Unit), (List.replicate (m.Bases.length - 1) ())[k]? = some u → ∀ x y, m.Bases[k + 1]? = some x → m.Bases[k]? = some y → y < x) ↔ Rising (fun b : Int => b) m.Bases := by
    constructor
    · intro h k x y hx hy
      have := (List.getElem?_eq_some_iff.1 hx).1
      exact h k () (by rw [List.getElem?_replicate, if_pos (by omega)]) x y hx hy
    · intro h k _ _ x y hx hy
      exact h k x y hx hy
  rwa [e] at h
theorem rightBases_ok (m : ApiMap) (hl : m.Bases.length ≤ 64) : ∃ r, tq_rightBases m = some r ∧ ref10_bases m = some r ∧ (r = 0 ↔ m.Bases ≠ [] ∧ (∀ b ∈ m.Bases, (nodeF m b).2 = true) ∧ Rising (fun b : Int => b) m.Bases) := by
  unfold tq_rightBases ref10_bases
  by_cases h0 : m.Bases = []
  · exact ⟨8, by simp [h0], by simp [h0], by simp [h0]⟩
  have hlen : ¬ ((m.Bases.length : Nat) : Int) = 0 := by
    have := List.length_pos_iff.2 h0; omega
  rw [decide_eq_false hlen, cond_false, cond_false]
  have e1 : forIx (ref10_bases_b3 m) 0 m.Bases () = forIx (tq_rightBases_b3 m) 0 m.Bases () := rfl
  rw [e1]
  rcases bases1 m with ⟨h1, h2⟩ | ⟨h1, h2⟩
  case inr => exact ⟨8, by rw [h1]; rfl, by rw [h1]; rfl, by simp [h2]⟩
  rcases bases2 m hl with ⟨h3, h4⟩ | ⟨h3, h4⟩
  · rcases bases2R m hl with ⟨h5, h6⟩ | ⟨h5, h6⟩
    · refine ⟨0, ?_, ?_, fun _ => ⟨h0, h2, h4⟩, fun _ => rfl⟩
      · rw [h1]; show ((forIx (tq_rightBases_b2 m) 0 m.Bases ()).bind fun o => o.on fun _ => some 0) = _; rw [h3]; rfl
      · rw [h1]; show ((forN (ref10_bases_b2 m) (m.Bases.length - 1) ()).bind fun o => o.on fun _ => some 0) = _; rw [h5]; rfl
    · exact absurd h4 h6
  · rcases bases2R m hl with ⟨h5, h6⟩ | ⟨h5, h6⟩
    · exact absurd h6 h4
    · refine ⟨7, ?_, ?_, fun h => by omega, fun h => absurd h.2.2 h4⟩
      · rw [h1]; show ((forIx (tq_rightBases_b2 m) 0 m.Bases ()).bind fun o => o.on fun _ => some 0) = _; rw [h3]; rfl
      · rw [h1]; show ((forN (ref10_bases_b2 m) (m.Bases.length - 1) ()).bind fun o => o.on fun _ => some 0) = _; rw [h5]; rfl

theorem rises_eq (m : ApiMap) (a b : Int) : ref10_rises m a b = some (if (nodeF m a).2 = false then 8 else if (nodeF m b).2 = false then 8 else if (nodeF m b).1.Alt ≤ (nodeF m a).1.Alt then 11 else 0) := by
  unfold ref10_rises
  simp only [ref10_Node_eq, Option.bind_some]
  cases (nodeF m a).2 <;> cases (nodeF m b).2 <;> simp
  by_cases h : (nodeF m b).1.Alt ≤ (nodeF m a).1.Alt
  · simp [h]
  · simp [h]
theorem rises_leads (m : ApiMap) (a b : Int) (good : Option (Out Unit Int)) : ((ref10_rises m a b).bind fun y => bif decide (y ≠ 0) then some (Out.ret y) else good) = leads m a b good := by
  rw [rises_eq]
  unfold leads
  cases (nodeF m a).2
  · rfl
  cases (nodeF m b).2
  · rfl
  show (bif decide ((if (nodeF m b).1.Alt ≤ (nodeF m a).1.Alt then (11 : Int) else 0) ≠ 0) then some (Out.ret (if (nodeF m b).1.Alt ≤ (nodeF m a).1.Alt then (11 : Int) else 0)) else good) = bif decide ((nodeF m b).1.Alt ≤ (nodeF m a).1.Alt) then some (Out.ret 11) else good
  by_cases h : (nodeF m b).1.Alt ≤ (nodeF m a).1.Alt
  · rw [if_pos h, decide_eq_true h]; rfl
  · rw [if_neg h, decide_eq_false h]; rfl
theorem carr_ref (x : ApiLift) (good : Option (Out Unit Int)) : ((ref10_carriers x).bind fun y => bif !y then some (Out.ret 1) else good) = carr x good := by
  unfold ref10_carriers carr
  simp only [in_eq]
  by_cases hs : x.Spacing = 0
  · simp [nz, hs]
  rw [nz_ok hs, nz_ok hs, nz_ok hs, nz_ok hs]
  by_cases h : (IntKind.i64.wrap (2 * x.Length)).tmod x.Spacing = 0
  · have e1 : decide ((IntKind.i64.wrap (2 * x.Length)).tmod x.Spacing = 0) = true := decide_eq_true h
    have e2 : decide ((IntKind.i64.wrap (2 * x.Length)).tmod x.Spacing ≠ 0) = false := decide_eq_false (by simpa using h)
    rw [e1, e2]; rfl
  · have e1 : decide ((IntKind.i64.wrap (2 * x.Length)).tmod x.Spacing = 0) = false := decide_eq_false h
    have e2 : decide ((IntKind.i64.wrap (2 * x.Length)).tmod x.Spacing ≠ 0) = true := decide_eq_true h
    rw [e1, e2]; rfl
theorem ref10_lifts_eq (m : ApiMap) : ref10_lifts m = tq_rightLifts m := by
  have h : ref10_lifts_b1 m = tq_rightLifts_b1 m := by
    funext k x u
    simp only [ref10_lifts_b1, in_eq, Option.bind_some, rises_leads, carr_ref, tq_rightLifts_b1, tq_rightLifts_j2, within_eq, ref10_Node_eq]
    rfl
  unfold ref10_lifts tq_rightLifts
  rw [h]
theorem ref10_runs_eq (m : ApiMap) : ref10_runs m = tq_rightRuns m := by
  have hlead : ∀ (a b : Int) (good : Option (Out Unit Int)), (bif !(nodeF m b).2 then some (.ret 8) else bif !(nodeF m a).2 then some (.ret 8) else bif decide ((nodeF m b).1.Alt ≤ (nodeF m a).1.Alt) then some (.ret 11) else good) = leads m a b good := by
    intro a b good
    unfold leads
    cases (nodeF m a).2 <;> cases (nodeF m b).2 <;> rfl
  have h : ref10_runs_b1 m = tq_rightRuns_b1 m := by
    funext k x u
    simp only [ref10_runs_b1, in_eq, Option.bind_some, rises_leads, tq_rightRuns_b1, within_eq, ref10_Node_eq, hlead]
  unfold ref10_runs tq_rightRuns
  rw [h]

/-- Right, of the program and of the reference. -/
theorem right_ok (m : ApiMap) : ∃ r, tq_Right m = some r ∧ ref10_Right m = some r ∧ (r = 0 ↔ MapOK m) := by
  unfold tq_Right ref10_Right
  by_cases h1 : (64 : Int) < ((m.Nodes.length : Nat) : Int)
  · rw [decide_eq_true h1]; exact ⟨4, rfl, rfl, fun h => by omega, fun h => by have := h.lenN; omega⟩
  by_cases h2 : (32 : Int) < ((m.Lifts.length : Nat) : Int)
  · rw [decide_eq_false h1, decide_eq_true h2]; exact ⟨4, rfl, rfl, fun h => by omega, fun h => by have := h.lenL; omega⟩
  by_cases h3 : (64 : Int) < ((m.Runs.length : Nat) : Int)
  · rw [decide_eq_false h1, decide_eq_false h2, decide_eq_true h3]; exact ⟨4, rfl, rfl, fun h => by omega, fun h => by have := h.lenR; omega⟩
  by_cases h4 : (64 : Int) < ((m.Bases.length : Nat) : Int)
  · rw [decide_eq_false h1, decide_eq_false h2, decide_eq_false h3, decide_eq_true h4]; exact ⟨4, rfl, rfl, fun h => by omega, fun h => by have := h.lenB; omega⟩
  rw [decide_eq_false h1, decide_eq_false h2, decide_eq_false h3, decide_eq_false h4]
  obtain ⟨r1, e1, i1⟩ := rightNodes_ok m (by omega)
  obtain ⟨r2, e2, i2⟩ := rightLifts_ok m (by omega)
  obtain ⟨r3, e3, i3⟩ := rightRuns_ok m (by omega)
  obtain ⟨r4, e4, e4', i4⟩ := rightBases_ok m (by omega)
  simp only [cond_false, ref10_nodes_eq, ref10_lifts_eq, ref10_runs_eq, e1, e2, e3, e4, e4', Option.bind_some]
  by_cases z1 : r1 = 0
  case neg => rw [decide_eq_true z1]; exact ⟨r1, rfl, rfl, fun h => absurd h z1, fun h => absurd (i1.2 ⟨h.nodes, h.nodesR⟩) z1⟩
  by_cases z2 : r2 = 0
  case neg => rw [decide_eq_false (by simpa using z1), decide_eq_true z2]; exact ⟨r2, rfl, rfl, fun h => absurd h z2, fun h => absurd (i2.2 ⟨h.lifts, h.liftsR⟩) z2⟩
  by_cases z3 : r3 = 0
  case neg => rw [decide_eq_false (by simpa using z1), decide_eq_false (by simpa using z2), decide_eq_true z3]; exact ⟨r3, rfl, rfl, fun h => absurd h z3, fun h => absurd (i3.2 ⟨h.runs, h.runsR⟩) z3⟩
  rw [decide_eq_false (by simpa using z1), decide_eq_false (by simpa using z2), decide_eq_false (by simpa using z3)]
  refine ⟨r4, rfl, rfl, fun h => ?_, fun h => i4.2 ⟨h.some, h.bases, h.basesR⟩⟩
  have g1 := i1.1 z1; have g2 := i2.1 z2; have g3 := i3.1 z3; have g4 := i4.1 h
  exact ⟨by omega, by omega, by omega, by omega, g1.1, g1.2, g2.1, g2.2, g3.1, g3.2, g4.1, g4.2.1, g4.2.2⟩
theorem right10_eq (m : ApiMap) : ∃ r, ref10_Right m = some r ∧ (r = 0 ↔ MapOK m) := by
  obtain ⟨r, _, h1, h2⟩ := right_ok m
  exact ⟨r, h1, h2⟩
end Go.Proofs.Ytooopbnnhbacjaa
