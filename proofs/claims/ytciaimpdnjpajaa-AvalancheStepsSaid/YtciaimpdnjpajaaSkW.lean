/-
  Objects under other numbers; contracts of functions whose results are memory of their own.
-/
import Derived.Test.YtciaimpdnjpajaaSkL
namespace Go.Ab
open Go Go.RowKit

mutual
def ren (π : Nat → Nat) : AVal → AVal
  | .agg cs => .agg (rens π cs)
  | .tuple cs => .tuple (rens π cs)
  | .own r v lo len => .own (π r) v lo len
  | .ptr r k => .ptr (π r) k
  | .rptr r v i k => .rptr (π r) v i k
  | .map r => .map (π r)
  | .iter r => .iter (π r)
  | .yld r => .yld (π r)
  | .func f cs => .func f (rens π cs)
  | .any => .any
  | .bool b => .bool b
  | .int k n => .int k n
  | .str s => .str s
  | .nils => .nils
  | .z0 => .z0
  | .sl sz xs => .sl sz xs
  | .eptr cs => .eptr cs
  | .nilm => .nilm
  | .vmap es => .vmap es
  | .pr φ => .pr φ
def rens (π : Nat → Nat) : List AVal → List AVal
  | [] => []
  | c :: r => ren π c :: rens π r
end
def renE (π : Nat → Nat) : List (Int × AVal) → List (Int × AVal)
  | [] => []
  | (k, a) :: r => (k, ren π a) :: renE π r
def renFr (π : Nat → Nat) : Fr → Fr
  | [] => []
  | (k, a) :: fr => (k, ren π a) :: renFr π fr
def renO (π : Nat → Nat) : AObj → AObj
  | .box cs => .box (rens π cs)
  | .row v sz xs => .row v sz xs
  | .mp es => .mp es
  | .mpo q es => .mpo q (renE π es)
  | .it l c => .it l c
  | .lp D n fr ps a b s p => .lp D n (renFr π fr) ps a b s p
  | .gone => .gone
  | .resv => .resv
def renFrs (π : Nat → Nat) : List Fr → List Fr
  | [] => []
  | f :: l => renFr π f :: renFrs π l
def renH (π : Nat → Nat) : List AObj → List AObj
  | [] => []
  | o :: H => renO π o :: renH π H

theorem rens_len (π : Nat → Nat) : ∀ l : List AVal, (rens π l).length = l.length
  | [] => rfl
  | c :: r => by simp [rens, rens_len π r]
theorem rens_get (π : Nat → Nat) : ∀ (l : List AVal) (i : Nat), (rens π l)[i]? = (l[i]?).map (ren π)
  | [], i => by simp [rens]
  | c :: r, 0 => by simp [rens]
  | c :: r, i + 1 => by simp [rens, rens_get π r i]
theorem rens_some {π : Nat → Nat} {l : List AVal} {i : Nat} {c : AVal} (h : (rens π l)[i]? = some c) : ∃ c0, l[i]? = some c0 ∧ c = ren π c0 := by
  rw [rens_get] at h
  cases hc : l[i]? with
  | none => rw [hc] at h; cases h
  | some c0 => rw [hc] at h; exact ⟨c0, rfl, (Option.some.inj h).symm⟩
theorem renE_get (π : Nat → Nat) : ∀ (l : List (Int × AVal)) (i : Nat), (renE π l)[i]? = (l[i]?).map fun p => (p.1, ren π p.2)
  | [], i => by simp [renE]
  | (k, a) :: r, 0 => by simp [renE]
  | (k, a) :: r, i + 1 => by simp [renE, renE_get π r i]
theorem renE_some {π : Nat → Nat} {l : List (Int × AVal)} {i : Nat} {p : Int × AVal} (h : (renE π l)[i]? = some p) : ∃ p0, l[i]? = some p0 ∧ p = (p0.1, ren π p0.2) := by
  rw [renE_get] at h
  cases hc : l[i]? with
  | none => rw [hc] at h; cases h
  | some c0 => rw [hc] at h; exact ⟨c0, rfl, (Option.some.inj h).symm⟩
theorem renE_keys (π : Nat → Nat) : ∀ l : List (Int × AVal), (renE π l).map (·.1) = l.map (·.1)
  | [] => rfl
  | (k, a) :: r => by simp [renE, renE_keys π r]
theorem renE_len (π : Nat → Nat) : ∀ l : List (Int × AVal), (renE π l).length = l.length
  | [] => rfl
  | (k, a) :: r => by simp [renE, renE_len π r]
theorem MapWf.ren {q : Bool} {π : Nat → Nat} {en : Array MapEntry} {cl : Nat} {es : List (Int × AVal)} (h : MapWf q en cl es) : MapWf q en cl (renE π es) :=
  ⟨by rw [renE_len]; exact h.size, fun i e p a b => by
    obtain ⟨p0, h1, rfl⟩ := renE_some b
    exact h.keys i e p0 a h1, by rw [renE_keys]; exact h.nodup, h.born, h.bnodup⟩
theorem renH_get (π : Nat → Nat) : ∀ (l : List AObj) (i : Nat), (renH π l)[i]? = (l[i]?).map (renO π)
  | [], i => by simp [renH]
  | c :: r, 0 => by simp [renH]
  | c :: r, i + 1 => by simp [renH, renH_get π r i]
theorem renH_len (π : Nat → Nat) : ∀ l : List AObj, (renH π l).length = l.length
  | [] => rfl
  | c :: r => by simp [renH, renH_len π r]
theorem get_renFr (π : Nat → Nat) : ∀ (fr : Fr) (t : Nat), get (renFr π fr) t = ren π (get fr t)
  | [], t => rfl
  | (k, a) :: fr, t => by
    have ih := get_renFr π fr t
    simp only [renFr, get] at ih ⊢
    split
    · rfl
    · exact ih
theorem ren_g0 {π : Nat → Nat} {a : AVal} (h : a.g0 = true) : ren π a = a := by
  cases a <;> first | rfl | (simp [AVal.g0] at h)
theorem rens_g0 {π : Nat → Nat} : ∀ {l : List AVal}, l.all AVal.g0 = true → rens π l = l
  | [], _ => rfl
  | c :: r, h => by
    simp only [List.all_cons, Bool.and_eq_true] at h
    rw [rens, ren_g0 h.1, rens_g0 h.2]
theorem ren_g1 {π : Nat → Nat} {a : AVal} (h : a.g1 = true) : ren π a = a := by
  cases a with
  | agg cs => rw [ren, rens_g0 (by simpa [AVal.g1] using h)]
  | _ => exact ren_g0 (by simpa [AVal.g1] using h)
theorem renO_resv {π : Nat → Nat} {o : AObj} (h : renO π o = .resv) : o = .resv := by cases o <;> first | rfl | cases h

/-- C' tells of the same as C, the object r under the number π r. -/
structure Renames (π : Nat → Nat) (C C' : Ctx) (w w' : World) : Prop where
  imm : ∀ b, C.A b → C'.A b ∧ w'.heap[b]? = w.heap[b]?
  obj : ∀ (r : Nat) o, C.H[r]? = some o → C'.H[π r]? = some (renO π o) ∧ C'.ρ (π r) = C.ρ r
theorem Renames.known {π : Nat → Nat} {C C' : Ctx} {w w' : World} (m : Renames π C C' w w') {r : Nat} (h : C.known r) : C'.known (π r) := by
  obtain ⟨o, ho, hne⟩ := h
  exact ⟨_, (m.obj r o ho).1, fun e => hne (renO_resv e)⟩
theorem Renames.back {π : Nat → Nat} {C C' : Ctx} {w w' : World} (m : Renames π C C' w w') {r : Nat} (h : C.known r) {o' : AObj} (ho' : C'.H[π r]? = some o') : ∃ o, C.H[r]? = some o ∧ o' = renO π o ∧ C'.ρ (π r) = C.ρ r := by
  obtain ⟨o, ho, _⟩ := h
  have := m.obj r o ho
  rw [this.1] at ho'
  exact ⟨o, ho, (Option.some.inj ho').symm, this.2⟩

theorem RepV.ren {π : Nat → Nat} {C C' : Ctx} {w w' : World} (m : Renames π C C' w w') {v : Value} {a : AVal} (h : RepV C w v a) : RepV C' w' v (ren π a) := by
  have gr : ∀ {v a}, RepV C w v a → a.g2 = true → RepV C' w' v a := fun h hg => RepV.ground m.imm h hg
  induction h with
  | any v => exact .any v
  | bool b => exact .bool b
  | int k n => exact .int k n
  | str s => exact .str s
  | agg arr cs h _ ih =>
    refine .agg arr _ (by rw [rens_len, h]) fun i u c a b => ?_
    obtain ⟨c0, h1, rfl⟩ := rens_some b
    exact ih i u c0 a h1
  | tuple arr cs h _ ih =>
    refine .tuple arr _ (by rw [rens_len, h]) fun i u c a b => ?_
    obtain ⟨c0, h1, rfl⟩ := rens_some b
    exact ih i u c0 a h1
  | nils => exact .nils
  | z0 a => exact .z0 a
  | sl0 a cap sz hcm => exact .sl0 a cap sz hcm
  | sl a len cap xs sz u hsp hlen hlc hcm hA hsz1 hsz hg hcell hrep ih =>
    refine .sl a len cap xs sz u hsp hlen hlc hcm (m.imm _ hA).1 hsz1 hsz hg (fun j hj => ?_) fun i k x c h1 h2 => gr (hrep i k x c h1 h2) (AVal.g2_of_g0 (hg x (List.mem_of_getElem? h1) c (List.mem_of_getElem? h2)))
    rw [cell?_of_heap (w := w)]; exact hcell j hj
    exact (m.imm _ hA).2
  | own a len cap r v lo hr hlc hcm hv =>
    refine .own a len cap (π r) v lo (m.known hr) hlc hcm fun v' sz xs h' => ?_
    obtain ⟨o, h1, h2, h3⟩ := m.back hr h'
    cases o <;> cases h2
    rw [h3]; exact hv _ _ _ h1
  | eptr a cs u hsp hA hg hcell hrep ih =>
    refine .eptr a cs u hsp (m.imm _ hA).1 hg (fun j hj => ?_) fun j c b => gr (hrep j c b) (AVal.g2_of_g0 (hg c (List.mem_of_getElem? b)))
    rw [cell?_of_heap (w := w)]; exact hcell j hj
    exact (m.imm _ hA).2
  | ptr a r k hr h =>
    refine .ptr a (π r) k (m.known hr) fun cs h' => ?_
    obtain ⟨o, h1, h2, h3⟩ := m.back hr h'
    cases o <;> cases h2
    rw [h3]; exact h _ h1
  | rptr a r v i k hr h =>
    refine .rptr a (π r) v i k (m.known hr) fun v' sz xs h' => ?_
    obtain ⟨o, h1, h2, h3⟩ := m.back hr h'
    cases o <;> cases h2
    rw [h3]; exact h _ _ _ h1
  | nilm => exact .nilm
  | pr φ a len cap h hs => exact .pr φ a len cap (hs _ _ _ _ (fun b hb => ⟨(m.imm b hb).1, .inl (m.imm b hb).2⟩) h) hs
  | map b r hr h =>
    refine .map b (π r) (m.known hr) fun o' h' hl => ?_
    obtain ⟨o, h1, h2, h3⟩ := m.back hr h'
    rw [h3]; exact h _ h1 (by subst h2; cases o <;> first | rfl | exact hl)
  | vmap0 => exact .vmap0
  | vmap b es entries clock hA hg hh hwf hrep ih =>
    exact .vmap b es entries clock (m.imm _ hA).1 hg (by rw [(m.imm _ hA).2]; exact hh) hwf fun i e p a b => gr (hrep i e p a b) (AVal.g2_of_g1 (hg p (List.mem_of_getElem? b)))
  | func f arr cs h _ ih =>
    refine .func f arr _ (by rw [rens_len, h]) fun i u c a b => ?_
    obtain ⟨c0, h1, rfl⟩ := rens_some b
    exact ih i u c0 a h1
  | iter a r hr hsp h =>
    refine .iter a (π r) (m.known hr) hsp fun l c h' => ?_
    obtain ⟨o, h1, h2, h3⟩ := m.back hr h'
    cases o <;> cases h2
    rw [h3]; exact h _ _ h1
  | yld b r hr h =>
    refine .yld b (π r) (m.known hr) fun o' h' hl => ?_
    obtain ⟨o, h1, h2, h3⟩ := m.back hr h'
    cases o' <;> first | (cases hl; done) | skip
    cases o <;> cases h2
    rw [h3]; exact h _ h1 rfl

theorem RepO.ren {π : Nat → Nat} {C C' : Ctx} {w w' : World} (m : Renames π C C' w w') {r : Nat} {o : AObj} (hr : C.H[r]? = some o) (hh : ∀ l, C.ρ r = some l → w'.heap[l.b]? = w.heap[l.b]?) (h : RepO C w r o) : RepO C' w' (π r) (renO π o) := by
  have hρ := (m.obj r o hr).2
  have gr : ∀ {v a}, RepV C w v a → a.g2 = true → RepV C' w' v a := fun h hg => RepV.ground m.imm h hg
  cases o with
  | box cs =>
    obtain ⟨l, arr, T, h1, h2, h3, h4⟩ := h
    refine ⟨l, arr, T, by rw [hρ]; exact h1, by rw [hh l h1]; exact h2, by rw [rens_len, h3], fun i u c a b => ?_⟩
    obtain ⟨c0, e1, rfl⟩ := rens_some b
    exact (h4 i u c0 a e1).ren m
  | row v sz xs =>
    obtain ⟨h0, h0', h0'', h⟩ := h
    refine ⟨h0, h0', h0'', ?_⟩
    rcases h with ⟨h1, h2⟩ | ⟨l, arr, T, h1, h2, h3, h4, h5⟩
    · exact .inl ⟨h1, by rw [hρ]; exact h2⟩
    · refine .inr ⟨l, arr, T, by rw [hρ]; exact h1, by rw [hh l h1]; exact h2, h3, h4, fun i k x c a b => ?_⟩
      obtain ⟨u, hu, hr⟩ := h5 i k x c a b
      exact ⟨u, hu, gr hr (AVal.g2_of_g0 (h0'' x (List.mem_of_getElem? a) c (List.mem_of_getElem? b)))⟩
  | mp es =>
    obtain ⟨l, en, cl, h1, h2, h3, hg, h4⟩ := h
    exact ⟨l, en, cl, by rw [hρ]; exact h1, by rw [hh l h1]; exact h2, h3, hg, fun i e p a b => gr (h4 i e p a b) (AVal.g2_of_g1 (hg p (List.mem_of_getElem? b)))⟩
  | mpo q es =>
    obtain ⟨l, en, cl, h1, h2, h3, h4⟩ := h
    refine ⟨l, en, cl, by rw [hρ]; exact h1, by rw [hh l h1]; exact h2, h3.ren, fun i e p a b => ?_⟩
    obtain ⟨p0, e1, rfl⟩ := renE_some b
    exact (h4 i e p0 a e1).ren m
  | it left cur =>
    obtain ⟨l, h1, h⟩ := h
    refine ⟨l, by rw [hρ]; exact h1, ?_⟩
    rcases h with ⟨h2, h2', s, n, k, h3⟩ | ⟨bm, seen, en, clock, h2, h3, h4, h5, h6, h7, h8⟩
    · exact .inl ⟨h2, h2', s, n, k, by rw [hh l h1]; exact h3⟩
    · refine .inr ⟨bm, seen, en, clock, by rw [hh l h1]; exact h2, (m.imm _ h3).1, by rw [(m.imm _ h3).2]; exact h4, h5, h6,
        ⟨h7.1, fun i e p a b => ⟨(h7.2 i e p a b).1, (h7.2 i e p a b).2.1, gr (h7.2 i e p a b).2.2 (AVal.g2_of_g1 (h7.2 i e p a b).2.1)⟩⟩, fun p hp => ?_⟩
      obtain ⟨e, g1, g2, g3, g4, g5⟩ := h8 p hp
      exact ⟨e, g1, g2, g3, g4, gr g5 (AVal.g2_of_g1 g4)⟩
  | lp D n fr ps asg body st p =>
    obtain ⟨l, rec, h1, h0, h2, h3, h4, h5, h6, h7, h8, h9, h10, h11, h12⟩ := h
    exact ⟨l, rec, by rw [hρ]; exact h1, h0, by rw [hh l h1]; exact h2, h3, h4, h5, h6, h7, h8, h9, fun t => by rw [get_renFr]; exact (h10 t).ren m, (m.imm _ h11).1, by rw [(m.imm _ h11).2]; exact h12⟩
  | gone => show C'.ρ (π r) = none; rw [hρ]; exact h
  | resv => show C'.ρ (π r) = none; rw [hρ]; exact h

/-- two numbers exchanged -/
def swp (i j r : Nat) : Nat := if r = i then j else if r = j then i else r
theorem swp_swp (i j r : Nat) : swp i j (swp i j r) = r := by
  unfold swp; repeat' split
  all_goals omega
def swapH (i j : Nat) (oi oj : AObj) (H : List AObj) : List AObj := ((renH (swp i j) H).set i (renO (swp i j) oj)).set j (renO (swp i j) oi)
theorem swapH_get {i j : Nat} {oi oj : AObj} {H : List AObj} (hi : H[i]? = some oi) (hj : H[j]? = some oj) (r : Nat) : (swapH i j oi oj H)[swp i j r]? = (H[r]?).map (renO (swp i j)) := by
  have h1 := (List.getElem?_eq_some_iff.1 hi).1
  have h2 := (List.getElem?_eq_some_iff.1 hj).1
  unfold swapH
  by_cases e1 : r = i
  · subst e1
    rw [show swp r j r = j by simp [swp], List.getElem?_set_self (by simpa [renH_len] using h2), hi]; rfl
  by_cases e2 : r = j
  · subst e2
    rw [show swp i r r = i by unfold swp; rw [if_neg e1, if_pos rfl], List.getElem?_set_ne (fun h => e1 h), List.getElem?_set_self (by simpa [renH_len] using h1), hj]; rfl
  · rw [show swp i j r = r by unfold swp; rw [if_neg e1, if_neg e2], List.getElem?_set_ne (fun h => e2 h.symm), List.getElem?_set_ne (fun h => e1 h.symm), renH_get]
theorem swapH_len {i j : Nat} {oi oj : AObj} {H : List AObj} : (swapH i j oi oj H).length = H.length := by simp [swapH, renH_len]
def Ctx.swap (C : Ctx) (i j : Nat) (oi oj : AObj) : Ctx := { C with ρ := fun r => C.ρ (swp i j r), H := swapH i j oi oj C.H }
theorem Inv.swap {W0 : World} {C : Ctx} {w : World} (I : Inv W0 C w) {i j : Nat} {oi oj : AObj} (hi : C.H[i]? = some oi) (hj : C.H[j]? = some oj) : Inv W0 (C.swap i j oi oj) w ∧ Renames (swp i j) C (C.swap i j oi oj) w w := by
  have m : Renames (swp i j) C (C.swap i j oi oj) w w := by
    refine ⟨fun b hb => ⟨hb, rfl⟩, fun r o ho => ⟨?_, ?_⟩⟩
    · show (swapH i j oi oj C.H)[swp i j r]? = _
      rw [swapH_get hi hj, ho]; rfl
    · show C.ρ (swp i j (swp i j r)) = _
      rw [swp_swp]
  refine ⟨⟨I.below, I.sub, I.old, fun r l h => ?_, fun r r' l l' h h' e => ?_, fun r o h => ?_⟩, m⟩
  · have h1 := (List.getElem?_eq_some_iff.1 hi).1
    have h2 := (List.getElem?_eq_some_iff.1 hj).1
    have := I.sep _ _ h
    refine ⟨?_, this.2⟩
    show r < (swapH i j oi oj C.H).length
    rw [swapH_len]
    have h3 := this.1
    unfold swp at h3
    split at h3
    · omega
    · split at h3 <;> omega
  · have := I.inj _ _ _ _ h h' e
    have := congrArg (swp i j) this
    rwa [swp_swp, swp_swp] at this
  · have h' : (swapH i j oi oj C.H)[swp i j (swp i j r)]? = some o := by rw [swp_swp]; exact h
    rw [swapH_get hi hj] at h'
    cases ho : C.H[swp i j r]? with
    | none => rw [ho] at h'; cases h'
    | some o0 =>
      rw [ho] at h'
      obtain rfl := Option.some.inj h'
      have := (I.objs _ _ ho).ren m ho (fun _ _ => rfl)
      rwa [swp_swp] at this
/-- Two objects under each other's numbers. -/
theorem Sub.swap {outer : List Fr} {fr : Fr} {H : List AObj} (i j : Nat) {oi oj : AObj} (hi : H[i]? = some oi) (hj : H[j]? = some oj) (ho : renFrs (swp i j) outer = outer) : Sub outer fr H (renFr (swp i j) fr) (swapH i j oi oj H) := by
  intro W0 A0 ds n outs a w R
  obtain ⟨C, rfl, rfl, I, hF, hO, hn, hd⟩ := R.ex
  have key := I.swap hi hj
  have hren : ∀ (outer : List Fr) (i' : Nat) f, outer[i']? = some f → (renFrs (swp i j) outer)[i']? = some (renFr (swp i j) f) := by
    intro outer
    induction outer with
    | nil => simp
    | cons g l ih =>
      intro i' f h
      match i', h with
      | 0, h => simp at h; subst h; simp [renFrs]
      | i' + 1, h => simpa [renFrs] using ih i' f (by simpa using h)
  refine ⟨C.swap i j oi oj, rfl, rfl, key.1, fun t => ?_, ⟨hO.1, fun i' t f h1 h2 => ?_⟩, hn, hd⟩
  · rw [get_renFr]; exact (hF t).ren key.2
  · have h3 := hren outer i' f h2
    rw [ho, h2] at h3
    have e := Option.some.inj h3
    rw [e]
    intro t'
    rw [get_renFr]
    exact (hO.2 i' t f h1 h2 t').ren key.2

/-- THE CONTRACT OF A FUNCTION WHOSE RESULT IS MEMORY OF ITS OWN: a value that reads, in a heap of its own, as R says. -/
def OwnFn (P : Program) (f : FuncId) (args : List AVal) (R : AVal → List AObj → Prop) : Prop :=
  ∀ (A : Nat → Prop) (w : World) (vs : List Value), (∀ b, A b → b < w.heap.size) → RepVs (Ctx.imm A) w vs args →
    Calls P f vs.toArray w fun e w' => ∃ v r C', e = .returned v ∧ R r C'.H ∧ C'.A0 = A ∧ Inv w C' w' ∧ RepV C' w' v r

section
variable {P : Program}
theorem OwnFn.intro {f : FuncId} {fn : Func} {c : Code} {n : Nat} {args : List AVal} {R : AVal → List AObj → Prop} (hf : P.funcs[f]? = some fn) (hb : fn.body = some c) (hn : fn.ntmps = n) (hlen : args.length ≤ n)
    (h : AWP none P n c (qret P fn R) [] (frame0 args 0) []) : OwnFn P f args R := by
  intro A w vs hA hvs
  refine calls_of_wp hf hb ?_
  have hsize : (vs.toArray ++ Array.replicate (fn.ntmps - vs.toArray.size) undef).size = n := by
    have := hvs.1
    simp only [Array.size_append, List.size_toArray, Array.size_replicate]; omega
  have I0 : Inv w (Ctx.imm A) w := ⟨.refl _ _, hA, fun b hb _ => hb, by simp [Ctx.imm], by simp [Ctx.imm], by simp [Ctx.imm]⟩
  refine wp_mono (wpIn_wide.1 <| h w A [] [] _ w ⟨Ctx.imm A, rfl, rfl, I0, enter_rep hvs _, .nil, hsize, rfl⟩) ?_
  intro e a' w' ⟨fr', H', hq, hR⟩
  obtain ⟨C, rfl, hA0, I, hF, _, _, hd⟩ := hR.ex
  have key : ∀ (h : match mapO (aresult P fr' C.H) fn.results.toList with | some vs => R (aret vs) C.H | none => False), a'.defers = [] ∧ ∃ v, (results fn a'.tmps).run P w' = .ok v w' ∧
      ∃ v' r C', Ending.returned v = .returned v' ∧ R r C'.H ∧ C'.A0 = A ∧ Inv w C' w' ∧ RepV C' w' v' r := by
    intro h
    split at h
    · rename_i rs hrs
      obtain ⟨v, h1, h2⟩ := results_run (P := P) I hF hrs
      exact ⟨hd, v, h1, v, _, C, rfl, h, hA0, I, h2⟩
    · exact h.elim
  cases e with
  | normal => exact key hq
  | ret => exact key hq
  | _ => exact hq.elim
theorem OwnFn.mono {f : FuncId} {args : List AVal} {R R' : AVal → List AObj → Prop} (h : OwnFn P f args R) (hR : ∀ r H, R r H → R' r H) : OwnFn P f args R' := by
  intro A w vs hA hv
  exact (h A w vs hA hv).mono fun e w' ⟨v, r, C', h1, h2, h3⟩ => ⟨v, r, C', h1, hR _ _ h2, h3⟩

/-- a result of its own, let go -/
theorem OwnFn.pure {f : FuncId} {args : List AVal} {R : AVal → Prop} (h : OwnFn P f args (rfrz R)) : PureFn P f args R := by
  intro A w vs hA hv
  refine (h A w vs hA hv).mono fun e w' ⟨v, r, C, he, hR, hA0, I, hr⟩ => ?_
  unfold rfrz at hR
  split at hR
  · rename_i r' hr'
    have h3 := frz2_rep I hr hr'
    refine ⟨v, r', he, hR, h3.1, I.below, RepV.ground' (fun b hb => ?_) h3.2 h3.1⟩
    rcases hb with hb | hb
    · by_cases hlt : b < w.heap.size
      · exact .inl (hA0 ▸ I.old b hb hlt)
      · exact .inr ⟨by omega, I.sub b hb⟩
    · exact .inr hb
  · exact hR.elim
theorem OwnFn.fresh {f : FuncId} {args : List AVal} {R : AVal → Prop} (h : OwnFn P f args (rfre R)) : FreshFn P f args R := by
  intro A w vs hA hv
  refine (h A w vs hA hv).mono fun e w' ⟨v, r, C, he, hR, hA0, I, hr⟩ => ?_
  unfold rfre at hR
  split at hR
  · rename_i r' hr'
    exact ⟨v, r', he, hR.1, (frz2_rep I hr hr').1, I.below, fre2_rep I hr hr' hR.2⟩
  · exact hR.elim
/-- .. told with less: objects beyond a number forgotten -/
theorem OwnFn.weak {f : FuncId} {args : List AVal} {R R' : AVal → List AObj → Prop} (h : OwnFn P f args R) (hR : ∀ r H, R r H → ∃ H', subH H H' ∧ r.bel2 H'.length = true ∧ belH H'.length H' = true ∧ R' r H') : OwnFn P f args R' := by
  intro A w vs hA hv
  refine (h A w vs hA hv).mono fun e w' ⟨v, r, C, he, hr, hA0, I, hrep⟩ => ?_
  obtain ⟨H', h1, h2, h3, h4⟩ := hR r _ hr
  have S : SRep w A [] 1 [] [] [(0, r)] C.H { tmps := #[v], defers := [] } w' := by
    refine ⟨C, rfl, hA0, I, fun t => ?_, .nil, rfl, rfl⟩
    cases t with
    | zero => exact hrep
    | succ t => exact .any _
  have S' := Sub.weak (outer := []) (fr := [(0, r)]) (fr' := [(0, r)]) h1 (show subF [(0, r)] [(0, r)] from ⟨by unfold vle; simp only [get, if_true]; split <;> simp, trivial⟩)
    (.inr ⟨by simp [belFr, h2], h3, rfl⟩) w A [] 1 [] _ w' S
  obtain ⟨C', e1, e2, I', hF, _⟩ := S'.ex
  exact ⟨v, r, C', he, e1 ▸ h4, e2, I', hF 0⟩
/-- the contract of a function of one result, a row of its own -/
def OwnRow (P : Program) (f : FuncId) (args : List AVal) (sz : Nat) (xs : List (List AVal)) : Prop := OwnFn P f args fun q H => q = .own 0 0 0 xs.length ∧ H = [.row 0 sz xs]
/-- the version of a row that a call has made is told as 0 -/
theorem OwnRow.of {f : FuncId} {args : List AVal} {sz : Nat} {xs : List (List AVal)} (h : OwnFn P f args fun q H => ∃ v, q = .own 0 v 0 xs.length ∧ H = [.row v sz xs]) : OwnRow P f args sz xs := by
  intro A w vs hA hv
  refine (h A w vs hA hv).mono fun e w' ⟨v, r, C, he, ⟨ver, hr, hH⟩, hA0, I, hrep⟩ => ?_
  subst hr
  have hget : C.H[0]? = some (.row ver sz xs) := by rw [hH]; rfl
  have m : ∀ b, C.A b → C.A b ∧ w'.heap[b]? = w'.heap[b]? := fun b hb => ⟨hb, rfl⟩
  refine ⟨v, .own 0 0 0 xs.length, { C with H := [.row 0 sz xs] }, he, ⟨rfl, rfl⟩, hA0, ⟨I.below, I.sub, I.old, fun r l hl => ?_, I.inj, fun r o ho => ?_⟩, ?_⟩
  · have := I.sep r l hl
    rw [hH] at this; exact this
  · match r, ho with
    | 0, ho =>
      simp at ho; subst ho
      obtain ⟨e1, e2, e3, e4⟩ := I.objs 0 _ hget
      refine ⟨e1, e2, e3, ?_⟩
      rcases e4 with ⟨e4, e5⟩ | ⟨l, arr, T, e4, e5, e6, e7, e8⟩
      · exact .inl ⟨e4, e5⟩
      · refine .inr ⟨l, arr, T, e4, e5, e6, e7, fun i k x c h1 h2 => ?_⟩
        obtain ⟨u, hu, hur⟩ := e8 i k x c h1 h2
        exact ⟨u, hu, RepV.ground (C := C) (C2 := { C with H := [.row 0 sz xs] }) m hur (AVal.g2_of_g0 (e3 x (List.mem_of_getElem? h1) c (List.mem_of_getElem? h2)))⟩
  · cases hrep with
    | own a _ cap _ _ _ hk hlc hcm hv =>
      refine .own a _ cap 0 0 0 ⟨_, rfl, by simp⟩ hlc hcm fun v' sz' xs' h' => ?_
      simp at h'; obtain ⟨rfl, rfl, rfl⟩ := h'
      obtain ⟨_, hv⟩ := hv _ _ _ hget
      exact ⟨Nat.le_refl _, fun _ => hv rfl⟩

/-- the heap of a call behind the caller's -/
def Ctx.join (C C' : Ctx) : Ctx := { A0 := C.A0, A := fun b => C.A b ∨ C'.A b, ρ := fun r => if r < C.H.length then C.ρ r else C'.ρ (r - C.H.length), H := C.H ++ renH (· + C.H.length) C'.H }
theorem Inv.join {W0 : World} {C C' : Ctx} {w w' : World} (I : Inv W0 C w) (I' : Inv w C' w') (hA0 : ∀ b, C'.A0 b → C.A b) : Inv W0 (C.join C') w' ∧ Mono C w (C.join C') w' ∧ Renames (· + C.H.length) C' (C.join C') w' w' := by
  have hlt : ∀ {r : Nat} {o : AObj}, C.H[r]? = some o → r < C.H.length := fun h => (List.getElem?_eq_some_iff.1 h).1
  have m : Mono C w (C.join C') w' := by
    refine ⟨fun b hb => ⟨.inl hb, I'.below.block b (I.sub b hb)⟩, by simp [Ctx.join], rfl, fun r hr => ?_⟩
    exact .same hr (by simp only [Ctx.join]; rw [List.getElem?_append_left hr.lt]) (by simp only [Ctx.join]; rw [if_pos hr.lt])
  have mr : Renames (· + C.H.length) C' (C.join C') w' w' := by
    refine ⟨fun b hb => ⟨.inr hb, rfl⟩, fun r o ho => ⟨?_, ?_⟩⟩
    · simp only [Ctx.join]
      rw [List.getElem?_append_right (by omega), show r + C.H.length - C.H.length = r by omega, renH_get, ho]; rfl
    · simp only [Ctx.join]
      rw [if_neg (by omega), show r + C.H.length - C.H.length = r by omega]
  refine ⟨⟨I.below.trans (I'.below.mono I.below.size), fun b hb => ?_, fun b hb hlt' => ?_, fun r l h => ?_, fun r r' l l' h h' e => ?_, fun r o h => ?_⟩, m, mr⟩
  · rcases hb with hb | hb
    · exact Nat.lt_of_lt_of_le (I.sub b hb) I'.below.size
    · exact I'.sub b hb
  · rcases hb with hb | hb
    · exact I.old b hb hlt'
    · have := I.below.size
      exact I.old b (hA0 b (I'.old b hb (by omega))) hlt'
  · simp only [Ctx.join] at h ⊢
    rw [List.length_append, renH_len]
    split at h
    · have := I.sep r l h
      refine ⟨by omega, this.2.1, Nat.lt_of_lt_of_le this.2.2.1 I'.below.size, fun hb => ?_⟩
      rcases hb with hb | hb
      · exact this.2.2.2 hb
      · exact this.2.2.2 (hA0 _ (I'.old _ hb this.2.2.1))
    · have := I'.sep _ l h
      have hs := I.below.size
      refine ⟨by omega, by omega, this.2.2.1, fun hb => ?_⟩
      rcases hb with hb | hb
      · have := I.sub _ hb; omega
      · exact this.2.2.2 hb
  · simp only [Ctx.join] at h h'
    split at h <;> split at h'
    · exact I.inj _ _ _ _ h h' e
    · have := (I.sep _ _ h).2.2.1; have := (I'.sep _ _ h').2.1; omega
    · have := (I.sep _ _ h').2.2.1; have := (I'.sep _ _ h).2.1; omega
    · have := I'.inj _ _ _ _ h h' e; omega
  · by_cases hr : r < C.H.length
    · have h' := h
      simp only [Ctx.join] at h'
      rw [List.getElem?_append_left hr] at h'
      exact (I.objs r o h').mono m (by simp only [Ctx.join]; rw [if_pos hr]) fun l hl => I'.below.block _ (I.sep r l hl).2.2.1
    · have h' := h
      simp only [Ctx.join] at h'
      rw [List.getElem?_append_right (by omega), renH_get] at h'
      cases ho : C'.H[r - C.H.length]? with
      | none => rw [ho] at h'; cases h'
      | some o0 =>
        rw [ho] at h'
        obtain rfl := Option.some.inj h'
        have := (I'.objs _ _ ho).ren mr ho (fun _ _ => rfl)
        rwa [show r - C.H.length + C.H.length = r by omega] at this

/-- A call by contract of a function whose result is memory of its own. -/
theorem ACall.own {f : FuncId} {args : List AVal} {st : List Fr} {H : List AObj} {K : AVal → List AObj → Prop} {R : AVal → List AObj → Prop} (hc : ∀ (args : Array Value) (w : World), (callFunc f args).run P w = .ok (.enter f args) w)
    (spec : OwnFn P f args R) (hg : args.all AVal.g2 = true) (n : Nat) (hn : H.length = n) (h : ∀ r H', R r H' → K (ren (· + n) r) (H ++ renH (· + n) H')) : ACall P (.func f []) args st H K := by
  subst hn
  intro W0 C w outs fv vs I hH hO hf hl hv
  subst hH
  cases hf with
  | func _ caps _ hcl _ =>
    have : caps = #[] := Array.eq_empty_of_size_eq_zero (by simpa using hcl)
    subst this
    refine .inl ⟨f, #[], rfl, hc, ?_⟩
    have hvs : RepVs (Ctx.imm C.A) w vs args :=
      ⟨hl, fun i v a h1 h2 => RepV.ground' (C := C) (C2 := Ctx.imm C.A) (fun b hb => hb) (hv i v a h1 h2) (List.all_eq_true.1 hg a (List.mem_of_getElem? h2))⟩
    rw [show vs.toArray ++ #[] = vs.toArray by simp]
    refine (spec _ w vs I.sub hvs).mono fun e w' ⟨v, r, C', he, hR, hA0, I', hr⟩ => ?_
    have key := I.join I' (fun b hb => hA0 ▸ hb)
    exact ⟨v, _, C.join C', he, h r _ hR, rfl, hr.ren key.2.2, key.1, hO.mono key.2.1⟩
/-- a row that a call has made, at a place of the caller's heap -/
def Ctx.place (C C' : Ctx) (id : Nat) (o : AObj) : Ctx := { A0 := C.A0, A := fun b => C.A b ∨ C'.A b, ρ := fun r => if r = id then C'.ρ 0 else C.ρ r, H := addAt C.H id o }
theorem Inv.place {W0 : World} {C C' : Ctx} {w w' : World} (I : Inv W0 C w) (I' : Inv w C' w') (hA0 : ∀ b, C'.A0 b → C.A b) {id : Nat} (hid : Free C.H id) {v sz : Nat} {xs : List (List AVal)} (hH : C'.H = [.row v sz xs]) :
    Inv W0 (C.place C' id (.row v sz xs)) w' ∧ Mono C w (C.place C' id (.row v sz xs)) w' ∧ Renames (fun _ => id) C' (C.place C' id (.row v sz xs)) w' w' := by
  have m : Mono C w (C.place C' id (.row v sz xs)) w' := by
    refine ⟨fun b hb => ⟨.inl hb, I'.below.block b (I.sub b hb)⟩, addAt_len, rfl, fun r hr => ?_⟩
    have hne : r ≠ id := fun e => hid.unknown (e ▸ hr)
    exact .same hr (addAt_other hid hne) (by simp only [Ctx.place]; rw [if_neg hne])
  have mr : Renames (fun _ => id) C' (C.place C' id (.row v sz xs)) w' w' := by
    refine ⟨fun b hb => ⟨.inr hb, rfl⟩, fun r o ho => ?_⟩
    rw [hH] at ho
    match r, ho with
    | 0, ho =>
      simp at ho; subst ho
      exact ⟨addAt_self hid, by simp [Ctx.place]⟩
  have hget : C'.H[0]? = some (.row v sz xs) := by rw [hH]; rfl
  refine ⟨⟨I.below.trans (I'.below.mono I.below.size), fun b hb => ?_, fun b hb hlt' => ?_, fun r l h => ?_, fun r r' l l' h h' e => ?_, fun r o h => ?_⟩, m, mr⟩
  · rcases hb with hb | hb
    · exact Nat.lt_of_lt_of_le (I.sub b hb) I'.below.size
    · exact I'.sub b hb
  · rcases hb with hb | hb
    · exact I.old b hb hlt'
    · have := I.below.size
      exact I.old b (hA0 b (I'.old b hb (by omega))) hlt'
  · simp only [Ctx.place] at h ⊢
    split at h
    · rename_i e
      have := I'.sep _ l h
      have hs := I.below.size
      refine ⟨by rw [e]; exact addAt_lt hid, by omega, this.2.2.1, fun hb => ?_⟩
      rcases hb with hb | hb
      · have := I.sub _ hb; omega
      · exact this.2.2.2 hb
    · have := I.sep r l h
      refine ⟨Nat.lt_of_lt_of_le this.1 addAt_len, this.2.1, Nat.lt_of_lt_of_le this.2.2.1 I'.below.size, fun hb => ?_⟩
      rcases hb with hb | hb
      · exact this.2.2.2 hb
      · exact this.2.2.2 (hA0 _ (I'.old _ hb this.2.2.1))
  · simp only [Ctx.place] at h h'
    split at h <;> split at h'
    · omega
    · have := (I.sep _ _ h').2.2.1; have := (I'.sep _ _ h).2.1; omega
    · have := (I.sep _ _ h).2.2.1; have := (I'.sep _ _ h').2.1; omega
    · exact I.inj _ _ _ _ h h' e
  · by_cases e : r = id
    · subst e
      have h' := h
      simp only [Ctx.place] at h'
      rw [addAt_self hid, Option.some.injEq] at h'
      subst h'
      have := (I'.objs 0 _ hget).ren mr hget (fun _ _ => rfl)
      exact this
    · have h' := h
      simp only [Ctx.place] at h'
      rw [addAt_other hid e] at h'
      exact (I.objs r o h').mono m (by simp only [Ctx.place]; rw [if_neg e]) fun l hl => I'.below.block _ (I.sep r l hl).2.2.1

/-- A call by contract of a function whose result is a row of its own; the arguments told as they are now. -/
theorem ACall.rowAt {f : FuncId} {args args' : List AVal} {st : List Fr} {H : List AObj} {K : AVal → List AObj → Prop} {sz : Nat} {xs : List (List AVal)} (hc : ∀ (args : Array Value) (w : World), (callFunc f args).run P w = .ok (.enter f args) w)
    (spec : OwnRow P f args' sz xs) (ha : (args.all AVal.g2 = true ∧ args' = args) ∨ (mapO (frz1 H) args = some args' ∧ (xs.all fun x => x.all AVal.f0) = true)) (id : Nat) (hid : Free H id) (h : K (.own id 0 0 xs.length) (addAt H id (.row 0 sz xs))) : ACall P (.func f []) args st H K := by
  intro W0 C w outs fv vs I hH hO hf hl hv
  subst hH
  cases hf with
  | func _ caps _ hcl _ =>
    have : caps = #[] := Array.eq_empty_of_size_eq_zero (by simpa using hcl)
    subst this
    refine .inl ⟨f, #[], rfl, hc, ?_⟩
    rw [show vs.toArray ++ #[] = vs.toArray by simp]
    rcases ha with ⟨hg, rfl⟩ | ⟨ha, hfl⟩
    · have hvs : RepVs (Ctx.imm C.A) w vs args' :=
        ⟨hl, fun i v a h1 h2 => RepV.ground' (C := C) (C2 := Ctx.imm C.A) (fun b hb => hb) (hv i v a h1 h2) (List.all_eq_true.1 hg a (List.mem_of_getElem? h2))⟩
      refine (spec _ w vs I.sub hvs).mono fun e w' ⟨v, r, C', he, ⟨hq, hH'⟩, hA0, I', hr⟩ => ?_
      subst hq
      have key := I.place I' (fun b hb => hA0 ▸ hb) hid hH'
      exact ⟨v, _, C.place C' id _, he, h, rfl, hr.ren key.2.2, key.1, hO.mono key.2.1⟩
    · have hm := mapO_spec ha
      have hvs : RepVs (Ctx.imm fun b => C.A b ∨ (W0.heap.size ≤ b ∧ b < w.heap.size)) w vs args' := by
        refine ⟨by rw [hl, hm.1], fun i v a h1 h2 => ?_⟩
        have hlt : i < args.length := by rw [hm.1]; exact getD_opt h2
        exact (frz1_rep I (hv i v _ h1 (List.getElem?_eq_getElem hlt)) (hm.2 i _ a (List.getElem?_eq_getElem hlt) h2)).2
      refine (spec _ w vs (fun b hb => ?_) hvs).mono fun e w' ⟨v, r, C', he, ⟨hq, hH'⟩, hA0, I', hr⟩ => ?_
      · rcases hb with hb | hb
        · exact I.sub b hb
        · exact hb.2
      subst hq
      -- the same, told without what was there
      have hget : C'.H[0]? = some (.row 0 sz xs) := by rw [hH']; rfl
      have I2 : Inv w { C' with A0 := fun _ => False, A := fun _ => False } w' := by
        refine ⟨I'.below, fun b hb => hb.elim, fun b hb => hb.elim, fun r l hl => ?_, I'.inj, fun r o ho => ?_⟩
        · have := I'.sep r l hl; exact ⟨this.1, this.2.1, this.2.2.1, fun hb => hb⟩
        · rw [hH'] at ho
          match r, ho with
          | 0, ho =>
            simp at ho; subst ho
            obtain ⟨e1, e2, e3, e4⟩ := I'.objs 0 _ hget
            refine ⟨e1, e2, e3, ?_⟩
            rcases e4 with ⟨e4, e5⟩ | ⟨l, arr, T, e4, e5, e6, e7, e8⟩
            · exact .inl ⟨e4, e5⟩
            · refine .inr ⟨l, arr, T, e4, e5, e6, e7, fun i k x c h1 h2 => ?_⟩
              obtain ⟨u, hu, hur⟩ := e8 i k x c h1 h2
              refine ⟨u, hu, hur.flat ?_⟩
              have h3 := List.all_eq_true.1 hfl x (List.mem_of_getElem? h1)
              have h4 := List.all_eq_true.1 h3 c (List.mem_of_getElem? h2)
              cases c <;> simp_all [AVal.f0, AVal.f1, AVal.f2]
      have hr2 : RepV { C' with A0 := fun _ => False, A := fun _ => False } w' v (.own 0 0 0 xs.length) := by
        cases hr with
        | own a _ cap _ _ _ hk hlc hcm hv => exact .own a _ cap 0 0 0 hk hlc hcm hv
      have key := I.place I2 (fun b hb => hb.elim) hid hH'
      exact ⟨v, _, C.place _ id _, he, h, rfl, hr2.ren key.2.2, key.1, hO.mono key.2.1⟩
end
end Go.Ab
