/-
  What the operations do to abstract values is what they do to the model's: part one.
-/
import Derived.Laws.Shifts
import Derived.Test.YtciaimpdnjpajaaSkC
import Derived.Laws.CopyRow
import Derived.Laws.AppendOwn
import Derived.Laws.MakeOwn
import Derived.Laws.StructEq
namespace Go.Ab
open Go Go.RowKit

theorem acells_rep {C : Ctx} {w : World} {v : Value} {a : AVal} {cs : List AVal} (h : RepV C w v a) (hc : acells a = some cs) :
    v.cells.size = cs.length ∧ ∀ (i : Nat) (u : Value) (c : AVal), v.cells[i]? = some u → cs[i]? = some c → RepV C w u c := by
  have one : ∀ {v : Value} {a : AVal}, RepV C w v a → v.cells = #[v] → some [a] = some cs → v.cells.size = cs.length ∧ ∀ (i : Nat) (u : Value) (c : AVal), v.cells[i]? = some u → cs[i]? = some c → RepV C w u c := by
    intro v a h e e2
    simp only [Option.some.injEq] at e2
    subst e2
    rw [e]
    refine ⟨rfl, fun i u c h1 h2 => ?_⟩
    match i, h1, h2 with
    | 0, h1, h2 => simp at h1 h2; subst h1 h2; exact h
    | i + 1, h1, h2 => simp at h2
  cases h with
  | any => simp [acells] at hc
  | tuple => simp [acells] at hc
  | agg arr cs' h' hr => simp only [acells, Option.some.injEq] at hc; subst hc; exact ⟨h', hr⟩
  | _ => exact one (by constructor <;> assumption) rfl hc

theorem one_cell {C : Ctx} {w : World} {v : Value} {a : AVal} (h : RepV C w v a) (h1 : a.one = true) : v.oneCell' = true := by
  cases h <;> first | rfl | simp [AVal.one] at h1

theorem aconst0_rep (C : Ctx) (w : World) (v : Value) : RepV C w v (aconst0 v) := by
  unfold aconst0
  split <;> constructor

theorem aconst_rep (C : Ctx) (w : World) (v : Value) : RepV C w v (aconst v) := by
  unfold aconst
  split
  · refine .agg _ _ (by simp) fun i u c h1 h2 => ?_
    rename_i cs
    simp only [List.getElem?_map, Array.getElem?_toList, h1, Option.map_some, Option.some.injEq] at h2
    subst h2
    exact aconst0_rep C w u
  · rename_i vs
    split
    · rename_i h
      have : vs = #[] := Array.eq_empty_of_size_eq_zero h
      subst this
      exact .tuple _ _ rfl fun i u c h1 h2 => by simp at h2
    · exact .any _
  · exact aconst0_rep C w v

def RepF (C : Ctx) (w : World) (tmps : Array Value) (fr : Fr) : Prop := ∀ t, RepV C w (tmps.getD t undef) (get fr t)

theorem RepF.mono {C C' : Ctx} {w w' : World} (m : Mono C w C' w') {tmps : Array Value} {fr : Fr} (h : RepF C w tmps fr) : RepF C' w' tmps fr :=
  fun t => (h t).mono m

theorem ev_rep {C : Ctx} {w : World} {a : Act} {fr : Fr} (h : RepF C w a.tmps fr) (x : Operand) : RepV C w (a.eval x) (ev fr x) := by
  cases x with
  | tmp t => exact h t
  | const v => exact aconst_rep C w v
  | global g => exact .any _
  | func f => exact .func f #[] [] rfl fun i u c h1 h2 => by simp at h2

theorem RepF.put {C : Ctx} {w : World} {a : Act} {fr : Fr} (h : RepF C w a.tmps fr) {v : Value} {av : AVal} (hv : RepV C w v av) (d : Option Tmp)
    (hd : ∀ k, d = some k → k < a.tmps.size) : RepF C w (a.put d v).tmps (put fr d av) := by
  intro t
  cases d with
  | none => exact h t
  | some k =>
    have hk := hd k rfl
    simp only [Act.put, Go.Ab.put, get]
    split
    · rename_i e
      subst e
      simpa [Array.getD, hk] using hv
    · rename_i e
      have : (a.tmps.setIfInBounds k v).getD t undef = a.tmps.getD t undef := by
        simp only [Array.getD_eq_getD_getElem?, Array.getElem?_setIfInBounds_ne e]
      rw [this]; exact h t

/-! ### runs -/
section
variable {P : Program}

theorem runU {t : TypeId} {d : TypeDesc} (h : P.underlying t = some d) (w : World) : (underlying t).run P w = .ok d w := by
  simp [underlying, h]
theorem runSz {t : TypeId} {i : TypeInfo} (h : P.info? t = some i) (w : World) : (sizeOf t).run P w = .ok i.size w := by
  simp [sizeOf, typeInfo, h]

/-- What a quiet operation leaves: a value, the same world. -/
structure Quiet (C : Ctx) (w : World) (r : Result Value) (K : AVal → Prop) : Prop where
  ex : ∃ v a, r = .ok v w ∧ RepV C w v a ∧ K a

theorem Quiet.mk' {C : Ctx} {w : World} {r : Result Value} {K : AVal → Prop} {v : Value} {a : AVal} (h : r = .ok v w) (hr : RepV C w v a) (hk : K a) : Quiet C w r K :=
  ⟨v, a, h, hr, hk⟩

theorem aggT_run {t : TypeId} {d : TypeDesc} (h : P.underlying t = some d) (w : World) : (isAgg t).run P w = .ok (aggT P t) w := by
  simp only [isAgg, Sem.run_bind, runU h, Result.andThen_ok, aggT, h]
  cases d <;> rfl

theorem decide_beq (x y : Int) : (x == y) = decide (x = y) := by rw [Bool.eq_iff_iff]; simp
theorem binInt_sound {C : Ctx} {w : World} {o : BinOp} {T : TypeId} {k k' : IntKind} {x y : Int} {K : AVal → Prop} (hk : sameK o k k') (h : aBinInt o k x y K) :
    Quiet C w ((binOp o T (.int k x) (.int k' y)).run P w) K := by
  cases o <;> simp only [aBinInt] at h <;> simp only [sameK] at hk <;> try subst hk
  case add => exact .mk' (by simp [binOp, Op.intArith]) (.int _ _) h
  case sub => exact .mk' (by simp [binOp, Op.intArith]) (.int _ _) h
  case mul => exact .mk' (by simp [binOp, Op.intArith]) (.int _ _) h
  case quo => exact .mk' (by simp [binOp, Op.intDiv, h.1]) (.int _ _) h.2
  case rem => exact .mk' (by simp [binOp, Op.intDiv, h.1]) (.int _ _) h.2
  case eql => exact .mk' (a := .bool (decide (x = y))) (by simp [binOp, Op.intCmp, decide_beq]) (.bool _) h
  case neq =>
    refine .mk' (a := .bool (decide (x ≠ y))) ?_ (.bool _) h
    simp [binOp, Op.intCmp, bne, decide_beq]
  case lss => exact .mk' (by simp [binOp, Op.intCmp]) (.bool _) h
  case leq => exact .mk' (by simp [binOp, Op.intCmp]) (.bool _) h
  case gtr => exact .mk' (by simp [binOp, Op.intCmp]) (.bool _) h
  case geq => exact .mk' (by simp [binOp, Op.intCmp]) (.bool _) h
  case shr =>
    have hb : min y.toNat k.bits = y.toNat := by have := h.1; cases k <;> simp only [IntKind.bits] <;> omega
    refine .mk' (a := .int k (shrI x y)) ?_ (.int _ _) h.2
    simp only [binOp, shift_shr_any k k' x y h.1.1, hb, shrI]
    rfl
  case shl =>
    have hb : min y.toNat k.bits = y.toNat := by have := h.1; cases k <;> simp only [IntKind.bits] <;> omega
    refine .mk' (a := .int k (k.wrap (shlI x y))) ?_ (.int _ _) h.2
    simp only [binOp, shift_shl_any k k' x y h.1.1, hb, shlI]
    rfl
  all_goals exact h.elim
theorem eqGuard_int {o : BinOp} {T : TypeId} {x y : Operand} {k k' : IntKind} {a b : Int} (w : World) : (eqGuard o T x y (.int k a) (.int k' b)).run P w = .ok () w := by
  unfold eqGuard; cases o <;> rfl
theorem eqGuard_bool {o : BinOp} {T : TypeId} {x y : Operand} {a b : Bool} (w : World) : (eqGuard o T x y (.bool a) (.bool b)).run P w = .ok () w := by
  unfold eqGuard; cases o <;> rfl

theorem okT_spec {T : TypeId} (h : okT P T = true) : ∃ i d, P.info? T = some i ∧ P.underlying T = some d ∧ szOf P T = i.size := by
  unfold okT at h
  simp only [Bool.and_eq_true, Option.isSome_iff_exists] at h
  obtain ⟨⟨i, hi⟩, ⟨d, hd⟩⟩ := h
  exact ⟨i, d, hi, hd, by simp [szOf, hi]⟩

theorem part_run {w : World} {t : TypeId} {cs : Array Value} {off : Nat} {v : Value} (ht : okT P t = true) (hA : aggT P t = false) (h : cs[off]? = some v) :
    (part t cs off).run P w = .ok v w := by
  obtain ⟨i, d, hi, hd, hs⟩ := okT_spec ht
  simp only [part, Sem.run_bind, aggT_run hd, Result.andThen_ok, hA, Bool.false_eq_true, if_false, h]
  rfl

theorem eqFields_run {C : Ctx} {w : World} {xs ys : Array Value} {cs ds : List AVal} (hx : ∀ (i : Nat) (u : Value) (c : AVal), xs[i]? = some u → cs[i]? = some c → RepV C w u c) (hxs : xs.size = cs.length)
    (hy : ∀ (i : Nat) (u : Value) (c : AVal), ys[i]? = some u → ds[i]? = some c → RepV C w u c) (hys : ys.size = ds.length) : ∀ (fs : List Field) (offs : List (Nat × Bool)) (r : Bool),
    (fs.all (fun f => f.name != "_" && okT P f.type) = true) → fs.mapM (fun f => match P.underlying f.type with | some (.int _) => some (f.offset, false) | some .bool => some (f.offset, true) | _ => none) = some offs →
    aEqAt cs ds offs = some r → (Op.eqFields 9999 xs ys fs).run P w = .ok r w
  | [], offs, r, _, h0, h => by simp at h0; subst h0; simp [aEqAt] at h; subst h; rfl
  | f :: fs, offs, r, hf, h0, h => by
    simp only [List.all_cons, Bool.and_eq_true] at hf
    obtain ⟨⟨hn, hok⟩, hf⟩ := hf
    have hn' : f.name ≠ "_" := by simpa using hn
    have ih := eqFields_run hx hxs hy hys fs
    have getX : ∀ c, cs[f.offset]? = some c → ∃ u, xs[f.offset]? = some u ∧ RepV C w u c := fun c hc => by
      have hlt : f.offset < xs.size := by have := (List.getElem?_eq_some_iff.1 hc).1; omega
      exact ⟨_, Array.getElem?_eq_getElem hlt, hx _ _ c (Array.getElem?_eq_getElem hlt) hc⟩
    have getY : ∀ c, ds[f.offset]? = some c → ∃ u, ys[f.offset]? = some u ∧ RepV C w u c := fun c hc => by
      have hlt : f.offset < ys.size := by have := (List.getElem?_eq_some_iff.1 hc).1; omega
      exact ⟨_, Array.getElem?_eq_getElem hlt, hy _ _ c (Array.getElem?_eq_getElem hlt) hc⟩
    simp only [List.mapM_cons, Option.bind_eq_bind, Option.pure_def] at h0
    cases hrest : fs.mapM (fun f => match P.underlying f.type with | some (.int _) => some (f.offset, false) | some .bool => some (f.offset, true) | _ => (none : Option (Nat × Bool))) with
    | none => rw [hrest] at h0; split at h0 <;> simp at h0
    | some os =>
      rw [hrest] at h0
      split at h0
      · rename_i k hU
        have hagg : aggT P f.type = false := by simp [aggT, hU]
        simp only [Option.bind_some, Option.some.injEq] at h0
        subst h0
        simp only [aEqAt] at h
        split at h
        · rename_i k1 a k2 b h1 h2
          split at h
          · rename_i hk
            subst hk
            obtain ⟨u, hu, hur⟩ := getX _ h1
            obtain ⟨u2, hu2, hur2⟩ := getY _ h2
            cases hur; cases hur2
            cases hr' : aEqAt cs ds os with
            | none => simp [hr'] at h
            | some r' =>
              simp only [hr', Option.map_some, Option.some.injEq] at h
              have ih := ih os r' hf hrest hr'
              have heq := run_equalIn_int (P := P) w 9998 f.type k1 k a b hU
              simp only [Op.eqFields, hn', ne_eq, not_false_eq_true, if_true, Sem.run_bind, part_run hok hagg hu, part_run hok hagg hu2, Result.andThen_ok, heq]
              by_cases hab : a = b
              · subst hab; simp only [decide_true, Bool.true_and] at h; subst h; simp [ih]
              · have hb : (a == b) = false := by simp [hab]
                simp only [hab, decide_false, Bool.false_and] at h; subst h; simp [hb]
          · cases h
        · cases h
      · rename_i hU
        have hagg : aggT P f.type = false := by simp [aggT, hU]
        simp only [Option.bind_some, Option.some.injEq] at h0
        subst h0
        simp only [aEqAt] at h
        split at h
        · rename_i a b h1 h2
          obtain ⟨u, hu, hur⟩ := getX _ h1
          obtain ⟨u2, hu2, hur2⟩ := getY _ h2
          cases hur; cases hur2
          cases hr' : aEqAt cs ds os with
          | none => simp [hr'] at h
          | some r' =>
            simp only [hr', Option.map_some, Option.some.injEq] at h
            have ih := ih os r' hf hrest hr'
            have heq := run_equalIn_bool (P := P) w 9998 f.type a b hU
            simp only [Op.eqFields, hn', ne_eq, not_false_eq_true, if_true, Sem.run_bind, part_run hok hagg hu, part_run hok hagg hu2, Result.andThen_ok, heq]
            cases hab : (a == b)
            · rw [hab] at h; simp only [Bool.false_and] at h; subst h; simp
            · rw [hab] at h; simp only [Bool.true_and] at h; subst h; simp [ih]
        · cases h
      · simp at h0

theorem aEqAt_mem {cs ds : List AVal} : ∀ {offs : List (Nat × Bool)} {r : Bool}, aEqAt cs ds offs = some r → ∀ p ∈ offs, p.1 < cs.length ∧ p.1 < ds.length
  | [], _, _, p, hp => by cases hp
  | (o, false) :: os, r, h, p, hp => by
    simp only [aEqAt] at h
    split at h
    · rename_i k1 a k2 b h1 h2
      split at h
      · cases hr' : aEqAt cs ds os with
        | none => simp [hr'] at h
        | some r' =>
          rcases List.mem_cons.1 hp with rfl | hp
          · exact ⟨(List.getElem?_eq_some_iff.1 h1).1, (List.getElem?_eq_some_iff.1 h2).1⟩
          · exact aEqAt_mem hr' p hp
      · cases h
    · cases h
  | (o, true) :: os, r, h, p, hp => by
    simp only [aEqAt] at h
    split at h
    · rename_i a b h1 h2
      cases hr' : aEqAt cs ds os with
      | none => simp [hr'] at h
      | some r' =>
        rcases List.mem_cons.1 hp with rfl | hp
        · exact ⟨(List.getElem?_eq_some_iff.1 h1).1, (List.getElem?_eq_some_iff.1 h2).1⟩
        · exact aEqAt_mem hr' p hp
    · cases h
theorem aEqAt_app {cs ds : List AVal} {b : List (Nat × Bool)} : ∀ {a : List (Nat × Bool)} {r : Bool}, aEqAt cs ds (a ++ b) = some r → ∃ r1 r2, aEqAt cs ds a = some r1 ∧ aEqAt cs ds b = some r2 ∧ r = (r1 && r2)
  | [], r, h => ⟨true, r, rfl, h, by simp⟩
  | (o, false) :: os, r, h => by
    simp only [List.cons_append, aEqAt] at h ⊢
    split at h
    · rename_i k1 a k2 b' h1 h2
      split at h
      · rename_i hk
        cases hr' : aEqAt cs ds (os ++ b) with
        | none => simp [hr'] at h
        | some r' =>
          obtain ⟨r1, r2, e1, e2, e3⟩ := aEqAt_app hr'
          simp only [hr', Option.map_some, Option.some.injEq] at h
          exact ⟨decide (a = b') && r1, r2, by simp [hk, e1], e2, by rw [← h, e3, Bool.and_assoc]⟩
      · cases h
    · cases h
  | (o, true) :: os, r, h => by
    simp only [List.cons_append, aEqAt] at h ⊢
    split at h
    · rename_i a b' h1 h2
      cases hr' : aEqAt cs ds (os ++ b) with
      | none => simp [hr'] at h
      | some r' =>
        obtain ⟨r1, r2, e1, e2, e3⟩ := aEqAt_app hr'
        simp only [hr', Option.map_some, Option.some.injEq] at h
        exact ⟨(a == b') && r1, r2, by simp [e1], e2, by rw [← h, e3, Bool.and_assoc]⟩
    · cases h
theorem aEqAt_shift {cs ds : List AVal} {k : Nat} : ∀ {l : List (Nat × Bool)}, aEqAt cs ds (l.map fun p => (p.1 + k, p.2)) = aEqAt (cs.drop k) (ds.drop k) l
  | [] => rfl
  | (o, false) :: os => by
    have e1 : (cs.drop k)[o]? = cs[o + k]? := by rw [List.getElem?_drop, Nat.add_comm]
    have e2 : (ds.drop k)[o]? = ds[o + k]? := by rw [List.getElem?_drop, Nat.add_comm]
    simp only [List.map_cons, aEqAt, e1, e2, aEqAt_shift (l := os)]
  | (o, true) :: os => by
    have e1 : (cs.drop k)[o]? = cs[o + k]? := by rw [List.getElem?_drop, Nat.add_comm]
    have e2 : (ds.drop k)[o]? = ds[o + k]? := by rw [List.getElem?_drop, Nat.add_comm]
    simp only [List.map_cons, aEqAt, e1, e2, aEqAt_shift (l := os)]
theorem partA_run {w : World} {t : TypeId} {cs : Array Value} {off : Nat} (ht : okT P t = true) (hA : aggT P t = true) :
    (part t cs off).run P w = .ok (.agg (cs.extract off (off + szOf P t))) w := by
  obtain ⟨i, d, hi, hd, hs⟩ := okT_spec ht
  simp only [part, Sem.run_bind, aggT_run hd, Result.andThen_ok, hA, if_true]
  rw [runSz hi, Result.andThen_ok, hs]; rfl
/-- structs in structs, compared -/
theorem eqDeepF_run {w : World} {n d : Nat} (ih : ∀ {C : Ctx} {T : TypeId} {xs ys : Array Value} {cs ds : List AVal} {offs : List (Nat × Bool)} {r : Bool}, (∀ (i : Nat) (u : Value) (c : AVal), xs[i]? = some u → cs[i]? = some c → RepV C w u c) →
      (∀ (i : Nat) (u : Value) (c : AVal), ys[i]? = some u → ds[i]? = some c → RepV C w u c) → (∀ p ∈ offs, p.1 < xs.size ∧ p.1 < ys.size) → eqOffsN P n T = some offs → aEqAt cs ds offs = some r →
      (Op.equalIn (d + n + 1) T (.agg xs) (.agg ys)).run P w = .ok r w) {C : Ctx} {xs ys : Array Value} {cs ds : List AVal} (hx : ∀ (i : Nat) (u : Value) (c : AVal), xs[i]? = some u → cs[i]? = some c → RepV C w u c)
    (hy : ∀ (i : Nat) (u : Value) (c : AVal), ys[i]? = some u → ds[i]? = some c → RepV C w u c) : ∀ (fs : List Field) (offs : List (Nat × Bool)) (r : Bool),
    (fs.all (fun f => f.name != "_" && okT P f.type) = true) → eqOffsF P (eqOffsN P n) fs = some offs → (∀ p ∈ offs, p.1 < xs.size ∧ p.1 < ys.size) → aEqAt cs ds offs = some r → (Op.eqFields (d + n + 1) xs ys fs).run P w = .ok r w
  | [], offs, r, _, h0, _, h => by simp only [eqOffsF, Option.some.injEq] at h0; subst h0; simp [aEqAt] at h; subst h; rfl
  | f :: fs, offs, r, hf, h0, hb, h => by
    simp only [List.all_cons, Bool.and_eq_true] at hf
    obtain ⟨⟨hn, hok⟩, hf⟩ := hf
    have hn' : f.name ≠ "_" := by simpa using hn
    unfold eqOffsF at h0
    obtain ⟨a, ha, h0⟩ := Option.bind_eq_some_iff.1 h0
    obtain ⟨b, hb', rfl⟩ := Option.map_eq_some_iff.1 h0
    obtain ⟨r1, r2, e1, e2, rfl⟩ := aEqAt_app h
    have rest := eqDeepF_run ih hx hy fs b r2 hf hb' (fun p hp => hb p (List.mem_append_right _ hp)) e2
    have fin : ∀ (u v : Value), (part f.type xs f.offset).run P w = .ok u w → (part f.type ys f.offset).run P w = .ok v w → (Op.equalIn (d + n + 1) f.type u v).run P w = .ok r1 w → (Op.eqFields (d + n + 1) xs ys (f :: fs)).run P w = .ok (r1 && r2) w := by
      intro u v h1 h2 h3
      simp only [Op.eqFields, hn', ne_eq, not_false_eq_true, if_true, Sem.run_bind, h1, h2, h3, Result.andThen_ok]
      cases r1 <;> simp [rest]
    split at ha
    · rename_i k hU
      have hagg : aggT P f.type = false := by simp [aggT, hU]
      simp only [Option.some.injEq] at ha
      subst ha
      have hbd := hb (f.offset, false) (by simp)
      simp only [aEqAt] at e1
      split at e1
      · rename_i k1 a k2 b h1 h2
        split at e1
        · rename_i hk
          subst hk
          have g1 := hx _ _ _ (Array.getElem?_eq_getElem hbd.1) h1
          have g2 := hy _ _ _ (Array.getElem?_eq_getElem hbd.2) h2
          have p1 := part_run (w := w) hok hagg (Array.getElem?_eq_getElem hbd.1)
          have p2 := part_run (w := w) hok hagg (Array.getElem?_eq_getElem hbd.2)
          generalize xs[f.offset]'hbd.1 = u at g1 p1
          generalize ys[f.offset]'hbd.2 = v at g2 p2
          cases g1; cases g2
          refine fin _ _ p1 p2 ?_
          rw [run_equalIn_int (P := P) w (d + n) f.type k1 k a b hU]
          simp only [Option.map_some, Bool.and_true, Option.some.injEq] at e1
          rw [← e1, decide_beq]
        · cases e1
      · cases e1
    · rename_i hU
      have hagg : aggT P f.type = false := by simp [aggT, hU]
      simp only [Option.some.injEq] at ha
      subst ha
      have hbd := hb (f.offset, true) (by simp)
      simp only [aEqAt] at e1
      split at e1
      · rename_i a b h1 h2
        have g1 := hx _ _ _ (Array.getElem?_eq_getElem hbd.1) h1
        have g2 := hy _ _ _ (Array.getElem?_eq_getElem hbd.2) h2
        have p1 := part_run (w := w) hok hagg (Array.getElem?_eq_getElem hbd.1)
        have p2 := part_run (w := w) hok hagg (Array.getElem?_eq_getElem hbd.2)
        generalize xs[f.offset]'hbd.1 = u at g1 p1
        generalize ys[f.offset]'hbd.2 = v at g2 p2
        cases g1; cases g2
        refine fin _ _ p1 p2 ?_
        rw [run_equalIn_bool (P := P) w (d + n) f.type a b hU]
        simp only [Option.map_some, Bool.and_true, Option.some.injEq] at e1
        rw [← e1]
      · cases e1
    · rename_i gs hU
      have hagg : aggT P f.type = true := by simp [aggT, hU]
      obtain ⟨l, hl, ha⟩ := Option.bind_eq_some_iff.1 ha
      split at ha
      · rename_i hc
        rw [Bool.and_eq_true, List.all_eq_true, List.any_eq_true] at hc
        obtain ⟨hc1, q, hq, hc2⟩ := hc
        simp only [Option.some.injEq] at ha
        subst ha
        have hq2 : q.1 + 1 = szOf P f.type := by simpa using hc2
        have hbd := hb (q.1 + f.offset, q.2) (List.mem_append_left _ (List.mem_map.2 ⟨q, hq, rfl⟩))
        dsimp only at hbd
        rw [aEqAt_shift] at e1
        refine fin _ _ (partA_run hok hagg) (partA_run hok hagg) (ih (C := C) (fun i u c h1 h2 => ?_) (fun i u c h1 h2 => ?_) (fun p hp => ?_) hl e1)
        · rw [Array.getElem?_extract] at h1
          split at h1
          · exact hx _ _ _ h1 (by rw [List.getElem?_drop] at h2; exact h2)
          · cases h1
        · rw [Array.getElem?_extract] at h1
          split at h1
          · exact hy _ _ _ h1 (by rw [List.getElem?_drop] at h2; exact h2)
          · cases h1
        · have := of_decide_eq_true (hc1 p hp)
          simp only [Array.size_extract]; omega
      · cases ha
    · cases ha
theorem eqDeep_run {w : World} : ∀ (n d : Nat) {C : Ctx} {T : TypeId} {xs ys : Array Value} {cs ds : List AVal} {offs : List (Nat × Bool)} {r : Bool}, (∀ (i : Nat) (u : Value) (c : AVal), xs[i]? = some u → cs[i]? = some c → RepV C w u c) →
      (∀ (i : Nat) (u : Value) (c : AVal), ys[i]? = some u → ds[i]? = some c → RepV C w u c) → (∀ p ∈ offs, p.1 < xs.size ∧ p.1 < ys.size) → eqOffsN P n T = some offs → aEqAt cs ds offs = some r →
      (Op.equalIn (d + n + 1) T (.agg xs) (.agg ys)).run P w = .ok r w
  | 0, d, C, T, xs, ys, cs, ds, offs, r, hx, hy, hb, h, hr => by cases h
  | n + 1, d, C, T, xs, ys, cs, ds, offs, r, hx, hy, hb, h, hr => by
    unfold eqOffsN at h
    split at h
    · rename_i fs hU
      split at h
      · rename_i hc
        have hU' : P.underlying T = some (.struct (P.fieldsOf T)) := by simp [Program.fieldsOf, hU]
        have hfs : P.fieldsOf T = fs := by simp [Program.fieldsOf, hU]
        rw [run_equalIn_struct (P := P) w (d + (n + 1)) T xs ys hU' hc.1, hfs]
        exact eqDeepF_run (n := n) (d := d) (fun {C T xs ys cs ds offs r} a b c e f => eqDeep_run n d a b c e f) hx hy _ _ _ hc.2 h hb hr
      · cases h
    · cases h

theorem bin_sound {C : Ctx} {w : World} {o : BinOp} {T : TypeId} {xo yo : Operand} {u v : Value} {x y : AVal} {K : AVal → Prop} (hx : RepV C w u x) (hy : RepV C w v y) (h : aBin P o T x y K) :
    Quiet C w ((do eqGuard o T xo yo u v; binOp o T u v).run P w) K := by
  unfold aBin at h
  split at h
  · cases hx; cases hy
    obtain ⟨hk, h⟩ := h
    have := binInt_sound (P := P) (C := C) (w := w) (T := T) hk h
    simp only [Sem.run_bind, eqGuard_int, Result.andThen_ok]
    exact this
  · cases hx; cases hy
    obtain ⟨hT, h⟩ := h
    simp only [Sem.run_bind, eqGuard_bool, Result.andThen_ok]
    have he := run_equal_bool (P := P) w T
    split at h
    · exact .mk' (by simp [binOp, he _ _ hT]) (.bool _) h
    · exact .mk' (by simp [binOp, he _ _ hT, bne]) (.bool _) h
    · exact h.elim
  · cases hx with
    | agg arr _ hs hc => cases hy with
      | agg arr2 _ hs2 hc2 =>
        split at h
        · rename_i offs hoffs
          split at h
          · rename_i r hr
            unfold eqOffs at hoffs
            split at hoffs
            · rename_i fs hU
              split at hoffs
              · rename_i hcnd
                obtain ⟨c1, c2, c3⟩ := hcnd
                have hU' : P.underlying T = some (.struct (P.fieldsOf T)) := by simp [Program.fieldsOf, hU]
                have hfs : P.fieldsOf T = fs := by simp [Program.fieldsOf, hU]
                have he := run_equalIn_struct (P := P) w 9999 T arr arr2 hU' c2
                rw [hfs, eqFields_run hc hs hc2 hs2 _ _ _ c3 hoffs hr] at he
                have hg := run_eqGuard_agg (P := P) w o T xo yo arr arr2 c1
                simp only [Sem.run_bind, hg, Result.andThen_ok]
                split at h
                · exact .mk' (by rw [run_eql_struct, he]; rfl) (.bool _) h
                · exact .mk' (by rw [run_neq_struct, he]; rfl) (.bool _) h
                · exact h.elim
              · cases hoffs
            · cases hoffs
          · exact h.elim
        · split at h
          · rename_i offs hoffs
            split at h
            · rename_i r hr
              unfold eqDeep at hoffs
              split at hoffs
              · rename_i c1
                have he := eqDeep_run (P := P) (w := w) 4 9995 (fun i u c a b => hc i u c a b) (fun i u c a b => hc2 i u c a b) (fun p hp => by have := aEqAt_mem hr p hp; omega) hoffs hr
                have hg := run_eqGuard_agg (P := P) w o T xo yo arr arr2 c1
                simp only [Sem.run_bind, hg, Result.andThen_ok]
                split at h
                · exact .mk' (by rw [run_eql_struct, he]; rfl) (.bool _) h
                · exact .mk' (by rw [run_neq_struct, he]; rfl) (.bool _) h
                · exact h.elim
              · cases hoffs
            · exact h.elim
          · exact h.elim
  · exact h.elim

theorem un_sound {C : Ctx} {w : World} {o : UnOp} {u : Value} {x : AVal} {K : AVal → Prop} (hx : RepV C w u x) (h : aUn o x K) :
    Quiet C w ((Op.unary o u).run P w) K := by
  unfold aUn at h
  split at h
  · cases hx; exact .mk' (by simp [Op.unary]) (.bool _) h
  · cases hx; exact .mk' (by simp [Op.unary, Op.intArith]) (.int _ _) h
  · exact h.elim

theorem conv_sound {C : Ctx} {w : World} {s d : TypeId} {u : Value} {x : AVal} {K : AVal → Prop} (hx : RepV C w u x) (h : aConv P s d x K) :
    Quiet C w ((convert s d u).run P w) K := by
  unfold aConv at h
  split at h
  · rename_i h1 h2
    cases hx
    exact .mk' (by simp [convert, runU h1, runU h2, Conv.intToInt]) (.int _ _) h
  · exact h.elim

theorem add_none (a : Addr) (n : Nat) (h : a.spot = none) : a.add n = ⟨a.block, a.off + n, none⟩ := by
  cases a with
  | mk b o s =>
    simp only at h
    subst h
    unfold Addr.add
    split
    · rename_i e; subst e; rfl
    · rfl

theorem run_loadAt {w : World} {T : TypeId} {a : Addr} {u : Nat → Value} (hT : okT P T = true) (hc : ∀ j, j < (if aggT P T then szOf P T else 1) → w.cell? (a.add j) = some (u j)) :
    (Instr.loadAt T (.pointer (some a))).run P w = .ok (if aggT P T then .agg ((List.range (szOf P T)).map u).toArray else u 0) w := by
  obtain ⟨i, d, hi, hd, hs⟩ := okT_spec hT
  simp only [Instr.loadAt, Instr.sureAddr, Sem.run_bind, Sem.run_pure, Result.andThen_ok, loadVar, aggT_run hd]
  cases hA : aggT P T with
  | true =>
    simp only [hA, if_true] at hc ⊢
    have := run_loadCells (P := P) w a (szOf P T) u hc
    simp only [Sem.run_bind, Result.andThen_ok, runSz hi, ← hs, this, Sem.run_pure]
  | false =>
    simp only [hA, Bool.false_eq_true, if_false] at hc ⊢
    have h0 := hc 0 (by omega)
    have : a.add 0 = a := by simp [Addr.add]
    rw [this] at h0
    simp [run_load, h0]

theorem loadCells_rep {C : Ctx} {w : World} {T : TypeId} {cs : List AVal} {u : Nat → Value} (hn : (if aggT P T then szOf P T else 1) ≤ cs.length)
    (hr : ∀ (j : Nat) (c : AVal), cs[j]? = some c → RepV C w (u j) c) :
    RepV C w (if aggT P T then .agg ((List.range (szOf P T)).map u).toArray else u 0) (aLoadCells (aggT P T) (szOf P T) cs) := by
  unfold aLoadCells
  cases hA : aggT P T with
  | true =>
    simp only [hA, if_true] at hn ⊢
    refine .agg _ _ (by simp; omega) fun i v c h1 h2 => ?_
    simp only [List.getElem?_toArray, List.getElem?_map] at h1
    rw [List.getElem?_take] at h2
    split at h2
    · rename_i hlt
      rw [List.getElem?_range hlt] at h1
      simp only [Option.map_some, Option.some.injEq] at h1
      subst h1
      exact hr i c h2
    · cases h2
  | false =>
    simp only [hA, Bool.false_eq_true, if_false] at hn ⊢
    match cs, hn with
    | c :: r, _ => exact hr 0 c rfl

theorem getD_opt {α : Type} {l : List α} {i : Nat} {x : α} (h : l[i]? = some x) : i < l.length := (List.getElem?_eq_some_iff.1 h).1

theorem load_sound {W0 : World} {C : Ctx} {w : World} (I : Inv W0 C w) {T : TypeId} {p : Value} {ap : AVal} {K : AVal → Prop} (hp : RepV C w p ap) (h : aLoad P T ap C.H K) :
    Quiet C w ((Instr.loadAt T p).run P w) K := by
  unfold aLoad at h
  obtain ⟨hT, h⟩ := h
  split at h
  · rename_i r k
    split at h
    · rename_i cs hr
      obtain ⟨hn, hk⟩ := h
      cases hp with
      | ptr a _ _ hlt hh =>
        obtain ⟨l, hl, rfl⟩ := hh _ hr
        obtain ⟨l', arr, T', h1, h2, h3, h4⟩ := I.objs r _ hr
        rw [hl, Option.some.injEq] at h1
        subst h1
        have hcell : ∀ j, k + j < cs.length → w.cell? ⟨l.b, k + j, none⟩ = some (arr.getD (k + j) undef) := by
          intro j hj
          simp only [World.cell?, h2]
          have : k + j < arr.size := by omega
          simp [Array.getD, this]
        refine .mk' (run_loadAt (u := fun j => arr.getD (k + j) undef) hT fun j hj => ?_) (loadCells_rep (by simp; omega) fun j c hj => ?_) hk
        · rw [add_none _ _ rfl]; exact hcell j (by omega)
        · rw [List.getElem?_drop] at hj
          have := getD_opt hj
          refine h4 (k + j) _ c ?_ hj
          rw [Array.getElem?_eq_getElem (by omega)]
          simp [Array.getD, show k + j < arr.size by omega]
    · exact h.elim
  · rename_i r v i k
    split at h
    · rename_i v' sz xs hr
      obtain ⟨hv, hn, hk⟩ := h
      cases hp with
      | rptr a _ _ _ _ hlt hh =>
        obtain ⟨_, hh⟩ := hh _ _ _ hr
        obtain ⟨hi, l, hl, rfl⟩ := hh hv
        obtain ⟨hsz1, hsz, hg, ho⟩ := I.objs r _ hr
        rcases ho with ⟨_, h1⟩ | ⟨l', arr, T', h1, h2, h3, h4, h5⟩
        · rw [hl] at h1; cases h1
        rw [hl, Option.some.injEq] at h1
        subst h1
        have hx : xs[i]? = some xs[i] := List.getElem?_eq_getElem hi
        have hxl := hsz _ (List.getElem_mem hi)
        have hk' := hk _ hx hxl
        have key : ∀ j c, xs[i][k + j]? = some c → ∃ u, arr[l.base + i * sz + k + j]? = some u ∧ RepV C w u c := by
          intro j c hj
          have := h5 i (k + j) _ c hx hj
          rwa [show l.base + (i * sz + (k + j)) = l.base + i * sz + k + j by omega] at this
        refine .mk' (run_loadAt (u := fun j => arr.getD (l.base + i * sz + k + j) undef) hT fun j hj => ?_) (loadCells_rep (by simp; omega) fun j c hj => ?_) hk'
        · rw [add_none _ _ rfl]
          have hlt : k + j < xs[i].length := by omega
          obtain ⟨u, hu, _⟩ := key j _ (List.getElem?_eq_getElem hlt)
          simp only [World.cell?, h2]
          simp [hu, Array.getD_eq_getD_getElem?]
        · rw [List.getElem?_drop] at hj
          obtain ⟨u, hu, hur⟩ := key j c hj
          simpa [Array.getD_eq_getD_getElem?, hu] using hur
    · exact h.elim
  · rename_i cs
    obtain ⟨hn, hk⟩ := h
    cases hp with
    | eptr a _ u hsp hA hg hcell hrep =>
      exact .mk' (run_loadAt (u := u) hT fun j hj => by rw [add_none _ _ hsp]; exact hcell j (by omega)) (loadCells_rep hn hrep) hk
  · exact h.elim


theorem fieldT_spec {T : TypeId} {f off n : Nat} (h : fieldT P T f = some (off, n)) (hn : 1 ≤ n) : ∃ fs x i, P.underlying T = some (.struct fs) ∧ fs[f]? = some x ∧ x.offset = off ∧ P.info? x.type = some i ∧ i.size = n := by
  unfold fieldT at h
  split at h
  · rename_i fs hfs
    cases hx : fs[f]? with
    | none => simp [hx] at h
    | some x =>
      simp only [hx, Option.map_some, Option.some.injEq, Prod.mk.injEq] at h
      obtain ⟨h1, h2⟩ := h
      cases hi : P.info? x.type with
      | none => simp [szOf, hi] at h2; omega
      | some i => exact ⟨fs, x, i, hfs, hx, h1, hi, by simpa [szOf, hi] using h2⟩
  · cases h

theorem run_fieldAt {w : World} {T : TypeId} {f off n : Nat} {a : Addr} (h : fieldT P T f = some (off, n)) (hn : 1 ≤ n) :
    (Instr.fieldAt T (.pointer (some a)) f).run P w = .ok (.pointer (some (a.add off))) w := by
  obtain ⟨fs, x, i, h1, h2, h3, h4, h5⟩ := fieldT_spec h hn
  have hne : i.size ≠ 0 := by omega
  simp only [Instr.fieldAt, Sem.run_bind, runU h1, Result.andThen_ok, h2, Instr.sureAddr, Sem.run_pure, fieldPlace, runSz h4, hne, if_false, h3]

theorem fieldAddr_sound {C : Ctx} {w : World} {T : TypeId} {f : Nat} {p : Value} {ap : AVal} {K : AVal → Prop} (hp : RepV C w p ap) (h : aFieldAddr P T ap f K) :
    Quiet C w ((Instr.fieldAt T p f).run P w) K := by
  unfold aFieldAddr at h
  split at h
  · rename_i off n hf
    obtain ⟨hn, h⟩ := h
    split at h
    · cases hp with
      | ptr a r k hr hh =>
        refine .mk' (run_fieldAt hf hn) (.ptr _ _ _ hr fun cs hc => ?_) h
        obtain ⟨l, hl, rfl⟩ := hh cs hc
        exact ⟨l, hl, by rw [add_none _ _ rfl]⟩
    · cases hp with
      | rptr a r v i k hr hh =>
        refine .mk' (run_fieldAt hf hn) (.rptr _ _ _ _ _ hr fun v' sz xs hc => ?_) h
        obtain ⟨h1, h2⟩ := hh _ _ _ hc
        refine ⟨h1, fun e => ?_⟩
        obtain ⟨h3, l, hl, rfl⟩ := h2 e
        exact ⟨h3, l, hl, by rw [add_none _ _ rfl]; simp; omega⟩
    · rename_i cs
      cases hp with
      | eptr a _ u hsp hA hg hcell hrep =>
        refine .mk' (run_fieldAt hf hn) (.eptr _ _ (fun j => u (off + j)) (by rw [add_none _ _ hsp]) (by rw [add_none _ _ hsp]; exact hA) (fun c hc => hg c (List.mem_of_mem_drop hc)) (fun j hj => ?_) fun j c hc => ?_) h
        · rw [add_none _ _ hsp]
          rw [List.length_drop] at hj
          simp only [Nat.add_assoc]
          exact hcell (off + j) (by omega)
        · rw [List.getElem?_drop] at hc
          exact hrep _ _ hc
    · exact h.elim
  · exact h.elim

theorem field_sound {C : Ctx} {w : World} {T : TypeId} {f : Nat} {x : Value} {ax : AVal} {K : AVal → Prop} (hx : RepV C w x ax) (h : aField P T ax f K) :
    Quiet C w ((Instr.field T x f).run P w) K := by
  unfold aField at h
  split at h
  · rename_i fs cs hU
    split at h
    · rename_i g hg
      obtain ⟨h1, h2, h3, hk⟩ := h
      cases hx with
      | agg arr _ hl hc =>
        have hlt : g.offset < arr.size := by omega
        refine .mk' (v := arr[g.offset]) ?_ (hc g.offset _ _ (Array.getElem?_eq_getElem hlt) ?_) hk
        · simp only [Instr.field, Sem.run_bind, runU hU, Result.andThen_ok, hg, asAgg, Sem.run_pure]
          exact part_run h1 h2 (Array.getElem?_eq_getElem hlt)
        · simp [List.getD_eq_getElem?_getD, h3]
    · exact h.elim
  · exact h.elim

theorem elemT_spec {T e : TypeId} (h : elemT P T = some e) : P.underlying T = some (.slice e) := by
  unfold elemT at h
  split at h
  · simp only [Option.some.injEq] at h; subst h; assumption
  · cases h

theorem run_indexAt {w : World} {T e : TypeId} {k : IntKind} {n : Int} {a : Addr} {len cap : Nat} (hT : elemT P T = some e) (he : okT P e = true) (h0 : 0 ≤ n) (h1 : n < len) :
    (Instr.indexAt T (.slice (some a) len cap) (.int k n)).run P w = .ok (.pointer (some (a.add (n.toNat * szOf P e)))) w := by
  obtain ⟨i, d, hi, hd, hs⟩ := okT_spec he
  have hc : 0 ≤ n ∧ n < (len : Int) := ⟨h0, h1⟩
  simp only [Instr.indexAt, asIntOf, Sem.run_bind, Sem.run_pure, Result.andThen_ok, runU (elemT_spec hT), hc, and_self, if_true, runSz hi, hs]

theorem indexAddr_sound {C : Ctx} {w : World} {T : TypeId} {x i : Value} {ax ai : AVal} {K : AVal → Prop} (hx : RepV C w x ax) (hi : RepV C w i ai) (h : aIndexAddr P T ax ai C.H K) :
    Quiet C w ((Instr.indexAt T x i).run P w) K := by
  unfold aIndexAddr at h
  split at h
  · rename_i e k n hT
    cases hi
    obtain ⟨he, h⟩ := h
    split at h
    · rename_i sz xs
      obtain ⟨hs, h0, h1, hk⟩ := h
      cases hx with
      | sl0 => simp at h1; omega
      | sl a len cap _ _ u hsp hlen hlc hcm hA hsz1 hsz hg hcell hrep =>
        have hlt : n.toNat < xs.length := by omega
        have hy : xs[n.toNat]? = some xs[n.toNat] := List.getElem?_eq_getElem hlt
        have hyl := hsz _ (List.getElem_mem hlt)
        refine .mk' (run_indexAt hT he h0 (by omega)) (.eptr _ _ (fun j => u (n.toNat * sz + j)) (by rw [add_none _ _ hsp]) (by rw [add_none _ _ hsp]; exact hA) (hg _ (List.getElem_mem hlt)) (fun j hj => ?_) fun j c hc => hrep _ _ _ _ hy hc) (hk _ hy hyl)
        rw [add_none _ _ hsp, ← hs]
        simp only [Nat.add_assoc]
        refine hcell _ ?_
        have : (n.toNat + 1) * sz ≤ xs.length * sz := Nat.mul_le_mul_right _ hlt
        rw [Nat.add_mul, Nat.one_mul] at this
        omega
    · rename_i r v lo len
      split at h
      · rename_i v' sz xs hr
        obtain ⟨hv, hs, h0, h1, hk⟩ := h
        cases hx with
        | own a _ cap _ _ _ hlt hlc hcm hh =>
          obtain ⟨_, hh⟩ := hh _ _ _ hr
          obtain ⟨hle, hh⟩ := hh hv
          rcases hh with hh | ⟨l, hl, rfl, hfit⟩
          · omega
          refine .mk' (run_indexAt hT he h0 h1) (.rptr _ _ _ _ _ hlt fun v2 sz2 xs2 hr2 => ?_) hk
          rw [hr, Option.some.injEq, AObj.row.injEq] at hr2
          obtain ⟨rfl, rfl, rfl⟩ := hr2
          refine ⟨by omega, fun _ => ⟨by omega, l, hl, ?_⟩⟩
          rw [add_none _ _ rfl, ← hs]
          simp [Nat.add_mul, Nat.add_assoc]
      · exact h.elim
    · exact h.elim
  · rename_i k n hT
    cases hi
    split at h
    · rename_i len e r kk hA
      obtain ⟨he, h0, h1, hk⟩ := h
      have hu : P.underlying T = some (.array len e) := by
        unfold arrT at hA
        split at hA
        · rename_i n' e' hu'
          simp only [Option.some.injEq, Prod.mk.injEq] at hA
          rw [hu', hA.1, hA.2]
        · cases hA
      obtain ⟨i, d, hi', hd, hs⟩ := okT_spec he
      have hc : 0 ≤ n ∧ n < (len : Int) := ⟨h0, h1⟩
      cases hx with
      | ptr a _ _ hr hp =>
        refine .mk' (v := .pointer (some (a.add (n.toNat * szOf P e)))) ?_ (.ptr _ _ _ hr fun cs hcs => ?_) hk
        · simp only [Instr.indexAt, Instr.sureAddr, asIntOf, Sem.run_bind, Sem.run_pure, Result.andThen_ok, runU hu, hc, and_self, if_true, runSz hi', hs]
        · obtain ⟨l, h2, h3⟩ := hp cs hcs
          exact ⟨l, h2, by rw [h3, add_none _ _ rfl]⟩
    · rename_i len e cs hA
      obtain ⟨he, h0, h1, hk⟩ := h
      have hu : P.underlying T = some (.array len e) := by
        unfold arrT at hA
        split at hA
        · rename_i n' e' hu'
          simp only [Option.some.injEq, Prod.mk.injEq] at hA
          rw [hu', hA.1, hA.2]
        · cases hA
      obtain ⟨i, d, hi', hd, hs⟩ := okT_spec he
      have hc : 0 ≤ n ∧ n < (len : Int) := ⟨h0, h1⟩
      cases hx with
      | eptr a _ u hsp hA hg hcell hrep =>
        refine .mk' (v := .pointer (some (a.add (n.toNat * szOf P e)))) ?_ (.eptr _ _ (fun j => u (n.toNat * szOf P e + j)) (by rw [add_none _ _ hsp]) (by rw [add_none _ _ hsp]; exact hA) (fun c hc => hg c (List.mem_of_mem_drop hc)) (fun j hj => ?_) fun j c hc => ?_) hk
        · simp only [Instr.indexAt, Instr.sureAddr, asIntOf, Sem.run_bind, Sem.run_pure, Result.andThen_ok, runU hu, hc, and_self, if_true, runSz hi', hs]
        · rw [add_none _ _ hsp, Nat.add_assoc]
          exact hcell _ (by rw [List.length_drop] at hj; omega)
        · rw [List.getElem?_drop] at hc; exact hrep _ _ hc
    · exact h.elim
  · exact h.elim

theorem extract_sound {C : Ctx} {w : World} {i : Nat} {x : Value} {vs : List AVal} {K : AVal → Prop} (hx : RepV C w x (.tuple vs)) (hi : i < vs.length) (h : K (vs.getD i .any)) :
    Quiet C w ((Instr.extract x i).run P w) K := by
  cases hx with
  | tuple arr _ hl hc =>
    have hlt : i < arr.size := by omega
    refine .mk' (v := arr[i]) ?_ (hc i _ _ (Array.getElem?_eq_getElem hlt) ?_) h
    · simp only [Instr.extract, Array.getElem?_eq_getElem hlt, Sem.run_pure]
    · simp [List.getD_eq_getElem?_getD, hi]

theorem maxLen_eq : maxLen = 9223372036854775807 := by decide

theorem len_sound {W0 : World} {C : Ctx} {w : World} (I : Inv W0 C w) {T ty : TypeId} {x : Value} {ax : AVal} {K : AVal → Prop}
    (hx : RepV C w x ax) (h : aLen P T ax C.H K) :
    Quiet C w ((Builtin.len_ #[T] ty #[x]).run P w) K := by
  unfold aLen at h
  split at h
  · rename_i e sz xs hT
    cases hx with
    | sl0 a cap _ hcm => exact .mk' (by simp [Builtin.len_, runU hT]; rfl) (.int _ _) (h (by simp))
    | sl a len cap _ _ u hsp hlen hlc hcm hA hsz1 hsz hg hcell hrep =>
      subst hlen
      exact .mk' (by simp [Builtin.len_, runU hT]; rfl) (.int _ _) (h (by have := maxLen_eq; omega))
  · rename_i e r v lo len hT
    cases hx with
    | own a _ cap _ _ _ hlt hlc hcm hh => exact .mk' (by simp [Builtin.len_, runU hT]; rfl) (.int _ _) (h (by have := maxLen_eq; omega))
  · rename_i e hT
    cases hx; exact .mk' (by simp [Builtin.len_, runU hT]; rfl) (.int _ _) h
  · rename_i e hT
    cases hx; exact .mk' (by simp [Builtin.len_, runU hT]; rfl) (.int _ _) h
  · rename_i s hT
    cases hx; exact .mk' (by simp [Builtin.len_, runU hT]; rfl) (.int _ _) h
  · rename_i k e hT
    cases hx; exact .mk' (by simp [Builtin.len_, runU hT]; rfl) (.int _ _) h
  · rename_i k e r hT
    split at h
    · rename_i es hr
      cases hx with
      | map b _ hlt hh =>
        obtain ⟨l, hl, rfl⟩ := hh _ hr rfl
        obtain ⟨l', en, cl, h1, h2, h3, _, _⟩ := I.objs r _ hr
        rw [hl, Option.some.injEq] at h1
        subst h1
        refine .mk' (v := .int .i64 en.size) ?_ (by rw [h3.size]; exact .int _ _) h
        simp [Builtin.len_, runU hT, getObj, Sem.run, h2, goInt]
    · exact h.elim
  · rename_i k e es hT
    cases hx with
    | vmap0 => exact .mk' (by simp [Builtin.len_, runU hT]; rfl) (.int _ _) h
    | vmap b _ en cl hA hg hh hwf hrep =>
      refine .mk' (v := .int .i64 en.size) ?_ (by rw [hwf.size]; exact .int _ _) h
      simp [Builtin.len_, runU hT, getObj, Sem.run, hh, goInt]
  · exact h.elim

theorem bound_sound {C : Ctx} {w : World} {lo : Option Value} {alo : Option AVal} {d : Nat} {l : Int} (hlo : ∀ v a, lo = some v → alo = some a → RepV C w v a) (hn : lo.isSome = alo.isSome) (h : aBound alo d = some l) :
    (lo = none ∧ alo = none ∧ l = d) ∨ ∃ k, lo = some (.int k l) := by
  unfold aBound at h
  split at h
  · simp only [Option.some.injEq] at h
    cases lo <;> simp_all
  · rename_i k n
    simp only [Option.some.injEq] at h
    subst h
    cases lo with
    | none => simp at hn
    | some v =>
      have := hlo v _ rfl rfl
      cases this
      exact .inr ⟨_, rfl⟩
  · cases h

theorem run_sliceBounds {w : World} {len cap : Nat} {lo hi : Option Value} {l h : Int} (hl : (lo = none ∧ l = 0) ∨ ∃ k, lo = some (.int k l)) (hh : (hi = none ∧ h = len) ∨ ∃ k, hi = some (.int k h))
    (h0 : 0 ≤ l) (h1 : l ≤ h) (h2 : h ≤ cap) : (Instr.sliceBounds true len cap lo hi none).run P w = .ok (l.toNat, h.toNat, cap) w := by
  have bd : ∀ (k : IntKind) (n : Int) (y : Nat) (code : BoundsCode), 0 ≤ n → n ≤ y → (Instr.sliceBound (.int k n) y code).run P w = .ok n.toNat w := by
    intro k n y code a b
    have : 0 ≤ n ∧ n ≤ (y : Int) := ⟨a, b⟩
    simp only [Instr.sliceBound, asIntOf, Sem.run_bind, Sem.run_pure, Result.andThen_ok, this, and_self, if_true]
  have key : ∀ hv : Nat, (hv : Int) = h → (Instr.sliceBounds true len cap lo (some (.int .i64 (hv : Int))) none).run P w = .ok (l.toNat, hv, cap) w := by
    intro hv e
    rcases hl with ⟨rfl, rfl⟩ | ⟨k, rfl⟩
    · simp [Instr.sliceBounds, bd .i64 hv cap _ (by omega) (by omega)]
    · simp [Instr.sliceBounds, bd .i64 hv cap _ (by omega) (by omega), bd k l hv _ h0 (by omega)]
  rcases hh with ⟨rfl, rfl⟩ | ⟨k, rfl⟩
  · rcases hl with ⟨rfl, rfl⟩ | ⟨k, rfl⟩
    · simp [Instr.sliceBounds]
    · simp [Instr.sliceBounds, bd k l len _ h0 (by omega)]
  · have hb := bd k h cap .sliceAcap (by omega) h2
    rcases hl with ⟨rfl, rfl⟩ | ⟨k', rfl⟩
    · simp [Instr.sliceBounds, hb]
    · simp [Instr.sliceBounds, hb, bd k' l h.toNat _ h0 (by omega)]

theorem run_sliceAt {w : World} {T e : TypeId} {i : TypeInfo} {a : Option Addr} {len cap : Nat} {lo hi : Option Value} {l h : Int} (hT : P.underlying T = some (.slice e)) (hi' : P.info? e = some i)
    (hl : (lo = none ∧ l = 0) ∨ ∃ k, lo = some (.int k l)) (hh : (hi = none ∧ h = len) ∨ ∃ k, hi = some (.int k h))
    (h0 : 0 ≤ l) (h1 : l ≤ h) (h2 : h ≤ cap) :
    (Instr.sliceAt T (.slice a len cap) lo hi none).run P w = .ok (.slice (if cap = l.toNat then a else a.map (·.add (l.toNat * i.size))) (h.toNat - l.toNat) (cap - l.toNat)) w := by
  simp only [Instr.sliceAt, Instr.slice, Sem.run_bind, runU hT, Result.andThen_ok, run_sliceBounds hl hh h0 h1 h2, runSz hi', Sem.run_pure]

theorem run_sliceAt_zero {w : World} {T e : TypeId} {i : TypeInfo} {a : Option Addr} {len cap : Nat} {lo hi : Option Value} {k : IntKind} (hT : P.underlying T = some (.slice e)) (hi' : P.info? e = some i)
    (hl : lo = none ∨ ∃ k, lo = some (.int k 0)) (hh : ∃ k, hi = some (.int k 0)) :
    (Instr.sliceAt T (.slice a len cap) lo hi (some (.int k 0))).run P w = .ok (.slice a 0 0) w := by
  have bd : ∀ (k : IntKind) (y : Nat) (code : BoundsCode), (Instr.sliceBound (.int k 0) y code).run P w = .ok 0 w := by
    intro k y code
    simp [Instr.sliceBound, asIntOf]
  have : (Instr.sliceBounds true len cap lo hi (some (.int k 0))).run P w = .ok (0, 0, 0) w := by
    obtain ⟨k2, rfl⟩ := hh
    rcases hl with rfl | ⟨k1, rfl⟩ <;> simp [Instr.sliceBounds, bd]
  simp only [Instr.sliceAt, Instr.slice, Sem.run_bind, runU hT, Result.andThen_ok, this, runSz hi', Sem.run_pure]
  simp

theorem slice_sound {C : Ctx} {w : World} {T : TypeId} {x : Value} {ax : AVal} {lo hi mx : Option Value} {alo ahi amx : Option AVal} {K : AVal → Prop}
    (hx : RepV C w x ax) (hlo : ∀ v a, lo = some v → alo = some a → RepV C w v a) (hlo' : lo.isSome = alo.isSome)
    (hhi : ∀ v a, hi = some v → ahi = some a → RepV C w v a) (hhi' : hi.isSome = ahi.isSome)
    (hmx : ∀ v a, mx = some v → amx = some a → RepV C w v a) (hmx' : mx.isSome = amx.isSome) (h : aSlice P T ax alo ahi amx C.H K) :
    Quiet C w ((Instr.sliceAt T x lo hi mx).run P w) K := by
  unfold aSlice at h
  split at h
  · rename_i e hT
    obtain ⟨he, h⟩ := h
    obtain ⟨i, d, hi', hd, hs⟩ := okT_spec he
    have hU := elemT_spec hT
    have none3 : amx = none → mx = none := by intro e; subst e; cases mx <;> simp_all
    have zero3 : ∀ k (m : Int), amx = some (.int k m) → m = 0 → ∃ k', mx = some (.int k' 0) := by
      intro k m e0 e1; subst e0 e1
      cases mx with
      | none => simp at hmx'
      | some v => have := hmx v _ rfl rfl; cases this; exact ⟨_, rfl⟩
    have B := fun d l (h : aBound alo d = some l) => bound_sound hlo hlo' h
    have B2 := fun d l (h : aBound ahi d = some l) => bound_sound hhi hhi' h
    -- the case of s[:0:0]
    have Z : ∀ (a : Option Addr) (len cap : Nat) d l h k m, aBound alo 0 = some l → aBound ahi d = some h → amx = some (.int k m) → l = 0 → h = 0 → m = 0 → ahi.isSome = true → K .z0 →
        Quiet C w ((Instr.sliceAt T (.slice a len cap) lo hi mx).run P w) K := by
      intro a len cap d l h k m e1 e2 e3 z1 z2 z3 his hk
      subst z1 z2
      obtain ⟨k', rfl⟩ := zero3 _ _ e3 z3
      refine .mk' (run_sliceAt_zero hU hi' ?_ ?_) (.z0 _) hk
      · rcases B _ _ e1 with ⟨h1, _⟩ | h1
        · exact .inl h1
        · exact .inr h1
      · rcases B2 _ _ e2 with ⟨_, h2, _⟩ | h1
        · simp [h2] at his
        · exact h1
    have L : ∀ {l : Int}, aBound alo 0 = some l → (lo = none ∧ l = 0) ∨ ∃ k, lo = some (.int k l) := by
      intro l e
      rcases B _ _ e with ⟨h1, _, h2⟩ | h1
      · exact .inl ⟨h1, by simpa using h2⟩
      · exact .inr h1
    have R : ∀ {d : Nat} {l : Int}, aBound ahi d = some l → (hi = none ∧ l = d) ∨ ∃ k, hi = some (.int k l) := by
      intro d l e
      rcases B2 _ _ e with ⟨h1, _, h2⟩ | h1
      · exact .inl ⟨h1, h2⟩
      · exact .inr h1
    split at h
    · rename_i sz xs
      obtain ⟨hsz, h⟩ := h
      cases hx with
      | sl0 a cap _ hcm =>
        replace h := h (by simp)
        split at h
        · rename_i l h' e1 e2
          obtain ⟨h0, h1, h2, hk⟩ := h
          obtain rfl := none3 rfl
          simp only [List.length_nil] at h2
          refine .mk' (run_sliceAt hU hi' (L e1) (R e2) h0 h1 (by omega)) ?_ hk
          have e0 : h'.toNat - l.toNat = 0 := by omega
          rw [e0]
          simp only [List.drop_nil, List.take_nil]
          exact .sl0 _ _ _ (by omega)
        · rename_i l h' k m e1 e2
          exact Z _ _ _ _ _ _ _ _ e1 e2 rfl h.1 h.2.1 h.2.2.1 h.2.2.2.1 h.2.2.2.2
        · exact h.elim
      | sl a len cap _ _ u hsp hlen hlc hcm hA hsz1 hsz' hg hcell hrep =>
        replace h := h (by have := maxLen_eq; omega)
        subst hlen
        split at h
        · rename_i l h' e1 e2
          obtain ⟨h0, h1, h2, hk⟩ := h
          obtain rfl := none3 rfl
          refine .mk' (run_sliceAt hU hi' (L e1) (R e2) h0 h1 (by omega)) ?_ hk
          have elen : ((xs.drop l.toNat).take (h'.toNat - l.toNat)).length = h'.toNat - l.toNat := by simp; omega
          by_cases hc : cap = l.toNat
          · have e0 : h'.toNat - l.toNat = 0 := by omega
            rw [e0]
            simp only [List.take_zero]
            exact .sl0 _ _ _ (by omega)
          · rw [if_neg hc]
            simp only [Option.map_some, add_none _ _ hsp]
            refine .sl _ _ _ _ _ (fun j => u (l.toNat * sz + j)) rfl elen.symm (by omega) (by omega) hA hsz1 (fun x hx => hsz' x (List.mem_of_mem_drop (List.mem_of_mem_take hx)))
              (fun x hx => hg x (List.mem_of_mem_drop (List.mem_of_mem_take hx))) (fun j hj => ?_) fun i' k x c hx hc' => ?_
            · rw [elen] at hj
              rw [← hs, ← hsz]
              simp only [Nat.add_assoc]
              refine hcell _ ?_
              have h3 : h'.toNat * sz ≤ xs.length * sz := Nat.mul_le_mul_right _ (by omega)
              have h4 : l.toNat * sz + (h'.toNat - l.toNat) * sz = h'.toNat * sz := by rw [← Nat.add_mul]; congr 1; omega
              omega
            · rw [List.getElem?_take] at hx
              split at hx
              · rw [List.getElem?_drop] at hx
                have := hrep _ k x c hx hc'
                rwa [Nat.add_mul, Nat.add_assoc] at this
              · cases hx
        · rename_i l h' k m e1 e2
          exact Z _ _ _ _ _ _ _ _ e1 e2 rfl h.1 h.2.1 h.2.2.1 h.2.2.2.1 h.2.2.2.2
        · exact h.elim
    · rename_i r v a len
      split at h
      · rename_i v' sz xs hr
        obtain ⟨hv, hsz, h⟩ := h
        cases hx with
        | own ad _ cap _ _ _ hlt hlc hcm hh =>
          obtain ⟨_, hh⟩ := hh _ _ _ hr
          obtain ⟨hle, hh⟩ := hh hv
          split at h
          · rename_i l h' e1 e2
            obtain ⟨h0, h1, h2, hk⟩ := h
            obtain rfl := none3 rfl
            refine .mk' (run_sliceAt hU hi' (L e1) (R e2) h0 h1 (by omega)) (.own _ _ _ _ _ _ hlt (by omega) (by omega) fun v2 sz2 xs2 hr2 => ?_) hk
            rw [hr, Option.some.injEq, AObj.row.injEq] at hr2
            obtain ⟨rfl, rfl, rfl⟩ := hr2
            refine ⟨by omega, fun _ => ⟨by omega, ?_⟩⟩
            rcases hh with hh | ⟨l2, hl, rfl, hfit⟩
            · exact .inl (by omega)
            · by_cases hc : cap = l.toNat
              · exact .inl (by omega)
              · refine .inr ⟨l2, hl, ?_, ?_⟩
                · rw [if_neg hc]
                  rw [Option.map_some, add_none _ _ rfl, ← hs, ← hsz, Nat.add_mul]
                  simp only [Nat.add_assoc]
                · rwa [show a + l.toNat + (cap - l.toNat) = a + cap by omega]
          · rename_i l h' k m e1 e2
            exact Z _ _ _ _ _ _ _ _ e1 e2 rfl h.1 h.2.1 h.2.2.1 h.2.2.2.1 h.2.2.2.2
          · exact h.elim
      · exact h.elim
    · cases hx
      split at h
      · rename_i l h' e1 e2
        obtain ⟨h0, h1, hk⟩ := h
        obtain rfl := none3 rfl
        subst h0 h1
        refine .mk' (run_sliceAt hU hi' (L e1) (R (d := 0) e2) (Int.le_refl _) (Int.le_refl _) (by simp)) ?_ hk
        simp
        exact .nils
      · rename_i l h' k m e1 e2
        exact Z _ _ _ _ _ _ _ _ e1 e2 rfl h.1 h.2.1 h.2.2.1 h.2.2.2.1 h.2.2.2.2
      · exact h.elim
    · cases hx
      split at h
      · rename_i l h' e1 e2
        obtain ⟨h0, h1, hk⟩ := h
        obtain rfl := none3 rfl
        subst h0 h1
        refine .mk' (run_sliceAt hU hi' (L e1) (R (d := 0) e2) (Int.le_refl _) (Int.le_refl _) (by simp)) ?_ hk
        simp
        exact .z0 _
      · rename_i l h' k m e1 e2
        exact Z _ _ _ _ _ _ _ _ e1 e2 rfl h.1 h.2.1 h.2.2.1 h.2.2.2.1 h.2.2.2.2
      · exact h.elim
    · exact h.elim
  · split at h
    · rename_i n e cs hA
      obtain ⟨he, hsz, hn, hnl, hk⟩ := h
      have hu : P.underlying T = some (.array n e) := by
        unfold arrT at hA
        split at hA
        · rename_i n' e' hu'
          simp only [Option.some.injEq, Prod.mk.injEq] at hA
          rw [hu', hA.1, hA.2]
        · cases hA
      obtain ⟨i, d, hi', hd, hs⟩ := okT_spec he
      have hlo0 : lo = none := by cases lo <;> simp_all
      have hhi0 : hi = none := by cases hi <;> simp_all
      have hmx0 : mx = none := by cases mx <;> simp_all
      subst hlo0 hhi0 hmx0
      cases hx with
      | eptr a _ u hsp hA hg hcell hrep =>
        have hrun : (Instr.sliceAt T (.pointer (some a)) none none none).run P w = .ok (.slice (some (if n = 0 then a else a.add (0 * i.size))) (n - 0) (n - 0)) w := by
          simp [Instr.sliceAt, Instr.sureAddr, Instr.sliceBounds, runU hu, runSz hi']
        refine .mk' hrun ?_ hk
        cases cs with
        | nil => simp only [List.length_nil] at hn; subst hn; exact .sl0 _ _ _ (Nat.zero_le _)
        | cons c cs =>
          rw [if_neg (by simp at hn; omega), Nat.zero_mul, add_none _ _ hsp, Nat.sub_zero]
          refine .sl _ _ _ _ _ u rfl (by rw [singles_len]; exact hn.symm) (Nat.le_refl _) (by have := maxLen_eq; omega) hA (Nat.le_refl _) (fun x hx => ?_) (fun x hx c' hc' => ?_) (fun j hj => ?_) fun i' k x c' hx hc' => ?_
          · obtain ⟨i', hi'⟩ := List.getElem?_of_mem hx
            rw [singles_get] at hi'
            cases hq : (c :: cs)[i']? with
            | none => rw [hq] at hi'; cases hi'
            | some q => rw [hq] at hi'; rw [← Option.some.inj hi']; rfl
          · obtain ⟨i', hi'⟩ := List.getElem?_of_mem hx
            rw [singles_get] at hi'
            cases hq : (c :: cs)[i']? with
            | none => rw [hq] at hi'; cases hi'
            | some q =>
              rw [hq] at hi'; rw [← Option.some.inj hi'] at hc'
              rw [List.mem_singleton.1 hc']; exact hg _ (List.mem_of_getElem? hq)
          · rw [singles_len] at hj
            show w.cell? ⟨a.block, a.off + 0 + j, none⟩ = _
            rw [Nat.add_zero]; exact hcell j (by omega)
          · rw [singles_get] at hx
            cases hq : (c :: cs)[i']? with
            | none => rw [hq] at hx; cases hx
            | some q =>
              rw [hq] at hx; rw [← Option.some.inj hx] at hc'
              cases k with
              | zero => simp at hc'; subst hc'; rw [Nat.mul_one, Nat.add_zero]; exact hrep _ _ hq
              | succ k => simp at hc'
    · exact h.elim
end
end Go.Ab
