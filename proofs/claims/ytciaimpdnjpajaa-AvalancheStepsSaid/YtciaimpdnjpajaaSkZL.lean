/-
  Slices told by what they lean on: results of calls that lean on new memory alone, beside values that lean on old memory.
-/
import Derived.Test.YtciaimpdnjpajaaSkZI
namespace Go.Ab
open Go Go.RowKit
theorem cell?_keep {w w' : World} {a : Addr} {u : Value} (h : w'.heap[a.block]? = w.heap[a.block]? ∨ ∃ ds, w.heap[a.block]? = some (.deferred ds)) (hc : w.cell? a = some u) : w'.cell? a = some u := by
  rcases h with h | ⟨ds, h⟩
  · rw [cell?_of_heap h]; exact hc
  · have : w.cell? a = none := by unfold World.cell?; rw [h]
    rw [this] at hc; cases hc
theorem RepV.keep {C C2 : Ctx} {w w2 : World} (m : Keeps C.A w C2.A w2) {v : Value} {a : AVal} (h : RepV C w v a) :
    a.g2 = true → RepV C2 w2 v a := by
  induction h with
  | any v => exact fun _ => .any v
  | bool b => exact fun _ => .bool b
  | int k n => exact fun _ => .int k n
  | str s => exact fun _ => .str s
  | agg arr cs h _ ih =>
    intro hg
    simp only [AVal.g2, AVal.g1, List.all_eq_true] at hg
    exact .agg arr cs h fun i u c a b => ih i u c a b (AVal.g2_of_g0 (hg c (List.mem_of_getElem? b)))
  | tuple arr cs h _ ih =>
    intro hg
    simp only [AVal.g2, List.all_eq_true] at hg
    exact .tuple arr cs h fun i u c a b => ih i u c a b (AVal.g2_of_g1 (hg c (List.mem_of_getElem? b)))
  | nils => exact fun _ => .nils
  | z0 a => exact fun _ => .z0 a
  | sl0 a cap sz hcm => exact fun _ => .sl0 a cap sz hcm
  | sl a len cap xs sz u hsp hlen hlc hcm hA hsz1 hsz hg hcell hrep ih =>
    intro _
    exact .sl a len cap xs sz u hsp hlen hlc hcm (m _ hA).1 hsz1 hsz hg (fun j hj => cell?_keep (m _ hA).2 (hcell j hj)) fun i k x c a b => ih i k x c a b (AVal.g2_of_g0 (hg x (List.mem_of_getElem? a) c (List.mem_of_getElem? b)))
  | own => intro h; simp [AVal.g2, AVal.g1, AVal.g0] at h
  | eptr a cs u hsp hA hg hcell hrep ih =>
    intro _
    exact .eptr a cs u hsp (m _ hA).1 hg (fun j hj => cell?_keep (m _ hA).2 (hcell j hj)) fun j c b => ih j c b (AVal.g2_of_g0 (hg c (List.mem_of_getElem? b)))
  | ptr => intro h; simp [AVal.g2, AVal.g1, AVal.g0] at h
  | rptr => intro h; simp [AVal.g2, AVal.g1, AVal.g0] at h
  | nilm => exact fun _ => .nilm
  | pr φ a len cap h hs => exact fun _ => .pr φ a len cap (hs _ _ _ _ m h) hs
  | map => intro h; simp [AVal.g2, AVal.g1, AVal.g0] at h
  | vmap0 => exact fun _ => .vmap0
  | vmap b es entries clock hA hg hh hwf hrep ih =>
    intro _
    refine .vmap b es entries clock (m _ hA).1 hg ?_ hwf fun i e p a b => ih i e p a b (AVal.g2_of_g1 (hg p (List.mem_of_getElem? b)))
    rcases (m _ hA).2 with h | ⟨ds, h⟩
    · rw [h]; exact hh
    · rw [h] at hh; cases hh
  | func => intro h; simp [AVal.g2, AVal.g1, AVal.g0] at h
  | iter => intro h; simp [AVal.g2, AVal.g1, AVal.g0] at h
  | yld => intro h; simp [AVal.g2, AVal.g1, AVal.g0] at h

/-- a slice that leans on memory of T alone, while K can still be leaned on -/
@[reducible] def ln (K T : Nat → Prop) (sz : Nat) (xs : List (List AVal)) : AVal := .pr fun A w v => (∀ b, K b → A b) ∧ RepV (Ctx.imm fun b => A b ∧ T b) w v (.sl sz xs)
theorem RepV.lnI {C : Ctx} {w : World} {v : Value} {K T : Nat → Prop} {sz : Nat} {xs : List (List AVal)} : RepV C w v (ln K T sz xs) ↔ (∀ b, K b → C.A b) ∧ RepV (Ctx.imm fun b => C.A b ∧ T b) w v (.sl sz xs) := by
  constructor
  · intro h; cases h with
    | pr _ _ _ _ h _ => exact h
  · rintro ⟨hS, h⟩
    have hs : ∀ (v : Value) (A : Nat → Prop) (w : World) (A' : Nat → Prop) (w' : World), Keeps A w A' w' → ((∀ b, K b → A b) ∧ RepV (Ctx.imm fun b => A b ∧ T b) w v (.sl sz xs)) → ((∀ b, K b → A' b) ∧ RepV (Ctx.imm fun b => A' b ∧ T b) w' v (.sl sz xs)) :=
      fun v A w A' w' k r => ⟨fun b hb => (k b (r.1 b hb)).1, r.2.keep (C := Ctx.imm fun b => A b ∧ T b) (C2 := Ctx.imm fun b => A' b ∧ T b) (fun b hb => ⟨⟨(k b hb.1).1, hb.2⟩, (k b hb.1).2⟩) rfl⟩
    cases h with
    | sl0 a cap _ hcm => exact .pr _ a 0 cap ⟨hS, .sl0 a cap sz hcm⟩ (hs _)
    | sl a len cap _ _ u h1 h2 h3 h4 h5 h6 h7 h8 h9 h10 => exact .pr _ (some a) len cap ⟨hS, .sl a len cap xs sz u h1 h2 h3 h4 h5 h6 h7 h8 h9 h10⟩ (hs _)

/-- every value that is told so can be told so -/
def Less (a b : AVal) : Prop := ∀ (C : Ctx) (w : World) (v : Value), RepV C w v a → RepV (Ctx.imm C.A) w v b
theorem Less.refl {a : AVal} (h : a.g2 = true) : Less a a := fun C w _ r => r.keep (C := C) (C2 := Ctx.imm C.A) (w2 := w) (fun _ hb => ⟨hb, .inl rfl⟩) h
theorem Less.ln {K T : Nat → Prop} {sz : Nat} {xs : List (List AVal)} : Less (ln K T sz xs) (.sl sz xs) := fun C w v r =>
  (RepV.lnI.1 r).2.keep (C := Ctx.imm fun b => C.A b ∧ T b) (C2 := Ctx.imm C.A) (fun _ hb => ⟨hb.1, .inl rfl⟩) rfl
/-- told again at a later moment: S is what can be leaned on now -/
theorem RepV.mark {C : Ctx} {w : World} {v : Value} {sz : Nat} {xs : List (List AVal)} (h : RepV C w v (.sl sz xs)) : RepV C w v (ln C.A C.A sz xs) :=
  RepV.lnI.2 ⟨fun _ h => h, h.keep (C2 := Ctx.imm fun b => C.A b ∧ C.A b) (w2 := w) (fun _ hb => ⟨⟨hb, hb⟩, .inl rfl⟩) rfl⟩
theorem RepV.remark {C : Ctx} {w : World} {v : Value} {sz : Nat} {K T : Nat → Prop} {xs : List (List AVal)} (h : RepV C w v (ln K T sz xs)) : RepV C w v (ln C.A (fun b => C.A b ∧ T b) sz xs) :=
  RepV.lnI.2 ⟨fun _ h => h, (RepV.lnI.1 h).2.keep (C := Ctx.imm fun b => C.A b ∧ T b) (C2 := Ctx.imm fun b => C.A b ∧ C.A b ∧ T b) (w2 := w) (fun _ hb => ⟨⟨hb.1, hb⟩, .inl rfl⟩) rfl⟩
inductive Lesses : List AVal → List AVal → Prop
  | nil : Lesses [] []
  | cons {a b : AVal} {as bs : List AVal} (h : Less a b) (t : Lesses as bs) : Lesses (a :: as) (b :: bs)
theorem Lesses.reps {as bs : List AVal} (h : Lesses as bs) {C : Ctx} {w : World} : ∀ {vs : List Value}, vs.length = as.length → (∀ (i : Nat) (v : Value) (a : AVal), vs[i]? = some v → as[i]? = some a → RepV C w v a) → RepVs (Ctx.imm C.A) w vs bs := by
  induction h with
  | nil => intro vs hl _; exact ⟨by simpa using hl, fun i v a h1 h2 => by simp at h2⟩
  | cons h t ih =>
    intro vs hl hv
    match vs, hl with
    | v :: vs, hl =>
      have := ih (vs := vs) (by simpa using hl) fun i u a h1 h2 => hv (i + 1) u a (by simpa using h1) (by simpa using h2)
      refine ⟨by simp [this.1], fun i u a h1 h2 => ?_⟩
      match i, h1, h2 with
      | 0, h1, h2 => simp at h1 h2; subst h1 h2; exact h C w _ (hv 0 _ _ rfl rfl)
      | i + 1, h1, h2 => exact this.2 i u a (by simpa using h1) (by simpa using h2)
theorem AVal.f2_of_f0' {e : AVal} (h : e.f0 = true) : e.f2 = true := by cases e <;> first | rfl | cases h
variable {P : Program}
theorem ACall.pureL {f : FuncId} {args args' : List AVal} {st : List Fr} {H : List AObj} {K : AVal → List AObj → Prop} {R : AVal → Prop} (hc : ∀ (args : Array Value) (w : World), (callFunc f args).run P w = .ok (.enter f args) w)
    (spec : PureFn P f args' R) (hl : Lesses args args') (h : ∀ r, R r → K r H) : ACall P (.func f []) args st H K := by
  intro W0 C w outs fv vs I hH hO hf hlen hv
  subst hH
  cases hf with
  | func _ caps _ hcl _ =>
    have : caps = #[] := Array.eq_empty_of_size_eq_zero (by simpa using hcl)
    subst this
    refine .inl ⟨f, #[], rfl, hc, ?_⟩
    rw [show vs.toArray ++ #[] = vs.toArray by simp]
    refine (spec _ w vs I.sub (hl.reps hlen hv)).mono fun e w' ⟨v, r, he, hR, hg, hb, hr⟩ => ?_
    have key := I.grow (fun b => w.heap.size ≤ b ∧ b < w'.heap.size) (fun b hb => hb) hb
    exact ⟨v, r, C.more fun b => w.heap.size ≤ b ∧ b < w'.heap.size, he, h r hR, rfl, RepV.ground' (C := Ctx.imm fun b => C.A b ∨ (w.heap.size ≤ b ∧ b < w'.heap.size)) (C2 := C.more fun b => w.heap.size ≤ b ∧ b < w'.heap.size) (fun b hb => hb) hr hg, key.1, hO.mono key.2⟩
/-- a call whose result is a slice that leans on new memory alone, and a word -/
theorem ACall.freshL {f : FuncId} {args args' : List AVal} {st : List Fr} {H : List AObj} {K : AVal → List AObj → Prop} {S : Nat → Prop} {sz : Nat} {xs : List (List AVal)} {e : AVal} (hc : ∀ (args : Array Value) (w : World), (callFunc f args).run P w = .ok (.enter f args) w)
    (spec : FreshFn P f args' (· = .tuple [.sl sz xs, e])) (hl : Lesses args args') (hS : ∃ (i : Nat) (T : Nat → Prop) (s : Nat) (ys : List (List AVal)), args[i]? = some (ln S T s ys)) (he : e.f0 = true) (h : K (.tuple [ln S (fun b => ¬ S b) sz xs, e]) H) : ACall P (.func f []) args st H K := by
  intro W0 C w outs fv vs I hH hO hf hlen hv
  subst hH
  cases hf with
  | func _ caps _ hcl _ =>
    have : caps = #[] := Array.eq_empty_of_size_eq_zero (by simpa using hcl)
    subst this
    refine .inl ⟨f, #[], rfl, hc, ?_⟩
    rw [show vs.toArray ++ #[] = vs.toArray by simp]
    have hS0 : ∀ b, S b → b < w.heap.size := by
      obtain ⟨i, T, s, ys, hi⟩ := hS
      have hil : i < vs.length := by
        rw [hlen]
        exact (List.getElem?_eq_some_iff.1 hi).1
      exact fun b hb => I.sub b ((RepV.lnI.1 (hv i _ _ (List.getElem?_eq_getElem hil) hi)).1 b hb)
    refine (spec _ w vs I.sub (hl.reps hlen hv)).mono fun e w' ⟨v, r, he', hR, hg, hb, hr⟩ => ?_
    subst hR
    have key := I.grow (fun b => w.heap.size ≤ b ∧ b < w'.heap.size) (fun b hb => hb) hb
    refine ⟨v, _, C.more fun b => w.heap.size ≤ b ∧ b < w'.heap.size, he', h, rfl, ?_, key.1, hO.mono key.2⟩
    cases hr with
    | tuple arr _ hsz hcs =>
      refine .tuple arr _ hsz fun i u c h1 h2 => ?_
      match i, h2 with
      | 0, h2 =>
        simp at h2; subst h2
        refine RepV.lnI.2 ⟨fun b hb => ?_, ?_⟩
        · obtain ⟨i, T, s, ys, hi⟩ := hS
          exact Or.inl ((RepV.lnI.1 (hv i _ _ (List.getElem?_eq_getElem (by rw [hlen]; exact (List.getElem?_eq_some_iff.1 hi).1)) hi)).1 b hb)
        · exact (hcs 0 u _ h1 rfl).keep (C := Ctx.imm fun b => w.heap.size ≤ b ∧ b < w'.heap.size) (C2 := Ctx.imm fun b => (C.more fun b => w.heap.size ≤ b ∧ b < w'.heap.size).A b ∧ ¬ S b)
            (fun b hb => ⟨⟨Or.inr hb, fun hs => by have := hS0 b hs; have := hb.1; omega⟩, .inl rfl⟩) rfl
      | 1, h2 =>
        simp at h2; subst h2
        exact (hcs 1 u _ h1 rfl).flat (AVal.f2_of_f0' he)
      | i + 2, h2 => simp at h2
end Go.Ab
