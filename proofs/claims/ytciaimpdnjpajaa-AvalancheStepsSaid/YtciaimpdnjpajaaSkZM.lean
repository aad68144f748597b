/-
  Contracts of functions whose results lean on new memory alone, shown by a frame behind the walk that no code has: it tells what memory was there.
-/
import Derived.Test.YtciaimpdnjpajaaSkZL
namespace Go.Ab
open Go Go.RowKit

/-- a block of cells that may be stored into -/
def Thaw (w : World) (b : Nat) : Prop := ∃ arr T, w.heap[b]? = some (.cells arr T (0, 0))
theorem Thaw.keep {w w' : World} {b : Nat} (h : Thaw w b) (k : w'.heap[b]? = w.heap[b]? ∨ ∃ ds, w.heap[b]? = some (.deferred ds)) : Thaw w' b := by
  obtain ⟨arr, T, h⟩ := h
  rcases k with k | ⟨ds, k⟩
  · exact ⟨arr, T, by rw [k]; exact h⟩
  · rw [h] at k; cases k
/-- a slice that leans on such blocks of T alone -/
@[reducible] def lnT (T : Nat → Prop) (sz : Nat) (xs : List (List AVal)) : AVal := .pr fun A w v => RepV (Ctx.imm fun b => A b ∧ T b ∧ Thaw w b) w v (.sl sz xs)
theorem RepV.lnTI {C : Ctx} {w : World} {v : Value} {T : Nat → Prop} {sz : Nat} {xs : List (List AVal)} : RepV C w v (lnT T sz xs) ↔ RepV (Ctx.imm fun b => C.A b ∧ T b ∧ Thaw w b) w v (.sl sz xs) := by
  constructor
  · intro h; cases h with
    | pr _ _ _ _ h _ => exact h
  · intro h
    have hs : ∀ (v : Value) (A : Nat → Prop) (w : World) (A' : Nat → Prop) (w' : World), Keeps A w A' w' → RepV (Ctx.imm fun b => A b ∧ T b ∧ Thaw w b) w v (.sl sz xs) → RepV (Ctx.imm fun b => A' b ∧ T b ∧ Thaw w' b) w' v (.sl sz xs) :=
      fun v A w A' w' k r => r.keep (C := Ctx.imm fun b => A b ∧ T b ∧ Thaw w b) (C2 := Ctx.imm fun b => A' b ∧ T b ∧ Thaw w' b) (fun b hb => ⟨⟨(k b hb.1).1, hb.2.1, hb.2.2.keep (k b hb.1).2⟩, (k b hb.1).2⟩) rfl
    cases h with
    | sl0 a cap _ hcm => exact .pr _ a 0 cap (.sl0 a cap sz hcm) (hs _)
    | sl a len cap _ _ u h1 h2 h3 h4 h5 h6 h7 h8 h9 h10 => exact .pr _ (some a) len cap (.sl a len cap xs sz u h1 h2 h3 h4 h5 h6 h7 h8 h9 h10) (hs _)
theorem Less.lnT {T : Nat → Prop} {sz : Nat} {xs : List (List AVal)} : Less (lnT T sz xs) (.sl sz xs) := fun C w v r =>
  (RepV.lnTI.1 r).keep (C := Ctx.imm fun b => C.A b ∧ T b ∧ Thaw w b) (C2 := Ctx.imm C.A) (fun _ hb => ⟨hb.1, .inl rfl⟩) rfl

/-- the frame that is not there: all of S can be leaned on -/
def ghostS (S : Nat → Prop) : Fr := [(0, ln S S 1 [])]
theorem ghostS_rep {C : Ctx} {w : World} {S : Nat → Prop} (h : ∀ b, S b → C.A b) : RepF C w #[.slice none 0 0] (ghostS S) := by
  intro t
  match t with
  | 0 => exact RepV.lnI.2 ⟨h, .sl0 none 0 1 (Nat.zero_le _)⟩
  | t + 1 =>
    have : get (ghostS S) (t + 1) = .any := by simp [ghostS, get]
    rw [this]; exact .any _
theorem ghostS_sub {C : Ctx} {w : World} {outs : List (Array Value)} {st : List Fr} {S : Nat → Prop} (hO : RepOuts C w outs st) (hS : ghostS S ∈ st) : ∀ b, S b → C.A b := by
  obtain ⟨i, hi⟩ := List.getElem?_of_mem hS
  have hlt : i < outs.length := by rw [hO.1]; exact (List.getElem?_eq_some_iff.1 hi).1
  have := hO.2 i _ _ (List.getElem?_eq_getElem hlt) hi 0
  rw [show get (ghostS S) 0 = ln S S 1 [] from rfl] at this
  exact (RepV.lnI.1 this).1

def CellG (S : Nat → Prop) (c c' : AVal) : Prop := (c = c' ∧ c.f0 = true ∧ c.g0 = true) ∨ ∃ sz ys, c = lnT (fun b => ¬ S b) sz ys ∧ c' = .sl sz ys
def ConvG (S : Nat → Prop) (xs xs' : List (List AVal)) : Prop := xs.length = xs'.length ∧ ∀ (i : Nat) (x' : List AVal), xs'[i]? = some x' → ∃ x, xs[i]? = some x ∧ x.length = x'.length ∧ ∀ (k : Nat) (c' : AVal), x'[k]? = some c' → ∃ c, x[k]? = some c ∧ CellG S c c'
theorem ConvG.refl {S : Nat → Prop} {xs : List (List AVal)} (h : (xs.all fun x => x.all AVal.f0) = true) (hg : ∀ x ∈ xs, ∀ c ∈ x, AVal.g0 c = true) : ConvG S xs xs :=
  ⟨rfl, fun _ x hx => ⟨x, hx, rfl, fun _ c hc => ⟨c, hc, .inl ⟨rfl, List.all_eq_true.1 (List.all_eq_true.1 h x (List.mem_of_getElem? hx)) c (List.mem_of_getElem? hc), hg x (List.mem_of_getElem? hx) c (List.mem_of_getElem? hc)⟩⟩⟩⟩
theorem ConvG.map {α : Type} {S : Nat → Prop} {f g : α → List AVal} (h : ∀ a, (f a).length = (g a).length ∧ ∀ (k : Nat) (c' : AVal), (g a)[k]? = some c' → ∃ c, (f a)[k]? = some c ∧ CellG S c c') (l : List α) : ConvG S (l.map f) (l.map g) := by
  refine ⟨by simp, fun i x' hx => ?_⟩
  rw [List.getElem?_map] at hx
  cases hl : l[i]? with
  | none => rw [hl] at hx; cases hx
  | some a =>
    rw [hl] at hx
    obtain rfl := Option.some.inj hx
    exact ⟨f a, by rw [List.getElem?_map, hl]; rfl, (h a).1, (h a).2⟩

theorem CellG.g0 {S : Nat → Prop} {c c' : AVal} (h : CellG S c c') : c'.g0 = true := by
  rcases h with ⟨rfl, _, h⟩ | ⟨sz, ys, _, rfl⟩
  · exact h
  · rfl
theorem CellG.rep {W0 : World} {C : Ctx} {w : World} (I : Inv W0 C w) {u : Value} {c c' : AVal} (h : CellG C.A0 c c') (hr : RepV C w u c) : RepV (Ctx.imm fun b => W0.heap.size ≤ b ∧ b < w.heap.size ∧ Thaw w b) w u c' := by
  rcases h with ⟨rfl, h, _⟩ | ⟨sz, ys, rfl, rfl⟩
  · exact hr.flat (AVal.f2_of_f0' h)
  · refine (RepV.lnTI.1 hr).keep (C := Ctx.imm fun b => C.A b ∧ ¬ C.A0 b ∧ Thaw w b) (C2 := Ctx.imm fun b => W0.heap.size ≤ b ∧ b < w.heap.size ∧ Thaw w b) (fun b hb => ⟨⟨?_, I.sub b hb.1, hb.2.2⟩, .inl rfl⟩) rfl
    exact Nat.le_of_not_lt fun hlt => hb.2.1 (I.old b hb.1 hlt)

theorem rfrg_rep {W0 : World} {C : Ctx} {w : World} (I : Inv W0 C w) {v : Value} {id ver sz : Nat} {xs xs' : List (List AVal)} (h : RepV C w v (.own id ver 0 xs.length)) (hrow : C.H[id]? = some (.row ver sz xs)) (hc : ConvG C.A0 xs xs') :
    RepV (Ctx.imm fun b => W0.heap.size ≤ b ∧ b < w.heap.size ∧ Thaw w b) w v (.sl sz xs') := by
  cases h with
  | own ad _ cap _ _ _ hlt hlc hcm hh =>
    obtain ⟨_, hh⟩ := hh _ _ _ hrow
    obtain ⟨hle, hh⟩ := hh rfl
    obtain ⟨hsz1, hsz, hg, ho⟩ := I.objs id _ hrow
    by_cases h0 : xs = []
    · subst h0
      have : xs' = [] := List.length_eq_zero_iff.1 (by have := hc.1; simpa using this.symm)
      subst this
      exact .sl0 _ _ _ hcm
    · rcases hh with hh | ⟨l, hl, rfl, hfit⟩
      · have : 0 < xs.length := List.length_pos_iff.2 h0
        omega
      rcases ho with ⟨e1, _⟩ | ⟨l', arr, T', e1, e2, e3, e4, e5⟩
      · exact absurd e1 h0
      rw [hl, Option.some.injEq] at e1
      subst e1
      have hs := I.sep id l hl
      have hsz' : ∀ x ∈ xs', x.length = sz := by
        intro x hx
        obtain ⟨i, hi⟩ := List.getElem?_of_mem hx
        obtain ⟨x0, h1, h2, _⟩ := hc.2 i x hi
        rw [← h2]; exact hsz x0 (List.mem_of_getElem? h1)
      refine .sl _ _ _ _ _ (fun j => arr.getD (l.base + j) undef) rfl hc.1 hlc hcm ⟨hs.2.1, hs.2.2.1, ⟨arr, T', e2⟩⟩ hsz1 hsz' (fun x hx c hcx => ?_) (fun j hj => ?_) fun i k x c hx hcx => ?_
      · obtain ⟨i, hi⟩ := List.getElem?_of_mem hx
        obtain ⟨k, hk⟩ := List.getElem?_of_mem hcx
        obtain ⟨x0, h1, h2, h3⟩ := hc.2 i x hi
        obtain ⟨c0, h4, h5⟩ := h3 k c hk
        exact h5.g0
      · rw [← hc.1] at hj
        simp only [World.cell?, e2]
        have : l.base + j < arr.size := by omega
        simp [Array.getD, this]
      · obtain ⟨x0, h1, h2, h3⟩ := hc.2 i x hx
        obtain ⟨c0, h4, h5⟩ := h3 k c hcx
        obtain ⟨u, hu, hur⟩ := e5 i k x0 c0 h1 h4
        have : arr.getD (l.base + (i * sz + k)) undef = u := by rw [Array.getD_eq_getD_getElem?, hu]; rfl
        rw [this]
        exact h5.rep I hur

/-- A CONTRACT whose result leans on new memory alone, which may be stored into. -/
def FreshT (P : Program) (f : FuncId) (args : List AVal) (r : AVal) : Prop :=
  ∀ (A : Nat → Prop) (w : World) (vs : List Value), (∀ b, A b → b < w.heap.size) → RepVs (Ctx.imm A) w vs args →
    Calls P f vs.toArray w fun e w' => ∃ v, e = .returned v ∧ Below w.heap.size w w' ∧ RepV (Ctx.imm fun b => w.heap.size ≤ b ∧ b < w'.heap.size ∧ Thaw w' b) w' v r
variable {P : Program}
theorem FreshT.ofRow {f : FuncId} {args : List AVal} {sz : Nat} {xs : List (List AVal)} (h : OwnRow P f args sz xs) (hf : (xs.all fun x => x.all AVal.f0) = true) : FreshT P f args (.sl sz xs) := by
  intro A w vs hA hv
  refine (h A w vs hA hv).mono fun e w' ⟨v, r, C', he, hR, hA0, I, hr⟩ => ?_
  obtain ⟨rfl, hH⟩ := hR
  have hrow : C'.H[0]? = some (.row 0 sz xs) := by rw [hH]; rfl
  exact ⟨v, he, I.below, rfrg_rep I hr hrow (.refl hf (I.objs 0 _ hrow).2.2.1)⟩

/-- a call whose result is a slice that leans on new memory alone -/
theorem ACall.freshG {f : FuncId} {args : List AVal} {st : List Fr} {H : List AObj} {K : AVal → List AObj → Prop} (S : Nat → Prop) {sz : Nat} {xs : List (List AVal)} (hc : ∀ (args : Array Value) (w : World), (callFunc f args).run P w = .ok (.enter f args) w)
    (spec : FreshT P f args (.sl sz xs)) (hg : args.all AVal.g2 = true) (hS : ghostS S ∈ st) (h : K (lnT (fun b => ¬ S b) sz xs) H) : ACall P (.func f []) args st H K := by
  intro W0 C w outs fv vs I hH hO hf hlen hv
  subst hH
  cases hf with
  | func _ caps _ hcl _ =>
    have : caps = #[] := Array.eq_empty_of_size_eq_zero (by simpa using hcl)
    subst this
    refine .inl ⟨f, #[], rfl, hc, ?_⟩
    rw [show vs.toArray ++ #[] = vs.toArray by simp]
    have hS0 := ghostS_sub hO hS
    have hvs : RepVs (Ctx.imm C.A) w vs args :=
      ⟨hlen, fun i v a h1 h2 => RepV.ground' (C := C) (C2 := Ctx.imm C.A) (fun b hb => hb) (hv i v a h1 h2) (List.all_eq_true.1 hg a (List.mem_of_getElem? h2))⟩
    refine (spec _ w vs I.sub hvs).mono fun e w' ⟨v, he', hb, hr⟩ => ?_
    have key := I.grow (fun b => w.heap.size ≤ b ∧ b < w'.heap.size) (fun b hb => hb) hb
    refine ⟨v, _, C.more fun b => w.heap.size ≤ b ∧ b < w'.heap.size, he', h, rfl, RepV.lnTI.2 ?_, key.1, hO.mono key.2⟩
    exact hr.keep (C := Ctx.imm fun b => w.heap.size ≤ b ∧ b < w'.heap.size ∧ Thaw w' b) (C2 := Ctx.imm fun b => (C.more fun b => w.heap.size ≤ b ∧ b < w'.heap.size).A b ∧ ¬ S b ∧ Thaw w' b)
      (fun b hb => ⟨⟨Or.inr ⟨hb.1, hb.2.1⟩, fun hs => by have := I.sub b (hS0 b hs); have := hb.1; omega, hb.2.2⟩, .inl rfl⟩) rfl
/-- .. and a word -/
theorem ACall.freshX {f : FuncId} {args args' : List AVal} {st : List Fr} {H : List AObj} {K : AVal → List AObj → Prop} (S : Nat → Prop) {sz : Nat} {xs : List (List AVal)} {e : AVal} (hc : ∀ (args : Array Value) (w : World), (callFunc f args).run P w = .ok (.enter f args) w)
    (spec : FreshT P f args' (.tuple [.sl sz xs, e])) (hl : Lesses args args') (hS : ghostS S ∈ st) (he : e.f0 = true) (h : K (.tuple [lnT (fun b => ¬ S b) sz xs, e]) H) : ACall P (.func f []) args st H K := by
  intro W0 C w outs fv vs I hH hO hf hlen hv
  subst hH
  cases hf with
  | func _ caps _ hcl _ =>
    have : caps = #[] := Array.eq_empty_of_size_eq_zero (by simpa using hcl)
    subst this
    refine .inl ⟨f, #[], rfl, hc, ?_⟩
    rw [show vs.toArray ++ #[] = vs.toArray by simp]
    have hS0 := ghostS_sub hO hS
    refine (spec _ w vs I.sub (hl.reps hlen hv)).mono fun e w' ⟨v, he', hb, hr⟩ => ?_
    have key := I.grow (fun b => w.heap.size ≤ b ∧ b < w'.heap.size) (fun b hb => hb) hb
    refine ⟨v, _, C.more fun b => w.heap.size ≤ b ∧ b < w'.heap.size, he', h, rfl, ?_, key.1, hO.mono key.2⟩
    cases hr with
    | tuple arr _ hsz hcs =>
      refine .tuple arr _ hsz fun i u c h1 h2 => ?_
      match i, h2 with
      | 0, h2 =>
        simp at h2; subst h2
        refine RepV.lnTI.2 ?_
        exact (hcs 0 u _ h1 rfl).keep (C := Ctx.imm fun b => w.heap.size ≤ b ∧ b < w'.heap.size ∧ Thaw w' b) (C2 := Ctx.imm fun b => (C.more fun b => w.heap.size ≤ b ∧ b < w'.heap.size).A b ∧ ¬ S b ∧ Thaw w' b)
          (fun b hb => ⟨⟨Or.inr ⟨hb.1, hb.2.1⟩, fun hs => by have := I.sub b (hS0 b hs); have := hb.1; omega, hb.2.2⟩, .inl rfl⟩) rfl
      | 1, h2 =>
        simp at h2; subst h2
        exact (hcs 1 u _ h1 rfl).flat (AVal.f2_of_f0' he)
      | i + 2, h2 => simp at h2

/-- the result of a function: a row of its own, told with cells that lean on new memory, and a word -/
def rfrg (S : Nat → Prop) (sz : Nat) (xs' : List (List AVal)) (e : AVal) (r : AVal) (H : List AObj) : Prop :=
  ∃ id v xs, r = .tuple [.own id v 0 xs.length, e] ∧ H[id]? = some (.row v sz xs) ∧ e.f0 = true ∧ ConvG S xs xs'

theorem FreshT.introG {f : FuncId} {fn : Func} {c : Code} {n : Nat} {args : List AVal} {sz : Nat} {xs' : List (List AVal)} {e0 : AVal} (hf : P.funcs[f]? = some fn) (hb : fn.body = some c) (hn : fn.ntmps = n) (hlen : args.length ≤ n)
    (h : ∀ S, AWP none P n c (qret P fn (rfrg S sz xs' e0)) [ghostS S] (frame0 args 0) []) : FreshT P f args (.tuple [.sl sz xs', e0]) := by
  intro A w vs hA hvs
  refine calls_of_wp hf hb ?_
  have hsize : (vs.toArray ++ Array.replicate (fn.ntmps - vs.toArray.size) undef).size = n := by
    have := hvs.1
    simp only [Array.size_append, List.size_toArray, Array.size_replicate]; omega
  have I0 : Inv w (Ctx.imm A) w := ⟨.refl _ _, hA, fun b hb _ => hb, by simp [Ctx.imm], by simp [Ctx.imm], by simp [Ctx.imm]⟩
  refine wp_mono (wpIn_wide.1 <| h A w A [] [#[.slice none 0 0]] _ w ⟨Ctx.imm A, rfl, rfl, I0, enter_rep hvs _, .cons (ghostS_rep fun b hb => hb) .nil, hsize, rfl⟩) ?_
  intro e a' w' ⟨fr', H', hq, hR⟩
  obtain ⟨C, rfl, hA0, I, hF, _, _, hd⟩ := hR.ex
  have key : ∀ (h : match mapO (aresult P fr' C.H) fn.results.toList with | some vs => rfrg A sz xs' e0 (aret vs) C.H | none => False), a'.defers = [] ∧ ∃ v, (results fn a'.tmps).run P w' = .ok v w' ∧ ∃ v', Ending.returned v = .returned v' ∧ Below w.heap.size w w' ∧
      RepV (Ctx.imm fun b => w.heap.size ≤ b ∧ b < w'.heap.size ∧ Thaw w' b) w' v' (.tuple [.sl sz xs', e0]) := by
    intro h
    split at h
    · rename_i rs hrs
      obtain ⟨v, h1, h2⟩ := results_run (P := P) I hF hrs
      obtain ⟨id, ver, xs, e1, e2, e3, e4⟩ := h
      rw [e1] at h2
      subst hA0
      cases h2 with
      | tuple arr _ hsz hcs =>
        refine ⟨hd, _, h1, _, rfl, I.below, .tuple arr _ hsz fun i u c h3 h4 => ?_⟩
        match i, h4 with
        | 0, h4 =>
          simp at h4; subst h4
          exact rfrg_rep I (hcs 0 u _ h3 rfl) e2 e4
        | 1, h4 =>
          simp at h4; subst h4
          exact (hcs 1 u _ h3 rfl).flat (AVal.f2_of_f0' e3)
        | i + 2, h4 => simp at h4
    · exact h.elim
  cases e with
  | normal => exact key hq
  | ret => exact key hq
  | _ => exact hq.elim
end Go.Ab
