/-
  Contracts of functions, their entry and return, calls by contract and in place; weakening of states.
-/
import Derived.Test.YtciaimpdnjpajaaSkJ
namespace Go.Ab
open Go Go.RowKit

def Ctx.imm (A : Nat → Prop) : Ctx := ⟨A, A, fun _ => none, []⟩
def RepVs (C : Ctx) (w : World) (vs : List Value) (args : List AVal) : Prop :=
  vs.length = args.length ∧ ∀ (i : Nat) (v : Value) (a : AVal), vs[i]? = some v → args[i]? = some a → RepV C w v a

/-- THE CONTRACT OF A FUNCTION: called with values that read as 'args', it returns a value that reads as some r of R; nothing that was there is changed. -/
def PureFn (P : Program) (f : FuncId) (args : List AVal) (R : AVal → Prop) : Prop :=
  ∀ (A : Nat → Prop) (w : World) (vs : List Value), (∀ b, A b → b < w.heap.size) → RepVs (Ctx.imm A) w vs args →
    Calls P f vs.toArray w fun e w' => ∃ v r, e = .returned v ∧ R r ∧ r.g2 = true ∧ Below w.heap.size w w' ∧
      RepV (Ctx.imm fun b => A b ∨ (w.heap.size ≤ b ∧ b < w'.heap.size)) w' v r

/-- A CONTRACT AS ABOVE, whose result leans on no memory that was there. -/
def FreshFn (P : Program) (f : FuncId) (args : List AVal) (R : AVal → Prop) : Prop :=
  ∀ (A : Nat → Prop) (w : World) (vs : List Value), (∀ b, A b → b < w.heap.size) → RepVs (Ctx.imm A) w vs args →
    Calls P f vs.toArray w fun e w' => ∃ v r, e = .returned v ∧ R r ∧ r.g2 = true ∧ Below w.heap.size w w' ∧
      RepV (Ctx.imm fun b => w.heap.size ≤ b ∧ b < w'.heap.size) w' v r
/-- a value whose memory, if any, is a row of the call's own, of values in no need of memory -/
def fre0 (H : List AObj) (v : AVal) : Bool :=
  match v with
  | .own r _ _ _ => match H[r]? with
    | some (.row _ _ xs) => xs.all fun x => x.all AVal.f0
    | _ => false
  | v => v.f0
def fre1 (H : List AObj) (v : AVal) : Bool :=
  match v with
  | .agg cs => cs.all (fre0 H)
  | v => fre0 H v
def fre2 (H : List AObj) (v : AVal) : Bool :=
  match v with
  | .tuple vs => vs.all (fre1 H)
  | v => fre1 H v

def mapO {α β : Type} (f : α → Option β) : List α → Option (List β)
  | [] => some []
  | x :: r => match f x, mapO f r with
    | some y, some ys => some (y :: ys)
    | _, _ => none

/-- a value told without the call's own memory -/
def frz0 (H : List AObj) (v : AVal) : Option AVal :=
  match v with
  | .own r v lo len => match H[r]? with
    | some (.row v' sz xs) => if v = v' then some (.sl sz ((xs.drop lo).take len)) else none
    | _ => none
  | .map r => match H[r]? with
    | some (.mp es) => some (.vmap es)
    | _ => none
  | .any | .agg _ | .tuple _ | .ptr _ _ | .rptr _ _ _ _ | .func _ _ | .iter _ | .yld _ => none
  | v => some v
def frz1 (H : List AObj) (v : AVal) : Option AVal :=
  match v with
  | .agg cs => match mapO (frz0 H) cs with
    | some ds => some (.agg ds)
    | none => none
  | v => frz0 H v
def frz2 (H : List AObj) (v : AVal) : Option AVal :=
  match v with
  | .tuple vs => match mapO (frz1 H) vs with
    | some ds => some (.tuple ds)
    | none => none
  | v => frz1 H v

theorem mapO_spec {α β : Type} {f : α → Option β} : ∀ {l : List α} {m : List β}, mapO f l = some m → l.length = m.length ∧ ∀ (i : Nat) (x : α) (y : β), l[i]? = some x → m[i]? = some y → f x = some y
  | [], m, h => by simp only [mapO, Option.some.injEq] at h; subst h; simp
  | x :: r, m, h => by
    simp only [mapO] at h
    split at h
    · rename_i y ys h1 h2
      simp only [Option.some.injEq] at h
      subst h
      have ih := mapO_spec h2
      refine ⟨by simp [ih.1], fun i x' y' a b => ?_⟩
      match i, a, b with
      | 0, a, b => simp at a b; subst a b; exact h1
      | i + 1, a, b => exact ih.2 i x' y' (by simpa using a) (by simpa using b)
    · cases h

section
variable {P : Program}

theorem RepV.ground' {C C2 : Ctx} {w : World} (hA : ∀ b, C.A b → C2.A b) {v : Value} {a : AVal} (h : RepV C w v a) (hg : a.g2 = true) : RepV C2 w v a :=
  RepV.ground (fun b hb => ⟨hA b hb, rfl⟩) h hg

theorem frz0_rep {W0 : World} {C : Ctx} {w : World} (I : Inv W0 C w) {v : Value} {a a' : AVal} (h : RepV C w v a) (hf : frz0 C.H a = some a') :
    a'.g0 = true ∧ RepV (Ctx.imm fun b => C.A b ∨ (W0.heap.size ≤ b ∧ b < w.heap.size)) w v a' := by
  unfold frz0 at hf
  split at hf
  · rename_i r v' lo len
    split at hf
    · rename_i v2 sz xs hr
      split at hf
      · rename_i hv
        subst hv
        simp only [Option.some.injEq] at hf
        subst hf
        refine ⟨rfl, ?_⟩
        cases h with
        | own ad _ cap _ _ _ hlt hlc hcm hh =>
          obtain ⟨_, hh⟩ := hh _ _ _ hr
          obtain ⟨hle, hh⟩ := hh rfl
          have hlen : ((xs.drop lo).take len).length = len := by simp; omega
          obtain ⟨hsz1, hsz, hg, ho⟩ := I.objs r _ hr
          by_cases h0 : len = 0
          · subst h0
            simp only [List.take_zero]
            exact .sl0 _ _ _ hcm
          · rcases hh with hh | ⟨l, hl, rfl, hfit⟩
            · omega
            rcases ho with ⟨e1, _⟩ | ⟨l', arr, T', e1, e2, e3, e4, e5⟩
            · subst e1; simp at hle; omega
            rw [hl, Option.some.injEq] at e1
            subst e1
            have hs := I.sep r l hl
            have hmul : (lo + len) * sz ≤ xs.length * sz := Nat.mul_le_mul_right _ hle
            have hadd : (lo + len) * sz = lo * sz + len * sz := Nat.add_mul _ _ _
            refine .sl _ _ _ _ _ (fun j => arr.getD (l.base + lo * sz + j) undef) rfl hlen.symm hlc hcm (.inr ⟨hs.2.1, hs.2.2.1⟩) hsz1
              (fun x hx => hsz x (List.mem_of_mem_drop (List.mem_of_mem_take hx))) (fun x hx => hg x (List.mem_of_mem_drop (List.mem_of_mem_take hx))) (fun j hj => ?_) fun i k x c hx hc => ?_
            · rw [hlen] at hj
              simp only [World.cell?, e2]
              have : l.base + lo * sz + j < arr.size := by omega
              simp [Array.getD, this]
            · rw [List.getElem?_take] at hx
              split at hx
              · rename_i hi
                rw [List.getElem?_drop] at hx
                obtain ⟨u, hu, hur⟩ := e5 _ k x c hx hc
                have hgc := hg x (List.mem_of_getElem? hx) c (List.mem_of_getElem? hc)
                have e : l.base + ((lo + i) * sz + k) = l.base + lo * sz + (i * sz + k) := by rw [Nat.add_mul]; omega
                rw [e] at hu
                have : arr.getD (l.base + lo * sz + (i * sz + k)) undef = u := by rw [Array.getD_eq_getD_getElem?, hu]; rfl
                rw [this]
                exact RepV.ground' (fun b hb => Or.inl hb) hur (AVal.g2_of_g0 hgc)
              · cases hx
      · cases hf
    · cases hf
  · rename_i r
    split at hf
    · rename_i es hr
      simp only [Option.some.injEq] at hf
      subst hf
      refine ⟨rfl, ?_⟩
      cases h with
      | map b _ hlt hh =>
        obtain ⟨l, hl, rfl⟩ := hh _ hr rfl
        obtain ⟨l', en, cl, h1, h2, h3, h4, h5⟩ := I.objs r _ hr
        rw [hl, Option.some.injEq] at h1
        subst h1
        have hs := I.sep r l hl
        exact .vmap _ _ en cl (.inr ⟨hs.2.1, hs.2.2.1⟩) h4 h2 h3 fun i e p a b => RepV.ground' (fun b hb => Or.inl hb) (h5 i e p a b) (AVal.g2_of_g1 (h4 p (List.mem_of_getElem? b)))
    · cases hf
  · cases hf
  · cases hf
  · cases hf
  · cases hf
  · cases hf
  · cases hf
  · cases hf
  · cases hf
  · rename_i n1 n2 n3 n4 n5 n6 n7 n8 n9 n10
    have hg : a.g0 = true := by
      cases a
      case own => exact absurd rfl (n1 _ _ _ _)
      case map => exact absurd rfl (n2 _)
      case any => exact absurd rfl n3
      case agg => exact absurd rfl (n4 _)
      case tuple => exact absurd rfl (n5 _)
      case ptr => exact absurd rfl (n6 _ _)
      case rptr => exact absurd rfl (n7 _ _ _ _)
      case func => exact absurd rfl (n8 _ _)
      case iter => exact absurd rfl (n9 _)
      case yld => exact absurd rfl (n10 _)
      all_goals rfl
    simp only [Option.some.injEq] at hf
    subst hf
    exact ⟨hg, RepV.ground' (fun b hb => Or.inl hb) h (AVal.g2_of_g0 hg)⟩

theorem all_of_mapO {H : List AObj} {f : List AObj → AVal → Option AVal} {g : AVal → Bool} {l m : List AVal} (h : mapO (f H) l = some m) (hg : ∀ (i : Nat) x y, l[i]? = some x → m[i]? = some y → g y = true) : m.all g = true := by
  rw [List.all_eq_true]
  intro y hy
  obtain ⟨i, hi⟩ := List.getElem?_of_mem hy
  have hlt : i < l.length := by rw [(mapO_spec h).1]; exact getD_opt hi
  exact hg i _ y (List.getElem?_eq_getElem hlt) hi

theorem frz1_rep {W0 : World} {C : Ctx} {w : World} (I : Inv W0 C w) {v : Value} {a a' : AVal} (h : RepV C w v a) (hf : frz1 C.H a = some a') :
    a'.g1 = true ∧ RepV (Ctx.imm fun b => C.A b ∨ (W0.heap.size ≤ b ∧ b < w.heap.size)) w v a' := by
  unfold frz1 at hf
  split at hf
  · rename_i cs
    split at hf
    · rename_i ds hds
      simp only [Option.some.injEq] at hf
      subst hf
      have hm := mapO_spec hds
      cases h with
      | agg arr _ hl hc =>
        have get : ∀ (i : Nat) (u : Value) (d : AVal), arr[i]? = some u → ds[i]? = some d → d.g0 = true ∧ RepV (Ctx.imm fun b => C.A b ∨ (W0.heap.size ≤ b ∧ b < w.heap.size)) w u d := by
          intro i u d h1 h2
          have hlt : i < cs.length := by rw [hm.1]; exact getD_opt h2
          have h3 : cs[i]? = some cs[i] := List.getElem?_eq_getElem hlt
          exact frz0_rep I (hc i u _ h1 h3) (hm.2 i _ d h3 h2)
        refine ⟨?_, .agg arr ds (by rw [hl, hm.1]) fun i u d h1 h2 => (get i u d h1 h2).2⟩
        refine all_of_mapO (f := frz0) hds fun i x y h1 h2 => ?_
        have hlt : i < arr.size := by rw [hl]; exact getD_opt h1
        exact (get i _ y (Array.getElem?_eq_getElem hlt) h2).1
    · cases hf
  · have := frz0_rep I h hf
    exact ⟨AVal.g1_of_g0 this.1, this.2⟩

theorem frz2_rep {W0 : World} {C : Ctx} {w : World} (I : Inv W0 C w) {v : Value} {a a' : AVal} (h : RepV C w v a) (hf : frz2 C.H a = some a') :
    a'.g2 = true ∧ RepV (Ctx.imm fun b => C.A b ∨ (W0.heap.size ≤ b ∧ b < w.heap.size)) w v a' := by
  unfold frz2 at hf
  split at hf
  · rename_i cs
    split at hf
    · rename_i ds hds
      simp only [Option.some.injEq] at hf
      subst hf
      have hm := mapO_spec hds
      cases h with
      | tuple arr _ hl hc =>
        have get : ∀ (i : Nat) (u : Value) (d : AVal), arr[i]? = some u → ds[i]? = some d → d.g1 = true ∧ RepV (Ctx.imm fun b => C.A b ∨ (W0.heap.size ≤ b ∧ b < w.heap.size)) w u d := by
          intro i u d h1 h2
          have hlt : i < cs.length := by rw [hm.1]; exact getD_opt h2
          have h3 : cs[i]? = some cs[i] := List.getElem?_eq_getElem hlt
          exact frz1_rep I (hc i u _ h1 h3) (hm.2 i _ d h3 h2)
        refine ⟨?_, .tuple arr ds (by rw [hl, hm.1]) fun i u d h1 h2 => (get i u d h1 h2).2⟩
        refine all_of_mapO (f := frz1) hds fun i x y h1 h2 => ?_
        have hlt : i < arr.size := by rw [hl]; exact getD_opt h1
        exact (get i _ y (Array.getElem?_eq_getElem hlt) h2).1
    · cases hf
  · have := frz1_rep I h hf
    exact ⟨AVal.g2_of_g1 this.1, this.2⟩

theorem fre0_rep {W0 : World} {C : Ctx} {w : World} (I : Inv W0 C w) {v : Value} {a a' : AVal} (h : RepV C w v a) (hf : frz0 C.H a = some a') (hr : fre0 C.H a = true) :
    RepV (Ctx.imm fun b => W0.heap.size ≤ b ∧ b < w.heap.size) w v a' := by
  unfold fre0 at hr
  split at hr
  · rename_i r v' lo len
    simp only [frz0] at hf
    cases hrow : C.H[r]? with
    | none => rw [hrow] at hr; cases hr
    | some o =>
      rw [hrow] at hr hf
      cases o with
      | row v2 sz xs =>
        simp only at hr hf
        split at hf
        · rename_i hv
          subst hv
          simp only [Option.some.injEq] at hf
          subst hf
          cases h with
          | own ad _ cap _ _ _ hlt hlc hcm hh =>
            obtain ⟨_, hh⟩ := hh _ _ _ hrow
            obtain ⟨hle, hh⟩ := hh rfl
            have hlen : ((xs.drop lo).take len).length = len := by simp; omega
            obtain ⟨hsz1, hsz, hg, ho⟩ := I.objs r _ hrow
            by_cases h0 : len = 0
            · subst h0
              simp only [List.take_zero]
              exact .sl0 _ _ _ hcm
            · rcases hh with hh | ⟨l, hl, rfl, hfit⟩
              · omega
              rcases ho with ⟨e1, _⟩ | ⟨l', arr, T', e1, e2, e3, e4, e5⟩
              · subst e1; simp at hle; omega
              rw [hl, Option.some.injEq] at e1
              subst e1
              have hs := I.sep r l hl
              have hmul : (lo + len) * sz ≤ xs.length * sz := Nat.mul_le_mul_right _ hle
              have hadd : (lo + len) * sz = lo * sz + len * sz := Nat.add_mul _ _ _
              refine .sl _ _ _ _ _ (fun j => arr.getD (l.base + lo * sz + j) undef) rfl hlen.symm hlc hcm ⟨hs.2.1, hs.2.2.1⟩ hsz1
                (fun x hx => hsz x (List.mem_of_mem_drop (List.mem_of_mem_take hx))) (fun x hx => hg x (List.mem_of_mem_drop (List.mem_of_mem_take hx))) (fun j hj => ?_) fun i k x c hx hc => ?_
              · rw [hlen] at hj
                simp only [World.cell?, e2]
                have : l.base + lo * sz + j < arr.size := by omega
                simp [Array.getD, this]
              · rw [List.getElem?_take] at hx
                split at hx
                · rename_i hi
                  rw [List.getElem?_drop] at hx
                  obtain ⟨u, hu, hur⟩ := e5 _ k x c hx hc
                  have hfl : c.f2 = true := by
                    have h1 := List.all_eq_true.1 hr x (List.mem_of_getElem? hx)
                    have h2 := List.all_eq_true.1 h1 c (List.mem_of_getElem? hc)
                    cases c <;> simp_all [AVal.f0, AVal.f1, AVal.f2]
                  have e : l.base + ((lo + i) * sz + k) = l.base + lo * sz + (i * sz + k) := by rw [Nat.add_mul]; omega
                  rw [e] at hu
                  have : arr.getD (l.base + lo * sz + (i * sz + k)) undef = u := by rw [Array.getD_eq_getD_getElem?, hu]; rfl
                  rw [this]
                  exact hur.flat hfl
                · cases hx
        · cases hf
      | _ => cases hr
  · have : a' = a := by cases a <;> simp_all [frz0, AVal.f0]
    subst this
    exact h.flat (by cases a' <;> simp_all [AVal.f0, AVal.f1, AVal.f2])
theorem fre1_rep {W0 : World} {C : Ctx} {w : World} (I : Inv W0 C w) {v : Value} {a a' : AVal} (h : RepV C w v a) (hf : frz1 C.H a = some a') (hr : fre1 C.H a = true) :
    RepV (Ctx.imm fun b => W0.heap.size ≤ b ∧ b < w.heap.size) w v a' := by
  unfold frz1 at hf
  split at hf
  · rename_i cs
    split at hf
    · rename_i ds hds
      simp only [Option.some.injEq] at hf
      subst hf
      have hm := mapO_spec hds
      simp only [fre1] at hr
      cases h with
      | agg arr _ hl hc =>
        refine .agg arr ds (by rw [hl, hm.1]) fun i u d h1 h2 => ?_
        have hlt : i < cs.length := by rw [hm.1]; exact getD_opt h2
        have h3 : cs[i]? = some cs[i] := List.getElem?_eq_getElem hlt
        exact fre0_rep I (hc i u _ h1 h3) (hm.2 i _ d h3 h2) (List.all_eq_true.1 hr _ (List.mem_of_getElem? h3))
    · cases hf
  · rename_i hne
    refine fre0_rep I h hf ?_
    unfold fre1 at hr
    split at hr
    · rename_i cs; exact absurd rfl (hne cs)
    · exact hr
theorem fre2_rep {W0 : World} {C : Ctx} {w : World} (I : Inv W0 C w) {v : Value} {a a' : AVal} (h : RepV C w v a) (hf : frz2 C.H a = some a') (hr : fre2 C.H a = true) :
    RepV (Ctx.imm fun b => W0.heap.size ≤ b ∧ b < w.heap.size) w v a' := by
  unfold frz2 at hf
  split at hf
  · rename_i cs
    split at hf
    · rename_i ds hds
      simp only [Option.some.injEq] at hf
      subst hf
      have hm := mapO_spec hds
      simp only [fre2] at hr
      cases h with
      | tuple arr _ hl hc =>
        refine .tuple arr ds (by rw [hl, hm.1]) fun i u d h1 h2 => ?_
        have hlt : i < cs.length := by rw [hm.1]; exact getD_opt h2
        have h3 : cs[i]? = some cs[i] := List.getElem?_eq_getElem hlt
        exact fre1_rep I (hc i u _ h1 h3) (hm.2 i _ d h3 h2) (List.all_eq_true.1 hr _ (List.mem_of_getElem? h3))
    · cases hf
  · rename_i hne
    refine fre1_rep I h hf ?_
    unfold fre2 at hr
    split at hr
    · rename_i cs; exact absurd rfl (hne cs)
    · exact hr

/-- the results of a function, as its frame and heap have them -/
def aresult (P : Program) (fr : Fr) (H : List AObj) : ResultVar → Option AVal
  | .tmp t => some (get fr t)
  | .cell a T => match get fr a with
    | .ptr r k => match H[r]? with
      | some (.box cs) => if okT P T = true ∧ k + (if aggT P T then szOf P T else 1) ≤ cs.length then some (aLoadCells (aggT P T) (szOf P T) (cs.drop k)) else none
      | _ => none
    | _ => none
def aret : List AVal → AVal
  | [v] => v
  | vs => .tuple vs

def qret (P : Program) (fn : Func) (R : AVal → List AObj → Prop) : Exit → Fr → List AObj → Prop
  | .normal, fr, H | .ret, fr, H => match mapO (aresult P fr H) fn.results.toList with
    | some vs => R (aret vs) H
    | none => False
  | _, _, _ => False
/-- a result told without the call's own memory -/
def rfrz (R : AVal → Prop) (r : AVal) (H : List AObj) : Prop :=
  match frz2 H r with
  | some r' => R r'
  | none => False

def frame0 : List AVal → Nat → Fr
  | [], _ => []
  | a :: r, i => (i, a) :: frame0 r (i + 1)

theorem get_frame0 : ∀ (args : List AVal) (i t : Nat), get (frame0 args i) t = if i ≤ t then args.getD (t - i) .any else .any
  | [], i, t => by simp [frame0, get]
  | a :: r, i, t => by
    simp only [frame0, get]
    by_cases h : i = t
    · subst h; simp
    · rw [if_neg h, get_frame0 r (i + 1) t]
      by_cases h2 : i ≤ t
      · rw [if_pos h2, if_pos (by omega), show t - i = (t - (i + 1)) + 1 by omega]; simp
      · rw [if_neg h2, if_neg (by omega)]

theorem enter_rep {C : Ctx} {w : World} {vs : List Value} {args : List AVal} (h : RepVs C w vs args) (k : Nat) : RepF C w (vs.toArray ++ Array.replicate k undef) (frame0 args 0) := by
  intro t
  rw [get_frame0]
  simp only [Nat.zero_le, if_true, Nat.sub_zero]
  by_cases ht : t < args.length
  · have hv : t < vs.length := by rw [h.1]; exact ht
    have e1 : (vs.toArray ++ Array.replicate k undef).getD t undef = vs[t] := by
      rw [Array.getD_eq_getD_getElem?, Array.getElem?_append_left (by simpa using hv)]
      simp [hv]
    have e2 : args.getD t .any = args[t] := by simp [List.getD_eq_getElem?_getD, ht]
    rw [e1, e2]
    exact h.2 t _ _ (List.getElem?_eq_getElem hv) (List.getElem?_eq_getElem ht)
  · have e2 : args.getD t .any = .any := by simp [List.getD_eq_getElem?_getD, Nat.le_of_not_lt ht]
    rw [e2]; exact .any _

def resVar (tmps : Array Value) : ResultVar → Sem Value
  | .tmp t => pure (tmps.getD t undef)
  | .cell a t => do loadVar t (← asAddr (tmps.getD a undef))

theorem results_eq (fn : Func) (tmps : Array Value) : results fn tmps = (do let vs ← fn.results.mapM (resVar tmps); pure (if h : vs.size = 1 then vs[0] else .tuple vs)) := rfl

theorem resVar_run {W0 : World} {C : Ctx} {w : World} (I : Inv W0 C w) {fr : Fr} {tmps : Array Value} (hF : RepF C w tmps fr) (rv : ResultVar) (a : AVal) (ha : aresult P fr C.H rv = some a) :
    ∃ v, (resVar tmps rv).run P w = .ok v w ∧ RepV C w v a := by
  cases rv with
  | tmp t =>
    simp only [aresult, Option.some.injEq] at ha
    subst ha
    exact ⟨_, rfl, hF t⟩
  | cell p T =>
    simp only [aresult] at ha
    have hp := hF p
    split at ha
    · rename_i r k hpk
      split at ha
      · rename_i cs hcs
        by_cases hc : okT P T = true ∧ k + (if aggT P T then szOf P T else 1) ≤ cs.length
        · rw [if_pos hc, Option.some.injEq] at ha
          subst ha
          rw [hpk] at hp
          have hl : aLoad P T (.ptr r k) C.H (fun v => v = aLoadCells (aggT P T) (szOf P T) (cs.drop k)) := by
            unfold aLoad
            simp only [hcs]
            exact ⟨hc.1, hc.2, trivial⟩
          obtain ⟨v, a', h1, h2, h3⟩ := (load_sound (P := P) I hp hl).ex
          subst h3
          refine ⟨v, ?_, h2⟩
          cases hv : tmps.getD p undef with
          | pointer o =>
            cases o with
            | none => rw [hv] at hp; cases hp
            | some ad =>
              rw [hv] at h1
              simpa [Instr.loadAt, Instr.sureAddr, resVar, hv, asAddr] using h1
          | _ => rw [hv] at hp; cases hp
        · rw [if_neg hc] at ha; cases ha
      · cases ha
    · cases ha

theorem resVars_run {W0 : World} {C : Ctx} {w : World} (I : Inv W0 C w) {fr : Fr} {tmps : Array Value} (hF : RepF C w tmps fr) : ∀ (l : List ResultVar) (vs : List AVal), mapO (aresult P fr C.H) l = some vs →
    ∃ us : List Value, (l.mapM (resVar tmps)).run P w = .ok us w ∧ RepVs C w us vs
  | [], vs, h => by simp only [mapO, Option.some.injEq] at h; subst h; exact ⟨[], by simp, rfl, by simp⟩
  | rv :: l, vs, h => by
    simp only [mapO] at h
    split at h
    · rename_i y ys h1 h2
      simp only [Option.some.injEq] at h
      subst h
      obtain ⟨v, e1, e2⟩ := resVar_run (P := P) I hF rv y h1
      obtain ⟨us, e3, e4⟩ := resVars_run I hF l ys h2
      refine ⟨v :: us, ?_, by simp [e4.1], fun i u a ha hb => ?_⟩
      · rw [List.mapM_cons]
        simp only [Sem.run_bind, e1, Result.andThen_ok, e3, Sem.run_pure]
      · match i, ha, hb with
        | 0, ha, hb => simp at ha hb; subst ha hb; exact e2
        | i + 1, ha, hb => exact e4.2 i u a (by simpa using ha) (by simpa using hb)
    · cases h

theorem results_run {W0 : World} {C : Ctx} {w : World} (I : Inv W0 C w) {fn : Func} {fr : Fr} {tmps : Array Value} (hF : RepF C w tmps fr) {vs : List AVal} (h : mapO (aresult P fr C.H) fn.results.toList = some vs) :
    ∃ v, (results fn tmps).run P w = .ok v w ∧ RepV C w v (aret vs) := by
  obtain ⟨us, h1, h2⟩ := resVars_run (P := P) I hF _ _ h
  have hrun : (results fn tmps).run P w = .ok (if h : us.toArray.size = 1 then us.toArray[0] else .tuple us.toArray) w := by
    rw [results_eq, Array.mapM_eq_mapM_toList]
    simp only [Sem.run_bind, Sem.run_map, h1, Result.andThen_ok, Sem.run_pure]
  refine ⟨_, hrun, ?_⟩
  match us, vs, h2 with
  | [], [], h2 => exact .tuple #[] [] rfl (by simp)
  | [u], [v], h2 => exact h2.2 0 u v rfl rfl
  | u :: u2 :: us, v :: v2 :: vs, h2 =>
    have : ¬ ((u :: u2 :: us).toArray.size = 1) := by simp
    rw [dif_neg this]
    exact .tuple _ _ (by simpa using h2.1) fun i x c a b => h2.2 i x c (by simpa using a) b
  | [], _ :: _, h2 => simp [RepVs] at h2
  | _ :: _, [], h2 => simp [RepVs] at h2
  | [_], _ :: _ :: _, h2 => simp [RepVs] at h2
  | _ :: _ :: _, [_], h2 => simp [RepVs] at h2

/-- A contract, proved over the function's body. -/
theorem PureFn.intro {f : FuncId} {fn : Func} {c : Code} {n : Nat} {args : List AVal} {R : AVal → Prop} (hf : P.funcs[f]? = some fn) (hb : fn.body = some c) (hn : fn.ntmps = n) (hlen : args.length ≤ n)
    (h : AWP none P n c (qret P fn (rfrz R)) [] (frame0 args 0) []) : PureFn P f args R := by
  intro A w vs hA hvs
  refine calls_of_wp hf hb ?_
  have hsize : (vs.toArray ++ Array.replicate (fn.ntmps - vs.toArray.size) undef).size = n := by
    have := hvs.1
    simp only [Array.size_append, List.size_toArray, Array.size_replicate]; omega
  have I0 : Inv w (Ctx.imm A) w := ⟨.refl _ _, hA, fun b hb _ => hb, by simp [Ctx.imm], by simp [Ctx.imm], by simp [Ctx.imm]⟩
  refine wp_mono (wpIn_wide.1 <| h w A [] [] _ w ⟨Ctx.imm A, rfl, rfl, I0, enter_rep hvs _, .nil, hsize, rfl⟩) ?_
  intro e a' w' ⟨fr', H', hq, hR⟩
  obtain ⟨C, rfl, hA0, I, hF, _, _, hd⟩ := hR.ex
  have key : ∀ (h : match mapO (aresult P fr' C.H) fn.results.toList with | some vs => rfrz R (aret vs) C.H | none => False), a'.defers = [] ∧ ∃ v, (results fn a'.tmps).run P w' = .ok v w' ∧ ∃ v' r, Ending.returned v = .returned v' ∧ R r ∧ r.g2 = true ∧ Below w.heap.size w w' ∧
      RepV (Ctx.imm fun b => A b ∨ (w.heap.size ≤ b ∧ b < w'.heap.size)) w' v' r := by
    intro h
    split at h
    · rename_i rs hrs
      obtain ⟨v, h1, h2⟩ := results_run (P := P) I hF hrs
      unfold rfrz at h
      split at h
      · rename_i r hr
        have h3 := frz2_rep I h2 hr
        refine ⟨hd, v, h1, v, r, rfl, h, h3.1, I.below, RepV.ground' (fun b hb => ?_) h3.2 h3.1⟩
        rcases hb with hb | hb
        · by_cases hlt : b < w.heap.size
          · exact .inl (hA0 ▸ I.old b hb hlt)
          · exact .inr ⟨by omega, I.sub b hb⟩
        · exact .inr hb
      · exact h.elim
    · exact h.elim
  cases e with
  | normal => exact key hq
  | ret => exact key hq
  | _ => exact hq.elim

/-- a result told without the call's own memory, which leans on no memory that was there -/
def rfre (R : AVal → Prop) (r : AVal) (H : List AObj) : Prop :=
  match frz2 H r with
  | some r' => R r' ∧ fre2 H r = true
  | none => False
theorem FreshFn.intro {f : FuncId} {fn : Func} {c : Code} {n : Nat} {args : List AVal} {R : AVal → Prop} (hf : P.funcs[f]? = some fn) (hb : fn.body = some c) (hn : fn.ntmps = n) (hlen : args.length ≤ n)
    (h : AWP none P n c (qret P fn (rfre R)) [] (frame0 args 0) []) : FreshFn P f args R := by
  intro A w vs hA hvs
  refine calls_of_wp hf hb ?_
  have hsize : (vs.toArray ++ Array.replicate (fn.ntmps - vs.toArray.size) undef).size = n := by
    have := hvs.1
    simp only [Array.size_append, List.size_toArray, Array.size_replicate]; omega
  have I0 : Inv w (Ctx.imm A) w := ⟨.refl _ _, hA, fun b hb _ => hb, by simp [Ctx.imm], by simp [Ctx.imm], by simp [Ctx.imm]⟩
  refine wp_mono (wpIn_wide.1 <| h w A [] [] _ w ⟨Ctx.imm A, rfl, rfl, I0, enter_rep hvs _, .nil, hsize, rfl⟩) ?_
  intro e a' w' ⟨fr', H', hq, hR⟩
  obtain ⟨C, rfl, hA0, I, hF, _, _, hd⟩ := hR.ex
  have key : ∀ (h : match mapO (aresult P fr' C.H) fn.results.toList with | some vs => rfre R (aret vs) C.H | none => False), a'.defers = [] ∧ ∃ v, (results fn a'.tmps).run P w' = .ok v w' ∧ ∃ v' r, Ending.returned v = .returned v' ∧ R r ∧ r.g2 = true ∧ Below w.heap.size w w' ∧
      RepV (Ctx.imm fun b => w.heap.size ≤ b ∧ b < w'.heap.size) w' v' r := by
    intro h
    split at h
    · rename_i rs hrs
      obtain ⟨v, h1, h2⟩ := results_run (P := P) I hF hrs
      unfold rfre at h
      split at h
      · rename_i r hr
        exact ⟨hd, v, h1, v, r, rfl, h.1, (frz2_rep I h2 hr).1, I.below, fre2_rep I h2 hr h.2⟩
      · exact h.elim
    · exact h.elim
  cases e with
  | normal => exact key hq
  | ret => exact key hq
  | _ => exact hq.elim
theorem FreshFn.pure {f : FuncId} {args : List AVal} {R : AVal → Prop} (h : FreshFn P f args R) : PureFn P f args R := by
  intro A w vs hA hv
  exact (h A w vs hA hv).mono fun e w' ⟨v, r, h1, h2, h3, h4, h5⟩ => ⟨v, r, h1, h2, h3, h4, RepV.ground' (C := Ctx.imm fun b => w.heap.size ≤ b ∧ b < w'.heap.size) (C2 := Ctx.imm fun b => A b ∨ (w.heap.size ≤ b ∧ b < w'.heap.size)) (fun b hb => Or.inr hb) h5 h3⟩

/-- A call by contract: of a function whose result leans on no memory that was there. -/
theorem ACall.snapF {f : FuncId} {args args' : List AVal} {st : List Fr} {H : List AObj} {K : AVal → List AObj → Prop} {R : AVal → Prop} (hc : ∀ (args : Array Value) (w : World), (callFunc f args).run P w = .ok (.enter f args) w)
    (spec : FreshFn P f args' R) (ha : mapO (frz1 H) args = some args') (h : ∀ r, R r → K r H) : ACall P (.func f []) args st H K := by
  intro W0 C w outs fv vs I hH hO hf hl hv
  subst hH
  cases hf with
  | func _ caps _ hcl _ =>
    have : caps = #[] := Array.eq_empty_of_size_eq_zero (by simpa using hcl)
    subst this
    refine .inl ⟨f, #[], rfl, hc, ?_⟩
    have hm := mapO_spec ha
    have hvs : RepVs (Ctx.imm fun b => C.A b ∨ (W0.heap.size ≤ b ∧ b < w.heap.size)) w vs args' := by
      refine ⟨by rw [hl, hm.1], fun i v a h1 h2 => ?_⟩
      have hlt : i < args.length := by rw [hm.1]; exact getD_opt h2
      exact (frz1_rep I (hv i v _ h1 (List.getElem?_eq_getElem hlt)) (hm.2 i _ a (List.getElem?_eq_getElem hlt) h2)).2
    rw [show vs.toArray ++ #[] = vs.toArray by simp]
    refine (spec _ w vs (fun b hb => ?_) hvs).mono fun e w' ⟨v, r, he, hR, hg, hb, hr⟩ => ?_
    · rcases hb with hb | hb
      · exact I.sub b hb
      · exact hb.2
    · have key := I.grow (fun b => w.heap.size ≤ b ∧ b < w'.heap.size) (fun b hb => hb) hb
      exact ⟨v, r, C.more fun b => w.heap.size ≤ b ∧ b < w'.heap.size, he, h r hR, rfl, RepV.ground' (C := Ctx.imm fun b => w.heap.size ≤ b ∧ b < w'.heap.size) (C2 := C.more fun b => w.heap.size ≤ b ∧ b < w'.heap.size) (fun b hb => Or.inr hb) hr hg, key.1, hO.mono key.2⟩

/-- A call by contract: of a function that returns values in no need of memory. -/
theorem ACall.snap {f : FuncId} {args args' : List AVal} {st : List Fr} {H : List AObj} {K : AVal → List AObj → Prop} {R : AVal → Prop} (hc : ∀ (args : Array Value) (w : World), (callFunc f args).run P w = .ok (.enter f args) w)
    (spec : PureFn P f args' R) (ha : mapO (frz1 H) args = some args') (hflat : ∀ r, R r → r.f2 = true) (h : ∀ r, R r → K r H) : ACall P (.func f []) args st H K := by
  intro W0 C w outs fv vs I hH hO hf hl hv
  subst hH
  cases hf with
  | func _ caps _ hcl _ =>
    have : caps = #[] := Array.eq_empty_of_size_eq_zero (by simpa using hcl)
    subst this
    refine .inl ⟨f, #[], rfl, hc, ?_⟩
    have hm := mapO_spec ha
    have hvs : RepVs (Ctx.imm fun b => C.A b ∨ (W0.heap.size ≤ b ∧ b < w.heap.size)) w vs args' := by
      refine ⟨by rw [hl, hm.1], fun i v a h1 h2 => ?_⟩
      have hlt : i < args.length := by rw [hm.1]; exact getD_opt h2
      exact (frz1_rep I (hv i v _ h1 (List.getElem?_eq_getElem hlt)) (hm.2 i _ a (List.getElem?_eq_getElem hlt) h2)).2
    rw [show vs.toArray ++ #[] = vs.toArray by simp]
    refine (spec _ w vs (fun b hb => ?_) hvs).mono fun e w' ⟨v, r, he, hR, hg, hb, hr⟩ => ?_
    · rcases hb with hb | hb
      · exact I.sub b hb
      · exact hb.2
    · have key := I.grow (fun b => w.heap.size ≤ b ∧ b < w'.heap.size) (fun b hb => hb) hb
      exact ⟨v, r, C.more fun b => w.heap.size ≤ b ∧ b < w'.heap.size, he, h r hR, rfl, hr.flat (hflat r hR), key.1, hO.mono key.2⟩

/-- A call by contract: whatever it returns, where the arguments are not the call's own memory. -/
theorem ACall.pure {f : FuncId} {args : List AVal} {st : List Fr} {H : List AObj} {K : AVal → List AObj → Prop} {R : AVal → Prop} (hc : ∀ (args : Array Value) (w : World), (callFunc f args).run P w = .ok (.enter f args) w)
    (spec : PureFn P f args R) (hg : args.all AVal.g2 = true) (h : ∀ r, R r → K r H) : ACall P (.func f []) args st H K := by
  intro W0 C w outs fv vs I hH hO hf hl hv
  subst hH
  cases hf with
  | func _ caps _ hcl _ =>
    have : caps = #[] := Array.eq_empty_of_size_eq_zero (by simpa using hcl)
    subst this
    refine .inl ⟨f, #[], rfl, hc, ?_⟩
    have hvs : RepVs (Ctx.imm C.A) w vs args :=
      ⟨hl, fun i v a h1 h2 => RepV.ground' (C := C) (C2 := Ctx.imm C.A) (fun b hb => hb) (hv i v a h1 h2) (List.all_eq_true.1 hg a (List.mem_of_getElem? h2))⟩
    rw [show vs.toArray ++ #[] = vs.toArray by simp]
    refine (spec _ w vs I.sub hvs).mono fun e w' ⟨v, r, he, hR, hg, hb, hr⟩ => ?_
    have key := I.grow (fun b => w.heap.size ≤ b ∧ b < w'.heap.size) (fun b hb => hb) hb
    exact ⟨v, r, C.more fun b => w.heap.size ≤ b ∧ b < w'.heap.size, he, h r hR, rfl, RepV.ground' (C := Ctx.imm fun b => C.A b ∨ (w.heap.size ≤ b ∧ b < w'.heap.size)) (C2 := C.more fun b => w.heap.size ≤ b ∧ b < w'.heap.size) (fun b hb => hb) hr hg, key.1, hO.mono key.2⟩

/-- A call walked in place: of a closure, say, that changes what it has captured. -/
theorem ACall.inline {f : FuncId} {fn : Func} {c : Code} {n : Nat} {args caps : List AVal} {st : List Fr} {H : List AObj} {K : AVal → List AObj → Prop} (hc : ∀ (args : Array Value) (w : World), (callFunc f args).run P w = .ok (.enter f args) w)
    (hf : P.funcs[f]? = some fn) (hb : fn.body = some c) (hn : fn.ntmps = n) (hlen : (args ++ caps).length ≤ n)
    (h : AWP none P n c (qret P fn K) st (frame0 (args ++ caps) 0) H) : ACall P (.func f caps) args st H K := by
  intro W0 C w outs fv vs I hH hO hfv hl hv
  subst hH
  cases hfv with
  | func _ carr _ hcl hcr =>
    refine .inl ⟨f, carr, rfl, hc, calls_of_wp hf hb ?_⟩
    have hvs : RepVs C w (vs ++ carr.toList) (args ++ caps) := by
      refine ⟨by simp [hl, hcl], fun i v a h1 h2 => ?_⟩
      by_cases hi : i < vs.length
      · rw [List.getElem?_append_left hi] at h1
        rw [List.getElem?_append_left (by omega)] at h2
        exact hv i v a h1 h2
      · rw [List.getElem?_append_right (by omega)] at h1
        rw [List.getElem?_append_right (by omega), ← hl] at h2
        exact hcr _ v a (by simpa using h1) h2
    have e1 : vs.toArray ++ carr = (vs ++ carr.toList).toArray := by apply Array.ext'; simp
    rw [e1]
    have hsize : ((vs ++ carr.toList).toArray ++ Array.replicate (fn.ntmps - (vs ++ carr.toList).toArray.size) undef).size = n := by
      have := hvs.1
      simp only [Array.size_append, List.size_toArray, Array.size_replicate]; omega
    refine wp_mono (wpIn_wide.1 <| h W0 C.A0 [] outs _ w ⟨C, rfl, rfl, I, enter_rep hvs _, hO, hsize, rfl⟩) ?_
    intro e a' w' ⟨fr', H', hq, hR⟩
    obtain ⟨C', rfl, hA0, I', hF, hO', _, hd⟩ := hR.ex
    have key : ∀ (h : match mapO (aresult P fr' C'.H) fn.results.toList with | some vs => K (aret vs) C'.H | none => False), a'.defers = [] ∧ ∃ v, (results fn a'.tmps).run P w' = .ok v w' ∧
        ∃ v' r C2, Ending.returned v = .returned v' ∧ K r C2.H ∧ C2.A0 = C.A0 ∧ RepV C2 w' v' r ∧ Inv W0 C2 w' ∧ RepOuts C2 w' outs st := by
      intro h
      split at h
      · rename_i rs hrs
        obtain ⟨v, h1, h2⟩ := results_run (P := P) I' hF hrs
        exact ⟨hd, v, h1, v, _, C', rfl, h, hA0, h2, I', hO'⟩
      · exact h.elim
    cases e with
    | normal => exact key hq
    | ret => exact key hq
    | _ => exact hq.elim
end
end Go.Ab
