/-
  How the relation between abstract and concrete heaps is carried over the changes of a step.
-/
import Derived.Test.YtciaimpdnjpajaaSkA
namespace Go.Ab
open Go Go.RowKit

theorem AVal.g2_of_g0 {a : AVal} (h : a.g0 = true) : a.g2 = true := by
  cases a <;> simp_all [AVal.g0, AVal.g1, AVal.g2]
theorem AVal.g1_of_g0 {a : AVal} (h : a.g0 = true) : a.g1 = true := by
  cases a <;> simp_all [AVal.g0, AVal.g1]
theorem AVal.g2_of_g1 {a : AVal} (h : a.g1 = true) : a.g2 = true := by
  cases a <;> simp_all [AVal.g0, AVal.g1, AVal.g2]

/-- A value without places of the call's own means the same under any context that has its immutable blocks. -/
theorem RepV.ground {C C2 : Ctx} {w w2 : World} (m : ∀ b, C.A b → C2.A b ∧ w2.heap[b]? = w.heap[b]?) {v : Value} {a : AVal} (h : RepV C w v a) :
    a.g2 = true → RepV C2 w2 v a := by
  induction h with
  | any v => exact fun _ => .any v
  | bool b => exact fun _ => .bool b
  | int k n => exact fun _ => .int k n
  | str s => exact fun _ => .str s
  | agg arr cs h _ ih =>
    intro hg
    simp only [AVal.g2, AVal.g1, List.all_eq_true] at hg
    exact .agg arr cs h fun i u c a b => ih i u c a b (AVal.g2_of_g0 (hg c (List.mem_of_getElem? b)))
  | tuple arr cs h _ ih =>
    intro hg
    simp only [AVal.g2, List.all_eq_true] at hg
    exact .tuple arr cs h fun i u c a b => ih i u c a b (AVal.g2_of_g1 (hg c (List.mem_of_getElem? b)))
  | nils => exact fun _ => .nils
  | z0 a => exact fun _ => .z0 a
  | sl0 a cap sz hcm => exact fun _ => .sl0 a cap sz hcm
  | sl a len cap xs sz u hsp hlen hlc hcm hA hsz1 hsz hg hcell hrep ih =>
    intro _
    refine .sl a len cap xs sz u hsp hlen hlc hcm (m _ hA).1 hsz1 hsz hg (fun j hj => ?_) fun i k x c a b => ih i k x c a b (AVal.g2_of_g0 (hg x (List.mem_of_getElem? a) c (List.mem_of_getElem? b)))
    rw [cell?_of_heap (w := w)]; exact hcell j hj
    exact (m _ hA).2
  | own => intro h; simp [AVal.g2, AVal.g1, AVal.g0] at h
  | eptr a cs u hsp hA hg hcell hrep ih =>
    intro _
    refine .eptr a cs u hsp (m _ hA).1 hg (fun j hj => ?_) fun j c b => ih j c b (AVal.g2_of_g0 (hg c (List.mem_of_getElem? b)))
    rw [cell?_of_heap (w := w)]; exact hcell j hj
    exact (m _ hA).2
  | ptr => intro h; simp [AVal.g2, AVal.g1, AVal.g0] at h
  | rptr => intro h; simp [AVal.g2, AVal.g1, AVal.g0] at h
  | nilm => exact fun _ => .nilm
  | pr φ a len cap h hs => exact fun _ => .pr φ a len cap (hs _ _ _ _ (fun b hb => ⟨(m b hb).1, .inl (m b hb).2⟩) h) hs
  | map => intro h; simp [AVal.g2, AVal.g1, AVal.g0] at h
  | vmap0 => exact fun _ => .vmap0
  | vmap b es entries clock hA hg hh hwf hrep ih =>
    intro _
    exact .vmap b es entries clock (m _ hA).1 hg (by rw [(m _ hA).2]; exact hh) hwf fun i e p a b => ih i e p a b (AVal.g2_of_g1 (hg p (List.mem_of_getElem? b)))
  | func => intro h; simp [AVal.g2, AVal.g1, AVal.g0] at h
  | iter => intro h; simp [AVal.g2, AVal.g1, AVal.g0] at h
  | yld => intro h; simp [AVal.g2, AVal.g1, AVal.g0] at h

/-- A value that needs no memory means the same everywhere. -/
theorem RepV.flat {C C2 : Ctx} {w w2 : World} {v : Value} {a : AVal} (h : RepV C w v a) : a.f2 = true → RepV C2 w2 v a := by
  induction h with
  | any v => exact fun _ => .any v
  | bool b => exact fun _ => .bool b
  | int k n => exact fun _ => .int k n
  | str s => exact fun _ => .str s
  | agg arr cs h _ ih =>
    intro hg
    simp only [AVal.f2, AVal.f1, List.all_eq_true] at hg
    refine .agg arr cs h fun i u c a b => ih i u c a b ?_
    have := hg c (List.mem_of_getElem? b)
    cases c <;> simp_all [AVal.f0, AVal.f1, AVal.f2]
  | tuple arr cs h _ ih =>
    intro hg
    simp only [AVal.f2, List.all_eq_true] at hg
    refine .tuple arr cs h fun i u c a b => ih i u c a b ?_
    have := hg c (List.mem_of_getElem? b)
    cases c <;> simp_all [AVal.f0, AVal.f1, AVal.f2]
  | nils => exact fun _ => .nils
  | z0 a => exact fun _ => .z0 a
  | nilm => exact fun _ => .nilm
  | pr φ a len cap h hs => intro h; simp [AVal.f2, AVal.f1, AVal.f0] at h
  | sl0 => intro h; simp [AVal.f2, AVal.f1, AVal.f0] at h
  | sl => intro h; simp [AVal.f2, AVal.f1, AVal.f0] at h
  | own => intro h; simp [AVal.f2, AVal.f1, AVal.f0] at h
  | eptr => intro h; simp [AVal.f2, AVal.f1, AVal.f0] at h
  | ptr => intro h; simp [AVal.f2, AVal.f1, AVal.f0] at h
  | rptr => intro h; simp [AVal.f2, AVal.f1, AVal.f0] at h
  | map => intro h; simp [AVal.f2, AVal.f1, AVal.f0] at h
  | vmap0 => intro h; simp [AVal.f2, AVal.f1, AVal.f0] at h
  | vmap => intro h; simp [AVal.f2, AVal.f1, AVal.f0] at h
  | func => intro h; simp [AVal.f2, AVal.f1, AVal.f0] at h
  | iter => intro h; simp [AVal.f2, AVal.f1, AVal.f0] at h
  | yld => intro h; simp [AVal.f2, AVal.f1, AVal.f0] at h

theorem ObjMono.same {C C' : Ctx} {r : Nat} (hk : C.known r) (h : C'.H[r]? = C.H[r]?) (hρ : C'.ρ r = C.ρ r) : ObjMono C C' r := by
  unfold ObjMono
  rw [h]
  obtain ⟨o, ho, hne⟩ := hk
  rw [ho]
  cases o with
  | box cs => exact ⟨⟨cs, rfl⟩, hρ⟩
  | row v sz xs => exact .inl ⟨xs, rfl, Nat.le_refl _, hρ⟩
  | mp es => exact ⟨⟨_, rfl, rfl⟩, hρ⟩
  | mpo q es => exact ⟨⟨_, rfl, rfl⟩, hρ⟩
  | it l c => exact ⟨⟨l, c, rfl⟩, hρ⟩
  | lp => exact ⟨⟨_, rfl, rfl⟩, hρ⟩
  | gone => trivial
  | resv => exact absurd rfl hne

theorem Ctx.known.lt {C : Ctx} {r : Nat} (h : C.known r) : r < C.H.length := by
  obtain ⟨o, ho, _⟩ := h
  exact (List.getElem?_eq_some_iff.1 ho).1
theorem known_of {C : Ctx} {r : Nat} {o : AObj} (h : C.H[r]? = some o) (hne : o ≠ .resv) : C.known r := ⟨o, h, hne⟩

theorem Mono.refl (C : Ctx) (w : World) : Mono C w C w := ⟨fun _ h => ⟨h, rfl⟩, Nat.le_refl _, rfl, fun _ h => .same h rfl rfl⟩

theorem Mono.trans {C1 C2 C3 : Ctx} {w1 w2 w3 : World} (m : Mono C1 w1 C2 w2) (k : Mono C2 w2 C3 w3) : Mono C1 w1 C3 w3 := by
  refine ⟨fun b h => ⟨(k.imm _ (m.imm _ h).1).1, (k.imm _ (m.imm _ h).1).2.trans (m.imm _ h).2⟩, Nat.le_trans m.len k.len, k.A0.trans m.A0, fun r hr => ?_⟩
  have h1 := m.obj r hr
  have h2 := k.obj r h1.known
  unfold ObjMono at h1 h2 ⊢
  cases h3 : C3.H[r]? with
  | none => rw [h3] at h2; exact h2.elim
  | some o =>
    rw [h3] at h2
    cases o with
    | box cs =>
      obtain ⟨⟨c2, e2⟩, p2⟩ := h2
      rw [e2] at h1
      exact ⟨h1.1, p2.trans h1.2⟩
    | row v sz xs =>
      rcases h2 with ⟨xs2, e2, l2, p2⟩ | ⟨v0, sz0, xs0, e2, lt⟩
      · rw [e2] at h1
        rcases h1 with ⟨xs1, e1, l1, p1⟩ | ⟨v1, sz1, xs1, e1, lt1⟩
        · exact .inl ⟨xs1, e1, by omega, p2.trans p1⟩
        · exact .inr ⟨v1, sz1, xs1, e1, lt1⟩
      · rw [e2] at h1
        rcases h1 with ⟨xs1, e1, l1, p1⟩ | ⟨v1, sz1, xs1, e1, lt1⟩
        · exact .inr ⟨v0, sz0, xs1, e1, lt⟩
        · exact .inr ⟨v1, sz1, xs1, e1, by omega⟩
    | mp es =>
      obtain ⟨⟨o2, e2, l2⟩, p2⟩ := h2
      rw [e2] at h1
      cases o2 <;> first | (cases l2; done) | exact ⟨h1.1, p2.trans h1.2⟩
    | mpo q es =>
      obtain ⟨⟨o2, e2, l2⟩, p2⟩ := h2
      rw [e2] at h1
      cases o2 <;> first | (cases l2; done) | exact ⟨h1.1, p2.trans h1.2⟩
    | it l c =>
      obtain ⟨⟨c2, d2, e2⟩, p2⟩ := h2
      rw [e2] at h1
      exact ⟨h1.1, p2.trans h1.2⟩
    | lp =>
      obtain ⟨⟨o2, e2, l2⟩, p2⟩ := h2
      rw [e2] at h1
      cases o2 <;> first | (cases l2; done) | skip
      exact ⟨h1.1, p2.trans h1.2⟩
    | gone => trivial
    | resv => exact h2.elim

/-- an object laid at a place of the heap: at its end, or where a place was kept -/
def addAt (H : List AObj) (id : Nat) (o : AObj) : List AObj := if id = H.length then H ++ [o] else H.set id o
/-- a place where an object can be laid -/
def Free (H : List AObj) (id : Nat) : Prop := id = H.length ∨ H[id]? = some .resv

theorem addAt_self {H : List AObj} {id : Nat} {o : AObj} (h : Free H id) : (addAt H id o)[id]? = some o := by
  unfold addAt
  rcases h with h | h
  · rw [if_pos h, h]; simp
  · have hlt := (List.getElem?_eq_some_iff.1 h).1
    rw [if_neg (by omega), List.getElem?_set_self hlt]
theorem addAt_other {H : List AObj} {id r : Nat} {o : AObj} (_h : Free H id) (hr : r ≠ id) : (addAt H id o)[r]? = H[r]? := by
  unfold addAt
  split
  · rename_i e
    by_cases h1 : r < H.length
    · rw [List.getElem?_append_left h1]
    · have h2 : (H ++ [o]).length ≤ r := by rw [List.length_append]; simp; omega
      rw [List.getElem?_eq_none h2, List.getElem?_eq_none (Nat.le_of_not_lt h1)]
  · rw [List.getElem?_set_ne (fun e => hr e.symm)]
theorem addAt_len {H : List AObj} {id : Nat} {o : AObj} : H.length ≤ (addAt H id o).length := by
  unfold addAt; split <;> simp
theorem addAt_lt {H : List AObj} {id : Nat} {o : AObj} (h : Free H id) : id < (addAt H id o).length := (List.getElem?_eq_some_iff.1 (addAt_self h)).1

/-- The context with object r replaced. -/
def Ctx.set (C : Ctx) (r : Nat) (o : AObj) : Ctx := { C with H := C.H.set r o }
/-- The context with a new object in a new block. -/
def Ctx.new (C : Ctx) (id : Nat) (o : AObj) (l : Loc) : Ctx := { C with ρ := fun r => if r = id then some l else C.ρ r, H := addAt C.H id o }
/-- The context with a new object without a block. -/
def Ctx.ghost (C : Ctx) (id : Nat) (o : AObj) : Ctx := { C with H := addAt C.H id o }
/-- The context with more immutable blocks. -/
def Ctx.more (C : Ctx) (S : Nat → Prop) : Ctx := { C with A := fun b => C.A b ∨ S b }

/-- The object r is changed in place, in its block. -/
theorem Inv.put {W0 : World} {C : Ctx} {w w' : World} (I : Inv W0 C w) {r : Nat} {o o' : AObj} {l : Loc} (hr : C.H[r]? = some o) (hρ : C.ρ r = some l)
    (hw : ∀ b, b ≠ l.b → w'.heap[b]? = w.heap[b]?) (hsz : w'.heap.size = w.heap.size) (hb : Below W0.heap.size W0 w')
    (hm : ObjMono C (C.set r o') r) (ho : Mono C w (C.set r o') w' → RepO (C.set r o') w' r o') :
    Inv W0 (C.set r o') w' ∧ Mono C w (C.set r o') w' := by
  have hlt : r < C.H.length := (I.sep r l hρ).1
  have m : Mono C w (C.set r o') w' := by
    refine ⟨fun b hA => ⟨hA, hw b fun e => (I.sep r l hρ).2.2.2 (e ▸ hA)⟩, by simp [Ctx.set], rfl, fun r' hr' => ?_⟩
    by_cases e : r' = r
    · subst e; exact hm
    · exact .same hr' (by simp only [Ctx.set]; rw [List.getElem?_set_ne (fun h => e h.symm)]) rfl
  refine ⟨I.step m hb (fun b hA => by rw [hsz]; exact I.sub b hA) I.old (fun r' l' h' => ?_) I.inj (fun r' o'' h' => ?_), m⟩
  · have := I.sep r' l' h'
    exact ⟨by simp only [Ctx.set, List.length_set]; exact this.1, this.2.1, by rw [hsz]; exact this.2.2.1, this.2.2.2⟩
  · by_cases e : r' = r
    · subst e
      simp only [Ctx.set, List.getElem?_set_self hlt, Option.some.injEq] at h'
      subst h'
      exact .inl (ho m)
    · refine .inr ⟨?_, rfl, fun l' hl' => hw _ fun eb => e (I.inj _ _ _ _ hl' hρ eb)⟩
      simp only [Ctx.set] at h'
      rwa [List.getElem?_set_ne (fun h => e h.symm)] at h'

theorem Free.unknown {C : Ctx} {id : Nat} (h : Free C.H id) : ¬ C.known id := by
  rintro ⟨o, ho, hne⟩
  rcases h with h | h
  · rw [List.getElem?_eq_none (by omega)] at ho; cases ho
  · rw [h] at ho; exact hne (Option.some.inj ho).symm

/-- A new object in a block that was not there. -/
theorem Inv.fresh {W0 : World} {C : Ctx} {w w' : World} (I : Inv W0 C w) (id : Nat) (hid : Free C.H id) (o : AObj) (l : Loc) (hl : w.heap.size ≤ l.b) (hl' : l.b < w'.heap.size)
    (hw : ∀ b, b < w.heap.size → w'.heap[b]? = w.heap[b]?) (hb : Below W0.heap.size W0 w')
    (ho : Mono C w (C.new id o l) w' → RepO (C.new id o l) w' id o) :
    Inv W0 (C.new id o l) w' ∧ Mono C w (C.new id o l) w' := by
  have hle : w.heap.size ≤ w'.heap.size := by omega
  have m : Mono C w (C.new id o l) w' := by
    refine ⟨fun b hA => ⟨hA, hw b (I.sub b hA)⟩, addAt_len, rfl, fun r hr => ?_⟩
    have hne : r ≠ id := fun e => hid.unknown (e ▸ hr)
    exact .same hr (addAt_other hid hne) (by simp only [Ctx.new]; rw [if_neg hne])
  refine ⟨I.step m hb (fun b hA => Nat.lt_of_lt_of_le (I.sub b hA) hle) I.old (fun r l' h' => ?_) (fun r r' l1 l2 h1 h2 e => ?_) (fun r o' h' => ?_), m⟩
  · simp only [Ctx.new] at h' ⊢
    split at h'
    · rename_i e
      simp only [Option.some.injEq] at h'
      subst h'
      have := I.below.size
      exact ⟨by rw [e]; exact addAt_lt hid, by omega, hl', fun hA => by have := I.sub _ hA; omega⟩
    · have := I.sep r l' h'
      exact ⟨Nat.lt_of_lt_of_le this.1 addAt_len, this.2.1, by omega, this.2.2.2⟩
  · simp only [Ctx.new] at h1 h2
    split at h1 <;> split at h2
    · omega
    · simp only [Option.some.injEq] at h1; subst h1
      have := (I.sep _ _ h2).2.2.1; omega
    · simp only [Option.some.injEq] at h2; subst h2
      have := (I.sep _ _ h1).2.2.1; omega
    · exact I.inj _ _ _ _ h1 h2 e
  · simp only [Ctx.new] at h' ⊢
    by_cases e : r = id
    · subst e
      rw [addAt_self hid, Option.some.injEq] at h'
      subst h'
      exact .inl (ho m)
    · rw [addAt_other hid e] at h'
      exact .inr ⟨h', by rw [if_neg e], fun l' hl'' => hw _ (I.sep _ _ hl'').2.2.1⟩

theorem Inv.noLoc {W0 : World} {C : Ctx} {w : World} (I : Inv W0 C w) {id : Nat} (hid : Free C.H id) : C.ρ id = none := by
  rcases hid with h | h
  · cases hρ : C.ρ id with
    | none => rfl
    | some l => have := (I.sep _ _ hρ).1; omega
  · exact I.objs _ _ h

/-- A new object without a block. -/
theorem Inv.ghost {W0 : World} {C : Ctx} {w : World} (I : Inv W0 C w) (id : Nat) (hid : Free C.H id) (o : AObj) (ho : Mono C w (C.ghost id o) w → RepO (C.ghost id o) w id o) :
    Inv W0 (C.ghost id o) w ∧ Mono C w (C.ghost id o) w := by
  have m : Mono C w (C.ghost id o) w := ⟨fun b hA => ⟨hA, rfl⟩, addAt_len, rfl, fun r hr =>
    .same hr (addAt_other hid fun e => hid.unknown (e ▸ hr)) rfl⟩
  refine ⟨I.step m I.below I.sub I.old (fun r l' h' => ?_) I.inj (fun r o' h' => ?_), m⟩
  · have := I.sep r l' h'
    exact ⟨Nat.lt_of_lt_of_le this.1 addAt_len, this.2⟩
  · simp only [Ctx.ghost] at h' ⊢
    by_cases e : r = id
    · subst e
      rw [addAt_self hid, Option.some.injEq] at h'
      subst h'
      exact .inl (ho m)
    · rw [addAt_other hid e] at h'
      exact .inr ⟨h', by trivial, fun l' _ => by trivial⟩

/-- The world has grown; some of the new blocks are immutable from now on. -/
theorem Inv.grow {W0 : World} {C : Ctx} {w w' : World} (I : Inv W0 C w) (S : Nat → Prop) (hS : ∀ b, S b → w.heap.size ≤ b ∧ b < w'.heap.size)
    (hb : Below w.heap.size w w') : Inv W0 (C.more S) w' ∧ Mono C w (C.more S) w' := by
  have m : Mono C w (C.more S) w' := ⟨fun b hA => ⟨.inl hA, hb.block b (I.sub b hA)⟩, Nat.le_refl _, rfl, fun r hr => .same hr rfl rfl⟩
  refine ⟨I.step m (I.below.trans (hb.mono I.below.size)) (fun b hA => ?_) (fun b hA hlt => ?_) (fun r l' h' => ?_) I.inj (fun r o h => .inr ⟨h, rfl, fun l hl => hb.block _ (I.sep r l hl).2.2.1⟩), m⟩
  · rcases hA with hA | hA
    · exact Nat.lt_of_lt_of_le (I.sub b hA) hb.size
    · exact (hS b hA).2
  · rcases hA with hA | hA
    · exact I.old b hA hlt
    · have := (hS b hA).1; have := I.below.size; omega
  · have := I.sep r l' h'
    refine ⟨this.1, this.2.1, Nat.lt_of_lt_of_le this.2.2.1 hb.size, fun hA => ?_⟩
    rcases hA with hA | hA
    · exact this.2.2.2 hA
    · have := (hS _ hA).1; omega

theorem Inv.same {W0 : World} {C : Ctx} {w w' : World} (I : Inv W0 C w) (hh : w'.heap = w.heap) (hb : Below W0.heap.size W0 w') : Inv W0 C w' ∧ Mono C w C w' := by
  have m : Mono C w C w' := ⟨fun b hA => ⟨hA, by rw [hh]⟩, Nat.le_refl _, rfl, fun r hr => .same hr rfl rfl⟩
  exact ⟨I.step m hb (fun b hA => by rw [hh]; exact I.sub b hA) I.old (fun r l h => by rw [hh]; exact I.sep r l h) I.inj (fun r o h => .inr ⟨h, rfl, fun l hl => by rw [hh]⟩), m⟩

/-- The context with the row r told anew, at a new place. -/
def Ctx.reloc (C : Ctx) (r : Nat) (o : AObj) (lx : Option Loc) : Ctx :=
  { C with ρ := fun r' => if r' = r then lx else C.ρ r', H := C.H.set r o }

theorem Inv.reloc {W0 : World} {C : Ctx} {w w' : World} (I : Inv W0 C w) {r v sz v' sz' : Nat} {xs xs' : List (List AVal)} (hr : C.H[r]? = some (.row v sz xs)) (hv : v < v') (lx : Option Loc)
    (hw : ∀ b, b < w.heap.size → (∀ l, lx = some l → b ≠ l.b) → w'.heap[b]? = w.heap[b]?) (hsz : w.heap.size ≤ w'.heap.size) (hb : Below W0.heap.size W0 w')
    (hlx : ∀ l, lx = some l → W0.heap.size ≤ l.b ∧ l.b < w'.heap.size ∧ ¬ C.A l.b ∧ ∀ r' l', r' ≠ r → C.ρ r' = some l' → l'.b ≠ l.b)
    (ho : Mono C w (C.reloc r (.row v' sz' xs') lx) w' → RepO (C.reloc r (.row v' sz' xs') lx) w' r (.row v' sz' xs')) :
    Inv W0 (C.reloc r (.row v' sz' xs') lx) w' ∧ Mono C w (C.reloc r (.row v' sz' xs') lx) w' := by
  have hlt : r < C.H.length := (List.getElem?_eq_some_iff.1 hr).1
  have m : Mono C w (C.reloc r (.row v' sz' xs') lx) w' := by
    refine ⟨fun b hA => ⟨hA, hw b (I.sub b hA) fun l e eb => (hlx l e).2.2.1 (eb ▸ hA)⟩, by simp [Ctx.reloc], rfl, fun r' hr' => ?_⟩
    by_cases e : r' = r
    · subst e
      unfold ObjMono
      simp only [Ctx.reloc, List.getElem?_set_self hlt]
      exact .inr ⟨v, sz, xs, hr, hv⟩
    · exact .same hr' (by simp only [Ctx.reloc]; rw [List.getElem?_set_ne (fun h => e h.symm)]) (by simp only [Ctx.reloc]; rw [if_neg e])
  refine ⟨I.step m hb (fun b hA => Nat.lt_of_lt_of_le (I.sub b hA) hsz) I.old (fun r' l' h' => ?_) (fun r1 r2 l1 l2 h1 h2 e => ?_) (fun r' o h' => ?_), m⟩
  · simp only [Ctx.reloc] at h' ⊢
    split at h'
    · rename_i e
      have := hlx l' h'
      exact ⟨by simp only [List.length_set]; omega, this.1, this.2.1, this.2.2.1⟩
    · have := I.sep r' l' h'
      exact ⟨by simp only [List.length_set]; exact this.1, this.2.1, Nat.lt_of_lt_of_le this.2.2.1 hsz, this.2.2.2⟩
  · simp only [Ctx.reloc] at h1 h2
    split at h1 <;> split at h2
    · omega
    · rename_i e1 e2
      exact absurd e.symm ((hlx l1 h1).2.2.2 r2 l2 e2 h2)
    · rename_i e1 e2
      exact absurd e ((hlx l2 h2).2.2.2 r1 l1 e1 h1)
    · exact I.inj _ _ _ _ h1 h2 e
  · simp only [Ctx.reloc] at h' ⊢
    by_cases e : r' = r
    · subst e
      simp only [List.getElem?_set_self hlt, Option.some.injEq] at h'
      subst h'
      exact .inl (ho m)
    · rw [List.getElem?_set_ne (fun h => e h.symm)] at h'
      refine .inr ⟨h', by rw [if_neg e], fun l hl => hw _ (I.sep r' l hl).2.2.1 fun l2 e2 => (hlx l2 e2).2.2.2 r' l e hl⟩

/-- The object r is let go: its block is immutable from now on. -/
def Ctx.freeze (C : Ctx) (r : Nat) : Ctx :=
  { C with A := fun b => C.A b ∨ ∃ l, C.ρ r = some l ∧ b = l.b, ρ := fun r' => if r' = r then none else C.ρ r', H := C.H.set r .gone }

theorem Inv.freeze {W0 : World} {C : Ctx} {w : World} (I : Inv W0 C w) (r : Nat) : Inv W0 (C.freeze r) w ∧ Mono C w (C.freeze r) w := by
  have m : Mono C w (C.freeze r) w := by
    refine ⟨fun b hA => ⟨.inl hA, rfl⟩, by simp [Ctx.freeze], rfl, fun r' hr => ?_⟩
    by_cases e : r' = r
    · subst e
      unfold ObjMono
      simp only [Ctx.freeze, List.getElem?_set_self hr.lt]
    · exact .same hr (by simp only [Ctx.freeze]; rw [List.getElem?_set_ne (fun h => e h.symm)]) (by simp only [Ctx.freeze]; rw [if_neg e])
  refine ⟨I.step m I.below (fun b hA => ?_) (fun b hA hlt => ?_) (fun r' l' h' => ?_) (fun r1 r2 l1 l2 h1 h2 e => ?_) (fun r' o h' => ?_), m⟩
  · rcases hA with hA | ⟨l, hl, rfl⟩
    · exact I.sub b hA
    · exact (I.sep r l hl).2.2.1
  · rcases hA with hA | ⟨l, hl, rfl⟩
    · exact I.old b hA hlt
    · have := (I.sep r l hl).2.1; omega
  · simp only [Ctx.freeze] at h' ⊢
    split at h'
    · cases h'
    · rename_i e
      have := I.sep r' l' h'
      refine ⟨by simp; exact this.1, this.2.1, this.2.2.1, fun hA => ?_⟩
      rcases hA with hA | ⟨l, hl, eb⟩
      · exact this.2.2.2 hA
      · exact e (I.inj _ _ _ _ h' hl eb)
  · simp only [Ctx.freeze] at h1 h2
    split at h1
    · cases h1
    split at h2
    · cases h2
    exact I.inj _ _ _ _ h1 h2 e
  · simp only [Ctx.freeze] at h' ⊢
    by_cases e : r' = r
    · subst e
      have hr : r' < C.H.length := by
        have := (List.getElem?_eq_some_iff.1 h').1
        simpa using this
      simp only [List.getElem?_set_self hr, Option.some.injEq] at h'
      subst h'
      exact .inl (by simp [RepO])
    · rw [List.getElem?_set_ne (fun h => e h.symm)] at h'
      exact .inr ⟨h', by rw [if_neg e], fun _ _ => by trivial⟩
end Go.Ab
