/-
  A row of the call's own, let go (it is immutable from then on), or told by what a handle of it shows.
-/
import Derived.Test.YtciaimpdnjpajaaSkT
namespace Go.Ab
open Go Go.RowKit

def frzR0 (r v sz : Nat) (xs : List (List AVal)) (a : AVal) : AVal :=
  match a with
  | .own r' v' lo len => if r' = r then (if v' = v then .sl sz ((xs.drop lo).take len) else a) else a
  | _ => a
def frzRL (r v sz : Nat) (xs : List (List AVal)) : List AVal → List AVal
  | [] => []
  | a :: l => frzR0 r v sz xs a :: frzRL r v sz xs l
def frzR1 (r v sz : Nat) (xs : List (List AVal)) (a : AVal) : AVal :=
  match a with
  | .agg cs => .agg (frzRL r v sz xs cs)
  | a => frzR0 r v sz xs a
def frzRA (r v sz : Nat) (xs : List (List AVal)) : List AVal → List AVal
  | [] => []
  | a :: l => frzR1 r v sz xs a :: frzRA r v sz xs l
def frzRFr (r v sz : Nat) (xs : List (List AVal)) : Fr → Fr
  | [] => []
  | (k, a) :: fr => (k, frzR1 r v sz xs a) :: frzRFr r v sz xs fr

theorem frz_row_rep {W0 : World} {C : Ctx} {w : World} (I : Inv W0 C w) {r v sz : Nat} {xs : List (List AVal)} (hr : C.H[r]? = some (.row v sz xs)) {u : Value} {lo len : Nat} (h : RepV C w u (.own r v lo len)) :
    RepV (C.freeze r) w u (.sl sz ((xs.drop lo).take len)) := by
  cases h with
  | own ad _ cap _ _ _ hlt hlc hcm hh =>
    obtain ⟨_, hh⟩ := hh _ _ _ hr
    obtain ⟨hle, hh⟩ := hh rfl
    have hlen : ((xs.drop lo).take len).length = len := by simp; omega
    obtain ⟨hsz1, hsz, hg, ho⟩ := I.objs r _ hr
    by_cases h0 : len = 0
    · subst h0
      simp only [List.take_zero]
      exact .sl0 _ _ _ hcm
    · rcases hh with hh | ⟨l, hl, rfl, hfit⟩
      · omega
      rcases ho with ⟨e1, _⟩ | ⟨l', arr, T', e1, e2, e3, e4, e5⟩
      · subst e1; simp at hle; omega
      rw [hl, Option.some.injEq] at e1
      subst e1
      have hmul : (lo + len) * sz ≤ xs.length * sz := Nat.mul_le_mul_right _ hle
      have hadd : (lo + len) * sz = lo * sz + len * sz := Nat.add_mul _ _ _
      have key := I.freeze r
      refine .sl _ _ _ _ _ (fun j => arr.getD (l.base + lo * sz + j) undef) rfl hlen.symm hlc hcm (.inr ⟨l, hl, rfl⟩) hsz1
        (fun x hx => hsz x (List.mem_of_mem_drop (List.mem_of_mem_take hx))) (fun x hx => hg x (List.mem_of_mem_drop (List.mem_of_mem_take hx))) (fun j hj => ?_) fun i k x c hx hc => ?_
      · rw [hlen] at hj
        simp only [World.cell?, e2]
        have : l.base + lo * sz + j < arr.size := by omega
        simp [Array.getD, this]
      · rw [List.getElem?_take] at hx
        split at hx
        · rename_i hi
          rw [List.getElem?_drop] at hx
          obtain ⟨u, hu, hur⟩ := e5 _ k x c hx hc
          have e : l.base + ((lo + i) * sz + k) = l.base + lo * sz + (i * sz + k) := by rw [Nat.add_mul]; omega
          rw [e] at hu
          have : arr.getD (l.base + lo * sz + (i * sz + k)) undef = u := by rw [Array.getD_eq_getD_getElem?, hu]; rfl
          rw [this]
          exact hur.mono key.2
        · cases hx

theorem frzR0_rep {W0 : World} {C : Ctx} {w : World} (I : Inv W0 C w) {r v sz : Nat} {xs : List (List AVal)} (hr : C.H[r]? = some (.row v sz xs)) {u : Value} {a : AVal} (h : RepV C w u a) :
    RepV (C.freeze r) w u (frzR0 r v sz xs a) := by
  have key := I.freeze r
  unfold frzR0
  split
  · split
    · rename_i e
      split
      · rename_i e2
        subst e e2
        exact frz_row_rep I hr h
      · exact h.mono key.2
    · exact h.mono key.2
  · exact h.mono key.2
theorem frzRL_get (r v sz : Nat) (xs : List (List AVal)) : ∀ (l : List AVal), (frzRL r v sz xs l).length = l.length ∧ ∀ (i : Nat) c, (frzRL r v sz xs l)[i]? = some c → ∃ c0, l[i]? = some c0 ∧ c = frzR0 r v sz xs c0
  | [] => ⟨rfl, by simp [frzRL]⟩
  | a :: l => by
    have ih := frzRL_get r v sz xs l
    refine ⟨by simp [frzRL, ih.1], fun i c hi => ?_⟩
    match i, hi with
    | 0, hi => simp only [frzRL, List.getElem?_cons_zero, Option.some.injEq] at hi; exact ⟨a, rfl, hi.symm⟩
    | i + 1, hi => simp only [frzRL, List.getElem?_cons_succ] at hi; simpa using ih.2 i c hi
theorem frzR1_rep {W0 : World} {C : Ctx} {w : World} (I : Inv W0 C w) {r v sz : Nat} {xs : List (List AVal)} (hr : C.H[r]? = some (.row v sz xs)) {u : Value} {a : AVal} (h : RepV C w u a) :
    RepV (C.freeze r) w u (frzR1 r v sz xs a) := by
  unfold frzR1
  split
  · rename_i cs
    have hg := frzRL_get r v sz xs cs
    cases h with
    | agg arr _ hl hc =>
      refine .agg arr _ (by rw [hl, hg.1]) fun i u c h1 h2 => ?_
      obtain ⟨c0, h3, rfl⟩ := hg.2 i c h2
      exact frzR0_rep I hr (hc i u c0 h1 h3)
  · exact frzR0_rep I hr h
theorem frzRA_get (r v sz : Nat) (xs : List (List AVal)) : ∀ (l : List AVal), (frzRA r v sz xs l).length = l.length ∧ ∀ (i : Nat) c, (frzRA r v sz xs l)[i]? = some c → ∃ c0, l[i]? = some c0 ∧ c = frzR1 r v sz xs c0
  | [] => ⟨rfl, by simp [frzRA]⟩
  | a :: l => by
    have ih := frzRA_get r v sz xs l
    refine ⟨by simp [frzRA, ih.1], fun i c hi => ?_⟩
    match i, hi with
    | 0, hi => simp only [frzRA, List.getElem?_cons_zero, Option.some.injEq] at hi; exact ⟨a, rfl, hi.symm⟩
    | i + 1, hi => simp only [frzRA, List.getElem?_cons_succ] at hi; simpa using ih.2 i c hi
theorem get_frzRFr (r v sz : Nat) (xs : List (List AVal)) : ∀ (fr : Fr) (t : Nat), get (frzRFr r v sz xs fr) t = frzR1 r v sz xs (get fr t)
  | [], t => rfl
  | (k, a) :: fr, t => by
    have ih := get_frzRFr r v sz xs fr t
    simp only [frzRFr, get] at ih ⊢
    split
    · rfl
    · exact ih

def frzRE (r v sz : Nat) (xs : List (List AVal)) : List (Int × AVal) → List (Int × AVal)
  | [] => []
  | (k, a) :: es => (k, frzR1 r v sz xs a) :: frzRE r v sz xs es
theorem frzRE_get (r v sz : Nat) (xs : List (List AVal)) : ∀ (l : List (Int × AVal)) (i : Nat), (frzRE r v sz xs l)[i]? = (l[i]?).map fun p => (p.1, frzR1 r v sz xs p.2)
  | [], i => by simp [frzRE]
  | (k, a) :: es, 0 => by simp [frzRE]
  | (k, a) :: es, i + 1 => by simp [frzRE, frzRE_get r v sz xs es i]
theorem frzRE_some {r v sz : Nat} {xs : List (List AVal)} {l : List (Int × AVal)} {i : Nat} {p : Int × AVal} (h : (frzRE r v sz xs l)[i]? = some p) : ∃ p0, l[i]? = some p0 ∧ p = (p0.1, frzR1 r v sz xs p0.2) := by
  rw [frzRE_get] at h
  cases hc : l[i]? with
  | none => rw [hc] at h; cases h
  | some c0 => rw [hc] at h; exact ⟨c0, rfl, (Option.some.inj h).symm⟩
theorem frzRE_keys (r v sz : Nat) (xs : List (List AVal)) : ∀ l : List (Int × AVal), (frzRE r v sz xs l).map (·.1) = l.map (·.1)
  | [] => rfl
  | (k, a) :: es => by simp [frzRE, frzRE_keys r v sz xs es]
theorem frzRE_len (r v sz : Nat) (xs : List (List AVal)) : ∀ l : List (Int × AVal), (frzRE r v sz xs l).length = l.length
  | [] => rfl
  | (k, a) :: es => by simp [frzRE, frzRE_len r v sz xs es]
theorem MapWf.frz {q : Bool} {r v sz : Nat} {xs : List (List AVal)} {en : Array MapEntry} {cl : Nat} {es : List (Int × AVal)} (h : MapWf q en cl es) : MapWf q en cl (frzRE r v sz xs es) :=
  ⟨by rw [frzRE_len]; exact h.size, fun i e p a b => by
    obtain ⟨p0, h1, rfl⟩ := frzRE_some b
    exact h.keys i e p0 a h1, by rw [frzRE_keys]; exact h.nodup, h.born, h.bnodup⟩
def frzRO (r v sz : Nat) (xs : List (List AVal)) (o : AObj) : AObj :=
  match o with
  | .box cs => .box (frzRL r v sz xs cs)
  | .mpo q es => .mpo q (frzRE r v sz xs es)
  | o => o
def frzRB (r v sz : Nat) (xs : List (List AVal)) : List AObj → List AObj
  | [] => []
  | o :: H => frzRO r v sz xs o :: frzRB r v sz xs H
theorem frzRB_get (r v sz : Nat) (xs : List (List AVal)) : ∀ (H : List AObj) (i : Nat), (frzRB r v sz xs H)[i]? = (H[i]?).map (frzRO r v sz xs)
  | [], i => by simp [frzRB]
  | o :: H, 0 => by simp [frzRB]
  | o :: H, i + 1 => by simp [frzRB, frzRB_get r v sz xs H i]
theorem frzRB_len (r v sz : Nat) (xs : List (List AVal)) : ∀ H : List AObj, (frzRB r v sz xs H).length = H.length
  | [] => rfl
  | o :: H => by simp [frzRB, frzRB_len r v sz xs H]
def Ctx.freezeRow (C : Ctx) (r v sz : Nat) (xs : List (List AVal)) : Ctx := { C.freeze r with H := frzRB r v sz xs (C.H.set r .gone) }
/-- A row let go, wherever it is spoken of. -/
theorem Inv.freezeRow {W0 : World} {C : Ctx} {w : World} (I : Inv W0 C w) {r v sz : Nat} {xs : List (List AVal)} (hr : C.H[r]? = some (.row v sz xs)) :
    Inv W0 (C.freezeRow r v sz xs) w ∧ Mono (C.freeze r) w (C.freezeRow r v sz xs) w := by
  have key := I.freeze r
  have m : Mono (C.freeze r) w (C.freezeRow r v sz xs) w := by
    refine ⟨fun b hb => ⟨hb, rfl⟩, by simp [Ctx.freezeRow, frzRB_len, Ctx.freeze], rfl, fun r' hr' => ?_⟩
    obtain ⟨o, ho, hne⟩ := hr'
    have hg : (C.freezeRow r v sz xs).H[r']? = some (frzRO r v sz xs o) := by
      show (frzRB r v sz xs (C.H.set r .gone))[r']? = _
      rw [frzRB_get, show (C.H.set r .gone)[r']? = some o from ho]; rfl
    unfold ObjMono
    rw [hg, ho]
    cases o with
    | box cs => exact ⟨⟨cs, rfl⟩, rfl⟩
    | row v' sz' xs' => exact .inl ⟨xs', rfl, Nat.le_refl _, rfl⟩
    | mp es => exact ⟨⟨_, rfl, rfl⟩, rfl⟩
    | mpo q es => exact ⟨⟨_, rfl, rfl⟩, rfl⟩
    | it l c => exact ⟨⟨l, c, rfl⟩, rfl⟩
    | lp => exact ⟨⟨_, rfl, rfl⟩, rfl⟩
    | gone => trivial
    | resv => exact absurd rfl hne
  refine ⟨⟨key.1.below, key.1.sub, key.1.old, fun r' l hl => ?_, key.1.inj, fun r' o ho => ?_⟩, m⟩
  · have := key.1.sep r' l hl
    refine ⟨?_, this.2⟩
    have h := this.1
    simpa [Ctx.freezeRow, frzRB_len, Ctx.freeze] using h
  · have ho' : (frzRB r v sz xs (C.H.set r .gone))[r']? = some o := ho
    rw [frzRB_get] at ho'
    cases hc : (C.H.set r .gone)[r']? with
    | none => rw [hc] at ho'; cases ho'
    | some o0 =>
      rw [hc] at ho'
      obtain rfl := Option.some.inj ho'
      have h0 := key.1.objs r' o0 hc
      cases o0 with
      | box cs =>
        have hne : r' ≠ r := by
          intro e; subst e
          rw [List.getElem?_set_self (List.getElem?_eq_some_iff.1 hr).1] at hc; cases hc
        have hcs : C.H[r']? = some (.box cs) := by rw [List.getElem?_set_ne (fun h => hne h.symm)] at hc; exact hc
        obtain ⟨l, arr, T, e1, e2, e3, e4⟩ := I.objs r' _ hcs
        obtain ⟨l', arr', T', f1, f2, f3, f4⟩ := h0
        have hg := frzRL_get r v sz xs cs
        refine ⟨l', arr', T', f1, f2, by rw [hg.1]; exact f3, fun i u c h1 h2 => ?_⟩
        obtain ⟨c0, h3, rfl⟩ := hg.2 i c h2
        have hl : l = l' := by
          have : (C.freeze r).ρ r' = C.ρ r' := by simp only [Ctx.freeze]; rw [if_neg hne]
          rw [this, e1] at f1; exact Option.some.inj f1
        subst hl
        rw [e2] at f2
        simp only [Option.some.injEq, Obj.cells.injEq] at f2
        obtain ⟨rfl, rfl, _⟩ := f2
        exact (frzR0_rep I hr (e4 i u c0 h1 h3)).mono m
      | mpo q es =>
        have hne : r' ≠ r := by
          intro e; subst e
          rw [List.getElem?_set_self (List.getElem?_eq_some_iff.1 hr).1] at hc; cases hc
        have hcs : C.H[r']? = some (.mpo q es) := by rw [List.getElem?_set_ne (fun h => hne h.symm)] at hc; exact hc
        obtain ⟨l, en, cl, e1, e2, e3, e4⟩ := I.objs r' _ hcs
        have hρ : (C.freezeRow r v sz xs).ρ r' = C.ρ r' := by
          show (C.freeze r).ρ r' = C.ρ r'
          simp only [Ctx.freeze]; rw [if_neg hne]
        refine ⟨l, en, cl, by rw [hρ]; exact e1, e2, e3.frz, fun i e p h1 h2 => ?_⟩
        obtain ⟨p0, h3, rfl⟩ := frzRE_some h2
        exact (frzR1_rep I hr (e4 i e p0 h1 h3)).mono m
      | _ => exact h0.mono m rfl fun _ _ => rfl

/-- A map whose values have no place of the call's own in them any more. -/
theorem Sub.mpoBack {outer : List Fr} {fr : Fr} {H : List AObj} (r : Nat) {es : List (Int × AVal)} (hr : H[r]? = some (.mpo false es)) (hg : ∀ p ∈ es, AVal.g1 p.2 = true) : Sub outer fr H fr (H.set r (.mp es)) := by
  intro W0 A0 ds n outs a w R
  obtain ⟨C, rfl, rfl, I, hF, hO, hn, hd⟩ := R.ex
  obtain ⟨l, en, cl, e1, e2, e3, e4⟩ := I.objs r _ hr
  have hlt : r < C.H.length := (List.getElem?_eq_some_iff.1 hr).1
  have key := I.put hr e1 (w' := w) (o' := .mp es) (fun _ _ => rfl) rfl I.below (by
    unfold ObjMono
    simp only [Ctx.set, List.getElem?_set_self hlt]
    exact ⟨⟨_, hr, rfl⟩, trivial⟩) fun m => ⟨l, en, cl, e1, e2, e3, hg, fun i e p h1 h2 => (e4 i e p h1 h2).mono m⟩
  exact ⟨C.set r (.mp es), rfl, rfl, key.1, fun t => (hF t).mono key.2, hO.mono key.2, hn, hd⟩

/-- A row let go. -/
theorem Sub.freezeRow {outer : List Fr} {fr : Fr} {H : List AObj} (r : Nat) {v sz : Nat} {xs : List (List AVal)} (hr : H[r]? = some (.row v sz xs)) : Sub outer fr H (frzRFr r v sz xs fr) (frzRB r v sz xs (H.set r .gone)) := by
  intro W0 A0 ds n outs a w R
  obtain ⟨C, rfl, rfl, I, hF, hO, hn, hd⟩ := R.ex
  have key := I.freeze r
  have key2 := I.freezeRow hr
  refine ⟨C.freezeRow r v sz xs, rfl, rfl, key2.1, fun t => ?_, (hO.mono key.2).mono key2.2, hn, hd⟩
  rw [get_frzRFr]
  exact (frzR1_rep I hr (hF t)).mono key2.2

/-- A row that is handed to a function, let go. -/
theorem ACall.freezeRow {P : Program} {f : AVal} {args : List AVal} {st : List Fr} {H : List AObj} {K : AVal → List AObj → Prop} (r : Nat) {v sz : Nat} {xs : List (List AVal)} (hr : H[r]? = some (.row v sz xs))
    (h : ACall P f (frzRA r v sz xs args) st (frzRB r v sz xs (H.set r .gone)) K) : ACall P f args st H K := by
  intro W0 C w outs fv vs I hH hO hf hl hv
  subst hH
  have key := I.freeze r
  have key2 := I.freezeRow hr
  have hg := frzRA_get r v sz xs args
  refine h W0 (C.freezeRow r v sz xs) w outs fv vs key2.1 rfl ((hO.mono key.2).mono key2.2) ((hf.mono key.2).mono key2.2) (by rw [hl, hg.1]) fun i u a h1 h2 => ?_
  obtain ⟨c0, h3, rfl⟩ := hg.2 i a h2
  exact (frzR1_rep I hr (hv i u c0 h1 h3)).mono key2.2

/-- A handle told by what it shows. -/
theorem reloc_core {W0 : World} {C : Ctx} {w : World} (I : Inv W0 C w) {r v lo len sz : Nat} {xs : List (List AVal)} (hr : C.H[r]? = some (.row v sz xs)) {u : Value} (hv : RepV C w u (.own r v lo len)) :
    ∃ lx, Inv W0 (C.reloc r (.row (v + 1) sz ((xs.drop lo).take len)) lx) w ∧ Mono C w (C.reloc r (.row (v + 1) sz ((xs.drop lo).take len)) lx) w ∧ RepV (C.reloc r (.row (v + 1) sz ((xs.drop lo).take len)) lx) w u (.own r (v + 1) 0 len) := by
  obtain ⟨hsz1, hsz, hg, ho⟩ := I.objs r _ hr
  have hsub : ∀ x ∈ (xs.drop lo).take len, x ∈ xs := fun x hx => List.mem_of_mem_drop (List.mem_of_mem_take hx)
  cases hv with
  | own ad _ cap _ _ _ hlt hlc hcm hh =>
    obtain ⟨_, hh⟩ := hh _ _ _ hr
    obtain ⟨hle, hh⟩ := hh rfl
    have hlen : ((xs.drop lo).take len).length = len := by simp; omega
    have hadd : (lo + len) * sz = lo * sz + len * sz := Nat.add_mul _ _ _
    have fin : ∀ (lx : Option Loc), (cap = 0 ∨ ∃ l, lx = some l ∧ ad = some ⟨l.b, l.base, none⟩ ∧ l.base + cap * sz ≤ l.cap) →
        RepV (C.reloc r (.row (v + 1) sz ((xs.drop lo).take len)) lx) w (.slice ad len cap) (.own r (v + 1) 0 len) := by
      intro lx hc
      have hself : (C.H.set r (.row (v + 1) sz ((xs.drop lo).take len)))[r]? = some (.row (v + 1) sz ((xs.drop lo).take len)) := List.getElem?_set_self (List.getElem?_eq_some_iff.1 hr).1
      refine .own _ _ _ _ _ _ ⟨_, hself, by simp⟩ hlc hcm fun v' sz' xs' h' => ?_
      have h'' : (C.H.set r (.row (v + 1) sz ((xs.drop lo).take len)))[r]? = some (.row v' sz' xs') := h'
      rw [hself, Option.some.injEq, AObj.row.injEq] at h''
      obtain ⟨rfl, rfl, rfl⟩ := h''
      refine ⟨Nat.le_refl _, fun _ => ⟨by omega, ?_⟩⟩
      rcases hc with hc | ⟨l, rfl, rfl, h3⟩
      · exact .inl hc
      · refine .inr ⟨l, by simp [Ctx.reloc], by simp, by rw [Nat.zero_add]; exact h3⟩
    rcases hh with rfl | ⟨l, hl, rfl, hfit⟩
    · have h0 : len = 0 := by omega
      subst h0
      have key := I.reloc hr (Nat.lt_succ_self v) (v' := v + 1) (sz' := sz) (xs' := (xs.drop lo).take 0) none (fun _ _ _ => rfl) (Nat.le_refl _) I.below (fun l h => by cases h) fun m =>
        ⟨hsz1, by simp, by simp, .inl ⟨by simp, by simp [Ctx.reloc]⟩⟩
      exact ⟨none, key.1, key.2, fin none (.inl rfl)⟩
    · have hs := I.sep r l hl
      have key := I.reloc hr (Nat.lt_succ_self v) (v' := v + 1) (sz' := sz) (xs' := (xs.drop lo).take len) (some ⟨l.b, l.base + lo * sz, l.cap⟩) (fun _ _ _ => rfl) (Nat.le_refl _) I.below (fun l' h => by
        rw [Option.some.injEq] at h
        subst h
        exact ⟨hs.2.1, hs.2.2.1, hs.2.2.2, fun r' l' hne hl' e => hne (I.inj _ _ _ _ hl' hl e)⟩) fun m => by
          refine ⟨hsz1, fun x hx => hsz x (hsub x hx), fun x hx => hg x (hsub x hx), ?_⟩
          rcases ho with ⟨e1, e1'⟩ | ⟨l', arr, T', e1, e2, e3, e4, e5⟩
          · rw [hl] at e1'; cases e1'
          rw [hl, Option.some.injEq] at e1
          subst e1
          have hmul : (lo + len) * sz ≤ xs.length * sz := Nat.mul_le_mul_right _ hle
          refine .inr ⟨⟨l.b, l.base + lo * sz, l.cap⟩, arr, T', by simp [Ctx.reloc], e2, e3, ?_, fun i k x c hx hc => ?_⟩
          · show l.base + lo * sz + _ ≤ l.cap
            rw [hlen]; omega
          · rw [List.getElem?_take] at hx
            split at hx
            · rw [List.getElem?_drop] at hx
              obtain ⟨u', hu', hur⟩ := e5 _ k x c hx hc
              refine ⟨u', ?_, hur.mono m⟩
              rw [← hu']
              show arr[l.base + lo * sz + (i * sz + k)]? = _
              congr 1
              rw [Nat.add_mul]; omega
            · cases hx
      refine ⟨_, key.1, key.2, fin _ (.inr ⟨_, rfl, rfl, ?_⟩)⟩
      show l.base + lo * sz + cap * sz ≤ l.cap
      have : (lo + cap) * sz = lo * sz + cap * sz := Nat.add_mul _ _ _
      omega
/-- .. the handle in the slot k -/
theorem Sub.window {outer : List Fr} {fr : Fr} {H : List AObj} (k : Nat) {r v lo len sz : Nat} {xs : List (List AVal)} (hk : get fr k = .own r v lo len) (hr : H[r]? = some (.row v sz xs)) :
    Sub outer fr H ((k, .own r (v + 1) 0 len) :: fr) (H.set r (.row (v + 1) sz ((xs.drop lo).take len))) := by
  intro W0 A0 ds n outs a w R
  obtain ⟨C, rfl, rfl, I, hF, hO, hn, hd⟩ := R.ex
  have hv := hF k
  rw [hk] at hv
  obtain ⟨lx, I', m, hu⟩ := reloc_core I hr hv
  refine ⟨C.reloc r (.row (v + 1) sz ((xs.drop lo).take len)) lx, rfl, rfl, I', fun t => ?_, hO.mono m, hn, hd⟩
  simp only [get]
  split
  · rename_i e; subst e; exact hu
  · exact (hF t).mono m
/-- a cell of a box told anew, of the same value -/
theorem Inv.retell {W0 : World} {C : Ctx} {w : World} (I : Inv W0 C w) {b j : Nat} {cs : List AVal} {c' : AVal} (hb : C.H[b]? = some (.box cs))
    (hc : ∀ u c, cs[j]? = some c → RepV C w u c → Mono C w (C.set b (.box (cs.set j c'))) w → RepV (C.set b (.box (cs.set j c'))) w u c') :
    Inv W0 (C.set b (.box (cs.set j c'))) w ∧ Mono C w (C.set b (.box (cs.set j c'))) w := by
  obtain ⟨l, arr, T, e1, e2, e3, e4⟩ := I.objs b _ hb
  have hlt : b < C.H.length := (List.getElem?_eq_some_iff.1 hb).1
  refine I.put hb e1 (fun _ _ => rfl) rfl I.below ?_ fun m => ?_
  · unfold ObjMono
    simp only [Ctx.set, List.getElem?_set_self hlt]
    exact ⟨⟨cs, hb⟩, trivial⟩
  · refine ⟨l, arr, T, e1, e2, by rw [e3, List.length_set], fun i u c h1 h2 => ?_⟩
    rw [List.getElem?_set] at h2
    split at h2
    · rename_i e
      subst e
      split at h2
      · rename_i hj
        obtain rfl := Option.some.inj h2
        have hcj : cs[j]? = some cs[j] := List.getElem?_eq_getElem hj
        exact hc u _ hcj (e4 j u _ h1 hcj) m
      · cases h2
    · exact (e4 i u c h1 h2).mono m
/-- .. the handle in the cell j of the box b -/
theorem Sub.windowB {outer : List Fr} {fr : Fr} {H : List AObj} (b j : Nat) {cs : List AVal} {r v lo len sz : Nat} {xs : List (List AVal)} (hb : H[b]? = some (.box cs)) (hj : cs[j]? = some (.own r v lo len)) (hr : H[r]? = some (.row v sz xs)) :
    Sub outer fr H fr ((H.set r (.row (v + 1) sz ((xs.drop lo).take len))).set b (.box (cs.set j (.own r (v + 1) 0 len)))) := by
  intro W0 A0 ds n outs a w R
  obtain ⟨C, rfl, rfl, I, hF, hO, hn, hd⟩ := R.ex
  have hne : r ≠ b := fun e => by subst e; rw [hb] at hr; cases hr
  obtain ⟨l, arr, T, e1, e2, e3, e4⟩ := I.objs b _ hb
  have hjl : j < arr.size := by rw [e3]; exact (List.getElem?_eq_some_iff.1 hj).1
  obtain ⟨lx, I', m, hu⟩ := reloc_core I hr (e4 j _ _ (Array.getElem?_eq_getElem hjl) hj)
  have hb' : (C.reloc r (.row (v + 1) sz ((xs.drop lo).take len)) lx).H[b]? = some (.box cs) := by
    simp only [Ctx.reloc]; rw [List.getElem?_set_ne hne]; exact hb
  have hρ : (C.reloc r (.row (v + 1) sz ((xs.drop lo).take len)) lx).ρ b = some l := by
    simp only [Ctx.reloc]; rw [if_neg (fun e => hne e.symm)]; exact e1
  obtain ⟨l2, arr2, T2, g1, g2, g3, g4⟩ := I'.objs b _ hb'
  rw [hρ] at g1
  obtain rfl := Option.some.inj g1
  rw [e2] at g2
  obtain ⟨rfl, -⟩ : arr = arr2 ∧ T = T2 := by simpa using g2
  have hlt : b < (C.reloc r (.row (v + 1) sz ((xs.drop lo).take len)) lx).H.length := (List.getElem?_eq_some_iff.1 hb').1
  have key := I'.put (o' := .box (cs.set j (.own r (v + 1) 0 len))) hb' hρ (fun _ _ => rfl) rfl I'.below (by
    unfold ObjMono
    simp only [Ctx.set, List.getElem?_set_self hlt]
    exact ⟨⟨cs, hb'⟩, trivial⟩) fun m2 => by
      refine ⟨l, arr, T, hρ, e2, by rw [e3, List.length_set], fun i u c h1 h2 => ?_⟩
      rw [List.getElem?_set] at h2
      split at h2
      · rename_i e
        subst e
        split at h2
        · obtain rfl := Option.some.inj h2
          rw [Array.getElem?_eq_getElem hjl] at h1
          obtain rfl := Option.some.inj h1
          exact hu.mono m2
        · cases h2
      · exact (g4 i u c h1 h2).mono m2
  have mm := m.trans key.2
  exact ⟨(C.reloc r (.row (v + 1) sz ((xs.drop lo).take len)) lx).set b (.box (cs.set j (.own r (v + 1) 0 len))), rfl, rfl, key.1, fun t => (hF t).mono mm, hO.mono mm, hn, hd⟩
/-- A nil slice in a cell of a box, told as an empty row of the call's own. -/
theorem Sub.ghostB {outer : List Fr} {fr : Fr} {H : List AObj} (b j sz : Nat) {cs : List AVal} (hb : H[b]? = some (.box cs)) (hj : cs[j]? = some .nils) (hsz : 1 ≤ sz) :
    Sub outer fr H fr ((H ++ [AObj.row 0 sz []]).set b (.box (cs.set j (.own H.length 0 0 0)))) := by
  intro W0 A0 ds n outs a w R
  obtain ⟨C, rfl, rfl, I, hF, hO, hn, hd⟩ := R.ex
  have hid : Free C.H C.H.length := .inl rfl
  have key := I.ghost _ hid (.row 0 sz []) (fun _ => ⟨hsz, by simp, by simp, .inl ⟨rfl, I.noLoc hid⟩⟩)
  have hH : (C.ghost C.H.length (.row 0 sz [])).H = C.H ++ [.row 0 sz []] := by simp [Ctx.ghost, addAt]
  have hlt : b < C.H.length := (List.getElem?_eq_some_iff.1 hb).1
  have hb' : (C.ghost C.H.length (.row 0 sz [])).H[b]? = some (.box cs) := by rw [hH, List.getElem?_append_left hlt]; exact hb
  have key2 := key.1.retell (j := j) (c' := .own C.H.length 0 0 0) hb' fun u c hc hu m => by
    rw [hj] at hc
    obtain rfl := Option.some.inj hc
    cases hu
    have hself : ((C.ghost C.H.length (.row 0 sz [])).set b (.box (cs.set j (.own C.H.length 0 0 0)))).H[C.H.length]? = some (.row 0 sz []) := by
      simp only [Ctx.set]; rw [List.getElem?_set_ne (by omega), hH, List.getElem?_append_right (Nat.le_refl _)]; simp
    refine .own _ _ _ _ _ _ ⟨_, hself, by simp⟩ (Nat.le_refl _) (Nat.zero_le _) fun v' sz' xs' h' => ?_
    rw [hself, Option.some.injEq, AObj.row.injEq] at h'
    obtain ⟨rfl, rfl, rfl⟩ := h'
    exact ⟨Nat.le_refl _, fun _ => ⟨by simp, .inl rfl⟩⟩
  have mm := key.2.trans key2.2
  refine ⟨(C.ghost C.H.length (.row 0 sz [])).set b (.box (cs.set j (.own C.H.length 0 0 0))), ?_, rfl, key2.1, fun t => (hF t).mono mm, hO.mono mm, hn, hd⟩
  simp only [Ctx.set, hH]
attribute [go_sem] Nat.lt_irrefl gt_iff_lt ge_iff_le or_self false_or or_false true_or or_true Nat.le_refl natCast_succ List.take_length if_true if_false and_true true_and and_self and_false false_and not_true_eq_false not_false_eq_true ne_eq Nat.zero_add Nat.add_zero Nat.sub_zero Nat.zero_le List.length_cons List.length_nil List.length_append List.length_map List.length_set List.length_replicate List.getElem?_cons_zero List.getElem?_cons_succ List.getElem?_nil List.take_zero List.take_succ_cons List.take_nil List.drop_zero List.drop_succ_cons List.drop_nil List.cons_append List.nil_append List.append_nil List.set_cons_zero List.set_cons_succ List.all_cons List.all_nil List.headD_cons List.getD_cons_zero List.getD_cons_succ Option.bind_some Option.bind_none Option.map_some Option.map_none Option.some.injEq Bool.and_true Bool.true_and Bool.false_and Bool.and_false Bool.and_self Bool.not_true Bool.not_false Bool.and_eq_true Bool.false_eq_true Bool.true_eq_false cond_true cond_false decide_true decide_false forall_const false_implies true_implies implies_true Int.toNat_natCast mpE_len adel_mpE map_app take_map' drop_map' intC intV boolC boolV intC_app intC_set rep_intC boolC_app boolC_set rep_boolC intV_set boolV_set intV_set0 boolV_set0 List.map_cons List.map_nil mpE_app take_drop_len take_app_len take_app_1 take_app_11 take_app_2 take_set_len take_set_set_len take_rep_len Int.le_refl frzRO frzRB frzR0 frzR1 frzRL frzRA frzRFr
end Go.Ab
