/-
  Straight-line code, calls and control flow over abstract states.
-/
import Derived.Test.YtciaimpdnjpajaaSkH
namespace Go.Ab
open Go Go.RowKit

def aMin (x y : AVal) (K : AVal → Prop) : Prop :=
  match x, y with
  | .int k a, .int k' b => k = k' ∧ K (.int k (if b < a then b else a))
  | _, _ => False
def aMax (x y : AVal) (K : AVal → Prop) : Prop :=
  match x, y with
  | .int k a, .int k' b => k = k' ∧ K (.int k (if a < b then b else a))
  | _, _ => False

def quietK (K : AVal → Eff → Prop) (v : AVal) : Prop := K v .none

def aBuiltin (P : Program) (b : Builtin) (args : List AVal) (tys : List TypeId) (H : List AObj) (id : Nat) (K : AVal → Eff → Prop) : Prop :=
  match b, args, tys with
  | .len, [x], [T] => aLen P T x H (quietK K)
  | .append, [s, x], [T, T2] => T = T2 ∧ aAppend P T s x H id K
  | .delete, [m, k], [T, _] => aDelete P T m k H K
  | .min, [x, y], _ => aMin x y (quietK K)
  | .max, [x, y], _ => aMax x y (quietK K)
  | _, _, _ => False

def partsA (e : Operand → AVal) : List (Nat × Operand) → List (Nat × AVal)
  | [] => []
  | p :: r => (p.1, e p.2) :: partsA e r
theorem partsA_eq (e : Operand → AVal) : ∀ l : List (Nat × Operand), partsA e l = l.map fun p => (p.1, e p.2)
  | [] => rfl
  | p :: r => by rw [partsA, partsA_eq e r]; rfl

/-- what one operation does; no call of a function -/
def astep (P : Program) (op : Op) (e : Operand → AVal) (H : List AObj) (id : Nat) (K : AVal → Eff → Prop) : Prop :=
  match op with
  | .move x => K (e x) .none
  | .assign x => K (e x) .none
  | .pick c a b => aPick (e c) (e a) (e b) (quietK K)
  | .binOp o T x y _ => aBin P o T (e x) (e y) (quietK K)
  | .unOp o _ x => aUn o (e x) (quietK K)
  | .convert s d x => aConv P s d (e x) (quietK K)
  | .alloc T => aAlloc P T id K
  | .box _ x => aBox (e x) id K
  | .build T parts => aBuild P T (partsA e parts.toList) (quietK K)
  | .buildSlice T n parts => n ≤ 9223372036854775807 ∧ aBuildSlice P T n (partsA e parts.toList) id K
  | .load T a => aLoad P T (e a) H (quietK K)
  | .store T a x => aStore P T (e a) (e x) H K
  | .fieldAddr T x f => aFieldAddr P T (e x) f (quietK K)
  | .field T x f => aField P T (e x) f (quietK K)
  | .indexAddr T x i => aIndexAddr P T (e x) (e i) H (quietK K)
  | .extract t i => match e t with
    | .tuple vs => i < vs.length ∧ K (vs.getD i .any) .none
    | _ => False
  | .slice T x lo hi mx => aSlice P T (e x) (lo.map e) (hi.map e) (mx.map e) H (quietK K)
  | .makeSlice T l c => aMakeSlice P T (e l) (e c) id K
  | .makeMap _ none => aMakeMap id K
  | .lookup T x i ok => aLookup P T (e x) (e i) ok H (quietK K)
  | .mapUpdate T m k x => aMapUpdate P T (e m) (e k) (e x) H K
  | .insert T m k x => aMapUpdate P T (e m) (e k) (e x) H K
  | .range T x => aRange P T (e x) id K
  | .next i s => aNext (e i) s H K
  | .entry i => aEntry (e i) H (quietK K)
  | .makeFunc (.func f) first caps => first = #[] ∧ K (.func f (caps.toList.map e)) .none
  | .call c => match c.callee with
    | .builtin b => aBuiltin P b (c.args.toList.map e) c.argTypes.toList H id K
    | _ => False
  | _ => False

structure OpDone (W0 : World) (C : Ctx) (w : World) (r : Result Next) (K : AVal → Eff → Prop) : Prop where
  ex : ∃ a w' C' ef, ((∃ v, r = .ok (.value v) w' ∧ RepV C' w' v a) ∨ (r = .ok .skip w' ∧ a = .tuple [])) ∧ K a ef ∧ C'.H = ef.app C.H ∧ Inv W0 C' w' ∧ Mono C w C' w'

section
variable {P : Program}

theorem OpDone.ofQuiet {W0 : World} {C : Ctx} {w : World} (I : Inv W0 C w) {s : Sem Value} {K : AVal → Eff → Prop} (h : Quiet C w (s.run P w) fun a => K a .none) :
    OpDone W0 C w ((do pure (Next.value (← s)) : Sem Next).run P w) K := by
  obtain ⟨v, a, h1, h2, h3⟩ := h.ex
  exact ⟨a, w, C, .none, .inl ⟨v, by simp [h1], h2⟩, h3, rfl, I, .refl _ _⟩
theorem OpDone.ofDone {W0 : World} {C : Ctx} {w : World} {s : Sem Value} {K : AVal → Eff → Prop} (h : Done W0 C w (s.run P w) K) :
    OpDone W0 C w ((do pure (Next.value (← s)) : Sem Next).run P w) K := by
  obtain ⟨v, a, w', C', ef, h1, h2, h3, h4, h5, h6⟩ := h.ex
  exact ⟨a, w', C', ef, .inl ⟨v, by simp [h1], h2⟩, h3, h4, h5, h6⟩
theorem OpDone.ofDid {W0 : World} {C : Ctx} {w : World} {s : Sem Unit} {K : AVal → Eff → Prop} (h : Did W0 C w (s.run P w) K) :
    OpDone W0 C w ((do s; pure Next.skip : Sem Next).run P w) K := by
  obtain ⟨w', C', ef, h1, h2, h3, h4, h5⟩ := h.ex
  exact ⟨.tuple [], w', C', ef, .inr ⟨by simp [h1], rfl⟩, h2, h3, h4, h5⟩

theorem map_rep {C : Ctx} {w : World} {ρ : Operand → Value} {e : Operand → AVal} (he : ∀ x, RepV C w (ρ x) (e x)) (parts : Array (Nat × Operand)) :
    (parts.map fun (i, x) => (i, ρ x)).toList.length = (partsA e parts.toList).length ∧
    ∀ (i : Nat) p q, (parts.map fun (i, x) => (i, ρ x)).toList[i]? = some p → (partsA e parts.toList)[i]? = some q → p.1 = q.1 ∧ RepV C w p.2 q.2 := by
  rw [partsA_eq]; refine ⟨by simp, fun i p q h1 h2 => ?_⟩
  simp only [Array.toList_map, List.getElem?_map, Array.getElem?_toList] at h1 h2
  cases hx : parts[i]? with
  | none => simp [hx] at h1
  | some y =>
    simp only [hx, Option.map_some, Option.some.injEq] at h1 h2
    subst h1 h2
    exact ⟨rfl, he _⟩

theorem opt_rep {C : Ctx} {w : World} {ρ : Operand → Value} {e : Operand → AVal} (he : ∀ x, RepV C w (ρ x) (e x)) (o : Option Operand) :
    (∀ v a, o.map ρ = some v → o.map e = some a → RepV C w v a) ∧ (o.map ρ).isSome = (o.map e).isSome := by
  cases o with
  | none => simp
  | some x =>
    refine ⟨fun v a h1 h2 => ?_, rfl⟩
    simp only [Option.map_some, Option.some.injEq] at h1 h2
    subst h1 h2; exact he x

theorem arr_one {α β : Type} {e : α → β} {args : Array α} {x : β} (h : args.toList.map e = [x]) : ∃ xo, args = #[xo] ∧ e xo = x := by
  match hl : args.toList, h with
  | [xo], h => exact ⟨xo, Array.ext' hl, by simpa using h⟩
theorem arr_two {α β : Type} {e : α → β} {args : Array α} {x y : β} (h : args.toList.map e = [x, y]) : ∃ so xo, args = #[so, xo] ∧ e so = x ∧ e xo = y := by
  match hl : args.toList, h with
  | [so, xo], h => exact ⟨so, xo, Array.ext' hl, by simpa using h⟩

theorem astep_sound {W0 : World} {C : Ctx} {w : World} (I : Inv W0 C w) {id : Nat} (hid : Free C.H id) {o : Oper} {ρ : Operand → Value} {e : Operand → AVal} (he : ∀ x, RepV C w (ρ x) (e x)) {K : AVal → Eff → Prop}
    (h : astep P o.op e C.H id K) : OpDone W0 C w ((execOp ρ o).run P w) K := by
  unfold astep at h
  unfold execOp
  split at h
  case h_1 x ho => simp only [ho]; exact ⟨_, w, C, .none, .inl ⟨_, rfl, he x⟩, h, rfl, I, .refl _ _⟩
  case h_2 x ho => simp only [ho]; exact ⟨_, w, C, .none, .inl ⟨_, rfl, he x⟩, h, rfl, I, .refl _ _⟩
  case h_3 c a b ho =>
    simp only [ho]
    have hc := he c
    have ha := he a
    have hb := he b
    unfold aPick at h
    split at h
    · rename_i cv hcv
      rw [hcv] at hc
      cases hc' : ρ c <;> rw [hc'] at hc <;> cases hc
      simp only [asBool, Sem.run_bind, Sem.run_pure, Result.andThen_ok]
      split at h
      · rename_i x y hx hy
        rw [hx] at ha; rw [hy] at hb
        cases ha' : ρ a <;> rw [ha'] at ha <;> cases ha
        cases hb' : ρ b <;> rw [hb'] at hb <;> cases hb
        refine ⟨_, w, C, .none, .inl ⟨_, rfl, ?_⟩, h, rfl, I, .refl _ _⟩
        cases cv <;> exact .bool _
      · cases cv with
        | true => exact ⟨_, w, C, .none, .inl ⟨_, rfl, by simpa using ha⟩, h.1 rfl, rfl, I, .refl _ _⟩
        | false => exact ⟨_, w, C, .none, .inl ⟨_, rfl, by simpa using hb⟩, h.2 rfl, rfl, I, .refl _ _⟩
    · exact h.elim
  case h_4 op T x y yT ho => simp only [ho]; exact .ofQuiet I (bin_sound (he x) (he y) h)
  case h_5 op T x ho => simp only [ho]; exact .ofQuiet I (un_sound (he x) h)
  case h_6 s d x ho => simp only [ho]; exact .ofQuiet I (conv_sound (he x) h)
  case h_7 T ho => simp only [ho]; exact .ofDone (alloc_sound I hid h)
  case h_8 T x ho => simp only [ho]; exact .ofDone (box_sound I hid (he x) h)
  case h_9 T parts ho =>
    simp only [ho]
    have := map_rep he parts
    exact .ofQuiet I (build_sound this.1 this.2 h)
  case h_10 T n parts ho =>
    simp only [ho]
    have := map_rep he parts
    exact .ofDone (buildSlice_sound I hid this.1 this.2 (by have := maxLen_eq; have := h.1; omega) h.2)
  case h_11 T a ho => simp only [ho]; exact .ofQuiet I (load_sound I (he a) h)
  case h_12 T a x ho => simp only [ho]; exact .ofDid (store_sound I (he a) (he x) h)
  case h_13 T x f ho => simp only [ho]; exact .ofQuiet I (fieldAddr_sound (he x) h)
  case h_14 T x f ho => simp only [ho]; exact .ofQuiet I (field_sound (he x) h)
  case h_15 T x i ho => simp only [ho]; exact .ofQuiet I (indexAddr_sound (he x) (he i) h)
  case h_16 t i ho =>
    simp only [ho]
    split at h
    · rename_i vs hvs
      have := he t
      rw [hvs] at this
      exact .ofQuiet I (extract_sound this h.1 h.2)
    · exact h.elim
  case h_17 T x lo hi mx ho =>
    simp only [ho]
    exact .ofQuiet I (slice_sound (he x) (opt_rep he lo).1 (opt_rep he lo).2 (opt_rep he hi).1 (opt_rep he hi).2 (opt_rep he mx).1 (opt_rep he mx).2 h)
  case h_18 T l c ho => simp only [ho]; exact .ofDone (makeSlice_sound I hid (he l) (he c) h)
  case h_19 T ho => simp only [ho]; exact .ofDone (makeMap_sound I hid h)
  case h_20 T x i ok ho => simp only [ho]; exact .ofQuiet I (lookup_sound I (he x) (he i) h)
  case h_21 T m k x ho => simp only [ho]; exact .ofDid (mapUpdate_sound I (he m) (he k) (he x) h)
  case h_22 T m k x ho => simp only [ho]; exact .ofDid (mapUpdate_sound I (he m) (he k) (he x) h)
  case h_23 T x ho => simp only [ho]; exact .ofDone (range_sound I hid (he x) h)
  case h_24 i s ho => simp only [ho]; exact .ofDone (next_sound I (he i) h)
  case h_25 i ho => simp only [ho]; exact .ofQuiet I (entry_sound I (he i) h)
  case h_26 f first caps ho =>
    obtain ⟨h1, h⟩ := h
    simp only [ho, h1, List.map_toArray, List.map_nil]
    refine ⟨_, w, C, .none, .inl ⟨_, rfl, ?_⟩, h, rfl, I, .refl _ _⟩
    refine .func f (caps.map ρ) (caps.toList.map e) (by simp) fun i u c h1 h2 => ?_
    simp only [Array.getElem?_map, List.getElem?_map, Array.getElem?_toList] at h1 h2
    cases hx : caps[i]? with
    | none => simp [hx] at h1
    | some y =>
      simp only [hx, Option.map_some, Option.some.injEq] at h1 h2
      subst h1 h2; exact he y
  case h_27 c ho =>
    rw [ho]
    dsimp only
    split at h
    · rename_i b hb
      simp only [resolve, hb, Sem.run_bind, Sem.run_pure, Result.andThen_ok, invoke]
      unfold aBuiltin at h
      split at h
      · rename_i x T hargs htys
        have ha := arr_one hargs
        have ht : c.argTypes = #[T] := Array.ext' htys
        obtain ⟨xo, ha, rfl⟩ := ha
        simp only [ha, ht, List.map_toArray, List.map_cons, List.map_nil, builtin]
        exact .ofQuiet I (len_sound I (he xo) h)
      · rename_i s x T T2 hargs htys
        have ha := arr_two hargs
        have ht : c.argTypes = #[T, T2] := Array.ext' htys
        obtain ⟨so, xo, ha, rfl, rfl⟩ := ha
        obtain ⟨rfl, h⟩ := h
        simp only [ha, ht, List.map_toArray, List.map_cons, List.map_nil, builtin]
        exact .ofDone (append_sound I hid (he so) (he xo) h)
      · rename_i m k T T2 hargs htys
        have ha := arr_two hargs
        have ht : c.argTypes = #[T, T2] := Array.ext' htys
        obtain ⟨so, xo, ha, rfl, rfl⟩ := ha
        simp only [ha, ht, List.map_toArray, List.map_cons, List.map_nil, builtin]
        exact .ofDone (delete_sound I (he so) (he xo) h)
      · rename_i x y tys hargs
        have ha := arr_two hargs
        obtain ⟨so, xo, ha, rfl, rfl⟩ := ha
        simp only [ha, List.map_toArray, List.map_cons, List.map_nil, builtin]
        refine .ofQuiet I ?_
        have h1 := he so
        have h2 := he xo
        unfold aMin at h
        split at h
        · rename_i k1 a k2 b e1 e2
          obtain ⟨rfl, h⟩ := h
          rw [e1] at h1; rw [e2] at h2
          cases h1' : ρ so <;> rw [h1'] at h1 <;> cases h1
          cases h2' : ρ xo <;> rw [h2'] at h2 <;> cases h2
          exact .mk' (by simp [Builtin.min_, Builtin.min2]) (.int _ _) h
        · exact h.elim
      · rename_i x y tys hargs
        have ha := arr_two hargs
        obtain ⟨so, xo, ha, rfl, rfl⟩ := ha
        simp only [ha, List.map_toArray, List.map_cons, List.map_nil, builtin]
        refine .ofQuiet I ?_
        have h1 := he so
        have h2 := he xo
        unfold aMax at h
        split at h
        · rename_i k1 a k2 b e1 e2
          obtain ⟨rfl, h⟩ := h
          rw [e1] at h1; rw [e2] at h2
          cases h1' : ρ so <;> rw [h1'] at h1 <;> cases h1
          cases h2' : ρ xo <;> rw [h2'] at h2 <;> cases h2
          exact .mk' (by simp [Builtin.max_, Builtin.max2]) (.int _ _) h
        · exact h.elim
      · exact h.elim
    · exact h.elim
  case h_28 => exact h.elim
end
end Go.Ab
