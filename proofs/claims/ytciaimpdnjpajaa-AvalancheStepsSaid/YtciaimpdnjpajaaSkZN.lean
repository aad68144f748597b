/-
  Walks that know where the call began; values told again by what they lean on; regions that leave the world alone; integers that are stored over integers.
-/
import Derived.Test.YtciaimpdnjpajaaSkZM
namespace Go.Ab
open Go Go.RowKit

section
variable {P : Program} {md : Option Nat}
theorem SRep.drop {W0 : World} {A0 : Nat → Prop} {ds : List Deferred} {n : Nat} {outs : List (Array Value)} {outer : List Fr} {fr : Fr} {H : List AObj} {a : Act} {w : World} (h : SRep W0 A0 ds n outs outer fr H a w) : SRep W0 A0 ds n [] [] fr H a w := by
  obtain ⟨C, h1, h2, I, h3, _, h5, h6⟩ := h.ex
  exact ⟨C, h1, h2, I, h3, .nil, h5, h6⟩
/-- the weakest precondition of code, where all that was there when the call began lies in S; at its end the frames behind are let go -/
def AWPx (S : Nat → Prop) (md : Option Nat) (P : Program) (n : Nat) (c : Code) (Q : Exit → Fr → List AObj → Prop) (outer : List Fr) (fr : Fr) (H : List AObj) : Prop :=
  ∀ (W0 : World) (A0 : Nat → Prop) (ds : List Deferred) (outs : List (Array Value)) (a : Act) (w : World), (∀ b, b < W0.heap.size → S b) → SRep W0 A0 ds n outs outer fr H a w →
    c.wpIn (fence md) 5 P (fun e a' w' => ∃ fr' H', Q e fr' H' ∧ SRep W0 A0 ds n [] [] fr' H' a' w') a w
theorem AWPx.of {S : Nat → Prop} {n : Nat} {c : Code} {Q : Exit → Fr → List AObj → Prop} {outer : List Fr} {fr : Fr} {H : List AObj} (h : AWP md P n c Q outer fr H) : AWPx S md P n c Q outer fr H :=
  fun W0 A0 ds outs a w _ R => wpIn_mono (h W0 A0 ds outs a w R) fun _ _ _ ⟨fr', H', q, r⟩ => ⟨fr', H', q, r.drop⟩
theorem AWPx.seq {S : Nat → Prop} {n : Nat} {c d : Code} {Q : Exit → Fr → List AObj → Prop} {outer : List Fr} {fr : Fr} {H : List AObj}
    (h : AWP md P n c (qthen (AWPx S md P n d Q outer) Q) outer fr H) : AWPx S md P n (.seq c d) Q outer fr H := by
  intro W0 A0 ds outs a w hS R
  refine wpIn_seq (wpIn_mono (h W0 A0 ds outs a w R) ?_)
  intro e a' w' ⟨fr', H', hq, hR⟩
  cases e <;> first | exact hq W0 A0 ds outs a' w' hS hR | exact ⟨fr', H', hq, hR.drop⟩
theorem AWPx.weak {S : Nat → Prop} {n : Nat} {c : Code} {Q : Exit → Fr → List AObj → Prop} {outer : List Fr} {fr : Fr} {H : List AObj} (F : Fr) (hF : subF fr F) (hb : belFr 0 F = true ∧ outer.all (belFr 0) = true)
    (h : AWPx S md P n c Q outer F []) : AWPx S md P n c Q outer fr H :=
  fun W0 A0 ds outs a w hS R => h W0 A0 ds outs a w hS (Sub.weak (H' := []) (by cases H <;> trivial) hF (.inr ⟨hb.1, rfl, hb.2⟩) _ _ _ _ _ _ _ R)

/-- a value, told again: S is what can be leaned on -/
inductive Mk (S : Nat → Prop) : AVal → AVal → Prop
  | same (a : AVal) : Mk S a a
  | sl (sz : Nat) (xs : List (List AVal)) : Mk S (.sl sz xs) (ln (fun _ => False) S sz xs)
  | ln (K T : Nat → Prop) (sz : Nat) (xs : List (List AVal)) : Mk S (ln K T sz xs) (ln (fun _ => False) (fun b => S b ∧ T b) sz xs)
  | lnT (T : Nat → Prop) (sz : Nat) (xs : List (List AVal)) : Mk S (lnT T sz xs) (lnT (fun b => S b ∧ T b) sz xs)
theorem Mk.rep {C : Ctx} {w : World} {v : Value} {a a' : AVal} (h : Mk C.A a a') (r : RepV C w v a) : RepV C w v a' := by
  cases h with
  | same => exact r
  | sl sz xs => exact RepV.lnI.2 ⟨fun _ h => h.elim, r.keep (C2 := Ctx.imm fun b => C.A b ∧ C.A b) (w2 := w) (fun _ hb => ⟨⟨hb, hb⟩, .inl rfl⟩) rfl⟩
  | ln K T sz xs => exact RepV.lnI.2 ⟨fun _ h => h.elim, (RepV.lnI.1 r).2.keep (C := Ctx.imm fun b => C.A b ∧ T b) (C2 := Ctx.imm fun b => C.A b ∧ C.A b ∧ T b) (w2 := w) (fun _ hb => ⟨⟨hb.1, hb⟩, .inl rfl⟩) rfl⟩
  | lnT T sz xs => exact RepV.lnTI.2 ((RepV.lnTI.1 r).keep (C := Ctx.imm fun b => C.A b ∧ T b ∧ Thaw w b) (C2 := Ctx.imm fun b => C.A b ∧ (C.A b ∧ T b) ∧ Thaw w b) (w2 := w) (fun _ hb => ⟨⟨hb.1, ⟨hb.1, hb.2.1⟩, hb.2.2⟩, .inl rfl⟩) rfl)
inductive MkF (S : Nat → Prop) : Fr → Fr → Prop
  | nil : MkF S [] []
  | cons {k : Nat} {a a' : AVal} {r r' : Fr} (h : Mk S a a') (t : MkF S r r') : MkF S ((k, a) :: r) ((k, a') :: r')
theorem MkF.rep {C : Ctx} {w : World} {tmps : Array Value} {fr fr' : Fr} (h : MkF C.A fr fr') : ∀ t, RepV C w (tmps.getD t undef) (get fr t) → RepV C w (tmps.getD t undef) (get fr' t) := by
  induction h with
  | nil => exact fun t r => r
  | cons h t ih =>
    intro t r
    simp only [get] at r ⊢
    split
    · rename_i e; rw [if_pos e] at r; exact h.rep r
    · rename_i e; rw [if_neg e] at r; exact ih t r
/-- what can be leaned on now is told by a frame that is not there -/
theorem AWPx.mark {S : Nat → Prop} {n : Nat} {c : Code} {Q : Exit → Fr → List AObj → Prop} {outer : List Fr} {fr : Fr} {H : List AObj} (F : (Nat → Prop) → Fr) (hg : ghostS S ∈ outer) (hF : ∀ S1, MkF S1 fr (F S1))
    (h : ∀ S1, (∀ b, S b → S1 b) → AWPx S md P n c Q (ghostS S1 :: outer) (F S1) H) : AWPx S md P n c Q outer fr H := by
  intro W0 A0 ds outs a w hS R
  obtain ⟨C, rfl, rfl, I, hF', hO, hn, hd⟩ := R.ex
  exact h C.A (ghostS_sub hO hg) W0 C.A0 ds (#[.slice none 0 0] :: outs) a w hS ⟨C, rfl, rfl, I, fun t => (hF C.A).rep t (hF' t), .cons (ghostS_rep fun _ h => h) hO, hn, hd⟩
theorem PureFn.introX {f : FuncId} {fn : Func} {c : Code} {n : Nat} {args : List AVal} {R : AVal → Prop} (hf : P.funcs[f]? = some fn) (hb : fn.body = some c) (hn : fn.ntmps = n) (hlen : args.length ≤ n)
    (hg : args.all AVal.g2 = true) (hR : ∀ r, R r → r.f2 = true) (h : ∀ S, AWPx S none P n c (qret P fn (rfrz R)) [ghostS S] (frame0 args 0) []) : PureFn P f args R := by
  intro A w vs hA hvs
  refine calls_of_wp hf hb ?_
  have hsize : (vs.toArray ++ Array.replicate (fn.ntmps - vs.toArray.size) undef).size = n := by
    have := hvs.1
    simp only [Array.size_append, List.size_toArray, Array.size_replicate]; omega
  have I0 : Inv w (Ctx.imm fun b => b < w.heap.size) w := ⟨.refl _ _, fun _ h => h, fun b hb _ => hb, by simp [Ctx.imm], by simp [Ctx.imm], by simp [Ctx.imm]⟩
  have hvs' : RepVs (Ctx.imm fun b => b < w.heap.size) w vs args := ⟨hvs.1, fun i v a h1 h2 => RepV.ground' (C := Ctx.imm A) (C2 := Ctx.imm fun b => b < w.heap.size) hA (hvs.2 i v a h1 h2) (List.all_eq_true.1 hg a (List.mem_of_getElem? h2))⟩
  refine wp_mono (wpIn_wide.1 <| h (fun b => b < w.heap.size) w (fun b => b < w.heap.size) [] [#[.slice none 0 0]] _ w (fun _ h => h) ⟨Ctx.imm fun b => b < w.heap.size, rfl, rfl, I0, enter_rep hvs' _, .cons (ghostS_rep fun _ h => h) .nil, hsize, rfl⟩) ?_
  intro e a' w' ⟨fr', H', hq, hR'⟩
  obtain ⟨C, rfl, hA0, I, hF, _, _, hd⟩ := hR'.ex
  have key : ∀ (h : match mapO (aresult P fr' C.H) fn.results.toList with | some vs => rfrz R (aret vs) C.H | none => False), a'.defers = [] ∧ ∃ v, (results fn a'.tmps).run P w' = .ok v w' ∧ ∃ v' r, Ending.returned v = .returned v' ∧ R r ∧ r.g2 = true ∧ Below w.heap.size w w' ∧
      RepV (Ctx.imm fun b => A b ∨ (w.heap.size ≤ b ∧ b < w'.heap.size)) w' v' r := by
    intro h
    split at h
    · rename_i rs hrs
      obtain ⟨v, h1, h2⟩ := results_run (P := P) I hF hrs
      unfold rfrz at h
      split at h
      · rename_i r hr
        have h3 := frz2_rep I h2 hr
        exact ⟨hd, v, h1, v, r, rfl, h, h3.1, I.below, h3.2.flat (hR r h)⟩
      · exact h.elim
    · exact h.elim
  cases e with
  | normal => exact key hq
  | ret => exact key hq
  | _ => exact hq.elim

/-- an operation that leaves the world alone -/
def quietOp : Op → Bool
  | .move _ | .assign _ | .binOp _ _ _ _ _ | .load _ _ | .fieldAddr _ _ _ | .indexAddr _ _ _ => true
  | .call { callee := .builtin .len, args := _, argTypes := _ } => true
  | _ => false
theorem qstep_sound {A : Nat → Prop} {w : World} (hA : ∀ b, A b → b < w.heap.size) {o : Oper} {ρ : Operand → Value} {e : Operand → AVal} (he : ∀ x, RepV (Ctx.imm A) w (ρ x) (e x)) (hq : quietOp o.op = true) {K : AVal → Eff → Prop}
    (h : astep P o.op e [] 0 K) : ∃ v a, (execOp ρ o).run P w = .ok (.value v) w ∧ RepV (Ctx.imm A) w v a ∧ K a .none := by
  have I : Inv w (Ctx.imm A) w := ⟨.refl _ _, hA, fun b hb _ => hb, by simp [Ctx.imm], by simp [Ctx.imm], by simp [Ctx.imm]⟩
  have q : ∀ {s : Sem Value}, Quiet (Ctx.imm A) w (s.run P w) (fun a => K a .none) → ∃ v a, ((do pure (Next.value (← s)) : Sem Next).run P w) = .ok (.value v) w ∧ RepV (Ctx.imm A) w v a ∧ K a .none := by
    intro s h
    obtain ⟨v, a, h1, h2, h3⟩ := h.ex
    exact ⟨v, a, by simp [h1], h2, h3⟩
  unfold astep at h
  unfold execOp
  split at h
  case h_1 x ho => simp only [ho]; exact ⟨_, _, rfl, he x, h⟩
  case h_2 x ho => simp only [ho]; exact ⟨_, _, rfl, he x, h⟩
  case h_4 op T x y yT ho => simp only [ho]; exact q (bin_sound (he x) (he y) h)
  case h_11 T a ho => simp only [ho]; exact q (load_sound I (he a) h)
  case h_13 T x f ho => simp only [ho]; exact q (fieldAddr_sound (he x) h)
  case h_15 T x i ho => simp only [ho]; exact q (indexAddr_sound (C := Ctx.imm A) (he x) (he i) h)
  case h_27 c ho =>
    rw [ho] at hq ⊢
    dsimp only
    split at h
    · rename_i b hb
      have hb' : b = .len := by
        cases c with
        | mk callee args tys =>
          simp only at hb; subst hb
          cases b <;> first | rfl | cases hq
      subst hb'
      simp only [resolve, hb, Sem.run_bind, Sem.run_pure, Result.andThen_ok, invoke]
      unfold aBuiltin at h
      obtain ⟨x, T, hargs, htys, h⟩ : ∃ x T, c.args.toList.map e = [x] ∧ c.argTypes.toList = [T] ∧ aLen P T x [] (quietK K) := by
        revert h
        generalize c.args.toList.map e = l1
        generalize c.argTypes.toList = l2
        intro h
        match l1, l2, h with
        | [x], [T], h => exact ⟨x, T, rfl, rfl, h⟩
        | [], _, h => exact h.elim
        | _ :: _ :: _, _, h => exact h.elim
        | [_], [], h => exact h.elim
        | [_], _ :: _ :: _, h => exact h.elim
      have ha := arr_one hargs
      have ht : c.argTypes = #[T] := Array.ext' htys
      obtain ⟨xo, ha, rfl⟩ := ha
      simp only [ha, ht, List.map_toArray, List.map_cons, List.map_nil, builtin]
      exact q (len_sound I (he xo) h)
    · exact h.elim
  all_goals first | exact h.elim | (rename_i ho; rw [ho] at hq; cases hq)

/-- the operations of such a region, one behind the other -/
def qalist (P : Program) : List Oper → (Fr → Prop) → Fr → Prop
  | [], K, fr => K fr
  | o :: rest, K, fr => astep P o.op (ev fr) [] 0 fun a _ => qalist P rest K (put fr o.dst a)
theorem qlist_sound {A : Nat → Prop} {n : Nat} {ds : List Deferred} {ops : Array Oper} {l2 : List Oper} {Q : Exit → Act → World → Prop} {K : Fr → Prop} {w : World} (hA : ∀ b, A b → b < w.heap.size)
    (hQ : ∀ fr' a', K fr' → RepF (Ctx.imm A) w a'.tmps fr' → a'.tmps.size = n → a'.defers = ds → wpListIn (fence md) 5 P ops Q l2 a' w) : ∀ (l : List Oper) (fr : Fr) (a : Act), dstOK n l = true →
    (l.all fun o => quietOp o.op && o.guard.isNone) = true → RepF (Ctx.imm A) w a.tmps fr → a.tmps.size = n → a.defers = ds → qalist P l K fr → wpListIn (fence md) 5 P ops Q (l ++ l2) a w
  | [], fr, a, _, _, hF, hn, hd, h => hQ _ _ h hF hn hd
  | o :: rest, fr, a, hok, hq, hF, hn, hdf, h => by
    simp only [dstOK, List.all_cons, Bool.and_eq_true] at hok hq
    obtain ⟨hd0, hok⟩ := hok
    obtain ⟨⟨hq0, hg⟩, hq⟩ := hq
    have hlt : ∀ k, o.dst = some k → k < a.tmps.size := by
      intro k hk
      rw [hk] at hd0
      rw [hn]
      simpa using hd0
    have hg' : o.guard = none := by cases hgo : o.guard <;> rw [hgo] at hg <;> first | rfl | cases hg
    have nd : ∀ c, o.op ≠ .defer c := fun c hc => by rw [hc] at hq0; cases hq0
    obtain ⟨v, a1, hrun, hv, hk⟩ := qstep_sound hA (ev_rep hF) hq0 h
    rw [List.cons_append]
    unfold wpListIn
    rw [if_pos (by simp [Region.wanted, hg'])]
    unfold Oper.wpIn
    refine ⟨fun _ _ => trivial, ?_⟩
    rw [Oper.semAt_eq _ _ _ nd, hrun, Oper.uponIn_value]
    exact qlist_sound hA hQ rest _ _ hok hq (hF.put hv o.dst hlt) (by rw [put_size, hn]) (by rw [put_defers, hdf]) hk
theorem qregion {A : Nat → Prop} {n id : Nat} {ds : List Deferred} {ops : List Oper} {Q : Exit → Act → World → Prop} {w : World} {a : Act} {fr : Fr} (hA : ∀ b, A b → b < w.heap.size) (hok : dstOK n ops = true)
    (hq : (ops.all fun o => quietOp o.op && o.guard.isNone) = true) (hF : RepF (Ctx.imm A) w a.tmps fr) (hn : a.tmps.size = n) (hd : a.defers = ds)
    (h : ∀ K : Fr → Prop, (∀ fr', (∀ a' : Act, RepF (Ctx.imm A) w a'.tmps fr' → a'.tmps.size = n → a'.defers = ds → Q .normal a' w) → K fr') → qalist P ops K fr) : (Code.region id ops.toArray false).wpIn (fence md) 5 P Q a w := by
  refine wpIn_region_lit ?_
  have := qlist_sound (md := md) (P := P) (ops := ops.toArray) (l2 := []) (Q := Q) (K := fun fr' => ∀ a' : Act, RepF (Ctx.imm A) w a'.tmps fr' → a'.tmps.size = n → a'.defers = ds → Q .normal a' w) hA (fun fr' a' hk h1 h2 h3 => hk a' h1 h2 h3) ops fr a hok hq hF hn hd (h _ fun _ h => h)
  rwa [List.append_nil] at this
/-- .. all but the last operation of such a region -/
theorem qregionL {A : Nat → Prop} {n id : Nat} {ds : List Deferred} {ops : List Oper} {o : Oper} (j : Nat) {Q : Exit → Act → World → Prop} {w : World} {a : Act} {fr : Fr} (ho : ops[j]? = some o) (hj : ops.length = j + 1) (hA : ∀ b, A b → b < w.heap.size) (hok : dstOK n (ops.take j) = true)
    (hq : ((ops.take j).all fun o => quietOp o.op && o.guard.isNone) = true) (hF : RepF (Ctx.imm A) w a.tmps fr) (hn : a.tmps.size = n) (hd : a.defers = ds) (hnd : ∀ c, o.op ≠ .defer c) (hg : o.guard = none)
    (h : ∀ K : Fr → Prop, (∀ fr', (∀ a' : Act, RepF (Ctx.imm A) w a'.tmps fr' → a'.tmps.size = n → a'.defers = ds → ∃ w2, (execOp a'.eval o).run P w = .ok .skip w2 ∧ Q .normal (a'.put o.dst undef) w2) → K fr') → qalist P (ops.take j) K fr) : (Code.region id ops.toArray false).wpIn (fence md) 5 P Q a w := by
  have hs : ops = ops.take j ++ [o] := by
    have hlt : j < ops.length := by omega
    have : ops.drop j = [o] := by
      rw [List.drop_eq_getElem_cons hlt, List.drop_eq_nil_of_le (by omega)]
      rw [List.getElem?_eq_getElem hlt] at ho
      rw [Option.some.inj ho]
    rw [← this, List.take_append_drop]
  refine wpIn_region_lit ?_
  have := qlist_sound (md := md) (P := P) (ops := ops.toArray) (l2 := [o]) (Q := Q) (K := fun fr' => ∀ a' : Act, RepF (Ctx.imm A) w a'.tmps fr' → a'.tmps.size = n → a'.defers = ds → ∃ w2, (execOp a'.eval o).run P w = .ok .skip w2 ∧ Q .normal (a'.put o.dst undef) w2) hA (fun fr' a' hk h1 h2 h3 => by
    obtain ⟨w2, hrun, hQ⟩ := hk a' h1 h2 h3
    unfold wpListIn
    rw [if_pos (by simp [Region.wanted, hg])]
    unfold Oper.wpIn
    refine ⟨fun _ _ => trivial, ?_⟩
    rw [Oper.semAt_eq _ _ _ hnd, hrun, Oper.uponIn_skip]
    exact wpListIn_nil hQ) (ops.take j) fr a hok hq hF hn hd (h _ fun _ h => h)
  rwa [← hs] at this
theorem RepF.weak {C : Ctx} {w : World} {tmps : Array Value} {fr : Fr} (h : RepF C w tmps fr) : ∀ {F : Fr}, subF fr F → RepF C w tmps F
  | [], _ => fun t => .any _
  | (k, v) :: r, hs => fun t => by
    have ih := RepF.weak h (F := r) hs.2 t
    simp only [get] at ih ⊢
    split
    · rename_i e; subst e; exact vle_rep hs.1 (h k)
    · exact ih
theorem RepV.boolI {C : Ctx} {w : World} {v : Value} {b : Bool} (h : RepV C w v (.bool b)) : v = .bool b := by cases h; rfl
theorem RepV.intI {C : Ctx} {w : World} {v : Value} {k : IntKind} {n : Int} (h : RepV C w v (.int k n)) : v = .int k n := by cases h; rfl
/-- the very same slice -/
@[reducible] def same (v0 : Value) : AVal := .pr fun _ _ v => v = v0
theorem RepV.sameI {C : Ctx} {w : World} {v v0 : Value} (h : RepV C w v (same v0)) : v = v0 := by cases h; assumption
theorem same_rep {C C2 : Ctx} {w w2 : World} {v : Value} {φ : (Nat → Prop) → World → Value → Prop} (h : RepV C w v (.pr φ)) : RepV C2 w2 v (same v) := by
  cases h with
  | pr _ a len cap _ _ => exact .pr _ a len cap rfl fun _ _ _ _ _ h => h
theorem RepV.same_any {C C2 : Ctx} {w w2 : World} {v v0 : Value} (h : RepV C w v (same v0)) : RepV C2 w2 v (same v0) := by
  cases h with
  | pr _ a len cap h _ => exact .pr _ a len cap h fun _ _ _ _ _ h => h

/-- cells keep what they hold, but for integers -/
def IntSt (w w2 : World) : Prop := ∀ ad u, w.cell? ad = some u → w2.cell? ad = some u ∨ ∃ z z', u = .int .i64 z ∧ w2.cell? ad = some (.int .i64 z')
theorem exists_list {α : Type} {p : Nat → α → Prop} : ∀ {n : Nat}, (∀ i, i < n → ∃ y, p i y) → ∃ l : List α, l.length = n ∧ ∀ i y, l[i]? = some y → p i y
  | 0, _ => ⟨[], rfl, by simp⟩
  | n + 1, h => by
    obtain ⟨l, hl, hp⟩ := exists_list (n := n) fun i hi => h i (by omega)
    obtain ⟨y, hy⟩ := h n (by omega)
    refine ⟨l ++ [y], by simp [hl], fun i z hz => ?_⟩
    by_cases hi : i < l.length
    · rw [List.getElem?_append_left hi] at hz; exact hp i z hz
    · have : i = l.length := by
        have := (List.getElem?_eq_some_iff.1 hz).1
        simp at this; omega
      subst this
      rw [List.getElem?_append_right (by omega)] at hz
      simp at hz; subst hz; rw [hl]; exact hy
theorem RepV.blur1 {C : Ctx} {w w2 : World} (hi : IntSt w w2) {v : Value} {zs : List Int} (h : RepV C w v (.sl 1 (zs.map intC))) : ∃ zs' : List Int, zs'.length = zs.length ∧ RepV C w2 v (.sl 1 (zs'.map intC)) := by
  generalize hx : zs.map intC = ys at h
  cases h with
  | sl0 a cap _ hcm =>
    have : zs = [] := by cases zs <;> first | rfl | cases hx
    subst this
    exact ⟨[], rfl, .sl0 a cap 1 hcm⟩
  | sl a len cap _ _ u hsp hlen hlc hcm hA hsz1 hsz hg hcell hrep =>
    subst hx
    obtain ⟨zs', hl, hp⟩ := exists_list (p := fun j z => w2.cell? ⟨a.block, a.off + j, none⟩ = some (.int .i64 z)) (n := zs.length) fun j hj => by
      have h1 := hcell j (by simpa using hj)
      have h2 := hrep j 0 [.int .i64 zs[j]] (.int .i64 zs[j]) (by rw [List.getElem?_map, List.getElem?_eq_getElem hj]; rfl) rfl
      have h3 : u j = .int .i64 zs[j] := by
        have := h2.intI
        simpa using this
      rw [h3] at h1
      rcases hi _ _ h1 with h4 | ⟨z, z', _, h4⟩
      · exact ⟨_, h4⟩
      · exact ⟨_, h4⟩
    refine ⟨zs', hl, .sl a len cap _ 1 (fun j => .int .i64 (zs'.getD j 0)) hsp (by simpa [hl] using hlen) hlc hcm hA (Nat.le_refl _) (fun x hx => ?_) (fun x hx c hc => ?_) (fun j hj => ?_) fun i k x c hx hc => ?_⟩
    · simp only [List.mem_map] at hx; obtain ⟨n, _, rfl⟩ := hx; rfl
    · simp only [List.mem_map] at hx; obtain ⟨n, _, rfl⟩ := hx
      simp only [intC, List.mem_singleton] at hc; subst hc; rfl
    · have hj' : j < zs'.length := by simpa using hj
      have := hp j zs'[j] (List.getElem?_eq_getElem hj')
      rw [this]; simp [List.getD_eq_getElem?_getD, hj']
    · rw [List.getElem?_map] at hx
      cases hz : zs'[i]? with
      | none => rw [hz] at hx; cases hx
      | some n =>
        rw [hz] at hx
        obtain rfl := Option.some.inj hx
        match k, hc with
        | 0, hc =>
          obtain rfl := Option.some.inj hc
          show RepV C w2 (.int .i64 (zs'.getD (i * 1 + 0) 0)) (.int .i64 n)
          have : zs'.getD (i * 1 + 0) 0 = n := by simp [List.getD_eq_getElem?_getD, hz]
          rw [this]; exact .int _ _
        | k + 1, hc => simp [intC] at hc
theorem AWP.run {n : Nat} {c : Code} {Q : Exit → Fr → List AObj → Prop} {outer : List Fr} {fr : Fr} {H : List AObj} {W0 : World} {A0 : Nat → Prop} {ds : List Deferred} {outs : List (Array Value)} {a : Act} {w : World} (R : SRep W0 A0 ds n outs outer fr H a w) (h : AWP md P n c Q outer fr H) :
    c.wpIn (fence md) 5 P (fun e a' w' => ∃ fr' H', Q e fr' H' ∧ SRep W0 A0 ds n outs outer fr' H' a' w') a w := h W0 A0 ds outs a w R
/-- an integer stored over an integer -/
theorem store_int {A : Nat → Prop} {w : World} {T : TypeId} {p : Value} {z z' : Int} (hT : okT P T = true) (hs : szOf P T = 1) (hth : ∀ b, A b → Thaw w b) (h : RepV (Ctx.imm A) w p (.eptr [.int .i64 z])) :
    ∃ w2 g, A g ∧ (Instr.storeAt T p (.int .i64 z')).run P w = .ok () w2 ∧ w2.os = w.os ∧ w2.tape = w.tape ∧ w2.output = w.output ∧ w2.heap.size = w.heap.size ∧ (∀ b, b ≠ g → w2.heap[b]? = w.heap[b]?) ∧ Thaw w2 g ∧ IntSt w w2 := by
  cases h with
  | eptr a _ u hsp hA hg hcell hrep =>
    obtain ⟨blk, off, spot⟩ := a
    simp only at hsp hA hcell
    subst hsp
    obtain ⟨arr, T', hh⟩ := hth blk hA
    have h1 := hcell 0 (by simp)
    rw [(hrep 0 _ rfl).intI] at h1
    simp only [World.cell?, hh, Nat.add_zero] at h1
    have h1 : arr[off]? = some (.int .i64 z) := by simpa using h1
    have hlt := (Array.getElem?_eq_some_iff.1 h1).1
    have hrun := run_storeAt (P := P) (T := T) (g := blk) (o := off) (cur := arr) (t := T') (x := .int .i64 z') hT hh (by rw [hs]; rfl) (by show off + 1 ≤ arr.size; omega) (by intro v hv; simp [Value.cells] at hv; subst hv; rfl)
    refine ⟨_, blk, hA, hrun, rfl, rfl, rfl, by simp [World.setRow], fun b hb => setRow_other w blk b _ hb, ⟨_, _, heap_setRow hh⟩, ?_⟩
    intro ad v hv
    by_cases hb : ad.block = blk
    · simp only [World.cell?, hb, hh] at hv
      split at hv
      · cases hv
      · rename_i hspot
        have hfit : off + (Value.int .i64 z').cells.toList.length ≤ arr.size := by show off + 1 ≤ arr.size; omega
        have key := splice_get (cur := arr) (o := off) (vs := (Value.int .i64 z').cells.toList) hfit ad.off
        have hc2 : (w.setRow blk (arr.toList.take off ++ (Value.int .i64 z').cells.toList ++ arr.toList.drop (off + (Value.int .i64 z').cells.size)).toArray).cell? ad = (arr.toList.take off ++ (Value.int .i64 z').cells.toList ++ arr.toList.drop (off + (Value.int .i64 z').cells.size)).toArray[ad.off]? := by
          simp only [World.cell?, hb, heap_setRow hh, hspot, if_false]
          rfl
        rw [hc2]
        rw [show (Value.int .i64 z').cells.size = (Value.int .i64 z').cells.toList.length from rfl, key]
        by_cases e : ad.off = off
        · right
          rw [e] at hv
          rw [h1] at hv
          refine ⟨z, z', (Option.some.inj hv).symm, ?_⟩
          rw [if_neg (by omega), if_pos (by show ad.off < off + 1; omega), e, Nat.sub_self]
          rfl
        · left
          by_cases hl : ad.off < off
          · rw [if_pos hl]; exact hv
          · rw [if_neg hl, if_neg (by show ¬ ad.off < off + 1; omega)]; exact hv
    · left
      have : (w.setRow blk (arr.toList.take off ++ (Value.int .i64 z').cells.toList ++ arr.toList.drop (off + (Value.int .i64 z').cells.size)).toArray).heap[ad.block]? = w.heap[ad.block]? := setRow_other w blk _ _ hb
      simp only [World.cell?, this]
      exact hv
end
end Go.Ab
