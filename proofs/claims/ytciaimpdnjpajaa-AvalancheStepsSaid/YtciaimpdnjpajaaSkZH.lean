/-
  The builtin clear at the end of a row of numbers.
-/
import Derived.Test.YtciaimpdnjpajaaSkZG
namespace Go.Ab
open Go Go.RowKit
variable {P : Program}

theorem clear_sound {W0 : World} {C : Ctx} {w : World} (I : Inv W0 C w) {T e : TypeId} {k : IntKind} {x : Value} {r v lo n : Nat} {xs : List (List AVal)} (hx : RepV C w x (.own r v lo n)) (hT : P.underlying T = some (.slice e))
    (hz : zeroV P e = some (.int k 0)) (hr : C.H[r]? = some (.row v 1 xs)) (hlo : lo + n = xs.length) (ty : TypeId) {K : AVal → Eff → Prop} (hk : K (.tuple []) (.set r (.row v 1 (xs.take lo ++ List.replicate n [.int k 0])))) :
    Done W0 C w ((Builtin.clear_ #[T] ty #[x]).run P w) K := by
  cases hx with
  | own a _ cap _ _ _ hkn hlc hcm hv =>
    obtain ⟨-, h⟩ := hv _ _ _ hr
    obtain ⟨h1, h2⟩ := h rfl
    have hlt : r < C.H.length := (List.getElem?_eq_some_iff.1 hr).1
    cases n with
    | zero =>
      have e0 : xs.take lo ++ List.replicate 0 [AVal.int k 0] = xs := by rw [List.replicate_zero, List.append_nil]; exact List.take_of_length_le (by omega)
      rw [e0] at hk
      have hrun : (Builtin.clear_ #[T] ty #[.slice a 0 cap]).run P w = .ok (.tuple #[]) w := by
        cases a <;> simp [Builtin.clear_, runU hT]
      refine ⟨_, _, w, C, _, hrun, .tuple _ _ rfl (by simp), hk, ?_, I, .refl _ _⟩
      show C.H = C.H.set r _
      apply List.ext_getElem?
      intro i
      by_cases e : r = i
      · subst e; rw [List.getElem?_set_self hlt]; exact hr
      · rw [List.getElem?_set_ne e]
    | succ m =>
      obtain ⟨l, hl, ha, hcap⟩ := h2.resolve_left (by omega)
      subst ha
      obtain ⟨_, hsz, hg, ho⟩ := I.objs r _ hr
      rcases ho with ⟨_, e1⟩ | ⟨l', arr, T', e1, e2, e3, e4, e5⟩
      · rw [hl] at e1; cases e1
      rw [hl, Option.some.injEq] at e1
      subst e1
      have hzc : (Builtin.zeroCells (Value.int k 0).cells (m + 1)).toList = List.replicate (m + 1) (Value.int k 0) := by
        simp [Builtin.zeroCells, Value.cells]
        apply List.ext_getElem
        · simp
        · intro i h1 h2
          simp [Nat.mod_one]
      have hf2 : l.base + lo * 1 + (List.replicate (m + 1) (Value.int k 0)).length ≤ arr.size := by simp; omega
      have hst := run_storeCells_at P l.b (l.base + lo * 1) T' (List.replicate (m + 1) (Value.int k 0)) 0 arr w e2 (by simpa using hf2) (by intro u hu; rw [List.eq_of_mem_replicate hu]; rfl)
      simp only [Nat.add_zero] at hst
      have hrun : (Builtin.clear_ #[T] ty #[.slice (some ⟨l.b, l.base + lo * 1, none⟩) (m + 1) cap]).run P w = .ok (.tuple #[]) (w.setRow l.b (arr.toList.take (l.base + lo * 1) ++ List.replicate (m + 1) (Value.int k 0) ++ arr.toList.drop (l.base + lo * 1 + (List.replicate (m + 1) (Value.int k 0)).length)).toArray) := by
        have hst' := hst
        simp only [Nat.mul_one] at hst' ⊢
        simp only [Builtin.clear_, Sem.run_bind, Sem.run_pure, Result.andThen_ok, runU hT, zeroV_run hz, hzc, hst', List.getElem?_toArray, List.getElem?_cons_zero, List.size_toArray]
      have hlen : (xs.take lo ++ List.replicate (m + 1) [AVal.int k 0]).length = xs.length := by simp; omega
      have hget : ∀ (i : Nat) (y : List AVal), (xs.take lo ++ List.replicate (m + 1) [AVal.int k 0])[i]? = some y → (i < lo ∧ xs[i]? = some y) ∨ (lo ≤ i ∧ i < lo + (m + 1) ∧ y = [.int k 0]) := by
        intro i y h
        rw [List.getElem?_append] at h
        have el : (xs.take lo).length = lo := by simp; omega
        rw [el] at h
        split at h
        · rename_i hi
          rw [List.getElem?_take, if_pos hi] at h; exact .inl ⟨hi, h⟩
        · rename_i hi
          have h' := List.getElem?_eq_some_iff.1 h
          obtain ⟨hi2, rfl⟩ := h'
          simp at hi2
          exact .inr ⟨by omega, by omega, by simp⟩
      have key := I.put (o' := .row v 1 (xs.take lo ++ List.replicate (m + 1) [.int k 0])) hr hl (w' := w.setRow l.b (arr.toList.take (l.base + lo * 1) ++ List.replicate (m + 1) (Value.int k 0) ++ arr.toList.drop (l.base + lo * 1 + (List.replicate (m + 1) (Value.int k 0)).length)).toArray)
        (fun b hb => setRow_other w l.b b _ hb) (by simp [World.setRow]) (below_setRow I.below (I.sep _ _ hl).2.1 _)
        (by unfold ObjMono; simp only [Ctx.set, List.getElem?_set_self hlt]; exact .inl ⟨_, hr, by omega, trivial⟩)
        (fun mm => ⟨Nat.le_refl 1, fun x2 h2 => by
            obtain ⟨i, hi⟩ := List.getElem?_of_mem h2
            rcases hget i x2 hi with ⟨_, h⟩ | ⟨_, _, rfl⟩
            · exact hsz x2 (List.mem_of_getElem? h)
            · rfl, fun x2 h2 => by
            obtain ⟨i, hi⟩ := List.getElem?_of_mem h2
            rcases hget i x2 hi with ⟨_, h⟩ | ⟨_, _, rfl⟩
            · exact hg x2 (List.mem_of_getElem? h)
            · intro c hc; simp at hc; subst hc; rfl,
          .inr ⟨l, _, T', hl, heap_setRow e2, by rw [splice_size hf2, e3], by rw [hlen]; exact e4, fun i2 k2 x2 c2 g1 g2 => by
            rw [splice_get hf2]
            rcases hget i2 x2 g1 with ⟨hi, h⟩ | ⟨hi, hi2, rfl⟩
            · obtain ⟨u, hu, hur⟩ := e5 i2 k2 _ c2 h g2
              have hk2 : k2 < 1 := by have := getD_opt g2; have := hsz _ (List.mem_of_getElem? h); omega
              exact ⟨u, by rw [if_pos (by omega)]; exact hu, hur.mono mm⟩
            · have hk2 : k2 = 0 := by have := (List.getElem?_eq_some_iff.1 g2).1; simp at this; exact this
              subst hk2
              simp at g2; subst g2
              refine ⟨.int k 0, ?_, .int _ _⟩
              rw [if_neg (by omega), if_pos (by simp; omega)]
              rw [List.getElem?_replicate, if_pos (by omega)]⟩⟩)
      exact ⟨_, _, _, _, _, hrun, .tuple _ _ rfl (by simp), hk, rfl, key.1, key.2⟩
theorem ALP.clr {md : Option Nat} {n : Nat} {outer : List Fr} {all rest : List Oper} {Q : Exit → Fr → List AObj → Prop} {fr : Fr} {H : List AObj} {dst : Option Tmp} {T e : TypeId} {x : Operand} {type : TypeId} {pos : String} {after : Array Edge}
    {r v lo m : Nat} {l : List Int} (hd : (match dst with | some d => Nat.blt d n | none => true) = true) (hx : ev fr x = .own r v lo m) (hT : P.underlying T = some (.slice e))
    (hz : zeroV P e = some (.int .i64 0)) (hr : H[r]? = some (.row v 1 (l.map intC))) (hlo : lo + m = l.length) (h : ALP md P n outer all rest Q (put fr dst (.tuple [])) (H.set r (.row v 1 ((l.take lo ++ List.replicate m 0).map intC)))) :
    ALP md P n outer all ({ dst, op := .call { callee := .builtin .clear, args := #[x], argTypes := #[T] }, type, pos, after, guard := none } :: rest) Q fr H := by
  refine ALP.op1 hd (by simp) fun W0 C w ρ I hH he => ?_
  subst hH
  have hx' := he x
  rw [hx] at hx'
  unfold execOp
  simp only [resolve, Sem.run_bind, Sem.run_pure, Result.andThen_ok, invoke, List.map_toArray, List.map_cons, List.map_nil, builtin]
  have e0 : (l.map intC).take lo ++ List.replicate m [AVal.int .i64 0] = (l.take lo ++ List.replicate m 0).map intC := by simp [List.map_take, intC]
  obtain ⟨v', a, w', C', ef, h1, h2, h3, h4, h5, h6⟩ := (clear_sound (K := fun v ef => ALP md P n outer all rest Q (put fr dst v) (ef.app C.H)) I hx' hT hz hr (by simpa using hlo) type (by rw [e0]; exact h)).ex
  exact ⟨a, w', C', ef, .inl ⟨v', by rw [h1]; rfl, h2⟩, h3, h4, h5, h6⟩
/-- rows of cells, a nil told as an empty slice -/
def nleR : List (List AVal) → List (List AVal) → Prop
  | [], [] => True
  | x :: r, y :: r' => nleL x y ∧ nleR r r'
  | _, _ => False
theorem nleR_get : ∀ {xs ys : List (List AVal)}, nleR xs ys → xs.length = ys.length ∧ ∀ (i : Nat) y, ys[i]? = some y → ∃ x, xs[i]? = some x ∧ nleL x y
  | [], [], _ => ⟨rfl, by simp⟩
  | x :: r, y :: r', h => by
    have ih := nleR_get h.2
    refine ⟨by simp [ih.1], fun i d hi => ?_⟩
    match i, hi with
    | 0, hi => simp at hi; subst hi; exact ⟨x, rfl, h.1⟩
    | i + 1, hi => exact ih.2 i d (by simpa using hi)
  | [], _ :: _, h => h.elim
  | _ :: _, [], h => h.elim
theorem Sub.denil {outer : List Fr} {fr : Fr} {H : List AObj} (r : Nat) {v sz : Nat} {xs : List (List AVal)} (ys : List (List AVal)) (hr : H[r]? = some (.row v sz xs)) (h : nleR xs ys) : Sub outer fr H fr (H.set r (.row v sz ys)) := by
  intro W0 A0 ds n outs a w R
  obtain ⟨C, rfl, rfl, I, hF, hO, hn, hd⟩ := R.ex
  have hlt : r < C.H.length := (List.getElem?_eq_some_iff.1 hr).1
  have hg := nleR_get h
  obtain ⟨hsz1, hsz, hg0, ho⟩ := I.objs r _ hr
  have hcell : ∀ (i k : Nat) (y : List AVal) (c' : AVal), ys[i]? = some y → y[k]? = some c' → ∃ x c, xs[i]? = some x ∧ x[k]? = some c ∧ nle0 c c' := by
    intro i k y c' h1 h2
    obtain ⟨x, h3, h4⟩ := hg.2 i y h1
    obtain ⟨c, h5, h6⟩ := (nleL_get h4).2 k c' h2
    exact ⟨x, c, h3, h5, h6⟩
  rcases ho with ⟨rfl, _⟩ | ⟨l, arr, T', e1, e2, e3, e4, e5⟩
  · have : ys = [] := List.eq_nil_of_length_eq_zero (by rw [← hg.1]; rfl)
    subst this
    have e : C.H.set r (.row v sz []) = C.H := by
      apply List.ext_getElem?
      intro i
      by_cases e : r = i
      · subst e; rw [List.getElem?_set_self hlt]; exact hr.symm
      · rw [List.getElem?_set_ne e]
    rw [e]
    exact ⟨C, rfl, rfl, I, hF, hO, hn, hd⟩
  have nle0_g : ∀ {c c' : AVal}, nle0 c c' → c.g0 = true → c'.g0 = true := by
    intro c c' h hc
    unfold nle0 at h
    split at h
    · rcases h with rfl | ⟨rfl, rfl⟩
      · exact hc
      · rfl
    · subst h; exact hc
  have key := I.put (o' := .row v sz ys) hr e1 (w' := w) (fun _ _ => rfl) rfl I.below
    (by unfold ObjMono; simp only [Ctx.set, List.getElem?_set_self hlt]; exact .inl ⟨_, hr, by rw [hg.1]; exact Nat.le_refl _, trivial⟩)
    (fun mm => ⟨hsz1, fun y h2 => by
        obtain ⟨i, hi⟩ := List.getElem?_of_mem h2
        obtain ⟨x, h3, h4⟩ := hg.2 i y hi
        rw [← (nleL_get h4).1]; exact hsz x (List.mem_of_getElem? h3), fun y h2 c' h5 => by
        obtain ⟨i, hi⟩ := List.getElem?_of_mem h2
        obtain ⟨k, hk⟩ := List.getElem?_of_mem h5
        obtain ⟨x, c, h6, h7, h8⟩ := hcell i k y c' hi hk
        exact nle0_g h8 (hg0 x (List.mem_of_getElem? h6) c (List.mem_of_getElem? h7)),
      .inr ⟨l, arr, T', e1, e2, e3, by rw [← hg.1]; exact e4, fun i k y c' h1 h2 => by
        obtain ⟨x, c, h6, h7, h8⟩ := hcell i k y c' h1 h2
        obtain ⟨u, hu, hur⟩ := e5 i k x c h6 h7
        exact ⟨u, hu, (nle0_rep h8 (hur.mono mm)).1⟩⟩⟩)
  exact ⟨C.set r (.row v sz ys), rfl, rfl, key.1, fun t => (hF t).mono key.2, hO.mono key.2, hn, hd⟩
end Go.Ab
