/-
  What a walk computes, as plain functions: loops over a list, loops with fuel, lists and maps read by place; and the rules that tie them to the walk.
-/
import Derived.Test.YtciaimpdnjpajaaSkQ
import Derived.Test.YtciaimpdnjpajaaSkR
namespace Go.Ab
open Go Go.RowKit

/-- what one round of a loop comes to: the next state, or the answer of what stands around the loop -/
inductive Out (σ ρ : Type) where
  | next (s : σ)
  | ret (r : ρ)
def Out.cont {σ ρ : Type} (o : Out σ ρ) (g : σ → Option (Out σ ρ)) : Option (Out σ ρ) := match o with | .next s => g s | .ret r => some (.ret r)
def Out.on {σ ρ : Type} (o : Out σ ρ) (f : σ → Option ρ) : Option ρ := match o with | .next s => f s | .ret r => some r

/-- a loop over a list, with the places -/
def forIx {α σ ρ : Type} (step : Nat → α → σ → Option (Out σ ρ)) : Nat → List α → σ → Option (Out σ ρ)
  | _, [], s => some (.next s)
  | k, x :: l, s => (step k x s).bind fun o => o.cont fun s' => forIx step (k + 1) l s'
/-- a loop without a list -/
def whileN {σ ρ : Type} (step : σ → Option (Out σ ρ)) : Nat → σ → Option (Out σ ρ)
  | 0, _ => none
  | n + 1, s => (step s).bind fun o => o.cont fun s' => whileN step n s'
def fuel : Nat := 1099511627776
/-- a loop over the numbers below n, which is a number of the machine -/
def forN {σ ρ : Type} (step : Nat → Unit → σ → Option (Out σ ρ)) (n : Nat) (s : σ) : Option (Out σ ρ) := if n ≤ 9223372036854775807 then forIx step 0 (List.replicate n ()) s else none

/-- the element at n -/
def idxL {α : Type} (l : List α) (n : Int) : Option α := if 0 ≤ n then l[n.toNat]? else none

def mpE {β : Type} (f : β → AVal) (m : List (Int × β)) : List (Int × AVal) := m.map fun p => (p.1, f p.2)
def mget {β : Type} (d : β) : List (Int × β) → Int → β
  | [], _ => d
  | (k, v) :: r, n => if k = n then v else mget d r n
def mhas {β : Type} : List (Int × β) → Int → Bool
  | [], _ => false
  | (k, _) :: r, n => if k = n then true else mhas r n
def mset {β : Type} : List (Int × β) → Int → β → List (Int × β)
  | [], n, v => [(n, v)]
  | (k, u) :: r, n, v => if k = n then (k, v) :: r else (k, u) :: mset r n v
def mdel {β : Type} : List (Int × β) → Int → List (Int × β)
  | [], _ => []
  | (k, u) :: r, n => if k = n then r else (k, u) :: mdel r n

theorem bindE {α β : Type} {o : Option α} {f : α → Option β} {r : β} (h : o.bind f = some r) : ∃ x, o = some x ∧ f x = some r := by
  cases o with
  | none => cases h
  | some x => exact ⟨x, rfl, h⟩
theorem bif_t {α : Type} {c : Bool} {a b : Option α} {r : α} (h : (bif c then a else b) = some r) (hc : c = true) : a = some r := by subst hc; exact h
theorem bif_f {α : Type} {c : Bool} {a b : Option α} {r : α} (h : (bif c then a else b) = some r) (hc : c = false) : b = some r := by subst hc; exact h
theorem bif_tt {α : Type} {c : Bool} {a b : Option α} {r : α} (h : (bif c then a else b) = some r) (hc : c = true) : a = some r := bif_t h hc
theorem on_next {σ ρ : Type} {s : σ} {f : σ → Option ρ} {r : ρ} (h : (Out.next s).on f = some r) : f s = some r := h
theorem on_ret {σ ρ : Type} {q : ρ} {f : σ → Option ρ} {r : ρ} (h : (Out.ret q).on f = some r) : some q = some r := h
theorem cont_next {σ ρ : Type} {s : σ} {g : σ → Option (Out σ ρ)} {r : Out σ ρ} (h : (Out.next s).cont g = some r) : g s = some r := h
theorem cont_ret {σ ρ : Type} {q : ρ} {g : σ → Option (Out σ ρ)} {r : Out σ ρ} (h : (Out.ret q).cont g = some r) : r = .ret q := (Option.some.inj h).symm
theorem some_eq {α : Type} {a b : α} (h : some a = some b) : b = a := (Option.some.inj h).symm
theorem for_nil {α σ ρ : Type} {step : Nat → α → σ → Option (Out σ ρ)} {k : Nat} {l : List α} {s : σ} {o : Out σ ρ} (h : forIx step k (l.drop k) s = some o) (hk : ¬ k < l.length) : o = .next s := by
  rw [List.drop_of_length_le (by omega)] at h; exact (Option.some.inj h).symm
theorem for_cons {α σ ρ : Type} {step : Nat → α → σ → Option (Out σ ρ)} {k : Nat} {l : List α} {s : σ} {o : Out σ ρ} (h : forIx step k (l.drop k) s = some o) (hk : k < l.length) :
    ∃ x b, l[k]? = some x ∧ step k x s = some b ∧ b.cont (fun s' => forIx step (k + 1) (l.drop (k + 1)) s') = some o := by
  rw [List.drop_eq_getElem_cons hk] at h
  obtain ⟨b, h1, h2⟩ := bindE h
  exact ⟨l[k], b, List.getElem?_eq_getElem hk, h1, h2⟩
theorem while_step {σ ρ : Type} {step : σ → Option (Out σ ρ)} {n : Nat} {s : σ} {o : Out σ ρ} (h : whileN step n s = some o) :
    ∃ m b, n = m + 1 ∧ step s = some b ∧ b.cont (fun s' => whileN step m s') = some o := by
  cases n with
  | zero => cases h
  | succ m =>
    obtain ⟨b, h1, h2⟩ := bindE h
    exact ⟨m, b, rfl, h1, h2⟩
theorem forN_in {σ ρ : Type} {step : Nat → Unit → σ → Option (Out σ ρ)} {n : Nat} {s : σ} {o : Out σ ρ} (h : forN step n s = some o) : n ≤ 9223372036854775807 ∧ forIx step 0 (List.replicate n ()) s = some o := by
  unfold forN at h
  split at h
  · exact ⟨by assumption, h⟩
  · cases h

theorem idxL_in {α : Type} {l : List α} {n : Int} {x : α} (h : idxL l n = some x) : 0 ≤ n ∧ n < l.length ∧ l[n.toNat]? = some x := by
  unfold idxL at h
  split at h
  · rename_i h0
    have := (List.getElem?_eq_some_iff.1 h).1
    exact ⟨h0, by omega, h⟩
  · cases h
theorem idxL_nat {α : Type} {l : List α} {k : Nat} {x : α} (h : l[k]? = some x) : idxL l (k : Int) = some x := by
  simp [idxL, h]
theorem idxL_zero {α : Type} {l : List α} {x : α} (h : l[0]? = some x) : idxL l 0 = some x := by
  simp [idxL, h]

theorem AIdx.of {α : Type} {f : α → List AVal} {l : List α} {n : Int} {x : α} {sz : Nat} {K : List AVal → Prop} (hx : idxL l n = some x) (h : K (f x)) : AIdx sz (l.map f) n K := by
  obtain ⟨h1, h2, h3⟩ := idxL_in hx
  refine ⟨h1, by simpa using h2, fun y hy _ => ?_⟩
  simp only [List.getElem?_map, h3, Option.map_some, Option.some.injEq] at hy
  subst hy; exact h
theorem AElem.of {α : Type} {f : α → List AVal} {l : List α} {n : Int} {x : α} {sz : Nat} {K : List AVal → Prop} (hx : idxL l n = some x) (h : K (f x)) : AElem sz (l.map f) n.toNat K := by
  obtain ⟨h1, h2, h3⟩ := idxL_in hx
  intro y hy _
  simp only [List.getElem?_map, h3, Option.map_some, Option.some.injEq] at hy
  subst hy; exact h
theorem AElem.ofNat {α : Type} {f : α → List AVal} {l : List α} {n : Nat} {x : α} {sz : Nat} {K : List AVal → Prop} (hx : idxL l (n : Int) = some x) (h : K (f x)) : AElem sz (l.map f) n K := AElem.of hx h
/-- the bounds of a place in the call's own row -/
theorem own_in {α : Type} {l : List α} {n : Int} {m : Nat} {x : α} {R : Prop} (hx : idxL l n = some x) (hm : m = l.length) (h : R) : 0 ≤ n ∧ n < (m : Int) ∧ R := by
  obtain ⟨h1, h2, _⟩ := idxL_in hx
  exact ⟨h1, by omega, h⟩

theorem alook_mpE {β : Type} (f : β → AVal) (d : β) : ∀ (m : List (Int × β)) (n : Int), alook (mpE f m) n = if mhas m n then some (f (mget d m n)) else none
  | [], _ => rfl
  | (k, v) :: r, n => by
    simp only [mpE, List.map_cons, alook, mhas, mget]
    split
    · rfl
    · exact alook_mpE f d r n
theorem mget_not {β : Type} {d : β} : ∀ {m : List (Int × β)} {n : Int}, mhas m n = false → mget d m n = d
  | [], _, _ => rfl
  | (k, v) :: r, n, h => by
    simp only [mhas, mget] at h ⊢
    split at h
    · cases h
    · rename_i hk; rw [if_neg hk]; exact mget_not h
theorem ALook.of {β : Type} {f : β → AVal} {m : List (Int × β)} {n : Int} {d : β} {z : AVal} {K : AVal → Bool → Prop} (hd : f d = z) (h : K (f (mget d m n)) (mhas m n)) : ALook (mpE f m) n z K := by
  unfold ALook
  rw [alook_mpE f d]
  cases hb : mhas m n with
  | true => rw [hb] at h; simp; exact h
  | false => rw [hb, mget_not hb, hd] at h; simp; exact h
theorem aset_mpE {β : Type} (f : β → AVal) : ∀ (m : List (Int × β)) (n : Int) (v : β), aset (mpE f m) n (f v) = mpE f (mset m n v)
  | [], _, _ => rfl
  | (k, u) :: r, n, v => by
    have ih := aset_mpE f r n v
    simp only [mpE, List.map_cons, aset, mset] at ih ⊢
    split <;> simp [ih]
theorem adel_mpE {β : Type} (f : β → AVal) : ∀ (m : List (Int × β)) (n : Int), adel (mpE f m) n = mpE f (mdel m n)
  | [], _ => rfl
  | (k, u) :: r, n => by
    have ih := adel_mpE f r n
    simp only [mpE, List.map_cons, adel, mdel] at ih ⊢
    split <;> simp [ih]
theorem mpE_len {β : Type} (f : β → AVal) (m : List (Int × β)) : (mpE f m).length = m.length := by simp [mpE]
theorem map_app {α β : Type} (f : α → β) (l m : List α) : l.map f ++ m.map f = (l ++ m).map f := (List.map_append).symm
theorem take_map' {α β : Type} (f : α → β) (l : List α) (n : Nat) : (l.map f).take n = (l.take n).map f := (List.map_take).symm
theorem drop_map' {α β : Type} (f : α → β) (l : List α) (n : Nat) : (l.map f).drop n = (l.drop n).map f := (List.map_drop).symm
theorem rep_map {α β : Type} (f : α → β) (n : Nat) (a : α) : List.replicate n (f a) = (List.replicate n a).map f := (List.map_replicate).symm

section
variable {P : Program} {md : Option Nat} {n : Nat} {Q : Exit → Fr → List AObj → Prop} {outer : List Fr} {fr : Fr} {H : List AObj}
/-- Where several ways meet: what stands behind is walked once, for a family of states. -/
theorem AWP.seqJoin {ι : Type} {c d : Code} (F : ι → Fr) (HH : ι → List AObj) (J : ι → Prop) (hb : ∀ x, belFr (HH x).length (F x) = true ∧ belH (HH x).length (HH x) = true ∧ outer.all (belFr (HH x).length) = true)
    (hc : AWP md P n c (qthen (fun fr' H' => ∃ x, J x ∧ subF fr' (F x) ∧ subH H' (HH x)) Q) outer fr H) (hd : ∀ x, J x → AWP md P n d Q outer (F x) (HH x)) : AWP md P n (.seq c d) Q outer fr H := by
  refine AWP.seq (AWP.mono ?_ hc)
  intro e fr' H' h
  cases e with
  | normal =>
    obtain ⟨x, h1, h2, h3⟩ := h
    exact AWP.sub (Sub.weak h3 h2 (.inr (hb x))) (hd x h1)
  | _ => exact h
end

/-- a nil slice may be told as an empty one -/
def nle0 (v v' : AVal) : Prop := match v' with | .sl _ xs => v = v' ∨ (v = .nils ∧ xs = []) | _ => v = v'
def nleL : List AVal → List AVal → Prop
  | [], [] => True
  | c :: r, c' :: r' => nle0 c c' ∧ nleL r r'
  | _, _ => False
def nle1 (v v' : AVal) : Prop := match v' with | .agg ds => (match v with | .agg cs => nleL cs ds | _ => False) | .sl _ xs => v = v' ∨ (v = .nils ∧ xs = []) | _ => v = v'
def nleA : List AVal → List AVal → Prop
  | [], [] => True
  | c :: r, c' :: r' => nle1 c c' ∧ nleA r r'
  | _, _ => False
def nle2 (v v' : AVal) : Prop := match v' with | .tuple ds => (match v with | .tuple cs => nleA cs ds | _ => False) | .agg ds => (match v with | .agg cs => nleL cs ds | _ => False) | .sl _ xs => v = v' ∨ (v = .nils ∧ xs = []) | _ => v = v'
theorem nle0_rep {C : Ctx} {w : World} {u : Value} {a a' : AVal} (h : nle0 a a') (hr : RepV C w u a) : RepV C w u a' ∧ (a.g0 = true → a'.g0 = true) := by
  unfold nle0 at h
  split at h
  · rcases h with rfl | ⟨rfl, rfl⟩
    · exact ⟨hr, id⟩
    · cases hr; exact ⟨.sl0 _ _ _ (Nat.zero_le _), fun _ => rfl⟩
  · subst h; exact ⟨hr, id⟩
theorem nleL_get : ∀ {cs cs' : List AVal}, nleL cs cs' → cs.length = cs'.length ∧ ∀ (i : Nat) c', cs'[i]? = some c' → ∃ c, cs[i]? = some c ∧ nle0 c c'
  | [], [], _ => ⟨rfl, by simp⟩
  | c :: r, c' :: r', h => by
    have ih := nleL_get h.2
    refine ⟨by simp [ih.1], fun i d hi => ?_⟩
    match i, hi with
    | 0, hi => simp at hi; subst hi; exact ⟨c, rfl, h.1⟩
    | i + 1, hi => exact ih.2 i d (by simpa using hi)
  | [], _ :: _, h => h.elim
  | _ :: _, [], h => h.elim
theorem nleA_get : ∀ {cs cs' : List AVal}, nleA cs cs' → cs.length = cs'.length ∧ ∀ (i : Nat) c', cs'[i]? = some c' → ∃ c, cs[i]? = some c ∧ nle1 c c'
  | [], [], _ => ⟨rfl, by simp⟩
  | c :: r, c' :: r', h => by
    have ih := nleA_get h.2
    refine ⟨by simp [ih.1], fun i d hi => ?_⟩
    match i, hi with
    | 0, hi => simp at hi; subst hi; exact ⟨c, rfl, h.1⟩
    | i + 1, hi => exact ih.2 i d (by simpa using hi)
  | [], _ :: _, h => h.elim
  | _ :: _, [], h => h.elim
theorem nleL_rep {C : Ctx} {w : World} {u : Value} {cs ds : List AVal} (h : nleL cs ds) (hr : RepV C w u (.agg cs)) : RepV C w u (.agg ds) ∧ ((AVal.agg cs).g1 = true → (AVal.agg ds).g1 = true) := by
  have hg := nleL_get h
  cases hr with
  | agg arr _ hl hc =>
    refine ⟨.agg arr ds (by rw [hl, hg.1]) fun i u c h1 h2 => ?_, fun hk => ?_⟩
    · obtain ⟨c0, h3, h4⟩ := hg.2 i c h2
      exact (nle0_rep h4 (hc i u c0 h1 h3)).1
    · simp only [AVal.g1, List.all_eq_true] at hk ⊢
      intro c hm
      obtain ⟨i, hi⟩ := List.getElem?_of_mem hm
      obtain ⟨c0, h3, h4⟩ := hg.2 i c hi
      have hlt : i < arr.size := by rw [hl]; exact (List.getElem?_eq_some_iff.1 h3).1
      exact (nle0_rep h4 (hc i _ c0 (Array.getElem?_eq_getElem hlt) h3)).2 (hk c0 (List.mem_of_getElem? h3))
theorem nle1_rep {C : Ctx} {w : World} {u : Value} {a a' : AVal} (h : nle1 a a') (hr : RepV C w u a) : RepV C w u a' ∧ (a.g1 = true → a'.g1 = true) := by
  unfold nle1 at h
  split at h
  · split at h
    · exact nleL_rep h hr
    · exact h.elim
  · rcases h with rfl | ⟨rfl, rfl⟩
    · exact ⟨hr, id⟩
    · cases hr; exact ⟨.sl0 _ _ _ (Nat.zero_le _), fun _ => rfl⟩
  · subst h; exact ⟨hr, id⟩
theorem nle2_rep {C : Ctx} {w : World} {u : Value} {a a' : AVal} (h : nle2 a a') (hr : RepV C w u a) : RepV C w u a' ∧ (a.g2 = true → a'.g2 = true) := by
  unfold nle2 at h
  split at h
  · split at h
    · rename_i v ds _ cs
      have hg := nleA_get h
      cases hr with
      | tuple arr _ hl hc =>
        refine ⟨.tuple arr _ (by rw [hl, hg.1]) fun i u c h1 h2 => ?_, fun hk => ?_⟩
        · obtain ⟨c0, h3, h4⟩ := hg.2 i c h2
          exact (nle1_rep h4 (hc i u c0 h1 h3)).1
        · simp only [AVal.g2, List.all_eq_true] at hk ⊢
          intro c hm
          obtain ⟨i, hi⟩ := List.getElem?_of_mem hm
          obtain ⟨c0, h3, h4⟩ := hg.2 i c hi
          have hlt : i < arr.size := by rw [hl]; exact (List.getElem?_eq_some_iff.1 h3).1
          exact (nle1_rep h4 (hc i _ c0 (Array.getElem?_eq_getElem hlt) h3)).2 (hk c0 (List.mem_of_getElem? h3))
    · exact h.elim
  · split at h
    · exact nleL_rep h hr
    · exact h.elim
  · rcases h with rfl | ⟨rfl, rfl⟩
    · exact ⟨hr, id⟩
    · cases hr; exact ⟨.sl0 _ _ _ (Nat.zero_le _), fun _ => rfl⟩
  · subst h; exact ⟨hr, id⟩
theorem PureFn.nle {P : Program} {f : FuncId} {args : List AVal} {r' : AVal} (h : PureFn P f args (fun r => nle2 r r')) : PureFn P f args (· = r') := by
  intro A w vs hA hv
  refine (h A w vs hA hv).mono fun e w' ⟨v, r, h1, h2, h3, h4, h5⟩ => ?_
  have := nle2_rep h2 h5
  exact ⟨v, r', h1, rfl, this.2 h3, h4, this.1⟩
theorem PureFn.argN {P : Program} {f : FuncId} {args args' : List AVal} {R : AVal → Prop} (hn : nleA args args') (h : PureFn P f args' R) : PureFn P f args R := by
  intro A w vs hA hv
  refine h A w vs hA ?_
  have hg := nleA_get hn
  refine ⟨by rw [hv.1, hg.1], fun i v a h1 h2 => ?_⟩
  obtain ⟨c, h3, h4⟩ := hg.2 i a h2
  exact (nle1_rep h4 (hv.2 i v c h1 h3)).1

theorem intC_app (l : List Int) (a : Int) : l.map intC ++ [[.int .i64 a]] = (l ++ [a]).map intC := by simp [intC]
theorem intC_set (l : List Int) (i : Nat) (a : Int) : (l.map intC).set i [.int .i64 a] = (l.set i a).map intC := by simp [intC]
theorem rep_intC (n : Nat) (a : Int) : List.replicate n [AVal.int .i64 a] = (List.replicate n a).map intC := by simp [intC]
def boolC (b : Bool) : List AVal := [.bool b]
theorem boolC_app (l : List Bool) (a : Bool) : l.map boolC ++ [[.bool a]] = (l ++ [a]).map boolC := by simp [boolC]
theorem boolC_set (l : List Bool) (i : Nat) (a : Bool) : (l.map boolC).set i [.bool a] = (l.set i a).map boolC := by simp [boolC]
theorem rep_boolC (n : Nat) (a : Bool) : List.replicate n [AVal.bool a] = (List.replicate n a).map boolC := by simp [boolC]
def intV (n : Int) : AVal := .int .i64 n
def boolV (b : Bool) : AVal := .bool b
theorem intV_set (m : List (Int × Int)) (n v : Int) : aset (mpE intV m) n (.int .i64 v) = mpE intV (mset m n v) := aset_mpE intV m n v
theorem boolV_set (m : List (Int × Bool)) (n : Int) (v : Bool) : aset (mpE boolV m) n (.bool v) = mpE boolV (mset m n v) := aset_mpE boolV m n v
theorem intV_set0 (n v : Int) : aset [] n (.int .i64 v) = mpE intV (mset [] n v) := rfl
theorem boolV_set0 (n : Int) (v : Bool) : aset [] n (.bool v) = mpE boolV (mset [] n v) := rfl
theorem mpE_nil {β : Type} (f : β → AVal) : mpE f [] = [] := rfl
/-- the length n is one that a machine can hold -/
def chk {α : Type} (n : Nat) (o : Option α) : Option α := if n ≤ 549755813888 then o else none
theorem chk_in {α : Type} {n : Nat} {o : Option α} {r : α} (h : chk n o = some r) : n ≤ 549755813888 ∧ o = some r := by
  unfold chk at h
  split at h
  · exact ⟨by assumption, h⟩
  · cases h
def chkI {α : Type} (n : Int) (o : Option α) : Option α := if 0 ≤ n ∧ n ≤ 549755813888 then o else none
theorem chkI_in {α : Type} {n : Int} {o : Option α} {r : α} (h : chkI n o = some r) : 0 ≤ n ∧ n ≤ 549755813888 ∧ o = some r := by
  unfold chkI at h
  split at h
  · rename_i hn; exact ⟨hn.1, hn.2, h⟩
  · cases h
/-- the divisor is not 0 -/
def nz {α : Type} (n : Int) (o : Option α) : Option α := if n = 0 then none else o
theorem nz_in {α : Type} {n : Int} {o : Option α} {r : α} (h : nz n o = some r) : ¬ n = 0 ∧ o = some r := by
  unfold nz at h
  split at h
  · cases h
  · exact ⟨by assumption, h⟩
theorem idxL_set {α : Type} {l : List α} {n : Int} {x y : α} (h : idxL l n = some x) : idxL (l.set n.toNat y) n = some y := by
  obtain ⟨h1, h2, h3⟩ := idxL_in h
  unfold idxL
  rw [if_pos h1, List.getElem?_set_self (by omega)]
theorem own_in0 {α : Type} {l : List α} {n : Int} {m : Nat} {x : α} {R : Prop} (hx : idxL l n = some x) (hm : m = l.length) (h : R) : n < (m : Int) ∧ R := by
  obtain ⟨h1, h2, _⟩ := idxL_in hx
  exact ⟨by omega, h⟩

/-- a loop over the entries of a map, in some order -/
def forE {α σ ρ : Type} (step : α → σ → Option (Out σ ρ)) : List α → σ → Option (Out σ ρ)
  | [], s => some (.next s)
  | x :: l, s => (step x s).bind fun o => o.cont fun s' => forE step l s'
open Classical in
/-- what g answers in every order of l -/
noncomputable def allPerm {α β : Type} (l : List α) (g : List α → Option β) : Option β := if h : ∃ r, ∀ ord : List α, ord.Perm l → g ord = some r then some h.choose else none
theorem allPerm_in {α β : Type} {l : List α} {g : List α → Option β} {r : β} (h : allPerm l g = some r) : ∀ ord : List α, ord.Perm l → g ord = some r := by
  unfold allPerm at h
  split at h
  · rename_i h1
    have := h1.choose_spec
    rw [Option.some.injEq] at h
    rw [h] at this; exact this
  · cases h
theorem allPerm_of {α β : Type} {l : List α} {g : List α → Option β} {r : β} (h : ∀ ord : List α, ord.Perm l → g ord = some r) : allPerm l g = some r := by
  unfold allPerm
  have h1 : ∃ r, ∀ ord : List α, ord.Perm l → g ord = some r := ⟨r, h⟩
  rw [dif_pos h1]
  have h2 := h1.choose_spec l (List.Perm.refl l)
  rw [h l (List.Perm.refl l)] at h2
  exact h2.symm
theorem forE_nil {α σ ρ : Type} {step : α → σ → Option (Out σ ρ)} {s : σ} {o : Out σ ρ} (h : forE step [] s = some o) : o = .next s := (Option.some.inj h).symm
theorem forE_pick {α σ ρ : Type} {step : α → σ → Option (Out σ ρ)} {s : σ} {o : Out σ ρ} {l1 l2 : List α} {p : α} (h : ∀ ord : List α, ord.Perm (l1 ++ p :: l2) → forE step ord s = some o) :
    ∃ b, step p s = some b ∧ ∀ ord : List α, ord.Perm (l1 ++ l2) → b.cont (fun s' => forE step ord s') = some o := by
  have hp : ∀ ord : List α, ord.Perm (l1 ++ l2) → (p :: ord).Perm (l1 ++ p :: l2) := fun ord ho => (List.Perm.cons p ho).trans List.perm_middle.symm
  obtain ⟨b, hb, _⟩ := bindE (h _ (hp _ (List.Perm.refl _)))
  refine ⟨b, hb, fun ord ho => ?_⟩
  obtain ⟨b', hb', h2⟩ := bindE (h _ (hp _ ho))
  rw [hb] at hb'
  rw [Option.some.inj hb']; exact h2
theorem mpE_app {β : Type} (f : β → AVal) (l m : List (Int × β)) : mpE f l ++ mpE f m = mpE f (l ++ m) := by simp [mpE]
theorem ANext.of {β : Type} {f : β → AVal} {left : List (Int × β)} {KE : Unit → Prop} {KS : List (Int × AVal) → Int × AVal → List (Int × AVal) → Prop} (h0 : left = [] → KE ())
    (h1 : ∀ l1 p l2, left = l1 ++ p :: l2 → KS (mpE f l1) (p.1, f p.2) (mpE f l2)) : ANext (mpE f left) KE KS := by
  refine ⟨fun h => h0 (List.map_eq_nil_iff.1 h), fun a p b h => ?_⟩
  obtain ⟨l1, r, h2, rfl, h3⟩ := List.map_eq_append_iff.1 h
  obtain ⟨q, l2, rfl, rfl, rfl⟩ := List.map_eq_cons_iff.1 h3
  exact h1 l1 q l2 h2
/-- the bounds of a slice -/
def okB {α : Type} (c : Bool) (o : Option α) : Option α := bif c then o else none
theorem okB_in {α : Type} {p : Prop} [Decidable p] {o : Option α} {r : α} (h : okB (decide p) o = some r) : p ∧ o = some r := by
  unfold okB at h
  by_cases hp : p
  · rw [decide_eq_true hp] at h; exact ⟨hp, h⟩
  · rw [decide_eq_false hp] at h; cases h
theorem take_drop_len {α : Type} (l : List α) (a : Nat) : (l.drop a).take (l.length - a) = l.drop a := List.take_of_length_le (by simp)
theorem take_app_len {α : Type} (l m : List α) : (l ++ m).take (l.length + m.length) = l ++ m := List.take_of_length_le (by simp)
theorem take_app_1 {α : Type} (l : List α) (a : α) : (l ++ [a]).take (l.length + 1) = l ++ [a] := List.take_of_length_le (by simp)
theorem take_app_11 {α : Type} (l : List α) (a b : α) : (l ++ [a] ++ [b]).take (l.length + 1 + 1) = l ++ [a] ++ [b] := List.take_of_length_le (by simp)
theorem take_app_2 {α : Type} (l : List α) (a b : α) : (l ++ [a, b]).take (l.length + 2) = l ++ [a, b] := List.take_of_length_le (by simp)
theorem take_set_len {α : Type} (l : List α) (i : Nat) (a : α) : (l.set i a).take l.length = l.set i a := List.take_of_length_le (by simp)
theorem take_set_set_len {α : Type} (l : List α) (i j : Nat) (a b : α) : ((l.set i a).set j b).take l.length = (l.set i a).set j b := List.take_of_length_le (by simp)
theorem take_rep_len {α : Type} (n : Nat) (a : α) : (List.replicate n a).take n = List.replicate n a := List.take_of_length_le (by simp)
end Go.Ab
