/-
  Plain laws of the loops: what holds of them when something holds of each round.
-/
import Derived.Test.YtciaimpdnjpajaaSkU
namespace Go.Ab
open Go

theorem chk_ok {α : Type} {n : Nat} {o : Option α} (h : n ≤ 549755813888) : chk n o = o := if_pos h
theorem nz_ok {α : Type} {n : Int} {o : Option α} (h : n ≠ 0) : nz n o = o := if_neg h
theorem okB_ok {α : Type} {p : Prop} [Decidable p] {o : Option α} (h : p) : okB (decide p) o = o := by rw [okB, decide_eq_true h]; rfl
theorem chkI_ok {α : Type} {n : Int} {o : Option α} (h : 0 ≤ n ∧ n ≤ 549755813888) : chkI n o = o := if_pos h

section
variable {α σ ρ : Type} {step : Nat → α → σ → Option (Out σ ρ)}

/-- The rule of a loop over a list: what holds at its head, and what its answers are. -/
theorem forIx_inv' (l : List α) (I : Nat → σ → Prop) (R : ρ → Prop) (hs : ∀ k x s, l[k]? = some x → I k s → (∃ s', step k x s = some (.next s') ∧ I (k + 1) s') ∨ (∃ r, step k x s = some (.ret r) ∧ R r)) :
    ∀ (n k : Nat) (s : σ), l.length - k = n → k ≤ l.length → I k s → (∃ s', forIx step k (l.drop k) s = some (.next s') ∧ I l.length s') ∨ (∃ r, forIx step k (l.drop k) s = some (.ret r) ∧ R r)
  | 0, k, s, hn, hk, hI => by
    have : k = l.length := by omega
    subst this
    rw [List.drop_length]
    exact .inl ⟨s, rfl, hI⟩
  | n + 1, k, s, hn, hk, hI => by
    have hlt : k < l.length := by omega
    rw [List.drop_eq_getElem_cons hlt]
    rcases hs k _ s (List.getElem?_eq_getElem hlt) hI with ⟨s', h1, h2⟩ | ⟨r, h1, h2⟩
    · rcases forIx_inv' l I R hs n (k + 1) s' (by omega) hlt h2 with ⟨s2, h3, h4⟩ | ⟨r, h3, h4⟩
      · exact .inl ⟨s2, by rw [forIx, h1]; exact h3, h4⟩
      · exact .inr ⟨r, by rw [forIx, h1]; exact h3, h4⟩
    · exact .inr ⟨r, by rw [forIx, h1]; rfl, h2⟩
theorem forIx_inv {l : List α} {s : σ} (I : Nat → σ → Prop) (R : ρ → Prop) (h0 : I 0 s) (hs : ∀ k x s, l[k]? = some x → I k s → (∃ s', step k x s = some (.next s') ∧ I (k + 1) s') ∨ (∃ r, step k x s = some (.ret r) ∧ R r)) :
    (∃ s', forIx step 0 l s = some (.next s') ∧ I l.length s') ∨ (∃ r, forIx step 0 l s = some (.ret r) ∧ R r) :=
  forIx_inv' l I R hs _ 0 s rfl (Nat.zero_le _) h0
/-- A loop that never answers of its own. -/
theorem forIx_run {l : List α} {s : σ} (I : Nat → σ → Prop) (h0 : I 0 s) (hs : ∀ k x s, l[k]? = some x → I k s → ∃ s', step k x s = some (.next s') ∧ I (k + 1) s') :
    ∃ s', forIx step 0 l s = some (.next s') ∧ I l.length s' := by
  rcases forIx_inv (ρ := ρ) I (fun _ => False) h0 (fun k x s h1 h2 => .inl (hs k x s h1 h2)) with h | ⟨r, _, h⟩
  · exact h
  · exact h.elim
theorem getElem?_repl {n k : Nat} {u x : Unit} (h : (List.replicate n u)[k]? = some x) : k < n := by
  have := (List.getElem?_eq_some_iff.1 h).1; simpa using this
theorem forN_inv {n : Nat} {s : σ} {step : Nat → Unit → σ → Option (Out σ ρ)} (hn : n ≤ 9223372036854775807) (I : Nat → σ → Prop) (R : ρ → Prop) (h0 : I 0 s)
    (hs : ∀ k s, k < n → I k s → (∃ s', step k () s = some (.next s') ∧ I (k + 1) s') ∨ (∃ r, step k () s = some (.ret r) ∧ R r)) :
    (∃ s', forN step n s = some (.next s') ∧ I n s') ∨ (∃ r, forN step n s = some (.ret r) ∧ R r) := by
  rw [forN, if_pos hn]
  have := forIx_inv (step := step) (l := List.replicate n ()) I R h0 (fun k x s h1 h2 => hs k s (getElem?_repl h1) h2)
  rwa [List.length_replicate] at this
theorem forN_run {n : Nat} {s : σ} {step : Nat → Unit → σ → Option (Out σ ρ)} (hn : n ≤ 9223372036854775807) (I : Nat → σ → Prop) (h0 : I 0 s)
    (hs : ∀ k s, k < n → I k s → ∃ s', step k () s = some (.next s') ∧ I (k + 1) s') : ∃ s', forN step n s = some (.next s') ∧ I n s' := by
  rcases forN_inv (ρ := ρ) hn I (fun _ => False) h0 (fun k s h1 h2 => .inl (hs k s h1 h2)) with h | ⟨r, _, h⟩
  · exact h
  · exact h.elim

/-- A loop that gathers. -/
theorem forIx_collect {β : Type} {step : Nat → α → List β → Option (Out (List β) ρ)} {l : List α} (p : α → Bool) (g : α → β) (hl : l.length ≤ 549755813888)
    (hs : ∀ k x s, x ∈ l → step k x s = bif p x then chk (s.length + 1) (some (.next (s ++ [g x]))) else some (.next s)) :
    forIx step 0 l [] = some (.next ((l.filter p).map g)) := by
  obtain ⟨s', h1, h2⟩ := forIx_run (step := step) (l := l) (s := []) (fun k s => s = ((l.take k).filter p).map g) (by simp) (fun k x s hk hI => by
    have hlt := (List.getElem?_eq_some_iff.1 hk).1
    have hlen : s.length ≤ k := by
      rw [hI, List.length_map]
      exact Nat.le_trans (List.length_filter_le _ _) (by simp; omega)
    rw [hs k x s (List.mem_of_getElem? hk)]
    cases hp : p x with
    | true =>
      refine ⟨s ++ [g x], by rw [cond_true, chk_ok (by omega)], ?_⟩
      rw [take_succ_some hk, List.filter_append, List.filter_cons_of_pos hp, List.filter_nil, List.map_append, hI]; rfl
    | false =>
      refine ⟨s, rfl, ?_⟩
      rw [take_succ_some hk, List.filter_append, List.filter_cons_of_neg (by simp [hp]), List.filter_nil, List.append_nil, hI])
  rw [h1, h2, List.take_length]

/-- A loop that looks for the first. -/
theorem forIx_first {step : Nat → α → Unit → Option (Out Unit ρ)} (p : α → Bool) (g : α → ρ) : ∀ {l : List α} {k : Nat}, (∀ k x, x ∈ l → step k x () = bif p x then some (.ret (g x)) else some (.next ())) →
    forIx step k l () = match l.find? p with | some x => some (.ret (g x)) | none => some (.next ())
  | [], k, _ => rfl
  | x :: l, k, hs => by
    rw [forIx, hs k x (by simp)]
    cases hp : p x with
    | true => simp [hp, Out.cont]
    | false =>
      rw [List.find?_cons_of_neg (by simp [hp])]
      exact forIx_first p g (fun k y hy => hs k y (List.mem_cons_of_mem _ hy))

/-- A loop that only tests: it comes to its end exactly where each round does. -/
theorem forIx_all {step : Nat → α → Unit → Option (Out Unit ρ)} : ∀ {l : List α} {k : Nat}, forIx step k l () = some (.next ()) ↔ ∀ i x, l[i]? = some x → step (k + i) x () = some (.next ())
  | [], k => by simp [forIx]
  | x :: l, k => by
    rw [forIx]
    constructor
    · intro h i y hy
      obtain ⟨o, h1, h2⟩ := bindE h
      cases o with
      | ret r => cases h2
      | next u =>
        match i, hy with
        | 0, hy => simp at hy; subst hy; exact h1
        | i + 1, hy =>
          have := (forIx_all (step := step)).1 h2 i y (by simpa using hy)
          rw [show k + (i + 1) = k + 1 + i by omega]; exact this
    · intro h
      have h0 := h 0 x (by simp)
      rw [Nat.add_zero] at h0
      rw [h0]
      show forIx step (k + 1) l () = _
      exact (forIx_all (step := step)).2 fun i y hy => by
        have := h (i + 1) y (by simpa using hy)
        rwa [show k + (i + 1) = k + 1 + i by omega] at this
end

theorem idxL_ok {α : Type} {l : List α} {n : Int} {k : Nat} {x : α} (hn : n = (k : Int)) (hx : l[k]? = some x) : idxL l n = some x := by subst hn; exact idxL_nat hx
theorem idxL_lt {α : Type} {l : List α} {k : Nat} (hk : k < l.length) : idxL l (k : Int) = some l[k] := idxL_nat (List.getElem?_eq_getElem hk)
theorem wrap_pred {k : Nat} (h0 : 0 < k) (hk : k ≤ 9223372036854775807) : IntKind.i64.wrap ((k : Int) - 1) = ((k - 1 : Nat) : Int) := by
  rw [wrap_i64] <;> omega
theorem wrap_add1 {k : Nat} (hk : k < 9223372036854775807) : IntKind.i64.wrap ((k : Int) + 1) = ((k + 1 : Nat) : Int) := by
  rw [wrap_i64] <;> omega
theorem bind_ok {α β : Type} {o : Option α} {f : α → Option β} {x : α} {y : β} (h1 : o = some x) (h2 : f x = some y) : o.bind f = some y := by rw [h1]; exact h2

/-- numbers of the machine's kinds -/
def I64 (n : Int) : Prop := -9223372036854775808 ≤ n ∧ n ≤ 9223372036854775807
def I32 (n : Int) : Prop := -2147483648 ≤ n ∧ n ≤ 2147483647
def I16 (n : Int) : Prop := -32768 ≤ n ∧ n ≤ 32767
def I8 (n : Int) : Prop := -128 ≤ n ∧ n ≤ 127
def U64 (n : Int) : Prop := 0 ≤ n ∧ n ≤ 18446744073709551615
def U32 (n : Int) : Prop := 0 ≤ n ∧ n ≤ 4294967295
def U16 (n : Int) : Prop := 0 ≤ n ∧ n ≤ 65535
def U8 (n : Int) : Prop := 0 ≤ n ∧ n ≤ 255
theorem wf_i64 {n : Int} (h : (Lit.int .i64 n).wf = true) : I64 n := by
  simp [Lit.wf, IntKind.min, IntKind.max, IntKind.signed, IntKind.bits] at h; exact ⟨by omega, by omega⟩
theorem wf_i32 {n : Int} (h : (Lit.int .i32 n).wf = true) : I32 n := by
  simp [Lit.wf, IntKind.min, IntKind.max, IntKind.signed, IntKind.bits] at h; exact ⟨by omega, by omega⟩
theorem wf_i16 {n : Int} (h : (Lit.int .i16 n).wf = true) : I16 n := by
  simp [Lit.wf, IntKind.min, IntKind.max, IntKind.signed, IntKind.bits] at h; exact ⟨by omega, by omega⟩
theorem wf_i8 {n : Int} (h : (Lit.int .i8 n).wf = true) : I8 n := by
  simp [Lit.wf, IntKind.min, IntKind.max, IntKind.signed, IntKind.bits] at h; exact ⟨by omega, by omega⟩
theorem wf_u64 {n : Int} (h : (Lit.int .u64 n).wf = true) : U64 n := by
  simp [Lit.wf, IntKind.min, IntKind.max, IntKind.signed, IntKind.bits] at h; exact ⟨by omega, by omega⟩
theorem wf_u32 {n : Int} (h : (Lit.int .u32 n).wf = true) : U32 n := by
  simp [Lit.wf, IntKind.min, IntKind.max, IntKind.signed, IntKind.bits] at h; exact ⟨by omega, by omega⟩
theorem wf_u16 {n : Int} (h : (Lit.int .u16 n).wf = true) : U16 n := by
  simp [Lit.wf, IntKind.min, IntKind.max, IntKind.signed, IntKind.bits] at h; exact ⟨by omega, by omega⟩
theorem wf_u8 {n : Int} (h : (Lit.int .u8 n).wf = true) : U8 n := by
  simp [Lit.wf, IntKind.min, IntKind.max, IntKind.signed, IntKind.bits] at h; exact ⟨by omega, by omega⟩
def OkL {α : Type} (p : α → Prop) (l : List α) : Prop := l.length ≤ 9223372036854775807 ∧ ∀ a ∈ l, p a
end Go.Ab
