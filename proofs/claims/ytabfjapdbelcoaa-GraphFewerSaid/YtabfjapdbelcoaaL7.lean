/-
  graph.Order in plain Lean: what it places, one node after the other.
-/
import Derived.Test.YtabfjapdbelcoaaL6
import Derived.Test.YtabfjapdbelcoaaSkX
namespace Go.Proofs.Ytabfjapdbelcoaa
open Go Go.Ab
set_option linter.unusedSimpArgs false
set_option linter.unusedVariables false

/-- x can be placed next, and nothing less can -/
structure NextNode (l : List ApiEdge) (out : List Int) (x : Int) : Prop where
  node : IsNode l x
  new : x ∉ out
  free : ∀ e ∈ l, e.To = x → e.From ∈ out
  least : ∀ y, IsNode l y → y ∉ out → (∀ e ∈ l, e.To = y → e.From ∈ out) → x ≤ y
theorem NextNode.unique {l : List ApiEdge} {out : List Int} {x y : Int} (h : NextNode l out x) (k : NextNode l out y) : x = y := by
  have := h.least y k.node k.new k.free
  have := k.least x h.node h.new h.free
  omega
/-- what Order answers when 'out' is placed -/
inductive OrdRes (l : List ApiEdge) : List Int → List Int × Int → Prop
  | done {out : List Int} : (∀ n, IsNode l n → n ∈ out) → OrdRes l out (out, 0)
  | stuck {out : List Int} : (¬ ∀ n, IsNode l n → n ∈ out) → (∀ x, ¬ NextNode l out x) → OrdRes l out ([], 16)
  | step {out : List Int} {x : Int} {r : List Int × Int} : NextNode l out x → OrdRes l (out ++ [x]) r → OrdRes l out r
theorem OrdRes.unique {l : List ApiEdge} {out : List Int} {r r' : List Int × Int} (h : OrdRes l out r) (h' : OrdRes l out r') : r = r' := by
  induction h with
  | done hd =>
    cases h' with
    | done => rfl
    | stuck hn => exact absurd hd hn
    | step hx => exact absurd (hd _ hx.node) hx.new
  | stuck hn hs =>
    cases h' with
    | done hd => exact absurd hd hn
    | stuck => rfl
    | step hx => exact absurd hx (hs _)
  | step hx _ ih =>
    cases h' with
    | done hd => exact absurd (hd _ hx.node) hx.new
    | stuck _ hs => exact absurd hx (hs _)
    | step hy h' => obtain rfl := hx.unique hy; exact ih h'

/-- what free answers: the least key with the value 0 -/
def FreeSpec (m : List (Int × Int)) (r : Int × Bool) : Prop :=
  (r = (0, false) ∧ ∀ p ∈ m, p.2 ≠ 0) ∨ (r.2 = true ∧ (∃ p ∈ m, p.2 = 0 ∧ p.1 = r.1) ∧ ∀ p ∈ m, p.2 = 0 → r.1 ≤ p.1)
theorem FreeSpec.unique {m : List (Int × Int)} {r r' : Int × Bool} (h : FreeSpec m r) (h' : FreeSpec m r') : r = r' := by
  obtain ⟨a, b⟩ := r
  obtain ⟨a', b'⟩ := r'
  rcases h with ⟨h1, h2⟩ | ⟨h1, ⟨p, hp, h2, h3⟩, h4⟩ <;> rcases h' with ⟨k1, k2⟩ | ⟨k1, ⟨q, hq, k2, k3⟩, k4⟩
  · rw [h1, k1]
  · exact absurd k2 (h2 q hq)
  · exact absurd h2 (k2 p hp)
  · simp only at h1 h3 h4 k1 k3 k4
    have := h4 q hq k2
    have := k4 p hp h2
    rw [h1, k1, show a = a' by omega]
theorem FreeSpec.perm {m m' : List (Int × Int)} (hp : m'.Perm m) {r : Int × Bool} (h : FreeSpec m' r) : FreeSpec m r := by
  rcases h with ⟨h1, h2⟩ | ⟨h1, ⟨p, hq, h2, h3⟩, h4⟩
  · exact .inl ⟨h1, fun p hq => h2 p (hp.mem_iff.2 hq)⟩
  · exact .inr ⟨h1, ⟨p, hp.mem_iff.1 hq, h2, h3⟩, fun p hq => h4 p (hp.mem_iff.2 hq)⟩
theorem free_run : ∀ (ord pre : List (Int × Int)) (s : Int × Bool), FreeSpec pre s → ∃ s', forE graph_free_b1 ord s = some (.next s') ∧ FreeSpec (pre ++ ord) s'
  | [], pre, s, h => ⟨s, rfl, by simpa using h⟩
  | p :: ord, pre, s, h => by
    obtain ⟨s1, e1, h1⟩ : ∃ s1, graph_free_b1 p s = some (.next s1) ∧ FreeSpec (pre ++ [p]) s1 := by
      obtain ⟨a, b⟩ := s
      unfold graph_free_b1
      by_cases h0 : p.2 = 0
      · cases b with
        | false =>
          refine ⟨(p.1, true), by simp [h0], .inr ⟨rfl, ⟨p, by simp, h0, rfl⟩, fun q hq hq0 => ?_⟩⟩
          rcases h with ⟨_, h2⟩ | ⟨h1, _⟩
          · rcases List.mem_append.1 hq with hq | hq
            · exact absurd hq0 (h2 q hq)
            · simp at hq; subst hq; exact Int.le_refl _
          · cases h1
        | true =>
          rcases h with ⟨h1, _⟩ | ⟨_, ⟨q, hq, h2, h3⟩, h4⟩
          · cases h1
          · simp only at h3 h4
            by_cases hlt : p.1 < a
            · refine ⟨(p.1, true), by simp [h0, hlt], .inr ⟨rfl, ⟨p, by simp, h0, rfl⟩, fun q' hq' hq0 => ?_⟩⟩
              rcases List.mem_append.1 hq' with hq' | hq'
              · have := h4 q' hq' hq0; simp only; omega
              · simp at hq'; subst hq'; exact Int.le_refl _
            · refine ⟨(a, true), by simp [h0, hlt], .inr ⟨rfl, ⟨q, List.mem_append.2 (.inl hq), h2, h3⟩, fun q' hq' hq0 => ?_⟩⟩
              rcases List.mem_append.1 hq' with hq' | hq'
              · exact h4 q' hq' hq0
              · simp at hq'; subst hq'; simp only; omega
      · refine ⟨(a, b), by simp [h0], ?_⟩
        rcases h with ⟨h1, h2⟩ | ⟨h1, ⟨q, hq, h2, h3⟩, h4⟩
        · refine .inl ⟨h1, fun q hq => ?_⟩
          rcases List.mem_append.1 hq with hq | hq
          · exact h2 q hq
          · simp at hq; subst hq; exact h0
        · refine .inr ⟨h1, ⟨q, List.mem_append.2 (.inl hq), h2, h3⟩, fun q' hq' hq0 => ?_⟩
          rcases List.mem_append.1 hq' with hq' | hq'
          · exact h4 q' hq' hq0
          · simp at hq'; subst hq'; exact absurd hq0 h0
    obtain ⟨s2, e2, h2⟩ := free_run ord (pre ++ [p]) s1 h1
    exact ⟨s2, by rw [forE, e1]; exact e2, by simpa using h2⟩
theorem free_eq (m : List (Int × Int)) : ∃ r, graph_free m = some r ∧ FreeSpec m r := by
  have h0 : FreeSpec [] ((0 : Int), false) := .inl ⟨rfl, by simp⟩
  obtain ⟨s, e, h⟩ := free_run m [] _ h0
  simp only [List.nil_append] at h
  refine ⟨s, ?_, h⟩
  unfold graph_free
  rw [allPerm_of (r := Out.next s) fun ord ho => ?_]
  · rfl
  · obtain ⟨s', e', h'⟩ := free_run ord [] _ h0
    simp only [List.nil_append] at h'
    rw [e', (h'.perm ho).unique h]

/-- how many edges lead to n from where p holds -/
def cntP (p : Int → Bool) (l : List ApiEdge) (n : Int) : Nat := l.countP fun e => decide (e.To = n) && p e.From
theorem cntP_snoc (p : Int → Bool) (l : List ApiEdge) (e : ApiEdge) (n : Int) : cntP p (l ++ [e]) n = cntP p l n + if e.To = n ∧ p e.From = true then 1 else 0 := by
  unfold cntP
  rw [List.countP_append]
  by_cases h : e.To = n ∧ p e.From = true
  · simp [h.1, h.2]
  · rw [if_neg h]
    have : (decide (e.To = n) && p e.From) = false := by
      cases h1 : (decide (e.To = n) && p e.From) with
      | false => rfl
      | true => rw [Bool.and_eq_true] at h1; exact absurd ⟨of_decide_eq_true h1.1, h1.2⟩ h
    simp [this]
theorem cntP_le (p : Int → Bool) (l : List ApiEdge) (n : Int) : cntP p l n ≤ l.length := List.countP_le_length
theorem cntP_zero {p : Int → Bool} {l : List ApiEdge} {n : Int} : cntP p l n = 0 ↔ ∀ e ∈ l, e.To = n → p e.From = false := by
  unfold cntP
  rw [List.countP_eq_zero]
  constructor
  · intro h e he ht
    have := h e he
    cases hp : p e.From with
    | false => rfl
    | true => simp [ht, hp] at this
  · intro h e he
    by_cases ht : e.To = n
    · simp [ht, h e he ht]
    · simp [ht]
theorem wrap_s {n : Int} (h : -1000000000 ≤ n ∧ n ≤ 1000000000) : IntKind.i64.wrap n = n := by rw [wrap_i64] <;> omega

/-- the map at the start: for each node how many edges lead to it -/
theorem order_start {l : List ApiEdge} (hl : l.length ≤ 100000) : ∃ m, forIx graph_Order_b4 0 l [] = some (.next m) ∧ (mkeys m).Nodup ∧ (∀ n, mhas m n = true ↔ IsNode l n) ∧ ∀ n, mget 0 m n = (cntP (fun _ => true) l n : Int) := by
  obtain ⟨m, e, h1, h2, h3⟩ := forIx_run (ρ := List Int × Int) (step := graph_Order_b4) (l := l) (s := ([] : List (Int × Int))) (fun k m => (mkeys m).Nodup ∧ (∀ n, mhas m n = true ↔ IsNode (l.take k) n) ∧ ∀ n, mget 0 m n = (cntP (fun _ => true) (l.take k) n : Int))
    ⟨by simp [mkeys], fun n => by simp [mhas, IsNode], fun n => by simp [mget, cntP]⟩ (fun k e m hk ⟨i1, i2, i3⟩ => by
    have hlt := (List.getElem?_eq_some_iff.1 hk).1
    have hb := fun n => cntP_le (fun _ => true) (l.take k) n
    have hlen : (l.take k).length = k := by simp; omega
    rw [hlen] at hb
    have e1 : IntKind.i64.wrap (mget 0 m e.From + 0) = mget 0 m e.From := by
      rw [Int.add_zero, i3]; exact wrap_s (by have := hb e.From; omega)
    have g1 : ∀ n, mget 0 (mset m e.From (mget 0 m e.From)) n = mget 0 m n := fun n => by
      rw [mget_mset]; split
      · rename_i h; rw [h]
      · rfl
    have e2 : IntKind.i64.wrap (mget 0 (mset m e.From (mget 0 m e.From)) e.To + 1) = mget 0 m e.To + 1 := by
      rw [g1, i3]; exact wrap_s (by have := hb e.To; omega)
    refine ⟨mset (mset m e.From (mget 0 m e.From)) e.To (mget 0 m e.To + 1), by unfold graph_Order_b4; rw [e1, e2], mset_nodup (mset_nodup i1 _ _) _ _, fun n => ?_, fun n => ?_⟩
    · rw [mhas_mset, mhas_mset, Bool.or_eq_true, Bool.or_eq_true, i2]
      unfold IsNode
      rw [take_succ_some hk]
      constructor
      · rintro (h | h | ⟨e', he, h⟩)
        · exact ⟨e, by simp, .inr (of_decide_eq_true h).symm⟩
        · exact ⟨e, by simp, .inl (of_decide_eq_true h).symm⟩
        · exact ⟨e', List.mem_append.2 (.inl he), h⟩
      · rintro ⟨e', he, h⟩
        rcases List.mem_append.1 he with he | he
        · exact .inr (.inr ⟨e', he, h⟩)
        · simp at he; subst he
          rcases h with h | h
          · exact .inr (.inl (decide_eq_true h.symm))
          · exact .inl (decide_eq_true h.symm)
    · rw [mget_mset, g1, take_succ_some hk, cntP_snoc]
      by_cases h : e.To = n
      · rw [if_pos h, i3, if_pos ⟨h, rfl⟩, h]; rfl
      · rw [if_neg h, i3, if_neg (fun hh => h hh.1)]; rfl)
  rw [List.take_length] at h2 h3
  exact ⟨m, e, h1, h2, h3⟩

/-- what holds between two rounds -/
structure OInv (l : List ApiEdge) (m : List (Int × Int)) (out : List Int) : Prop where
  nodup : (mkeys m).Nodup
  get : ∀ n, mhas m n = true → mget 0 m n = (cntP (mhas m) l n : Int)
  up : ∀ e ∈ l, mhas m e.From = true → mhas m e.To = true
  part : ∀ n, IsNode l n ↔ (mhas m n = true ∨ n ∈ out)
  apart : ∀ n, mhas m n = true → n ∉ out
theorem OInv.zero {l : List ApiEdge} {m : List (Int × Int)} {out : List Int} (h : OInv l m out) {n : Int} (hn : mhas m n = true) : mget 0 m n = 0 ↔ ∀ e ∈ l, e.To = n → e.From ∈ out := by
  rw [h.get n hn]
  have : ((cntP (mhas m) l n : Nat) : Int) = 0 ↔ cntP (mhas m) l n = 0 := by omega
  rw [this, cntP_zero]
  constructor
  · intro h1 e he ht
    have h2 := h1 e he ht
    rcases (h.part e.From).1 ⟨e, he, .inl rfl⟩ with h3 | h3
    · rw [h3] at h2; cases h2
    · exact h3
  · intro h1 e he ht
    cases h2 : mhas m e.From with
    | false => rfl
    | true => exact absurd (h1 e he ht) (h.apart _ h2)
/-- free finds the next node, if there is one -/
theorem OInv.next {l : List ApiEdge} {m : List (Int × Int)} {out : List Int} (h : OInv l m out) {r : Int × Bool} (hr : FreeSpec m r) : (r.2 = true ∧ mhas m r.1 = true ∧ mget 0 m r.1 = 0 ∧ NextNode l out r.1) ∨ (r.2 = false ∧ ∀ x, ¬ NextNode l out x) := by
  rcases hr with ⟨h1, h2⟩ | ⟨h1, ⟨p, hp, h2, h3⟩, h4⟩
  · refine .inr ⟨by rw [h1], fun x hx => ?_⟩
    rcases (h.part x).1 hx.node with h3 | h3
    · have := entry_mem (d := (0 : Int)) h3
      exact h2 _ this ((h.zero h3).2 hx.free)
    · exact hx.new h3
  · have hm := mem_entry (d := (0 : Int)) h.nodup p hp
    rw [h3, h2] at hm
    refine .inl ⟨h1, hm.1, hm.2, (h.part _).2 (.inl hm.1), h.apart _ hm.1, (h.zero hm.1).1 hm.2, fun y hy hy2 hy3 => ?_⟩
    rcases (h.part y).1 hy with h5 | h5
    · exact h4 _ (entry_mem (d := (0 : Int)) h5) ((h.zero h5).2 hy3)
    · exact absurd h5 hy2
theorem cntP_del (p : Int → Bool) (n v : Int) (hn : p n = true) : ∀ l : List ApiEdge, cntP p l v = cntP (fun x => !decide (n = x) && p x) l v + l.countP fun e => decide (e.From = n) && decide (e.To = v)
  | [] => rfl
  | e :: l => by
    have ih := cntP_del p n v hn l
    unfold cntP at ih ⊢
    simp only [List.countP_cons]
    rw [ih]
    by_cases h1 : e.To = v <;> by_cases h2 : e.From = n
    · subst h2; simp [h1, hn]; omega
    · have : ¬ n = e.From := fun h => h2 h.symm
      simp [h1, h2, this]; omega
    · simp [h1]
    · simp [h1]
theorem order_b3 {l : List ApiEdge} (hl : l.length ≤ 100000) {m : List (Int × Int)} {out : List Int} (h : OInv l m out) {y : Int × Bool} (hy : mhas m y.1 = true) (h0 : mget 0 m y.1 = 0) :
    ∃ m', forIx (graph_Order_b3 y) 0 l (mdel m y.1) = some (.next m') ∧ OInv l m' (out ++ [y.1]) ∧ m'.length + 1 = m.length := by
  have free := (h.zero hy).1 h0
  have noSelf : ∀ e ∈ l, e.From = y.1 → e.To ≠ y.1 := fun e he h1 h2 => by
    have := free e he h2
    rw [h1] at this
    exact h.apart _ hy this
  have dk : ∀ n, mhas (mdel m y.1) n = (!decide (y.1 = n) && mhas m n) := mhas_mdel h.nodup y.1
  obtain ⟨m', e, k1, k2⟩ := forIx_run (ρ := Out (List (Int × Int) × List Int) (List Int × Int)) (step := graph_Order_b3 y) (l := l) (s := mdel m y.1) (fun k m' => mkeys m' = mkeys (mdel m y.1) ∧ ∀ v, mget 0 m' v = mget 0 (mdel m y.1) v - ((l.take k).countP fun e => decide (e.From = y.1) && decide (e.To = v) : Nat))
    ⟨rfl, fun v => by simp⟩ (fun k e m' hk ⟨i1, i2⟩ => by
    have he := List.mem_of_getElem? hk
    have hlt := (List.getElem?_eq_some_iff.1 hk).1
    unfold graph_Order_b3
    by_cases hf : e.From = y.1
    · rw [decide_eq_true hf, cond_true]
      have hto : mhas m e.To = true := h.up e he (by rw [hf]; exact hy)
      have hne := noSelf e he hf
      have hcnt : ∀ v, (l.take k).countP (fun e => decide (e.From = y.1) && decide (e.To = v)) ≤ 100000 := fun v => Nat.le_trans List.countP_le_length (by simp; omega)
      have hg : -200000 ≤ mget 0 m' e.To ∧ mget 0 m' e.To ≤ 200000 := by
        rw [i2, mget_mdel 0 h.nodup, if_neg (fun hh => hne hh.symm), h.get _ hto]
        have := cntP_le (mhas m) l e.To
        have := hcnt e.To
        omega
      rw [wrap_s (by omega)]
      have hin : e.To ∈ mkeys m' := by
        rw [i1, ← mhas_iff, dk, hto]
        simp; exact fun hh => hne hh.symm
      refine ⟨_, rfl, by rw [mset_keys, if_pos hin, i1], fun v => ?_⟩
      rw [mget_mset, take_succ_some hk, List.countP_append]
      by_cases hv : e.To = v
      · subst hv; rw [if_pos rfl, i2]; simp [hf]; omega
      · rw [if_neg hv, i2]; simp [hf, hv]
    · rw [decide_eq_false hf, cond_false]
      refine ⟨_, rfl, i1, fun v => ?_⟩
      rw [i2, take_succ_some hk, List.countP_append]; simp [hf])
  rw [List.take_length] at k2
  have hhas : ∀ n, mhas m' n = (!decide (y.1 = n) && mhas m n) := fun n => by
    rw [← dk, Bool.eq_iff_iff, mhas_iff, mhas_iff, k1]
  have hfun : mhas m' = fun x => !decide (y.1 = x) && mhas m x := funext hhas
  refine ⟨m', e, ⟨by rw [k1]; exact mdel_nodup h.nodup _, fun n hn => ?_, fun e he hf => ?_, fun n => ?_, fun n hn => ?_⟩, ?_⟩
  · rw [hhas] at hn
    simp only [Bool.and_eq_true, Bool.not_eq_true', decide_eq_false_iff_not] at hn
    rw [k2, mget_mdel 0 h.nodup, if_neg hn.1, h.get n hn.2, hfun, cntP_del (mhas m) y.1 n hy l]
    omega
  · rw [hhas] at hf ⊢
    simp only [Bool.and_eq_true, Bool.not_eq_true', decide_eq_false_iff_not] at hf ⊢
    refine ⟨fun hh => ?_, h.up e he hf.2⟩
    have := free e he hh.symm
    exact h.apart _ hf.2 this
  · rw [h.part n, hhas]
    simp only [Bool.and_eq_true, Bool.not_eq_true', decide_eq_false_iff_not, List.mem_append, List.mem_singleton]
    constructor
    · rintro (h1 | h1)
      · by_cases h2 : y.1 = n
        · exact .inr (.inr h2.symm)
        · exact .inl ⟨h2, h1⟩
      · exact .inr (.inl h1)
    · rintro (h1 | h1 | h1)
      · exact .inl h1.2
      · exact .inr h1
      · exact .inl (by rw [h1]; exact hy)
  · rw [hhas] at hn
    simp only [Bool.and_eq_true, Bool.not_eq_true', decide_eq_false_iff_not] at hn
    simp only [List.mem_append, List.mem_singleton]
    rintro (h1 | h1)
    · exact h.apart n hn.2 h1
    · exact hn.1 h1.symm
  · have a := congrArg List.length k1
    rw [mdel_keys, List.length_erase_of_mem ((mhas_iff _ _).1 hy)] at a
    have : 0 < (mkeys m).length := List.length_pos_of_mem ((mhas_iff _ _).1 hy)
    simp [mkeys] at a this
    omega
/-- Order answers what is said of it. -/
theorem order_eq {l : List ApiEdge} (hl : l.length ≤ 100000) : ∃ r, graph_Order l = some r ∧ OrdRes l [] r := by
  obtain ⟨m, e, h1, h2, h3⟩ := order_start hl
  have i0 : OInv l m [] := by
    refine ⟨h1, fun n hn => ?_, fun e he _ => (h2 _).2 ⟨e, he, .inr rfl⟩, fun n => by rw [h2]; simp, fun n hn => by simp⟩
    rw [h3]
    have : cntP (fun _ => true) l n = cntP (mhas m) l n := by
      unfold cntP
      refine List.countP_congr fun e he => ?_
      rw [(h2 e.From).2 ⟨e, he, .inl rfl⟩]
    rw [this]
  have hsz : ∀ m out, OInv l m out → m.length ≤ 200000 := by
    intro m out h
    have key : ∀ {a b : List Int}, a.Nodup → (∀ x ∈ a, x ∈ b) → a.length ≤ b.length := by
      intro a
      induction a with
      | nil => intro b _ _; exact Nat.zero_le _
      | cons x a ih =>
        intro b hn hs
        rw [List.nodup_cons] at hn
        have hx := hs x (by simp)
        have := ih (b := b.erase x) hn.2 fun y hy => (List.mem_erase_of_ne (fun (e : y = x) => hn.1 (e ▸ hy))).2 (hs y (List.mem_cons_of_mem _ hy))
        rw [List.length_erase_of_mem hx] at this
        have : 0 < b.length := List.length_pos_of_mem hx
        simp only [List.length_cons]; omega
    have := key (b := l.map (·.From) ++ l.map (·.To)) h.nodup fun n hn => by
      obtain ⟨e, he, hh⟩ := (h.part n).2 (.inl ((mhas_iff _ _).2 hn))
      rcases hh with rfl | rfl
      · exact List.mem_append.2 (.inl (List.mem_map_of_mem he))
      · exact List.mem_append.2 (.inr (List.mem_map_of_mem he))
    simp [mkeys] at this
    omega
  have := whileN_inv (step := graph_Order_b2 l) (fun st => OInv l st.1 st.2 ∧ st.2.length + st.1.length ≤ 200000 ∧ ∀ r, OrdRes l st.2 r → OrdRes l [] r) (fun r => OrdRes l [] r) (fun st => st.1.length) (fun st ⟨hi, hlen, hk⟩ => by
    obtain ⟨m, out⟩ := st
    simp only at hi hlen hk
    unfold graph_Order_b2
    simp only
    by_cases hz : (0 : Int) < ((m.length : Nat) : Int)
    · rw [decide_eq_true hz, cond_true]
      obtain ⟨r, hr, hf⟩ := free_eq m
      rw [hr, Option.bind_some]
      rcases hi.next hf with ⟨r2, r3, r4, r5⟩ | ⟨r2, r3⟩
      · obtain ⟨m', e', i', hl'⟩ := order_b3 hl hi r3 r4
        rw [r2]
        simp only [Bool.not_true, cond_false]
        rw [chk_ok (by omega), e']
        exact .inl ⟨(m', out ++ [r.1]), rfl, ⟨i', by simp; omega, fun r' h' => hk r' (.step r5 h')⟩, by simp only; omega⟩
      · rw [r2]
        refine .inr ⟨_, rfl, hk _ (.stuck (fun hd => ?_) r3)⟩
        match m, hz with
        | p :: m, _ =>
          have : mhas (p :: m) p.1 = true := (mhas_iff _ _).2 (by simp [mkeys])
          exact hi.apart _ this (hd _ ((hi.part _).2 (.inl this)))
    · rw [decide_eq_false hz, cond_false]
      have : m = [] := List.length_eq_zero_iff.1 (by omega)
      subst this
      refine .inr ⟨_, rfl, hk _ (.done fun n hn => ?_)⟩
      rcases (hi.part n).1 hn with h | h
      · simp [mhas] at h
      · exact h) fuel (m, []) ⟨i0, by have := hsz m [] i0; simp; omega, fun r h => h⟩ (by have := hsz m [] i0; show m.length < 1099511627776; omega)
  obtain ⟨r, h4, h5⟩ := this
  refine ⟨r, ?_, h5⟩
  unfold graph_Order
  rw [e]
  show graph_Order_j1 l m = _
  unfold graph_Order_j1
  rw [h4]; rfl
/-- Where each edge leads to a greater rank, there is an order. -/
theorem OrdRes.ranked {l : List ApiEdge} (rank : Int → Int) (hr : ∀ e ∈ l, rank e.From < rank e.To) {out : List Int} {r : List Int × Int} (h : OrdRes l out r) : r.2 = 0 := by
  induction h with
  | done => rfl
  | step _ _ ih => exact ih
  | @stuck out hn hs =>
    exfalso
    obtain ⟨n, hn⟩ := Classical.not_forall.1 hn
    obtain ⟨hn, hno⟩ := Classical.not_imp.1 hn
    -- among the nodes that are not placed: those of the least rank, of these the least
    let L := (l.map (·.From) ++ l.map (·.To)).filter fun x => decide (x ∉ out)
    have memL : ∀ x, x ∈ L ↔ IsNode l x ∧ x ∉ out := by
      intro x
      simp only [L, List.mem_filter, List.mem_append, List.mem_map, decide_eq_true_eq]
      constructor
      · rintro ⟨⟨e, he, rfl⟩ | ⟨e, he, rfl⟩, h⟩
        · exact ⟨⟨e, he, .inl rfl⟩, h⟩
        · exact ⟨⟨e, he, .inr rfl⟩, h⟩
      · rintro ⟨⟨e, he, rfl | rfl⟩, h⟩
        · exact ⟨.inl ⟨e, he, rfl⟩, h⟩
        · exact ⟨.inr ⟨e, he, rfl⟩, h⟩
    have minOf : ∀ (f : Int → Int) (L : List Int), L ≠ [] → ∃ x ∈ L, ∀ y ∈ L, f x ≤ f y := by
      intro f L
      induction L with
      | nil => intro h; exact absurd rfl h
      | cons a L ih =>
        intro _
        by_cases hL : L = []
        · subst hL; exact ⟨a, by simp, by simp⟩
        · obtain ⟨x, hx, hm⟩ := ih hL
          by_cases h : f a ≤ f x
          · refine ⟨a, by simp, fun y hy => ?_⟩
            rcases List.mem_cons.1 hy with rfl | hy
            · exact Int.le_refl _
            · have := hm y hy; omega
          · refine ⟨x, List.mem_cons_of_mem _ hx, fun y hy => ?_⟩
            rcases List.mem_cons.1 hy with rfl | hy
            · omega
            · exact hm y hy
    obtain ⟨x, hx, hm⟩ := minOf rank L (List.ne_nil_of_mem ((memL n).2 ⟨hn, hno⟩))
    have freeX : ∀ e ∈ l, e.To = x → e.From ∈ out := by
      intro e he ht
      by_cases h : e.From ∈ out
      · exact h
      · have := hm e.From ((memL _).2 ⟨⟨e, he, .inl rfl⟩, h⟩)
        have := hr e he
        rw [ht] at this; omega
    let F := L.filter fun y => decide (∀ e ∈ l, e.To = y → e.From ∈ out)
    have memF : ∀ y, y ∈ F ↔ (IsNode l y ∧ y ∉ out) ∧ ∀ e ∈ l, e.To = y → e.From ∈ out := by
      intro y
      simp only [F, List.mem_filter, memL, decide_eq_true_eq]
    obtain ⟨z, hz, hzm⟩ := minOf id F (List.ne_nil_of_mem ((memF x).2 ⟨(memL x).1 hx, freeX⟩))
    obtain ⟨⟨z1, z2⟩, z3⟩ := (memF z).1 hz
    exact hs z ⟨z1, z2, z3, fun y y1 y2 y3 => hzm y ((memF y).2 ⟨⟨y1, y2⟩, y3⟩)⟩
end Go.Proofs.Ytabfjapdbelcoaa
