/-
  The reference of layer 5 in plain Lean: Without, Order, Right.
-/
import Derived.Test.YtabfjapdbelcoaaL9
import Derived.Test.YtabfjapdbelcoaaSkXA
namespace Go.Proofs.Ytabfjapdbelcoaa
open Go Go.Ab
set_option linter.unusedSimpArgs false
set_option linter.unusedVariables false

theorem rSameEdges_eq (a b : List ApiEdge) : ref05_SameEdges a b = some (decide (a = b)) :=
  same_len fun k x y hx hy => by
    unfold ref05_SameEdges_b1; rw [idxL_nat hy, Option.bind_some]
    obtain ⟨a, b, c, d⟩ := x
    obtain ⟨a', b', c', d'⟩ := y
    simp only
    have : (!((decide (a = a')) && ((decide (b = b')) && ((decide (c = c')) && (decide (d = d')))))) = decide ((ApiEdge.mk a b c d) ≠ (ApiEdge.mk a' b' c' d')) := by
      rw [Bool.eq_iff_iff]; simp [ApiEdge.mk.injEq]
    rw [this]

theorem rWithout_eq {l : List ApiEdge} (hl : l.length ≤ 100000) (ids : List Int) : ref05_Without l ids = some (wout l ids) := by
  unfold ref05_Without
  rw [forIx_collect (fun e => !decide (e.ID ∈ ids)) id (by omega) (fun k x s hx => by unfold ref05_Without_b1; rw [rHas_eq]; rfl)]
  simp [Out.on, wout]

/-! ### Order -/
theorem rFree_eq (l : List ApiEdge) (placed : List Int) (node : Int) : ref05_free l placed node = some (decide (∀ e ∈ l, e.To = node → e.From ∈ placed)) := by
  unfold ref05_free
  rw [all_loop (fun e => !decide (e.To = node) || decide (e.From ∈ placed)) (fun k x hx => by
    unfold ref05_free_b1
    by_cases h : x.To = node
    · rw [decide_eq_true h, rHas_eq]
      by_cases h2 : x.From ∈ placed <;> simp [h2]
    · rw [decide_eq_false h]; rfl)]
  rw [Option.some.injEq, Bool.eq_iff_iff, List.all_eq_true, decide_eq_true_eq]
  constructor
  · intro h e he ht
    have := h e he
    simpa [ht] using this
  · intro h e he
    by_cases ht : e.To = node
    · simp [ht, h e he ht]
    · simp [ht]
theorem rOrder_b1 {l : List ApiEdge} {nodes out : List Int} (hn : Inc nodes) (hm : ∀ n, n ∈ nodes ↔ IsNode l n) (hlen : nodes.length ≤ 200000) (ho : out.length < nodes.length) :
    (∃ x, NextNode l out x ∧ ref05_Order_b1 l nodes out = some (.next (out ++ [x]))) ∨ ((∀ x, ¬ NextNode l out x) ∧ ref05_Order_b1 l nodes out = some (.ret ([], 16))) := by
  have hpw := List.pairwise_iff_getElem.1 hn
  unfold ref05_Order_b1
  rw [decide_eq_true (show ((out.length : Nat) : Int) < ((nodes.length : Nat) : Int) by omega), cond_true]
  obtain ⟨r, h1, h2⟩ := whileN_inv (step := ref05_Order_b2 l nodes out) (fun st => 0 ≤ st.1 ∧ st.1 ≤ (nodes.length : Int) ∧ ((st.2 = out ∧ ∀ (j : Nat) n, (j : Int) < st.1 → nodes[j]? = some n → ¬ (n ∉ out ∧ ∀ e ∈ l, e.To = n → e.From ∈ out)) ∨ ∃ x, st.2 = out ++ [x] ∧ NextNode l out x))
    (fun r => (∃ x, NextNode l out x ∧ r = .next (out ++ [x])) ∨ ((∀ x, ¬ NextNode l out x) ∧ r = .ret ([], 16))) (fun st => (nodes.length - st.1).toNat) (fun st ⟨i1, i2, i3⟩ => by
      obtain ⟨i, o⟩ := st
      simp only at i1 i2 i3 ⊢
      obtain ⟨k, rfl⟩ : ∃ k : Nat, i = (k : Int) := ⟨i.toNat, by omega⟩
      unfold ref05_Order_b2
      simp only [cond_false]
      rcases i3 with ⟨rfl, i3⟩ | ⟨x, rfl, hx⟩
      · have e0 : decide (((o.length : Nat) : Int) = ((o.length : Nat) : Int)) = true := decide_eq_true rfl
        by_cases hk : (k : Int) < (nodes.length : Int)
        · have hkl : k < nodes.length := by omega
          rw [decide_eq_true hk, cond_true, e0, cond_true, idxL_lt hkl, Option.bind_some, rHas_eq, Option.bind_some, rFree_eq, Option.bind_some, wrap_add1 (by omega)]
          by_cases c1 : nodes[k] ∈ o
          · rw [decide_eq_true c1]
            refine .inl ⟨_, rfl, ⟨by simp only; omega, by simp only; omega, .inl ⟨rfl, fun j n hj hn => ?_⟩⟩, by simp only; omega⟩
            by_cases hjk : j = k
            · subst hjk
              rw [List.getElem?_eq_getElem hkl] at hn; obtain rfl := Option.some.inj hn
              exact fun h => h.1 c1
            · exact i3 j n (by simp only at hj; omega) hn
          · rw [decide_eq_false c1, Bool.not_false, cond_true]
            by_cases c2 : ∀ e ∈ l, e.To = nodes[k] → e.From ∈ o
            · rw [decide_eq_true c2, cond_true, chk_ok (by omega)]
              refine .inl ⟨_, rfl, ⟨by simp only; omega, by simp only; omega, .inr ⟨nodes[k], rfl, (hm _).1 (List.getElem_mem _), c1, c2, fun y y1 y2 y3 => ?_⟩⟩, by simp only; omega⟩
              obtain ⟨j, hj, rfl⟩ := List.getElem_of_mem ((hm y).2 y1)
              rcases Nat.lt_trichotomy j k with h | h | h
              · exact absurd ⟨y2, y3⟩ (i3 j _ (by omega) (List.getElem?_eq_getElem hj))
              · subst h; exact Int.le_refl _
              · have := hpw k j hkl hj h; omega
            · rw [decide_eq_false c2, cond_false]
              refine .inl ⟨_, rfl, ⟨by simp only; omega, by simp only; omega, .inl ⟨rfl, fun j n hj hn => ?_⟩⟩, by simp only; omega⟩
              by_cases hjk : j = k
              · subst hjk
                rw [List.getElem?_eq_getElem hkl] at hn; obtain rfl := Option.some.inj hn
                exact fun h => c2 h.2
              · exact i3 j n (by simp only at hj; omega) hn
        · rw [decide_eq_false hk, cond_false, e0, cond_true]
          refine .inr ⟨_, rfl, .inr ⟨fun x hx => ?_, rfl⟩⟩
          obtain ⟨j, hj, rfl⟩ := List.getElem_of_mem ((hm x).2 hx.node)
          exact i3 j _ (by omega) (List.getElem?_eq_getElem hj) ⟨hx.new, hx.free⟩
      · have e0 : decide ((((out ++ [x]).length : Nat) : Int) = ((out.length : Nat) : Int)) = false := decide_eq_false (by simp; omega)
        rw [e0]
        simp only [cond_false]
        refine .inr ⟨.next (out ++ [x]), ?_, .inl ⟨x, hx, rfl⟩⟩
        cases decide ((k : Int) < ((nodes.length : Nat) : Int)) <;> rfl) fuel (0, out) ⟨by simp, by simp, .inl ⟨rfl, fun j n h => by simp only at h; omega⟩⟩ (by show _ < 1099511627776; simp only; omega)
  rw [h1]
  rcases h2 with ⟨x, hx, rfl⟩ | ⟨hx, rfl⟩
  · exact .inl ⟨x, hx, rfl⟩
  · exact .inr ⟨hx, rfl⟩
theorem rOrder_eq {l : List ApiEdge} (hl : l.length ≤ 100000) : ∃ r, ref05_Order l = some r ∧ OrdRes l [] r := by
  obtain ⟨nodes, h1, h2, h3, h4⟩ := rNodes_eq hl
  unfold ref05_Order
  rw [h1, Option.bind_some]
  obtain ⟨r, g1, g2⟩ := whileN_inv (step := ref05_Order_b1 l nodes) (fun out => out.Nodup ∧ (∀ n ∈ out, IsNode l n) ∧ ∀ r, OrdRes l out r → OrdRes l [] r) (fun r => OrdRes l [] r) (fun out => nodes.length - out.length) (fun out ⟨i1, i2, i3⟩ => by
    by_cases hlt : out.length < nodes.length
    · rcases rOrder_b1 h2 h3 h4 hlt with ⟨x, hx, e⟩ | ⟨hx, e⟩
      · refine .inl ⟨_, e, ⟨?_, fun n hn => ?_, fun r hr => i3 r (.step hx hr)⟩, by simp; omega⟩
        · rw [List.nodup_append]
          refine ⟨i1, by simp, fun a ha b hb => ?_⟩
          simp at hb; subst hb
          exact fun e => hx.new (e ▸ ha)
        · rcases List.mem_append.1 hn with hn | hn
          · exact i2 n hn
          · simp at hn; subst hn; exact hx.node
      · refine .inr ⟨_, e, i3 _ (.stuck (fun hd => ?_) hx)⟩
        have := nodup_len h2.nodup (b := out) fun n hn => hd n ((h3 n).1 hn)
        omega
    · refine .inr ⟨(out, 0), ?_, i3 _ (.done fun n hn => ?_)⟩
      · unfold ref05_Order_b1
        rw [decide_eq_false (by omega)]; rfl
      · refine Classical.byContradiction fun hno => ?_
        have hnd : (n :: out).Nodup := List.nodup_cons.2 ⟨hno, i1⟩
        have := nodup_len hnd (b := nodes) fun m hm => by
          rcases List.mem_cons.1 hm with rfl | hm
          · exact (h3 _).2 hn
          · exact (h3 _).2 (i2 m hm)
        simp at this; omega) fuel [] ⟨by simp, by simp, fun r h => h⟩ (by show _ < 1099511627776; simp; omega)
  rw [g1]
  exact ⟨r, rfl, g2⟩

/-! ### Right -/
theorem GErr.unique {l : List ApiEdge} {r r' : Int} (h : GErr l r) (h' : GErr l r') : r = r' := by
  have pre : ∀ {k k' : Nat} {e e' : ApiEdge}, k < k' → l[k]? = some e → (∀ x ∈ l.take k', EdgeIn x) → ((l.take k').map (·.ID)).Nodup → EdgeIn e ∧ ¬ e.ID ∈ (l.take k).map (·.ID) := by
    intro k k' e e' hk he h1 h2
    have hlt := (List.getElem?_eq_some_iff.1 he).1
    have hmem : e ∈ l.take k' := by
      obtain ⟨_, rfl⟩ := List.getElem?_eq_some_iff.1 he
      exact List.mem_take_iff_getElem.2 ⟨k, by omega, rfl⟩
    refine ⟨h1 e hmem, fun hd => ?_⟩
    have hsub : (l.take (k + 1)).map (·.ID) = (l.take k).map (·.ID) ++ [e.ID] := by rw [take_succ_some he]; simp
    have : ((l.take (k + 1)).map (·.ID)).Nodup := by
      have e2 : l.take (k + 1) = (l.take k').take (k + 1) := by rw [List.take_take, Nat.min_eq_left (by omega)]
      rw [e2, List.map_take]
      exact h2.sublist (List.take_sublist _ _)
    rw [hsub, List.nodup_append] at this
    exact this.2.2 _ hd _ (by simp) rfl
  have ok : ∀ {k : Nat} {e : ApiEdge}, GraphOK l → l[k]? = some e → EdgeIn e ∧ ¬ e.ID ∈ (l.take k).map (·.ID) := by
    intro k e g he
    have hlt := (List.getElem?_eq_some_iff.1 he).1
    exact pre (e' := e) hlt he (fun x hx => g.edges x (List.mem_of_mem_take hx)) (by rw [List.take_length]; exact g.ids)
  cases h with
  | long h =>
    cases h' with
    | long => rfl
    | range k e h1 => omega
    | twice k e h1 => omega
    | ok g => have := g.len; omega
  | range k e h1 h2 h3 h4 h5 =>
    cases h' with
    | long => omega
    | range => rfl
    | twice k' e' g1 g2 g3 g4 g5 g6 =>
      exfalso
      rcases Nat.lt_trichotomy k k' with h | h | h
      · exact h5 (pre (e' := e) h h4 g2 g3).1
      · subst h; rw [h4] at g4; obtain rfl := Option.some.inj g4; exact h5 g5
      · exact (pre (e' := e) h g4 h2 h3).2 g6
    | ok g => exact absurd (ok g h4).1 h5
  | twice k e h1 h2 h3 h4 h5 h6 =>
    cases h' with
    | long => omega
    | range k' e' g1 g2 g3 g4 g5 =>
      exfalso
      rcases Nat.lt_trichotomy k k' with h | h | h
      · exact (pre (e' := e) h h4 g2 g3).2 h6
      · subst h; rw [h4] at g4; obtain rfl := Option.some.inj g4; exact g5 h5
      · exact g5 (pre (e' := e) h g4 h2 h3).1
    | twice => rfl
    | ok g => exact absurd h6 (ok g h4).2
  | ok g =>
    cases h' with
    | long => have := g.len; omega
    | range k' e' g1 g2 g3 g4 g5 => exact absurd (ok g g4).1 g5
    | twice k' e' g1 g2 g3 g4 g5 g6 => exact absurd g6 (ok g g4).2
    | ok => rfl
theorem rright_err (l : List ApiEdge) : ∃ r, ref05_Right l = some r ∧ GErr l r := by
  unfold ref05_Right
  by_cases h : (200 : Int) < ((l.length : Nat) : Int)
  · rw [decide_eq_true h]; exact ⟨4, rfl, .long (by omega)⟩
  rw [decide_eq_false h, cond_false]
  have hl : l.length ≤ 200 := by omega
  have inner : ∀ {k : Nat} {e : ApiEdge}, l[k]? = some e → ((forN (ref05_Right_b2 l e) k () : Option (Out Unit (Out Unit Int))) = some (.next ()) ∧ ¬ e.ID ∈ (l.take k).map (·.ID)) ∨ ((forN (ref05_Right_b2 l e) k () : Option (Out Unit (Out Unit Int))) = some (.ret (.ret 7)) ∧ e.ID ∈ (l.take k).map (·.ID)) := by
    intro k e hk
    have hlt := (List.getElem?_eq_some_iff.1 hk).1
    rcases forN_inv (step := ref05_Right_b2 l e) (s := ()) (n := k) (by omega) (fun j _ => ∀ i x, i < j → l[i]? = some x → x.ID ≠ e.ID) (fun r => r = .ret 7 ∧ e.ID ∈ (l.take k).map (·.ID)) (fun i x h => by omega) (fun j u hj hI => by
      have hx : l[j]? = some l[j] := List.getElem?_eq_getElem (by omega)
      unfold ref05_Right_b2
      rw [idxL_nat hx, Option.bind_some]
      by_cases hd : l[j].ID = e.ID
      · rw [decide_eq_true hd]
        refine .inr ⟨_, rfl, rfl, ?_⟩
        rw [← hd]
        exact List.mem_map_of_mem (List.mem_take_iff_getElem.2 ⟨j, by omega, rfl⟩)
      · rw [decide_eq_false hd]
        refine .inl ⟨(), rfl, fun i x hi hx' => ?_⟩
        by_cases h : i = j
        · subst h; rw [hx] at hx'; obtain rfl := Option.some.inj hx'; exact hd
        · exact hI i x (by omega) hx') with ⟨u, h1, h2⟩ | ⟨r, h1, rfl, h2⟩
    · refine .inl ⟨h1, fun hm => ?_⟩
      obtain ⟨x, hx, hxe⟩ := List.mem_map.1 hm
      obtain ⟨i, hi, rfl⟩ := List.mem_take_iff_getElem.1 hx
      exact h2 i _ (by omega) (List.getElem?_eq_getElem (by omega)) hxe
    · exact .inr ⟨h1, h2⟩
  have step : ∀ (k : Nat) (e : ApiEdge), l[k]? = some e → ref05_Right_b1 l k e () = if EdgeIn e then (if e.ID ∈ (l.take k).map (·.ID) then some (Out.ret 7) else some (Out.next ())) else some (Out.ret 2) := by
    intro k e hk
    unfold ref05_Right_b1
    by_cases h1 : e.From < 0
    · rw [if_neg (fun h => by have := h.from0; omega), decide_eq_true h1]; rfl
    by_cases h2 : 9999 < e.From
    · rw [if_neg (fun h => by have := h.from1; omega), decide_eq_false h1, decide_eq_true h2]; rfl
    by_cases h3 : e.To < 0
    · rw [if_neg (fun h => by have := h.to0; omega), decide_eq_false h1, decide_eq_false h2, decide_eq_true h3]; rfl
    by_cases h4 : 9999 < e.To
    · rw [if_neg (fun h => by have := h.to1; omega), decide_eq_false h1, decide_eq_false h2, decide_eq_false h3, decide_eq_true h4]; rfl
    by_cases h5 : e.Cost < 0
    · rw [if_neg (fun h => by have := h.cost0; omega), decide_eq_false h1, decide_eq_false h2, decide_eq_false h3, decide_eq_false h4, decide_eq_true h5]; rfl
    by_cases h6 : 1000000 < e.Cost
    · rw [if_neg (fun h => by have := h.cost1; omega), decide_eq_false h1, decide_eq_false h2, decide_eq_false h3, decide_eq_false h4, decide_eq_false h5, decide_eq_true h6]; rfl
    rw [if_pos ⟨by omega, by omega, by omega, by omega, by omega, by omega⟩, decide_eq_false h1, decide_eq_false h2, decide_eq_false h3, decide_eq_false h4, decide_eq_false h5, decide_eq_false h6]
    simp only [cond_false]
    rcases inner hk with ⟨g1, g2⟩ | ⟨g1, g2⟩
    · rw [g1, if_neg g2]; rfl
    · rw [g1, if_pos g2]; rfl
  rcases forIx_inv (step := ref05_Right_b1 l) (l := l) (s := ()) (fun k m => (∀ x ∈ l.take k, EdgeIn x) ∧ ((l.take k).map (·.ID)).Nodup) (fun r => GErr l r) ⟨by simp, by simp⟩ (fun k e m hk ⟨i1, i2⟩ => by
    rw [step k e hk]
    by_cases he : EdgeIn e
    · rw [if_pos he]
      by_cases hd : e.ID ∈ (l.take k).map (·.ID)
      · rw [if_pos hd]; exact .inr ⟨7, rfl, .twice k e hl i1 i2 hk he hd⟩
      · rw [if_neg hd]
        refine .inl ⟨_, rfl, fun x hx => ?_, ?_⟩
        · rw [take_succ_some hk] at hx
          rcases List.mem_append.1 hx with hx | hx
          · exact i1 x hx
          · simp at hx; subst hx; exact he
        · rw [take_succ_some hk, List.map_append, List.nodup_append]
          refine ⟨i2, by simp, fun a ha b hb => ?_⟩
          simp at hb; subst hb
          exact fun e' => hd (e' ▸ ha)
    · rw [if_neg he]; exact .inr ⟨2, rfl, .range k e hl i1 i2 hk he⟩) with ⟨m, e, i1, i2⟩ | ⟨r, e, hr⟩
  · rw [e]
    rw [List.take_length] at i1 i2
    exact ⟨0, rfl, .ok ⟨hl, i1, i2⟩⟩
  · rw [e]; exact ⟨r, rfl, hr⟩
end Go.Proofs.Ytabfjapdbelcoaa
