/-
  The search of layer 6 in plain Lean: what one edge does to the nodes that are reached, and what holds of them.
-/
import Derived.Test.YtacfmeobdobhhaaL2
namespace Go.Proofs.Ytacfmeobdobhhaa
open Go Go.Ab
set_option linter.unusedSimpArgs false
set_option linter.unusedVariables false

/-- more can be carried from a to b: along an edge with room, or against one that carries -/
def Res (l : List ApiEdge) (f : List Int) (a b : Int) : Prop := ∃ (k : Nat) (e : ApiEdge) (x : Int), l[k]? = some e ∧ f[k]? = some x ∧ ((e.From = a ∧ e.To = b ∧ x < e.Cost) ∨ (e.To = a ∧ e.From = b ∧ 0 < x))
inductive Rch (l : List ApiEdge) (f : List Int) (s : Int) : Int → Prop
  | start : Rch l f s s
  | step {a b : Int} : Rch l f s a → Res l f a b → Rch l f s b
theorem Rch.closed {l : List ApiEdge} {f : List Int} {s : Int} {S : Int → Bool} (hs : S s = true) (hc : ∀ a b, S a = true → Res l f a b → S b = true) {n : Int} (h : Rch l f s n) : S n = true := by
  induction h with
  | start => exact hs
  | step _ hr ih => exact hc _ _ ih hr
/-- a set that is closed is saturated, and the other way -/
theorem sat_of_closed {l : List ApiEdge} {f : List Int} {S : Int → Bool} (hw : Within l f) (hc : ∀ a b, S a = true → Res l f a b → S b = true) : Saturated S l f := by
  intro k e x he hx
  have hr := hw.rng k e x he hx
  refine ⟨fun h1 h2 => ?_, fun h1 h2 => ?_⟩
  · by_cases h : x < e.Cost
    · have := hc _ _ h1 ⟨k, e, x, he, hx, .inl ⟨rfl, rfl, h⟩⟩
      rw [h2] at this; cases this
    · omega
  · by_cases h : 0 < x
    · have := hc _ _ h2 ⟨k, e, x, he, hx, .inr ⟨rfl, rfl, h⟩⟩
      rw [h1] at this; cases this
    · omega
theorem closed_of_sat {l : List ApiEdge} {f : List Int} {S : Int → Bool} (h : Saturated S l f) : ∀ a b, S a = true → Res l f a b → S b = true := by
  rintro a b ha ⟨k, e, x, he, hx, ⟨rfl, rfl, hlt⟩ | ⟨rfl, rfl, hlt⟩⟩
  · cases hb : S e.To with
    | true => rfl
    | false => have := (h k e x he hx).1 ha hb; omega
  · cases hb : S e.From with
    | true => rfl
    | false => have := (h k e x he hx).2 hb ha; omega

/-- the state of the program's search: how each node was reached, and the nodes that are open -/
abbrev SSt := List (Int × FlowMove) × List Int
def add1 (n : Int) (k : Nat) (e : ApiEdge) (x : Int) (st : SSt) : SSt :=
  if e.From = n ∧ mhas st.1 e.To = false ∧ x < e.Cost then (mset st.1 e.To ⟨(k : Int), true⟩, st.2 ++ [e.To]) else st
def add2 (n : Int) (k : Nat) (e : ApiEdge) (x : Int) (st : SSt) : SSt :=
  if e.To = n ∧ mhas st.1 e.From = false ∧ 0 < x then (mset st.1 e.From ⟨(k : Int), false⟩, st.2 ++ [e.From]) else st
theorem room_fwd {l : List ApiEdge} {f : List Int} {k : Nat} {e : ApiEdge} {x : Int} (he : l[k]? = some e) (hx : f[k]? = some x) (hb : 0 ≤ x ∧ x ≤ e.Cost) (hc : e.Cost ≤ 1000000) : flow_room l f ⟨(k : Int), true⟩ = some (e.Cost - x) := by
  unfold flow_room
  simp only [idxL_nat he, idxL_nat hx, Option.bind_some, cond_true]
  rw [wrap_60 (by omega)]
theorem room_bwd {l : List ApiEdge} {f : List Int} {k : Nat} {x : Int} (hx : f[k]? = some x) : flow_room l f ⟨(k : Int), false⟩ = some x := by
  unfold flow_room
  simp only [idxL_nat hx, Option.bind_some, cond_false]

theorem find_j4 {l : List ApiEdge} {f : List Int} {n : Int} {k : Nat} {e : ApiEdge} {x : Int} (hx : f[k]? = some x) (m : List (Int × FlowMove)) (o : List Int) (ho : o.length ≤ 100000) :
    flow_Find_j4 l f n k e m o = some (.next (add2 n k e x (m, o))) := by
  unfold flow_Find_j4 add2
  rw [room_bwd hx]
  by_cases h1 : e.To = n <;> cases h2 : mhas m e.From <;> by_cases h3 : 0 < x <;> simp [h1, h2, h3, chk_ok (show o.length + 1 ≤ 549755813888 by omega)]
theorem find_b3 {l : List ApiEdge} {f : List Int} {n : Int} {k : Nat} {e : ApiEdge} {x : Int} (he : l[k]? = some e) (hx : f[k]? = some x) (hb : 0 ≤ x ∧ x ≤ e.Cost) (hc : e.Cost ≤ 1000000) (st : SSt) (ho : st.2.length + 1 ≤ 100000) :
    flow_Find_b3 l f n k e st = some (.next (add2 n k e x (add1 n k e x st))) := by
  unfold flow_Find_b3 add1
  rw [room_fwd he hx hb hc]
  by_cases h1 : e.From = n <;> cases h2 : mhas st.1 e.To <;> by_cases h3 : x < e.Cost <;>
    simp [h1, h2, h3, chk_ok (show st.2.length + 1 ≤ 549755813888 by omega)] <;>
    exact find_j4 hx _ _ (by first | omega | (simp; omega))

theorem mset_new {β : Type} : ∀ {m : List (Int × β)} {k : Int} (v : β), mhas m k = false → mset m k v = m ++ [(k, v)]
  | [], k, v, _ => rfl
  | (j, u) :: r, k, v, h => by
    simp only [mhas] at h
    by_cases e : j = k
    · rw [if_pos e] at h; cases h
    · rw [if_neg e] at h
      rw [mset, if_neg e, mset_new v h]; rfl
theorem mkeys_app {β : Type} (a b : List (Int × β)) : mkeys (a ++ b) = mkeys a ++ mkeys b := by simp [mkeys]
theorem mkeys_len {β : Type} (a : List (Int × β)) : (mkeys a).length = a.length := by simp [mkeys]
theorem nodup_sub : ∀ {a b : List Int}, a.Nodup → (∀ x ∈ a, x ∈ b) → a.length ≤ b.length
  | [], _, _, _ => Nat.zero_le _
  | x :: a, b, h, hs => by
    rw [List.nodup_cons] at h
    have hx := hs x (by simp)
    have := nodup_sub (a := a) (b := b.erase x) h.2 fun y hy => (List.mem_erase_of_ne (fun (e : y = x) => h.1 (e ▸ hy))).2 (hs y (List.mem_cons_of_mem _ hy))
    rw [List.length_erase_of_mem hx] at this
    have : 0 < b.length := List.length_pos_of_mem hx
    simp only [List.length_cons]; omega

/-- the move leads from p to n, and can carry more -/
def MoveTo (l : List ApiEdge) (f : List Int) (mv : FlowMove) (p n : Int) : Prop := ∃ (k : Nat) (e : ApiEdge) (x : Int), mv.edge = (k : Int) ∧ l[k]? = some e ∧ f[k]? = some x ∧ ((mv.forward = true ∧ e.From = p ∧ e.To = n ∧ x < e.Cost) ∨ (mv.forward = false ∧ e.To = p ∧ e.From = n ∧ 0 < x))
theorem MoveTo.res {l : List ApiEdge} {f : List Int} {mv : FlowMove} {p n : Int} (h : MoveTo l f mv p n) : Res l f p n := by
  obtain ⟨k, e, x, _, h1, h2, ⟨_, h3⟩ | ⟨_, h3⟩⟩ := h
  · exact ⟨k, e, x, h1, h2, .inl h3⟩
  · exact ⟨k, e, x, h1, h2, .inr h3⟩
/-- what holds of the search's state -/
structure SInv (l : List ApiEdge) (f : List Int) (s : Int) (st : SSt) : Prop where
  nodup : (mkeys st.1).Nodup
  start : ∃ r, st.1 = (s, ⟨0, false⟩) :: r
  split : ∃ pre, mkeys st.1 = pre ++ st.2
  rch : ∀ n, mhas st.1 n = true → Rch l f s n
  ord : ∀ (i : Nat) (n : Int) (mv : FlowMove), st.1[i + 1]? = some (n, mv) → ∃ p, MoveTo l f mv p n ∧ p ∈ (mkeys st.1).take (i + 1)
theorem SInv.put {l : List ApiEdge} {f : List Int} {s p n : Int} {st : SSt} (h : SInv l f s st) (hp : mhas st.1 p = true) (hn : mhas st.1 n = false) {mv : FlowMove} (hm : MoveTo l f mv p n) :
    SInv l f s (mset st.1 n mv, st.2 ++ [n]) := by
  have e := mset_new mv hn
  obtain ⟨r, hr⟩ := h.start
  obtain ⟨pre, hpre⟩ := h.split
  refine ⟨mset_nodup h.nodup _ _, ⟨r ++ [(n, mv)], by show mset _ _ _ = _; rw [e, hr]; rfl⟩, ⟨pre, by show mkeys (mset _ _ _) = _; rw [e, mkeys_app, hpre, List.append_assoc]; rfl⟩, fun m hm' => ?_, fun i m mv' hi => ?_⟩
  · change mhas (mset _ _ _) _ = true at hm'
    rw [mhas_mset, Bool.or_eq_true] at hm'
    rcases hm' with hm' | hm'
    · obtain rfl := of_decide_eq_true hm'
      exact .step (h.rch p hp) hm.res
    · exact h.rch m hm'
  · change (mset _ _ _)[i + 1]? = _ at hi
    show ∃ p, _ ∧ p ∈ (mkeys (mset _ _ _)).take (i + 1)
    rw [e] at hi ⊢
    rw [mkeys_app]
    by_cases hlt : i + 1 < st.1.length
    · rw [List.getElem?_append_left hlt] at hi
      obtain ⟨p', h1, h2⟩ := h.ord i m mv' hi
      exact ⟨p', h1, by rw [List.take_append_of_le_length (by rw [mkeys_len]; omega)]; exact h2⟩
    · rw [List.getElem?_append_right (by omega)] at hi
      have h0 : i + 1 - st.1.length = 0 := by
        have := (List.getElem?_eq_some_iff.1 hi).1
        simp at this; omega
      rw [h0] at hi
      simp at hi
      obtain ⟨rfl, rfl⟩ := hi
      refine ⟨p, hm, ?_⟩
      have : i + 1 = (mkeys st.1).length := by rw [mkeys_len]; omega
      rw [this, List.take_left]
      exact (mhas_iff _ _).1 hp
theorem SInv.add1 {l : List ApiEdge} {f : List Int} {s n : Int} {st : SSt} (h : SInv l f s st) (hn : mhas st.1 n = true) {k : Nat} {e : ApiEdge} {x : Int} (he : l[k]? = some e) (hx : f[k]? = some x) : SInv l f s (add1 n k e x st) ∧ mhas (add1 n k e x st).1 n = true := by
  unfold Go.Proofs.Ytacfmeobdobhhaa.add1
  split
  · rename_i hc
    exact ⟨h.put hn hc.2.1 ⟨k, e, x, rfl, he, hx, .inl ⟨rfl, hc.1, rfl, hc.2.2⟩⟩, by rw [mhas_mset, hn]; simp⟩
  · exact ⟨h, hn⟩
theorem SInv.add2 {l : List ApiEdge} {f : List Int} {s n : Int} {st : SSt} (h : SInv l f s st) (hn : mhas st.1 n = true) {k : Nat} {e : ApiEdge} {x : Int} (he : l[k]? = some e) (hx : f[k]? = some x) : SInv l f s (add2 n k e x st) ∧ mhas (add2 n k e x st).1 n = true := by
  unfold Go.Proofs.Ytacfmeobdobhhaa.add2
  split
  · rename_i hc
    exact ⟨h.put hn hc.2.1 ⟨k, e, x, rfl, he, hx, .inr ⟨rfl, hc.1, rfl, hc.2.2⟩⟩, by rw [mhas_mset, hn]; simp⟩
  · exact ⟨h, hn⟩
/-- what was reached stays, at the end stand the new ones, and they are open -/
def Adds (st st' : SSt) (c : Nat) : Prop := ∃ new, st'.1 = st.1 ++ new ∧ st'.2 = st.2 ++ mkeys new ∧ new.length ≤ c
theorem Adds.trans {a b c : SSt} {i j : Nat} (h : Adds a b i) (h' : Adds b c j) : Adds a c (i + j) := by
  obtain ⟨n, h1, h2, h3⟩ := h
  obtain ⟨n', h4, h5, h6⟩ := h'
  exact ⟨n ++ n', by rw [h4, h1, List.append_assoc], by rw [h5, h2, mkeys_app, List.append_assoc], by simp; omega⟩
theorem Adds.zero (a : SSt) : Adds a a 0 := ⟨[], by simp, by simp [mkeys], by simp⟩
theorem add1_adds (n : Int) (k : Nat) (e : ApiEdge) (x : Int) (st : SSt) : Adds st (add1 n k e x st) 1 := by
  unfold add1; split
  · rename_i hc
    exact ⟨[(e.To, ⟨(k : Int), true⟩)], mset_new _ hc.2.1, rfl, by simp⟩
  · exact ⟨[], by simp, by simp [mkeys], by simp⟩
theorem add2_adds (n : Int) (k : Nat) (e : ApiEdge) (x : Int) (st : SSt) : Adds st (add2 n k e x st) 1 := by
  unfold add2; split
  · rename_i hc
    exact ⟨[(e.From, ⟨(k : Int), false⟩)], mset_new _ hc.2.1, rfl, by simp⟩
  · exact ⟨[], by simp, by simp [mkeys], by simp⟩
theorem mhas_app {β : Type} (a b : List (Int × β)) (n : Int) : mhas (a ++ b) n = true ↔ mhas a n = true ∨ mhas b n = true := by
  rw [mhas_iff, mhas_iff, mhas_iff, mkeys_app, List.mem_append]
theorem Adds.mono {st st' : SSt} {c : Nat} (h : Adds st st' c) {m : Int} (hm : mhas st.1 m = true) : mhas st'.1 m = true := by
  obtain ⟨n, h1, _⟩ := h
  rw [h1, mhas_app]; exact .inl hm
/-- behind the step the edge leads nowhere new -/
theorem add_done {n : Int} {k : Nat} {e : ApiEdge} {x : Int} (st : SSt) :
    (e.From = n → x < e.Cost → mhas (add2 n k e x (add1 n k e x st)).1 e.To = true) ∧ (e.To = n → 0 < x → mhas (add2 n k e x (add1 n k e x st)).1 e.From = true) := by
  constructor
  · intro h1 h2
    refine (add2_adds _ _ _ _ _).mono ?_
    unfold add1
    by_cases h3 : mhas st.1 e.To = false
    · rw [if_pos ⟨h1, h3, h2⟩, mhas_mset]; simp
    · rw [if_neg (fun h => h3 h.2.1)]; simpa using h3
  · intro h1 h2
    unfold add2
    by_cases h3 : mhas (add1 n k e x st).1 e.From = false
    · rw [if_pos ⟨h1, h3, h2⟩, mhas_mset]; simp
    · rw [if_neg (fun h => h3 h.2.1)]; simpa using h3
/-- what one pass over the edges does for the node n -/
structure Pass (l : List ApiEdge) (f : List Int) (s n : Int) (k : Nat) (st st' : SSt) : Prop where
  inv : SInv l f s st'
  has : mhas st'.1 n = true
  adds : Adds st st' (2 * k)
  done : ∀ (i : Nat) e x, i < k → l[i]? = some e → f[i]? = some x → (e.From = n → x < e.Cost → mhas st'.1 e.To = true) ∧ (e.To = n → 0 < x → mhas st'.1 e.From = true)
theorem Pass.zero {l : List ApiEdge} {f : List Int} {s n : Int} {st : SSt} (h : SInv l f s st) (hn : mhas st.1 n = true) : Pass l f s n 0 st st := ⟨h, hn, .zero _, fun i e x hi => by omega⟩
theorem Pass.next {l : List ApiEdge} {f : List Int} {s n : Int} {k : Nat} {st st' : SSt} (h : Pass l f s n k st st') {e : ApiEdge} {x : Int} (he : l[k]? = some e) (hx : f[k]? = some x) : Pass l f s n (k + 1) st (add2 n k e x (add1 n k e x st')) := by
  have a := h.inv.add1 h.has he hx
  have b := a.1.add2 a.2 he hx
  have s1 := (add1_adds n k e x st').trans (add2_adds n k e x (add1 n k e x st'))
  have d := add_done (n := n) (k := k) (e := e) (x := x) st'
  refine ⟨b.1, b.2, h.adds.trans s1, fun i e' x' hi he' hx' => ?_⟩
  by_cases hh : i = k
  · subst hh
    rw [he] at he'; rw [hx] at hx'
    obtain rfl := Option.some.inj he'; obtain rfl := Option.some.inj hx'
    exact d
  · have := h.done i e' x' (by omega) he' hx'
    exact ⟨fun h1 h2 => s1.mono (this.1 h1 h2), fun h1 h2 => s1.mono (this.2 h1 h2)⟩
/-- the search, whole: behind it all that can be reached is reached -/
structure Srch (l : List ApiEdge) (f : List Int) (s : Int) (st : SSt) : Prop extends SInv l f s st where
  cl : ∀ n, mhas st.1 n = true → n ∉ st.2 → ∀ b, Res l f n b → mhas st.1 b = true
theorem Srch.init (l : List ApiEdge) (f : List Int) (s : Int) : Srch l f s ([(s, ⟨0, false⟩)], [s]) := by
  refine ⟨⟨by simp [mkeys], ⟨[], rfl⟩, ⟨[], rfl⟩, fun n hn => ?_, fun i n mv h => by simp at h⟩, fun n hn ho => ?_⟩
  · simp [mhas] at hn; subst hn; exact .start
  · simp [mhas] at hn; subst hn; simp at ho
theorem Rch.nodes {l : List ApiEdge} {f : List Int} {s n : Int} (h : Rch l f s n) : n ∈ s :: (l.map (·.From) ++ l.map (·.To)) := by
  cases h with
  | start => simp
  | step _ hr =>
    obtain ⟨k, e, x, he, _, ⟨_, rfl, _⟩ | ⟨_, rfl, _⟩⟩ := hr
    · exact List.mem_cons_of_mem _ (List.mem_append.2 (.inr (List.mem_map_of_mem (List.mem_of_getElem? he))))
    · exact List.mem_cons_of_mem _ (List.mem_append.2 (.inl (List.mem_map_of_mem (List.mem_of_getElem? he))))
theorem SInv.size {l : List ApiEdge} {f : List Int} {s : Int} {st : SSt} (hl : EdgesOK l) (h : SInv l f s st) : st.1.length ≤ 121 ∧ st.2.length ≤ st.1.length := by
  have h60 := hl.1
  have a := nodup_sub h.nodup (b := s :: (l.map (·.From) ++ l.map (·.To))) fun x hx => (h.rch x ((mhas_iff _ _).2 hx)).nodes
  obtain ⟨pre, hp⟩ := h.split
  have b := congrArg List.length hp
  rw [mkeys_len] at a b
  simp at a b
  omega
theorem SInv.opn {l : List ApiEdge} {f : List Int} {s : Int} {st : SSt} (h : SInv l f s st) {n : Int} (hn : n ∈ st.2) : mhas st.1 n = true := by
  obtain ⟨pre, hp⟩ := h.split
  rw [mhas_iff, hp, List.mem_append]; exact .inr hn
/-- one open node less -/
theorem SInv.pop {l : List ApiEdge} {f : List Int} {s n : Int} {m : List (Int × FlowMove)} {o : List Int} (h : SInv l f s (m, n :: o)) : SInv l f s (m, o) := by
  obtain ⟨pre, hp⟩ := h.split
  exact ⟨h.nodup, h.start, ⟨pre ++ [n], by rw [hp, List.append_assoc]; rfl⟩, h.rch, h.ord⟩
/-- the whole pass for the first open node -/
theorem Srch.pass {l : List ApiEdge} {f : List Int} {s n : Int} {m : List (Int × FlowMove)} {o : List Int} {st' : SSt} (hw : Within l f) (h : Srch l f s (m, n :: o)) (hp : Pass l f s n l.length (m, o) st') :
    Srch l f s st' ∧ st'.1.length - st'.2.length = m.length - o.length := by
  obtain ⟨new, h1, h2, h3⟩ := hp.adds
  refine ⟨⟨hp.inv, fun a ha hno b hr => ?_⟩, ?_⟩
  · rw [h1, mhas_app] at ha
    rcases ha with ha | ha
    · by_cases e : a = n
      · subst e
        obtain ⟨k, e, x, he, hx, ⟨h4, rfl, h5⟩ | ⟨h4, rfl, h5⟩⟩ := hr
        · exact (hp.done k e x (List.getElem?_eq_some_iff.1 he).1 he hx).1 h4 h5
        · exact (hp.done k e x (List.getElem?_eq_some_iff.1 he).1 he hx).2 h4 h5
      · refine hp.adds.mono (h.cl a ha (fun hm => ?_) b hr)
        rcases List.mem_cons.1 hm with hm | hm
        · exact e hm
        · exact hno (by rw [h2]; exact List.mem_append.2 (.inl hm))
    · exact absurd (by rw [h2]; exact List.mem_append.2 (.inr ((mhas_iff _ _).1 ha))) hno
  · have a := congrArg List.length h1
    have b := congrArg List.length h2
    simp [mkeys_len] at a b
    omega
/-- Where t was not reached, there is a cut that is saturated. -/
theorem Srch.cut {l : List ApiEdge} {f : List Int} {s t : Int} {m : List (Int × FlowMove)} (hw : Within l f) (h : Srch l f s (m, [])) (ht : mhas m t = false) : ∃ S : Int → Bool, S s = true ∧ S t = false ∧ Saturated S l f := by
  obtain ⟨r, hr⟩ := h.start
  refine ⟨mhas m, ?_, ht, sat_of_closed hw fun a b ha hb => h.cl a ha (by simp) b hb⟩
  have : m = _ := hr
  rw [this]; simp [mhas]
theorem Srch.all {l : List ApiEdge} {f : List Int} {s : Int} {m : List (Int × FlowMove)} (h : Srch l f s (m, [])) (n : Int) : mhas m n = true ↔ Rch l f s n := by
  refine ⟨h.rch n, fun hr => ?_⟩
  obtain ⟨r, hr'⟩ := h.start
  refine hr.closed (S := mhas m) ?_ fun a b ha hb => h.cl a ha (by simp) b hb
  have : m = _ := hr'
  rw [this]; simp [mhas]
end Go.Proofs.Ytacfmeobdobhhaa
