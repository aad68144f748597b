/-
  The way back along the moves, and what carrying more along it does to a flow; plain Lean.
-/
import Derived.Test.YtacfmeobdobhhaaL3
namespace Go.Proofs.Ytacfmeobdobhhaa
open Go Go.Ab
set_option linter.unusedSimpArgs false
set_option linter.unusedVariables false

/-- the moves by which the node at a place of the map was reached, the last one first -/
inductive Way (l : List ApiEdge) (f : List Int) (m : List (Int × FlowMove)) (s : Int) : Nat → Int → List FlowMove → Prop
  | nil : Way l f m s 0 s []
  | cons {i j : Nat} {n p : Int} {mv : FlowMove} {ms : List FlowMove} : m[i]? = some (n, mv) → MoveTo l f mv p n → j < i → Way l f m s j p ms → Way l f m s i n (mv :: ms)
theorem keys_get {β : Type} {m : List (Int × β)} {i : Nat} {n : Int} {b : β} (h : m[i]? = some (n, b)) : (mkeys m)[i]? = some n := by simp [mkeys, h]
theorem SInv.way {l : List ApiEdge} {f : List Int} {s : Int} {st : SSt} (h : SInv l f s st) : ∀ (i : Nat) (n : Int), (mkeys st.1)[i]? = some n → ∃ ms, Way l f st.1 s i n ms := by
  intro i
  induction i using Nat.strongRecOn with
  | ind i ih =>
    intro n hi
    match i, hi, ih with
    | 0, hi, _ =>
      obtain ⟨r, hr⟩ := h.start
      rw [hr] at hi
      simp [mkeys] at hi
      subst hi
      exact ⟨[], .nil⟩
    | i + 1, hi, ih =>
      have hlt := (List.getElem?_eq_some_iff.1 hi).1
      rw [mkeys_len] at hlt
      have h1 : st.1[i + 1]? = some st.1[i + 1] := List.getElem?_eq_getElem hlt
      have h2 := keys_get (n := st.1[i + 1].1) (b := st.1[i + 1].2) h1
      rw [hi] at h2
      obtain rfl := Option.some.inj h2
      obtain ⟨p, hm, hp⟩ := h.ord i _ _ h1
      obtain ⟨j, hj, hp⟩ := List.getElem_of_mem hp
      simp at hj
      have h3 : (mkeys st.1)[j]? = some p := by
        rw [List.getElem_take] at hp
        rw [← hp]; exact List.getElem?_eq_getElem (by omega)
      obtain ⟨ms, hw⟩ := ih j (by omega) p h3
      exact ⟨_, .cons h1 hm (by omega) hw⟩
theorem Way.len {l : List ApiEdge} {f : List Int} {m : List (Int × FlowMove)} {s : Int} {i : Nat} {n : Int} {ms : List FlowMove} (h : Way l f m s i n ms) : ms.length ≤ i := by
  induction h with
  | nil => simp
  | cons _ _ hj _ ih => simp only [List.length_cons]; omega
theorem Way.get {l : List ApiEdge} {f : List Int} {s : Int} {st : SSt} (hs : SInv l f s st) {i : Nat} {n : Int} {ms : List FlowMove} (h : Way l f st.1 s i n ms) : (mkeys st.1)[i]? = some n := by
  cases h with
  | nil => obtain ⟨r, hr⟩ := hs.start; rw [hr]; simp [mkeys]
  | cons h1 _ _ _ => exact keys_get h1
theorem nodup_get {L : List Int} (h : L.Nodup) {i j : Nat} {n : Int} (hi : L[i]? = some n) (hj : L[j]? = some n) : i = j := by
  have h1 := (List.getElem?_eq_some_iff.1 hi).1
  exact (List.getElem?_inj h1 h).1 (hi.trans hj.symm)
/-- both ends of an edge on the way are keys at a place not behind the node's -/
theorem Way.ends {l : List ApiEdge} {f : List Int} {s : Int} {st : SSt} (hs : SInv l f s st) {i : Nat} {n : Int} {ms : List FlowMove} (h : Way l f st.1 s i n ms) :
    ∀ mv ∈ ms, ∀ (k : Nat) e, mv.edge = (k : Int) → l[k]? = some e → ∀ v, (v = e.From ∨ v = e.To) → ∃ j, j ≤ i ∧ (mkeys st.1)[j]? = some v := by
  induction h with
  | nil => simp
  | @cons i j n p mv ms h1 h2 hj hw ih =>
    intro mv' hm k e hk he v hv
    rcases List.mem_cons.1 hm with rfl | hm
    · obtain ⟨k', e', x, hk', he', _, ⟨_, hf, ht, _⟩ | ⟨_, hf, ht, _⟩⟩ := h2 <;>
      · have : k = k' := by omega
        subst this
        rw [he] at he'
        obtain rfl := Option.some.inj he'
        rcases hv with rfl | rfl
        · first
            | exact ⟨i, Nat.le_refl _, ht ▸ keys_get h1⟩
            | exact ⟨j, by omega, hf ▸ hw.get hs⟩
        · first
            | exact ⟨i, Nat.le_refl _, ht ▸ keys_get h1⟩
            | exact ⟨j, by omega, hf ▸ hw.get hs⟩
    · obtain ⟨j', hj', e⟩ := ih mv' hm k e hk he v hv
      exact ⟨j', by omega, e⟩

/-- a way back from n to s in which no edge stands twice -/
inductive Back (l : List ApiEdge) (f : List Int) (s : Int) : Int → List FlowMove → Prop
  | nil : Back l f s s []
  | cons {n p : Int} {mv : FlowMove} {ms : List FlowMove} : MoveTo l f mv p n → (∀ mv' ∈ ms, mv'.edge ≠ mv.edge) → Back l f s p ms → Back l f s n (mv :: ms)
theorem Way.back {l : List ApiEdge} {f : List Int} {s : Int} {st : SSt} (hs : SInv l f s st) {i : Nat} {n : Int} {ms : List FlowMove} (h : Way l f st.1 s i n ms) : Back l f s n ms := by
  induction h with
  | nil => exact .nil
  | @cons i j n p mv ms h1 h2 hj hw ih =>
    refine .cons h2 (fun mv' hm he => ?_) ih
    obtain ⟨k, e, x, hk, he', _, hv⟩ := h2
    have : n = e.From ∨ n = e.To := by
      rcases hv with ⟨_, _, h, _⟩ | ⟨_, _, h, _⟩
      · exact .inr h.symm
      · exact .inl h.symm
    obtain ⟨j', hj', e2⟩ := hw.ends hs mv' hm k e (he.trans hk) he' n this
    have := nodup_get hs.nodup e2 (keys_get h1)
    omega

/-- how much more a move can carry -/
def roomP (l : List ApiEdge) (f : List Int) (mv : FlowMove) : Int := if mv.forward = true then ((l[mv.edge.toNat]?.getD ⟨0, 0, 0, 0⟩).Cost - f[mv.edge.toNat]?.getD 0) else f[mv.edge.toNat]?.getD 0
/-- x more is carried along a move -/
def augM (x : Int) (f : List Int) (mv : FlowMove) : List Int := f.set mv.edge.toNat (f[mv.edge.toNat]?.getD 0 + if mv.forward = true then x else -x)
theorem netL_set : ∀ (l : List ApiEdge) (f : List Int) (k : Nat) (e : ApiEdge) (x y n : Int), l[k]? = some e → f[k]? = some x → netL l (f.set k y) n = netL l f n + (con e y n - con e x n)
  | [], f, k, e, x, y, n, h, _ => by simp at h
  | a :: l, [], k, e, x, y, n, _, h => by simp at h
  | a :: l, b :: f, 0, e, x, y, n, h, h' => by
    simp at h h'; subst h h'
    simp only [List.set_cons_zero, netL]; omega
  | a :: l, b :: f, k + 1, e, x, y, n, h, h' => by
    have := netL_set l f k e x y n (by simpa using h) (by simpa using h')
    simp only [List.set_cons_succ, netL, this]; omega
theorem MoveTo.room {l : List ApiEdge} {f : List Int} {mv : FlowMove} {p n : Int} (h : MoveTo l f mv p n) : 0 < roomP l f mv := by
  obtain ⟨k, e, x, hk, he, hx, ⟨hf, _, _, hr⟩ | ⟨hf, _, _, hr⟩⟩ := h <;> simp [roomP, hk, he, hx, hf] <;> omega
theorem augM_len (x : Int) (f : List Int) (mv : FlowMove) : (augM x f mv).length = f.length := by simp [augM]
theorem augM_get (x : Int) (f : List Int) (mv : FlowMove) (k : Nat) (h : mv.edge ≠ (k : Int)) (h0 : 0 ≤ mv.edge) : (augM x f mv)[k]? = f[k]? := by
  unfold augM
  rw [List.getElem?_set_ne (by omega)]
theorem MoveTo.aug {l : List ApiEdge} {f : List Int} {mv mv' : FlowMove} {p n : Int} (h : MoveTo l f mv' p n) (h0 : 0 ≤ mv.edge) (hne : mv'.edge ≠ mv.edge) (x : Int) : MoveTo l (augM x f mv) mv' p n ∧ roomP l (augM x f mv) mv' = roomP l f mv' := by
  obtain ⟨k, e, y, hk, he, hx, hv⟩ := h
  have hg : (augM x f mv)[k]? = f[k]? := augM_get x f mv k (by omega) h0
  refine ⟨⟨k, e, y, hk, he, hg.trans hx, hv⟩, ?_⟩
  unfold roomP
  rw [hk, Int.toNat_natCast, hg]
theorem Back.aug1 {l : List ApiEdge} {f : List Int} {s n : Int} {ms : List FlowMove} (h : Back l f s n ms) {mv : FlowMove} (h0 : 0 ≤ mv.edge) (hne : ∀ mv' ∈ ms, mv'.edge ≠ mv.edge) (x : Int) : Back l (augM x f mv) s n ms := by
  induction h with
  | nil => exact .nil
  | cons h1 h2 h3 ih => exact .cons (h1.aug h0 (hne _ (by simp)) x).1 h2 (ih fun mv' hm => hne mv' (List.mem_cons_of_mem _ hm))
theorem Back.moves {l : List ApiEdge} {f : List Int} {s n : Int} {ms : List FlowMove} (h : Back l f s n ms) : ∀ mv ∈ ms, ∃ p q, MoveTo l f mv p q := by
  induction h with
  | nil => simp
  | cons h1 _ _ ih =>
    intro mv hm
    rcases List.mem_cons.1 hm with rfl | hm
    · exact ⟨_, _, h1⟩
    · exact ih mv hm
theorem con_diff (e : ApiEdge) (y x n : Int) : con e y n - con e x n = con e (y - x) n := by
  unfold con; split <;> split <;> omega
theorem MoveTo.step {l : List ApiEdge} {f : List Int} {mv : FlowMove} {p n : Int} (hw : Within l f) (h : MoveTo l f mv p n) {x : Int} (h0 : 0 ≤ x) (hx : x ≤ roomP l f mv) :
    Within l (augM x f mv) ∧ ∀ v, netL l (augM x f mv) v = netL l f v + (if v = p then x else 0) - (if v = n then x else 0) := by
  obtain ⟨k, e, y, hk, he, hy, hv⟩ := h
  have hy0 := hw.rng k e y he hy
  have ha : augM x f mv = f.set k (y + if mv.forward = true then x else -x) := by unfold augM; rw [hk, Int.toNat_natCast, hy]; rfl
  constructor
  · refine ⟨by rw [augM_len, hw.len], fun i e' z he' hz => ?_⟩
    rw [ha, List.getElem?_set] at hz
    split at hz
    · rename_i hki; subst hki
      rw [he] at he'; obtain rfl := Option.some.inj he'
      split at hz
      · obtain rfl := Option.some.inj hz
        unfold roomP at hx
        rw [hk, Int.toNat_natCast, he, hy] at hx
        rcases hv with ⟨hf, _⟩ | ⟨hf, _⟩ <;> simp [hf] at hx ⊢ <;> omega
      · cases hz
    · exact hw.rng i e' z he' hz
  · intro v
    rw [ha, netL_set l f k e y _ v he hy, con_diff]
    rcases hv with ⟨hf, rfl, rfl, _⟩ | ⟨hf, rfl, rfl, _⟩ <;> simp only [hf, con, if_true, Bool.false_eq_true, if_false, eq_comm (a := v)] <;> split <;> split <;> omega
theorem Back.aug {l : List ApiEdge} {s : Int} {ms : List FlowMove} {x : Int} (h0 : 0 ≤ x) : ∀ {f : List Int} {n : Int}, Within l f → Back l f s n ms → (∀ mv ∈ ms, x ≤ roomP l f mv) →
    Within l (ms.foldl (augM x) f) ∧ ∀ v, netL l (ms.foldl (augM x) f) v = netL l f v + (if v = s then x else 0) - (if v = n then x else 0) := by
  induction ms with
  | nil =>
    intro f n hw hb hx
    cases hb
    exact ⟨hw, fun v => by simp⟩
  | cons mv ms ih =>
    intro f n hw hb hx
    cases hb with
    | cons h1 h2 h3 =>
      have hs := h1.step hw h0 (hx mv (by simp))
      have hk : 0 ≤ mv.edge := by obtain ⟨k, _, _, hk, _⟩ := h1; omega
      have := ih (f := augM x f mv) hs.1 (h3.aug1 hk h2 x) fun mv' hm => by
        obtain ⟨p', q', hm'⟩ := h3.moves mv' hm
        rw [(hm'.aug hk (h2 mv' hm) x).2]; exact hx mv' (List.mem_cons_of_mem _ hm)
      refine ⟨this.1, fun v => ?_⟩
      have a := this.2 v
      have b := hs.2 v
      rw [List.foldl_cons, a, b]
      omega
theorem foldl_aug_len (x : Int) : ∀ (ms : List FlowMove) (f : List Int), (ms.foldl (augM x) f).length = f.length
  | [], f => rfl
  | mv :: ms, f => by rw [List.foldl_cons, foldl_aug_len x ms, augM_len]

/-- the least room of the moves, and of a start -/
def bott (l : List ApiEdge) (f : List Int) (ms : List FlowMove) (a : Int) : Int := ms.foldl (fun a mv => if roomP l f mv < a then roomP l f mv else a) a
theorem bott_le (l : List ApiEdge) (f : List Int) : ∀ (ms : List FlowMove) (a : Int), bott l f ms a ≤ a ∧ ∀ mv ∈ ms, bott l f ms a ≤ roomP l f mv
  | [], a => ⟨Int.le_refl _, by simp⟩
  | mv :: ms, a => by
    have ih := bott_le l f ms (if roomP l f mv < a then roomP l f mv else a)
    unfold bott at ih ⊢
    rw [List.foldl_cons]
    refine ⟨?_, fun mv' hm => ?_⟩
    · have := ih.1; split at this <;> rename_i h <;> simp only [h, if_true, if_false] <;> omega
    · rcases List.mem_cons.1 hm with rfl | hm
      · have := ih.1; split at this <;> rename_i h <;> simp only [h, if_true, if_false] <;> omega
      · exact ih.2 mv' hm
theorem bott_pos (l : List ApiEdge) (f : List Int) : ∀ (ms : List FlowMove) (a : Int), 0 < a → (∀ mv ∈ ms, 0 < roomP l f mv) → 0 < bott l f ms a
  | [], a, h, _ => h
  | mv :: ms, a, h, hm => by
    unfold bott
    rw [List.foldl_cons]
    refine bott_pos l f ms _ ?_ fun mv' hm' => hm mv' (List.mem_cons_of_mem _ hm')
    split
    · exact hm mv (by simp)
    · exact h
/-- a greater flow -/
def Better (l : List ApiEdge) (s t : Int) (f g : List Int) : Prop := Flow l g s t ∧ netL l f s < netL l g s
theorem Back.better {l : List ApiEdge} {f : List Int} {s t : Int} {ms : List FlowMove} (hst : s ≠ t) (hf : Flow l f s t) (hb : Back l f s t ms) {a : Int} (ha : 0 < a) : Better l s t f (ms.foldl (augM (bott l f ms a)) f) := by
  have hpos := bott_pos l f ms a ha fun mv hm => by obtain ⟨p, q, h⟩ := hb.moves mv hm; exact h.room
  have := hb.aug (by omega) hf.within (bott_le l f ms a).2
  refine ⟨⟨this.1, fun e he n hn h1 h2 => ?_⟩, ?_⟩
  · rw [this.2 n, if_neg h1, if_neg h2, hf.bal e he n hn h1 h2]; rfl
  · rw [this.2 s, if_pos rfl, if_neg hst]; omega
/-- a flow with a cut that is saturated -/
def Top (l : List ApiEdge) (s t : Int) (f : List Int) : Prop := Flow l f s t ∧ ∃ S : Int → Bool, S s = true ∧ S t = false ∧ Saturated S l f
theorem zeros_flow {l : List ApiEdge} (hl : EdgesOK l) (s t : Int) : Flow l (List.replicate l.length 0) s t ∧ ∀ n, netL l (List.replicate l.length 0) n = 0 := by
  have hz : ∀ (l : List ApiEdge) n, netL l (List.replicate l.length 0) n = 0 := by
    intro l n
    induction l with
    | nil => rfl
    | cons e l ih => simp only [List.length_cons, List.replicate_succ, netL, ih, con]; simp
  refine ⟨⟨⟨by simp, fun k e x he hx => ?_⟩, fun e he n _ _ _ => hz l n⟩, hz l⟩
  have := (hl.2 e (List.mem_of_getElem? he)).cost0
  rw [List.getElem?_replicate] at hx
  split at hx
  · obtain rfl := Option.some.inj hx; omega
  · cases hx
theorem climb {l : List ApiEdge} (hl : EdgesOK l) {s t : Int} {step : List Int → Option (Out (List Int) (List Int))}
    (hs : ∀ f, Flow l f s t → (∃ g, step f = some (.next g) ∧ Better l s t f g) ∨ (∃ g, step f = some (.ret g) ∧ Top l s t g)) : ∃ g, whileN step fuel (List.replicate l.length 0) = some (.ret g) ∧ Top l s t g := by
  have h60 := hl.1
  have z := zeros_flow hl s t
  refine whileN_inv (fun f => Flow l f s t) (Top l s t) (fun f => (60000000 - netL l f s).toNat) (fun f hf => ?_) fuel _ z.1 ?_
  · rcases hs f hf with ⟨g, h1, h2, h3⟩ | h
    · refine .inl ⟨g, h1, h2, ?_⟩
      have b := netL_bound h2.within.len (h2.within.le hl) s l.length (Nat.le_refl _)
      rw [List.take_length, ← h2.within.len, List.take_length, h2.within.len] at b
      omega
    · exact .inr h
  · show (60000000 - netL l (List.replicate l.length 0) s).toNat < 1099511627776
    rw [z.2]; omega
end Go.Proofs.Ytacfmeobdobhhaa
