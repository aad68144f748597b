/-
  Layer 6: what Find and Cut of the program answer, in plain Lean.
-/
import Derived.Test.YtacfmeobdobhhaaL4
namespace Go.Proofs.Ytacfmeobdobhhaa
open Go Go.Ab
set_option linter.unusedSimpArgs false
set_option linter.unusedVariables false

theorem find_pass {l : List ApiEdge} {f : List Int} (hl : EdgesOK l) (hw : Within l f) {s n : Int} {st : SSt} (h : SInv l f s st) (hn : mhas st.1 n = true) :
    ∃ st', forIx (flow_Find_b3 l f n) 0 l st = some (.next st') ∧ Pass l f s n l.length st st' := by
  have hlen := hw.len
  refine forIx_run (step := flow_Find_b3 l f n) (l := l) (s := st) (fun k st' => Pass l f s n k st st') (.zero h hn) fun k e st' hk hI => ?_
  have hlt := (List.getElem?_eq_some_iff.1 hk).1
  have hx : f[k]? = some f[k] := List.getElem?_eq_getElem (by omega)
  have := hI.inv.size hl
  exact ⟨_, find_b3 hk hx (hw.rng k e _ hk hx) (hl.2 e (List.mem_of_getElem? hk)).cost1 st' (by omega), hI.next hk hx⟩

theorem MoveTo.flowRoom {l : List ApiEdge} {f : List Int} {mv : FlowMove} {p n : Int} (hl : EdgesOK l) (hw : Within l f) (h : MoveTo l f mv p n) : flow_room l f mv = some (roomP l f mv) := by
  obtain ⟨k, e, x, hk, he, hx, hv⟩ := h
  have h1 := hw.rng k e x he hx
  have h2 := (hl.2 e (List.mem_of_getElem? he)).cost1
  obtain ⟨ed, fw⟩ := mv
  simp only at hk; subst hk
  cases fw with
  | true => rw [room_fwd he hx h1 h2]; simp [roomP, he, hx]
  | false => rw [room_bwd hx]; simp [roomP, hx]
theorem Way.mv {l : List ApiEdge} {f : List Int} {s : Int} {st : SSt} (hs : SInv l f s st) {i : Nat} {n : Int} {mv : FlowMove} {ms : List FlowMove} (h : Way l f st.1 s i n (mv :: ms)) :
    n ≠ s ∧ (∀ d, mget d st.1 n = mv) ∧ ∃ j p, MoveTo l f mv p n ∧ Way l f st.1 s j p ms := by
  have hg := h.get hs
  cases h with
  | @cons _ j _ p _ _ h1 h2 hj hw =>
    refine ⟨fun e => ?_, fun d => (mem_entry (d := d) hs.nodup _ (List.mem_of_getElem? h1)).2, j, p, h2, hw⟩
    subst e
    obtain ⟨r, hr⟩ := hs.start
    have : (mkeys st.1)[0]? = some n := by rw [hr]; simp [mkeys]
    have := nodup_get hs.nodup hg this
    omega
theorem other_end {l : List ApiEdge} {f : List Int} {mv : FlowMove} {p n : Int} (h : MoveTo l f mv p n) {ρ : Type} (g : Int → Option ρ) :
    (bif mv.forward then (idxL l mv.edge).bind fun x => g x.From else (idxL l mv.edge).bind fun x => g x.To) = g p := by
  obtain ⟨k, e, x, hk, he, hx, ⟨hf, rfl, _, _⟩ | ⟨hf, rfl, _, _⟩⟩ := h <;> rw [hf, hk, idxL_nat he] <;> rfl

theorem find_b6 {l : List ApiEdge} {f g : List Int} {s n : Int} {st : SSt} (hl : EdgesOK l) (hs : SInv l f s st) {i : Nat} {mv : FlowMove} {ms : List FlowMove} (h : Way l f st.1 s i n (mv :: ms)) {x : Int} (hw : Within l g) {p : Int}
    (hm : MoveTo l f mv p n) (hg : MoveTo l g mv p n) (h0 : 0 ≤ x) (hx : x ≤ roomP l g mv) : flow_Find_b6 l s st.1 x (n, g) = some (.next (p, augM x g mv)) := by
  obtain ⟨h1, h2, _⟩ := h.mv hs
  unfold flow_Find_b6
  simp only [h2, decide_eq_true h1, cond_true]
  have hs' := hg.step hw h0 hx
  obtain ⟨k, e, y, hk, he, hy, hv⟩ := hg
  have ha : augM x g mv = g.set k (y + if mv.forward = true then x else -x) := by unfold augM; rw [hk, Int.toNat_natCast, hy]; rfl
  have hlt := (List.getElem?_eq_some_iff.1 hy).1
  have hb := hs'.1.le hl k (y + if mv.forward = true then x else -x) (by rw [ha, List.getElem?_set_self hlt])
  rcases hv with ⟨hf, rfl, _, _⟩ | ⟨hf, rfl, _, _⟩
  · simp only [hf, cond_true, hk, idxL_nat hy, idxL_nat he, Option.bind_some, Int.toNat_natCast]
    rw [ha, hf]
    rw [hf] at hb
    simp only [if_true] at hb ⊢
    rw [wrap_60 (by omega)]
  · simp only [hf, cond_false, hk, idxL_nat hy, idxL_nat he, Option.bind_some, Int.toNat_natCast]
    rw [ha, hf]
    rw [hf] at hb
    simp only [if_false, Bool.false_eq_true] at hb ⊢
    rw [wrap_60 (by omega)]; rfl
theorem find_b6s {l : List ApiEdge} {f : List Int} {s : Int} {st : SSt} (hl : EdgesOK l) (hs : SInv l f s st) {x : Int} (h0 : 0 ≤ x) : ∀ (ms : List FlowMove) (i : Nat) (n : Int) (g : List Int) (c : Nat), Way l f st.1 s i n ms → Within l g → Back l g s n ms → (∀ mv ∈ ms, x ≤ roomP l g mv) → ms.length < c →
    whileN (flow_Find_b6 l s st.1 x) c (n, g) = some (.ret (.next (ms.foldl (augM x) g)))
  | [], i, n, g, 0, h, hw, hb, hx, hc => by simp at hc
  | [], i, n, g, c + 1, h, hw, hb, hx, hc => by
    cases h
    rw [whileN]
    unfold flow_Find_b6
    simp only [ne_eq, not_true, decide_false, cond_false]; rfl
  | mv :: ms, i, n, g, 0, h, hw, hb, hx, hc => by simp at hc
  | mv :: ms, i, n, g, c + 1, h, hw, hb, hx, hc => by
    obtain ⟨h1, h2, j, p, hm, hway⟩ := h.mv hs
    cases hb with
    | @cons _ p' _ _ hm' hne hb =>
      have hpp : p' = p := by
        obtain ⟨k, e, y, hk, he, hy, hv⟩ := hm
        obtain ⟨k', e', y', hk', he', hy', hv'⟩ := hm'
        have : k = k' := by omega
        subst this
        rw [he] at he'; obtain rfl := Option.some.inj he'
        rcases hv with ⟨hf, ha, _⟩ | ⟨hf, ha, _⟩ <;> rcases hv' with ⟨hf', ha', _⟩ | ⟨hf', ha', _⟩ <;> first | exact ha'.symm.trans ha | (rw [hf] at hf'; cases hf')
      subst hpp
      have hk : 0 ≤ mv.edge := by obtain ⟨k, _, _, hk, _⟩ := hm; omega
      rw [whileN, find_b6 hl hs h hw hm hm' h0 (hx mv (by simp))]
      show whileN _ c (p', augM x g mv) = _
      rw [find_b6s hl hs h0 ms j p' _ c hway (hm'.step hw h0 (hx mv (by simp))).1 (hb.aug1 hk hne x) (fun mv' hm' => by
        obtain ⟨p, q, h⟩ := hb.moves mv' hm'
        rw [(h.aug hk (hne mv' hm') x).2]; exact hx mv' (List.mem_cons_of_mem _ hm')) (by simp only [List.length_cons] at hc; omega)]
      rfl
theorem find_b5s {l : List ApiEdge} {f : List Int} {s t : Int} {st : SSt} (hl : EdgesOK l) (hw : Within l f) (hs : SInv l f s st) : ∀ (ms : List FlowMove) (i : Nat) (n : Int) (a : Int) (c : Nat), Way l f st.1 s i n ms → ms.length < c →
    whileN (flow_Find_b5 l s t f st.1) c (n, a) = ((whileN (flow_Find_b6 l s st.1 (bott l f ms a)) fuel (t, f)).bind fun o29 => o29.on fun _ => none).bind fun q38 => some (.ret q38)
  | [], i, n, a, 0, h, hc => by simp at hc
  | [], i, n, a, c + 1, h, hc => by
    cases h
    have hb : flow_Find_b5 l s t f st.1 (s, a) = ((whileN (flow_Find_b6 l s st.1 a) fuel (t, f)).bind fun o29 => o29.on fun _ => none).bind fun q38 => some (.ret q38) := by
      unfold flow_Find_b5
      simp only [ne_eq, not_true, decide_false, cond_false]
    rw [whileN, hb]
    show _ = ((whileN (flow_Find_b6 l s st.1 a) fuel (t, f)).bind fun o29 => o29.on fun _ => none).bind fun q38 => some (Out.ret q38)
    generalize ((whileN (flow_Find_b6 l s st.1 a) fuel (t, f)).bind fun o29 => o29.on fun _ => none) = X
    cases X <;> rfl
  | mv :: ms, i, n, a, 0, h, hc => by simp at hc
  | mv :: ms, i, n, a, c + 1, h, hc => by
    obtain ⟨h1, h2, j, p, hm, hway⟩ := h.mv hs
    have hb : flow_Find_b5 l s t f st.1 (n, a) = some (.next (p, if roomP l f mv < a then roomP l f mv else a)) := by
      unfold flow_Find_b5
      simp only [h2, decide_eq_true h1, cond_true, hm.flowRoom hl hw, Option.bind_some]
      exact other_end hm (fun z => some (Out.next (z, if roomP l f mv < a then roomP l f mv else a)))
    rw [whileN, hb]
    show whileN _ c (p, _) = _
    rw [find_b5s hl hw hs ms j p _ c hway (by simp only [List.length_cons] at hc; omega)]
    rfl
/-- what stands behind the search -/
theorem find_end {l : List ApiEdge} {f : List Int} {s t : Int} (hl : EdgesOK l) (hst : s ≠ t) (hf : Flow l f s t) {m : List (Int × FlowMove)} (hs : Srch l f s (m, [])) :
    ∃ q, (bif (!(mhas m t)) then some (Out.ret f) else (flow_room l f (mget ⟨0, false⟩ m t)).bind fun y20 => (whileN (flow_Find_b5 l s t f m) fuel (t, y20)).bind fun o22 => o22.on fun _ => none) = some q ∧
      ((∃ g, q = .next g ∧ Better l s t f g) ∨ ∃ g, q = .ret g ∧ Top l s t g) := by
  have sz := hs.size hl
  cases ht : mhas m t with
  | false => exact ⟨_, rfl, .inr ⟨f, rfl, hf, hs.cut hf.within ht⟩⟩
  | true =>
    obtain ⟨i, hi, e⟩ := List.getElem_of_mem ((mhas_iff m t).1 ht)
    obtain ⟨ms, hway⟩ := hs.way i t (by rw [← e]; exact List.getElem?_eq_getElem hi)
    have hlen := hway.len
    rw [mkeys_len] at hi
    have hi' : i < 121 := by have := sz.1; simp only at this; omega
    match ms, hway, hlen with
    | [], hway, _ => cases hway; exact absurd rfl hst
    | mv :: ms, hway, hlen =>
      obtain ⟨h1, h2, j, p, hm, hway'⟩ := hway.mv hs.toSInv
      have hb : Back l f s t (mv :: ms) := hway.back hs.toSInv
      have hbe := hb.better hst hf hm.room
      refine ⟨_, ?_, .inl ⟨_, rfl, hbe⟩⟩
      rw [Bool.not_true, cond_false, h2, hm.flowRoom hl hf.within, Option.bind_some]
      have h5 := find_b5s (t := t) hl hf.within hs.toSInv (mv :: ms) i t (roomP l f mv) fuel hway (by show _ < 1099511627776; omega)
      simp only at h5
      rw [h5]
      have h6 := find_b6s hl hs.toSInv (x := bott l f (mv :: ms) (roomP l f mv)) (Int.le_of_lt (bott_pos l f _ _ hm.room fun mv' hm' => by obtain ⟨p, q, h⟩ := hb.moves mv' hm'; exact h.room)) (mv :: ms) i t f fuel hway hf.within hb (bott_le l f _ _).2 (by show _ < 1099511627776; omega)
      simp only at h6
      rw [h6]
      rfl
theorem find_b1 {l : List ApiEdge} {f : List Int} {s t : Int} (hl : EdgesOK l) (hst : s ≠ t) (hf : Flow l f s t) : (∃ g, flow_Find_b1 l s t f = some (.next g) ∧ Better l s t f g) ∨ (∃ g, flow_Find_b1 l s t f = some (.ret g) ∧ Top l s t g) := by
  have := whileN_inv (step := flow_Find_b2 l s t f) (fun st => Srch l f s st) (fun q => (∃ g, q = .next g ∧ Better l s t f g) ∨ ∃ g, q = .ret g ∧ Top l s t g) (fun st => 121 - (st.1.length - st.2.length)) (fun st hs => by
    obtain ⟨m, o⟩ := st
    cases o with
    | nil =>
      obtain ⟨q, h1, h2⟩ := find_end hl hst hf hs
      refine .inr ⟨q, ?_, h2⟩
      unfold flow_Find_b2
      simp only [List.length_nil, Int.natCast_zero, Int.lt_irrefl, decide_false, cond_false, h1, Option.bind_some]
    | cons n o =>
      have hn : mhas m n = true := hs.opn (st := (m, n :: o)) (by simp)
      obtain ⟨st', h1, h2⟩ := find_pass hl hf.within (st := (m, o)) hs.toSInv.pop hn
      have hp := hs.pass hf.within h2
      refine .inl ⟨st', ?_, hp.1, ?_⟩
      · unfold flow_Find_b2
        simp only [List.length_cons, decide_eq_true (show (0 : Int) < ((o.length + 1 : Nat) : Int) by omega), cond_true, idxL_zero (l := n :: o) (x := n) rfl, Option.bind_some, List.drop_one, List.tail_cons, okB_ok (show (1 : Int) ≤ ((o.length + 1 : Nat) : Int) by omega), h1]
        rfl
      · have a := hs.size hl
        have b := hp.1.size hl
        have c := hp.2
        simp only [List.length_cons] at a b c ⊢
        omega) fuel _ (.init l f s) (by show 121 - (1 - 1) < 1099511627776; omega)
  obtain ⟨q, h1, h2⟩ := this
  have e : flow_Find_b1 l s t f = some q := by
    unfold flow_Find_b1
    have : (mset [] s (FlowMove.mk (0 : Int) false)) = [(s, ⟨0, false⟩)] := rfl
    rw [this, h1]; rfl
  rw [e]
  rcases h2 with ⟨g, rfl, h⟩ | ⟨g, rfl, h⟩
  · exact .inl ⟨g, rfl, h⟩
  · exact .inr ⟨g, rfl, h⟩
theorem find_top {l : List ApiEdge} {s t : Int} (hl : EdgesOK l) (hst : s ≠ t) : ∃ g, flow_Find l s t = some g ∧ Top l s t g := by
  have h60 := hl.1
  obtain ⟨g, h1, h2⟩ := climb hl fun f hf => find_b1 hl hst hf
  refine ⟨g, ?_, h2⟩
  unfold flow_Find
  rw [chk_ok (by omega), decide_eq_false hst, cond_false, h1]; rfl
theorem find_same {l : List ApiEdge} {s : Int} (hl : EdgesOK l) : flow_Find l s s = some (List.replicate l.length 0) := by
  have h60 := hl.1
  unfold flow_Find
  rw [chk_ok (by omega), decide_eq_true rfl]; rfl
theorem max_top {l : List ApiEdge} {s t : Int} (hl : EdgesOK l) (hst : s ≠ t) : ∃ g, flow_Find l s t = some g ∧ flow_Max l s t = some (netL l g s) ∧ Top l s t g := by
  obtain ⟨g, h1, h2⟩ := find_top hl hst
  refine ⟨g, h1, ?_, h2⟩
  unfold flow_Max
  rw [h1, Option.bind_some, value_eq hl h2.1.within]; rfl
theorem max_self {l : List ApiEdge} {s : Int} (hl : EdgesOK l) : flow_Max l s s = some 0 := by
  unfold flow_Max
  have z := zeros_flow hl s s
  rw [find_same hl, Option.bind_some, value_eq hl z.1.within, z.2]; rfl

theorem cut_j3 {l : List ApiEdge} {f : List Int} {n : Int} {k : Nat} {e : ApiEdge} {x : Int} (hx : f[k]? = some x) (m : List (Int × FlowMove)) (o : List Int) (ho : o.length ≤ 100000) :
    flow_Cut_j3 l f n k e m o = some (.next (add2 n k e x (m, o))) := by
  unfold flow_Cut_j3 add2
  rw [room_bwd hx]
  by_cases h1 : e.To = n <;> cases h2 : mhas m e.From <;> by_cases h3 : 0 < x <;> simp [h1, h2, h3, chk_ok (show o.length + 1 ≤ 549755813888 by omega)]
theorem cut_b2 {l : List ApiEdge} {f : List Int} {n : Int} {k : Nat} {e : ApiEdge} {x : Int} (he : l[k]? = some e) (hx : f[k]? = some x) (hb : 0 ≤ x ∧ x ≤ e.Cost) (hc : e.Cost ≤ 1000000) (st : SSt) (ho : st.2.length + 1 ≤ 100000) :
    flow_Cut_b2 l f n k e st = some (.next (add2 n k e x (add1 n k e x st))) := by
  unfold flow_Cut_b2 add1
  rw [room_fwd he hx hb hc]
  by_cases h1 : e.From = n <;> cases h2 : mhas st.1 e.To <;> by_cases h3 : x < e.Cost <;>
    simp [h1, h2, h3, chk_ok (show st.2.length + 1 ≤ 549755813888 by omega)] <;>
    exact cut_j3 hx _ _ (by first | omega | (simp; omega))
theorem cut_pass {l : List ApiEdge} {f : List Int} (hl : EdgesOK l) (hw : Within l f) {s n : Int} {st : SSt} (h : SInv l f s st) (hn : mhas st.1 n = true) :
    ∃ st', forIx (flow_Cut_b2 l f n) 0 l st = some (.next st') ∧ Pass l f s n l.length st st' := by
  have hlen := hw.len
  refine forIx_run (step := flow_Cut_b2 l f n) (l := l) (s := st) (fun k st' => Pass l f s n k st st') (.zero h hn) fun k e st' hk hI => ?_
  have hlt := (List.getElem?_eq_some_iff.1 hk).1
  have hx : f[k]? = some f[k] := List.getElem?_eq_getElem (by omega)
  have := hI.inv.size hl
  exact ⟨_, cut_b2 hk hx (hw.rng k e _ hk hx) (hl.2 e (List.mem_of_getElem? hk)).cost1 st' (by omega), hI.next hk hx⟩
/-- the places of the edges that lead out of a set -/
def outOf (S : Int → Bool) : Nat → List ApiEdge → List Int
  | _, [] => []
  | k, e :: l => if S e.From = true ∧ S e.To = false then (k : Int) :: outOf S (k + 1) l else outOf S (k + 1) l
theorem outOf_len (S : Int → Bool) : ∀ (k : Nat) (l : List ApiEdge), (outOf S k l).length ≤ l.length
  | _, [] => Nat.zero_le _
  | k, e :: l => by
    have := outOf_len S (k + 1) l
    unfold outOf; split <;> simp <;> omega
theorem outOf_snoc (S : Int → Bool) (e : ApiEdge) : ∀ (k : Nat) (l : List ApiEdge), outOf S k (l ++ [e]) = outOf S k l ++ if S e.From = true ∧ S e.To = false then [((k + l.length : Nat) : Int)] else []
  | k, [] => by simp [outOf]
  | k, a :: l => by
    rw [List.cons_append, outOf, outOf, outOf_snoc S e (k + 1) l, List.length_cons, show k + 1 + l.length = k + (l.length + 1) by omega]
    split <;> simp
theorem outOf_congr {S T : Int → Bool} : ∀ (k : Nat) (l : List ApiEdge), (∀ n, S n = T n) → outOf S k l = outOf T k l := by
  intro k l h
  have : S = T := funext h
  rw [this]
theorem cut_b4 {l : List ApiEdge} (hl : EdgesOK l) (m : List (Int × FlowMove)) : forIx (flow_Cut_b4 m) 0 l [] = some (.next (outOf (mhas m) 0 l)) := by
  have h60 := hl.1
  obtain ⟨s', e, hI⟩ := forIx_run (step := flow_Cut_b4 m) (l := l) (s := ([] : List Int)) (fun k s => s = outOf (mhas m) 0 (l.take k)) (by simp [outOf]) (fun k e s hk hI => by
    have hlt := (List.getElem?_eq_some_iff.1 hk).1
    have hlen : s.length ≤ k := by
      rw [hI]; exact Nat.le_trans (outOf_len _ _ _) (by simp; omega)
    refine ⟨_, ?_, by rw [take_succ_some hk, outOf_snoc, ← hI]⟩
    unfold flow_Cut_b4
    rw [chk_ok (by omega)]
    have hk' : (l.take k).length = k := by simp; omega
    cases h1 : mhas m e.From <;> cases h2 : mhas m e.To <;> simp [hk'])
  rw [e, hI, List.take_length]
theorem cut_eq {l : List ApiEdge} {s t : Int} (hl : EdgesOK l) (hst : s ≠ t) : ∃ (g : List Int) (S : Int → Bool), flow_Find l s t = some g ∧ Top l s t g ∧ (∀ n, S n = true ↔ Rch l g s n) ∧ flow_Cut l s t = some (outOf S 0 l) := by
  obtain ⟨f, hf1, hf2⟩ := find_top hl hst
  have hw := hf2.1.within
  have := whileN_inv (step := flow_Cut_b1 l f) (fun st => Srch l f s st) (fun q => ∃ S : Int → Bool, (∀ n, S n = true ↔ Rch l f s n) ∧ q = outOf S 0 l) (fun st => 121 - (st.1.length - st.2.length)) (fun st hs => by
    obtain ⟨m, o⟩ := st
    cases o with
    | nil =>
      refine .inr ⟨_, ?_, mhas m, hs.all, rfl⟩
      unfold flow_Cut_b1
      simp only [List.length_nil, Int.natCast_zero, Int.lt_irrefl, decide_false, cond_false, cut_b4 hl, Option.bind_some]; rfl
    | cons n o =>
      have hn : mhas m n = true := hs.opn (st := (m, n :: o)) (by simp)
      obtain ⟨st', h1, h2⟩ := cut_pass hl hw (st := (m, o)) hs.toSInv.pop hn
      have hp := hs.pass hw h2
      refine .inl ⟨st', ?_, hp.1, ?_⟩
      · unfold flow_Cut_b1
        simp only [List.length_cons, decide_eq_true (show (0 : Int) < ((o.length + 1 : Nat) : Int) by omega), cond_true, idxL_zero (l := n :: o) (x := n) rfl, Option.bind_some, List.drop_one, List.tail_cons, okB_ok (show (1 : Int) ≤ ((o.length + 1 : Nat) : Int) by omega), h1]
        rfl
      · have a := hs.size hl
        have b := hp.1.size hl
        have c := hp.2
        simp only [List.length_cons] at a b c ⊢
        omega) fuel _ (.init l f s) (by show 121 - (1 - 1) < 1099511627776; omega)
  obtain ⟨q, h1, S, h2, rfl⟩ := this
  refine ⟨f, S, hf1, hf2, h2, ?_⟩
  unfold flow_Cut
  have e : (mset [] s (FlowMove.mk (0 : Int) false)) = [(s, ⟨0, false⟩)] := rfl
  rw [decide_eq_false hst, cond_false, hf1, Option.bind_some, e, h1]; rfl
end Go.Proofs.Ytacfmeobdobhhaa
