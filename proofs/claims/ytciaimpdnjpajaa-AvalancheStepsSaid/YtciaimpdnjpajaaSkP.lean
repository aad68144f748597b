/-
  The rule for a region whose order is drawn.
-/
import Derived.Test.YtciaimpdnjpajaaSkO
namespace Go.Ab
open Go Go.RowKit
section
variable {P : Program} {md : Option Nat}

/-- j is bound before i -/
inductive Anc (ops : List Oper) : Nat → Nat → Prop
  | edge {i : Nat} {o : Oper} {e : Edge} (ho : ops[i]? = some o) (he : e ∈ o.after) (hb : Region.binds .any e = true) : Anc ops i e.on
  | trans {i j : Nat} {o : Oper} {e : Edge} (ho : ops[i]? = some o) (he : e ∈ o.after) (hb : Region.binds .any e = true) (h : Anc ops e.on j) : Anc ops i j

theorem foldl_mask (acc : List Nat) (j : Nat) : ∀ (l : List Edge) (m : Nat), (l.foldl (fun m e => if Region.binds .any e then m ||| (2 ^ e.on ||| acc.getD e.on 0) else m) m).testBit j = true →
    m.testBit j = true ∨ ∃ e ∈ l, Region.binds .any e = true ∧ (e.on = j ∨ (acc.getD e.on 0).testBit j = true)
  | [], m, h => .inl h
  | e :: l, m, h => by
    rw [List.foldl_cons] at h
    rcases foldl_mask acc j l _ h with h | ⟨e', h1, h2⟩
    · split at h
      · rename_i hb
        rw [Nat.testBit_or, Nat.testBit_or, Bool.or_eq_true, Bool.or_eq_true] at h
        rcases h with h | h | h
        · exact .inl h
        · rw [Nat.testBit_two_pow] at h
          exact .inr ⟨e, List.mem_cons_self .., hb, .inl (by simpa using h)⟩
        · exact .inr ⟨e, List.mem_cons_self .., hb, .inr h⟩
      · exact .inl h
    · exact .inr ⟨e', List.mem_cons_of_mem _ h1, h2⟩

theorem masks_spec (ops : List Oper) : ∀ (l : List Oper) (acc : List Nat), (∀ k, l[k]? = ops[acc.length + k]?) → (∀ i j, (acc.getD i 0).testBit j = true → Anc ops i j) →
    ∀ i j, ((masks l acc).getD i 0).testBit j = true → Anc ops i j
  | [], acc, _, hacc => hacc
  | o :: l, acc, hl, hacc => by
    refine masks_spec ops l (acc ++ [maskOf o acc]) (fun k => ?_) (fun i j h => ?_)
    · have := hl (k + 1)
      rw [List.getElem?_cons_succ] at this
      rw [this, List.length_append, List.length_singleton]
      congr 1; omega
    · rw [List.getD_eq_getElem?_getD] at h
      by_cases hi : i < acc.length
      · rw [List.getElem?_append_left hi, ← List.getD_eq_getElem?_getD] at h
        exact hacc i j h
      · by_cases he : i = acc.length
        · subst he
          rw [List.getElem?_append_right (Nat.le_refl _), Nat.sub_self] at h
          have ho : ops[acc.length]? = some o := by have := hl 0; simpa using this.symm
          simp only [List.getElem?_cons_zero, Option.getD_some] at h
          unfold maskOf at h
          rcases foldl_mask acc j _ _ h with h | ⟨e, h1, h2, h3⟩
          · simp at h
          · have h1' : e ∈ o.after := by simpa using h1
            rcases h3 with rfl | h3
            · exact .edge ho h1' h2
            · exact .trans ho h1' h2 (hacc _ _ h3)
        · rw [List.getElem?_eq_none (by simp; omega)] at h
          simp at h

theorem edges_spec : ∀ (l : List Oper) (k : Nat), edgesOK l k = true → ∀ i o, l[i]? = some o → ∀ e ∈ o.after, Region.binds .any e = true → e.on < k + i
  | [], _, _, i, o, h, _, _, _ => by simp at h
  | o :: l, k, hk, i, o', h, e, he, hb => by
    simp only [edgesOK, Bool.and_eq_true] at hk
    match i, h with
    | 0, h =>
      simp only [List.getElem?_cons_zero, Option.some.injEq] at h
      subst h
      have := List.all_eq_true.1 hk.1 e (by simpa using he)
      simpa [hb, Nat.blt_eq] using this
    | i + 1, h =>
      have := edges_spec l (k + 1) hk.2 i o' (by simpa using h) e he hb
      omega

theorem pairs_spec (A : List Nat) (arr : Array Oper) : ∀ (l : List Oper) (prev : List (Nat × Oper)) (k : Nat), pairsOK A arr prev l k = true →
    ∀ i o, l[i]? = some o → (∀ p ∈ prev, bit A (k + i) p.1 = true ∨ p.2.apart arr o = true) ∧ ∀ j o', j < i → l[j]? = some o' → bit A (k + i) (k + j) = true ∨ o'.apart arr o = true
  | [], _, _, _, i, o, h => by simp at h
  | o :: l, prev, k, hk, i, o', h => by
    simp only [pairsOK, Bool.and_eq_true] at hk
    match i, h with
    | 0, h =>
      simp only [List.getElem?_cons_zero, Option.some.injEq] at h
      subst h
      refine ⟨fun p hp => ?_, fun j _ hj => by omega⟩
      have := List.all_eq_true.1 hk.1 p hp
      simpa using this
    | i + 1, h =>
      have ih := pairs_spec A arr l ((k, o) :: prev) (k + 1) hk.2 i o' (by simpa using h)
      rw [show k + (i + 1) = k + 1 + i by omega]
      refine ⟨fun p hp => ih.1 p (List.mem_cons_of_mem _ hp), fun j o2 hj h2 => ?_⟩
      match j, h2 with
      | 0, h2 =>
        simp only [List.getElem?_cons_zero, Option.some.injEq] at h2
        subst h2
        exact ih.1 (k, o) (List.mem_cons_self ..)
      | j + 1, h2 =>
        have := ih.2 j o2 (by omega) (by simpa using h2)
        rwa [show k + (j + 1) = k + 1 + j by omega]

theorem anc_lt {ops : List Oper} (he : edgesOK ops 0 = true) : ∀ {i j : Nat}, Anc ops i j → j < i := by
  intro i j h
  induction h with
  | edge ho hm hb => have := edges_spec ops 0 he _ _ ho _ hm hb; omega
  | trans ho hm hb _ ih => have := edges_spec ops 0 he _ _ ho _ hm hb; omega

theorem anc_listed {ops : List Oper} {L : Nat → Prop} (hc : ∀ k o, ops[k]? = some o → L k → ∀ e ∈ o.after, Region.binds .any e = true → L e.on) : ∀ {i j : Nat}, Anc ops i j → (∀ o, ops[i]? = some o → ∀ e ∈ o.after, Region.binds .any e = true → L e.on) → L j := by
  intro i j h
  induction h with
  | edge ho hm hb => exact fun hi => hi _ ho _ hm hb
  | trans ho hm hb _ ih => exact fun hi => ih fun o' ho' => hc _ o' ho' (hi _ ho _ hm hb)

variable {W0 : World} {A0 : Nat → Prop} {ds : List Deferred} {n : Nat} {outs : List (Array Value)} {outer : List Fr} {ops : List Oper} {K : Log → Fr → List AObj → Prop} {Q : Exit → Act → World → Prop}

theorem any_sound (hK : ∀ log log' fr fr' H, (∀ t, get fr' t = get fr t) → (∀ p, p ∈ log ↔ p ∈ log') → K log fr H → K log' fr' H) (hOK : ∀ log fr H, K log fr H → okLog (masks ops []) log = true)
    (hQ : ∀ log fr H a w, K log fr H → SRep W0 A0 ds n outs outer fr H a w → Q .normal a w) (hd : ∀ (i : Nat) o, ops[i]? = some o → dOK o.op) (hn : ∀ (i : Nat) o, ops[i]? = some o → ∀ k, o.dst = some k → k < n)
    (he : edgesOK ops 0 = true) (hp : pairsOK (masks ops []) ops.toArray [] ops 0 = true) : ∀ (fuel : Nat) (L : List Tag) (listed : Array Bool) (log : Log) (fr : Fr) (H : List AObj) (a : Act) (w : World),
    L.length = fuel → listed.size = ops.length → (∀ t ∈ L, ops[t.i]? = some t.o ∧ listed.getD t.i true = false) → (∀ i, i < ops.length → listed.getD i true = false → ∃ t ∈ L, t.i = i) → L.Pairwise (fun s t => s.i < t.i) →
    (∀ k o, ops[k]? = some o → listed.getD k false = true → ∀ e ∈ o.after, Region.binds .any e = true → listed.getD e.on false = true) → Ids L H → SRep W0 A0 ds n outs outer fr H a w → dlt P ops K L log fr H →
    wpAnyIn (fence md) 5 P .any ops.toArray Q fuel listed a w := by
  have hlst : ∀ {listed : Array Bool} {i : Nat}, listed.size = ops.length → i < ops.length → listed.getD i true = listed.getD i false := by
    intro listed i h1 h2
    simp [Array.getD, h1, h2]
  have anc0 : ∀ i j, bit (masks ops []) i j = true → Anc ops i j := masks_spec ops ops [] (fun k => by simp) (fun i j h => by simp at h)
  intro fuel
  induction fuel with
  | zero =>
    intro L listed log fr H a w hl hs hL hc _ _ _ R h
    have : L = [] := List.length_eq_zero_iff.1 hl
    subst this
    refine wpAnyIn_done ?_ (hQ _ _ _ _ _ h R) 0
    rw [List.eq_nil_iff_forall_not_mem]
    intro j hj
    obtain ⟨h1, o, ho, _⟩ := mem_ready.1 hj
    have hlt : j < ops.length := by have := (Array.getElem?_eq_some_iff.1 ho).1; simpa using this
    obtain ⟨t, ht, _⟩ := hc j hlt h1
    cases ht
  | succ fuel ih =>
    intro L listed log fr H a w hl hs hL hc hsort hcl hI R h
    refine ⟨fun hr => ?_, fun i hi => ?_⟩
    · exfalso
      match L, hl, hL, hc, hsort with
      | t :: L, _, hL, hc, hsort =>
        obtain ⟨h1, h2⟩ := hL t (List.mem_cons_self ..)
        have hlt : t.i < ops.length := (List.getElem?_eq_some_iff.1 h1).1
        have : t.i ∈ Region.ready .any ops.toArray listed := by
          refine mem_ready.2 ⟨h2, t.o, by simpa using h1, fun e hm hb => ?_⟩
          have hon := edges_spec ops 0 he _ _ h1 e hm hb
          cases hf : listed.getD e.on false with
          | true => rfl
          | false =>
            obtain ⟨s, hs1, hs2⟩ := hc e.on (by omega) (by rw [hlst hs (by omega)]; exact hf)
            rcases List.mem_cons.1 hs1 with rfl | hs1
            · omega
            · have := (List.pairwise_cons.1 hsort).1 s hs1; omega
        rw [hr] at this
        cases this
    · obtain ⟨h1, o, ho, h3⟩ := mem_ready.1 hi
      have ho' : ops[i]? = some o := by simpa using ho
      have hlt : i < ops.length := (List.getElem?_eq_some_iff.1 ho').1
      obtain ⟨t, ht, rfl⟩ := hc i hlt h1
      obtain ⟨L1, L2, rfl⟩ := List.append_of_mem ht
      have hto : t.o = o := by have := (hL t ht).1; rw [ho', Option.some.injEq] at this; exact this.symm
      subst hto
      have hA : ∀ s ∈ L1, Apart (masks ops []) ops s t := by
        intro s hs1
        have hlts : s.i < t.i := (List.pairwise_append.1 hsort).2.2 s hs1 t (List.mem_cons_self ..)
        obtain ⟨g1, g2⟩ := hL s (List.mem_append_left _ hs1)
        have b2 : bit (masks ops []) t.i s.i = false := by
          cases hb : bit (masks ops []) t.i s.i with
          | false => rfl
          | true =>
            have := anc_listed (L := fun k => listed.getD k false = true) hcl (anc0 _ _ hb) (fun o2 ho2 => by rw [ho', Option.some.injEq] at ho2; subst ho2; exact h3)
            rw [hlst hs (by omega)] at g2
            rw [g2] at this; cases this
        have b1 : bit (masks ops []) s.i t.i = false := by
          cases hb : bit (masks ops []) s.i t.i with
          | false => rfl
          | true => have := anc_lt he (anc0 _ _ hb); omega
        refine ⟨?_, b1, b2, by omega⟩
        have := (pairs_spec _ _ ops [] 0 hp t.i t.o ho').2 s.i s.o hlts g1
        rw [Nat.zero_add, Nat.zero_add, b2] at this
        simpa using this
      have hd' : ∀ s ∈ L1 ++ t :: L2, dOK s.o.op := fun s hs1 => hd _ _ (hL s hs1).1
      have hn' : ∀ s ∈ L1 ++ t :: L2, ∀ k, s.o.dst = some k → k < n := fun s hs1 => hn _ _ (hL s hs1).1
      have hst := hoist hK hOK L1 t L2 log fr H a w hd' hn' hI R hA h
      have hrun := dstep_run (hn' t (by simp)) (hI.free (by simp)) R hst
      -- the outcome, with where it lies
      have hst2 : dstep P ops t.o t.i t.id (fun en v ef => LocIn t.i t.id t.o H en ef ∧ dafter (dlt P ops K (L1 ++ L2)) log fr t.o.dst H en v ef) fr H := by
        obtain ⟨en, v, ef, ⟨k1, k2, k3⟩, _⟩ := dstep_out (hd' t (by simp)) (hn' t (by simp)) hI R hst
        exact k3 fr H rfl (fun _ _ => rfl) (fun _ _ _ _ => rfl) _ ⟨k2, k1⟩
      have nd : ∀ c, t.o.op ≠ .defer c := fun c hc => by
        have hdo := hd' t (by simp)
        rw [hc] at hdo
        rcases hdo with h | h <;> simp [callOf, drawable] at h
      refine OpRuns.wpOp ho' (dstep_run (hn' t (by simp)) (hI.free (by simp)) R hst2) (fun a' w' hg => ?_) nd
      obtain ⟨en, v, ef, ⟨k2, k1⟩, R'⟩ := hg.ex
      have hne : ∀ s ∈ L1 ++ L2, s.i ≠ t.i := by
        intro s hs1
        have hq := List.pairwise_append.1 hsort
        rcases List.mem_append.1 hs1 with hs1 | hs1
        · have := hq.2.2 s hs1 t (List.mem_cons_self ..); omega
        · have := (List.pairwise_cons.1 hq.2.1).1 s hs1; omega
      have hsubm : ∀ x ∈ L1 ++ L2, x ∈ L1 ++ t :: L2 := by
        intro x hx
        rcases List.mem_append.1 hx with hx | hx
        · exact List.mem_append_left _ hx
        · exact List.mem_append_right _ (List.mem_cons_of_mem _ hx)
      refine ih (L1 ++ L2) _ _ _ _ a' w' (by simp at hl ⊢; omega) (by simpa using hs) (fun s hs1 => ?_) (fun j hj hu => ?_) ?_ (fun k o2 hk hk2 e hm hb => ?_) (hI.step k2) R' k1
      · refine ⟨(hL s (hsubm s hs1)).1, ?_⟩
        rw [getD_set_ne _ (fun e => hne s hs1 e.symm)]
        exact (hL s (hsubm s hs1)).2
      · by_cases e : j = t.i
        · subst e
          simp [Array.getD, hs, hlt] at hu
        · rw [getD_set_ne _ (fun e' => e e'.symm)] at hu
          obtain ⟨s, hs1, hs2⟩ := hc j hj hu
          refine ⟨s, ?_, hs2⟩
          rcases List.mem_append.1 hs1 with hs1 | hs1
          · exact List.mem_append_left _ hs1
          · rcases List.mem_cons.1 hs1 with rfl | hs1
            · exact absurd hs2.symm e
            · exact List.mem_append_right _ hs1
      · have hq := List.pairwise_append.1 hsort
        rw [List.pairwise_append]
        exact ⟨hq.1, (List.pairwise_cons.1 hq.2.1).2, fun a ha b hb => hq.2.2 a ha b (List.mem_cons_of_mem _ hb)⟩
      · by_cases e1 : k = t.i
        · subst e1
          rw [ho', Option.some.injEq] at hk
          subst hk
          exact getD_set_true (h3 e hm hb)
        · rw [getD_set_ne _ (fun e' => e1 e'.symm)] at hk2
          exact getD_set_true (hcl k o2 hk hk2 e hm hb)

theorem okLog_congr {A : List Nat} {log log' : Log} (h : ∀ p, p ∈ log ↔ p ∈ log') (hk : okLog A log = true) : okLog A log' = true := by
  unfold okLog at *
  exact List.all_eq_true.2 fun p hp => List.all_eq_true.2 fun q hq => List.all_eq_true.1 (List.all_eq_true.1 hk p ((h p).2 hp)) q ((h q).2 hq)

theorem dlist_eq (all : List Oper) (top : Nat) (K : Log → Fr → List AObj → Prop) : ∀ (l : List Oper) (i id : Nat), dlist P all top K l i id = dlt P all K (tags top l i id)
  | [], _, _ => by funext log fr H; rfl
  | o :: l, i, id => by
    funext log fr H
    rw [dlist, dlist_eq all top K l, tags, dlt]

theorem tags_len (top : Nat) : ∀ (l : List Oper) (i id : Nat), (tags top l i id).length = l.length
  | [], _, _ => rfl
  | o :: l, i, id => by rw [tags, List.length_cons, tags_len top l, List.length_cons]
theorem tags_mem (top : Nat) : ∀ (l : List Oper) (i id : Nat) (t : Tag), t ∈ tags top l i id → ∃ k, t.i = i + k ∧ l[k]? = some t.o
  | [], _, _, t, h => by cases h
  | o :: l, i, id, t, h => by
    rw [tags] at h
    rcases List.mem_cons.1 h with rfl | h
    · exact ⟨0, rfl, rfl⟩
    · obtain ⟨k, h1, h2⟩ := tags_mem top l _ _ t h
      exact ⟨k + 1, by omega, by simpa using h2⟩
theorem tags_has (top : Nat) : ∀ (l : List Oper) (i id k : Nat), k < l.length → ∃ t ∈ tags top l i id, t.i = i + k
  | [], _, _, k, h => by simp at h
  | o :: l, i, id, 0, _ => ⟨_, List.mem_cons_self .., rfl⟩
  | o :: l, i, id, k + 1, h => by
    obtain ⟨t, h1, h2⟩ := tags_has top l (i + 1) (if opNew o.op then id + 1 else id) k (by simpa using h)
    exact ⟨t, List.mem_cons_of_mem _ h1, by omega⟩
theorem tags_sorted (top : Nat) : ∀ (l : List Oper) (i id : Nat), (tags top l i id).Pairwise (fun s t => s.i < t.i)
  | [], _, _ => .nil
  | o :: l, i, id => by
    rw [tags, List.pairwise_cons]
    refine ⟨fun t ht => ?_, tags_sorted top l _ _⟩
    obtain ⟨k, h1, _⟩ := tags_mem top l _ _ t ht
    show i < t.i
    omega
theorem tags_ge (top : Nat) : ∀ (l : List Oper) (i id : Nat) (t : Tag), t ∈ tags top l i id → opNew t.o.op = true → id ≤ t.id
  | [], _, _, t, h, _ => by cases h
  | o :: l, i, id, t, h, hn => by
    rw [tags] at h
    rcases List.mem_cons.1 h with rfl | h
    · simp only at hn ⊢
      rw [if_pos hn]; exact Nat.le_refl _
    · have := tags_ge top l _ _ t h hn
      split at this <;> omega

theorem tags_ids (top : Nat) : ∀ (l : List Oper) (i : Nat) (H : List AObj), top = (H ++ resvs l).length → Ids (tags top l i H.length) (H ++ resvs l)
  | [], i, H, _ => ⟨fun t h => (by cases h), fun t h => (by cases h), .nil⟩
  | o :: l, i, H, ht => by
    rw [tags]
    cases hn : opNew o.op with
    | true =>
      have e1 : H ++ resvs (o :: l) = (H ++ [.resv]) ++ resvs l := by simp [resvs, hn]
      rw [e1] at ht ⊢
      have ih := tags_ids top l (i + 1) (H ++ [.resv]) ht
      rw [List.length_append, List.length_singleton] at ih
      simp only [if_true]
      refine ⟨fun t hm hnew => ?_, fun t hm hnew => ?_, ?_⟩
      · rcases List.mem_cons.1 hm with rfl | hm
        · simp
        · exact ih.new t hm hnew
      · rcases List.mem_cons.1 hm with rfl | hm
        · rw [hn] at hnew; cases hnew
        · exact ih.old t hm hnew
      · rw [List.pairwise_cons]
        refine ⟨fun t hm _ hnew => ?_, ih.dst⟩
        have := tags_ge top l _ _ t hm hnew
        simp only
        omega
    | false =>
      have e1 : H ++ resvs (o :: l) = H ++ resvs l := by simp [resvs, hn]
      rw [e1] at ht ⊢
      have ih := tags_ids top l (i + 1) H ht
      simp only [Bool.false_eq_true, if_false]
      refine ⟨fun t hm hnew => ?_, fun t hm hnew => ?_, ?_⟩
      · rcases List.mem_cons.1 hm with rfl | hm
        · rw [hn] at hnew; cases hnew
        · exact ih.new t hm hnew
      · rcases List.mem_cons.1 hm with rfl | hm
        · exact ht
        · exact ih.old t hm hnew
      · rw [List.pairwise_cons]
        refine ⟨fun t hm hnew => ?_, ih.dst⟩
        rw [hn] at hnew; cases hnew

theorem SRep.resv {fr : Fr} {H : List AObj} {a : Act} {w : World} (R : SRep W0 A0 ds n outs outer fr H a w) : SRep W0 A0 ds n outs outer fr (H ++ [.resv]) a w := by
  obtain ⟨C, rfl, h2, I, h4, h5, h6⟩ := R.ex
  obtain ⟨I', m⟩ := I.ghost C.H.length (.inl rfl) .resv fun _ => I.noLoc (.inl rfl)
  have e : (C.ghost C.H.length .resv).H = C.H ++ [.resv] := by simp [Ctx.ghost, addAt]
  exact ⟨_, e, h2, I', h4.mono m, h5.mono m, h6⟩
theorem SRep.resvs {fr : Fr} {a : Act} {w : World} : ∀ (l : List Oper) {H : List AObj}, SRep W0 A0 ds n outs outer fr H a w → SRep W0 A0 ds n outs outer fr (H ++ Go.Ab.resvs l) a w
  | [], H, R => by simpa [Go.Ab.resvs] using R
  | o :: l, H, R => by
    unfold Go.Ab.resvs
    split
    · rw [show H ++ AObj.resv :: Go.Ab.resvs l = (H ++ [.resv]) ++ Go.Ab.resvs l by simp]
      exact SRep.resvs l R.resv
    · exact SRep.resvs l R

theorem SRep.drawn {fr : Fr} {H : List AObj} {a : Act} {w : World} (R : SRep W0 A0 ds n outs outer fr H a w) (d : Nat) : SRep W0 A0 ds n outs outer fr H a { w with drawn := d } := by
  obtain ⟨C, h1, h2, I, h4, h5, h6⟩ := R.ex
  obtain ⟨I', m⟩ := I.same (w' := { w with drawn := d }) rfl ⟨I.below.os, I.below.tape, I.below.output, I.below.size, I.below.block⟩
  exact ⟨C, h1, h2, I', h4.mono m, h5.mono m, h6⟩

/-- A REGION WHOSE ORDER IS DRAWN: walked in the order of the text. -/
theorem AWP.draw {id : Nat} {Q : Exit → Fr → List AObj → Prop} {fr : Fr} {H : List AObj} (hm : P.follows .mixedOrders = true) (hok : drawOK n ops = true)
    (h : ∀ K : Log → Fr → List AObj → Prop, (∀ log fr H, okLog (masks ops []) log = true → Q .normal fr H → K log fr H) → dlist P ops (H ++ resvs ops).length K ops 0 H.length [] fr (H ++ resvs ops)) :
    AWP md P n (.region id ops.toArray true) Q outer fr H := by
  intro W0 A0 ds outs a w R
  simp only [drawOK, Bool.and_eq_true] at hok
  obtain ⟨⟨⟨h1, h2⟩, h3⟩, h4⟩ := hok
  refine wpIn_region_any hm ?_
  have hK := h (fun log fr H => okLog (masks ops []) log = true ∧ ∃ fr2, (∀ t, get fr2 t = get fr t) ∧ Q .normal fr2 H) fun log fr H g1 g2 => ⟨g1, fr, fun _ => rfl, g2⟩
  rw [dlist_eq] at hK
  have hin : ∀ (i : Nat) o, ops[i]? = some o → o ∈ ops := fun i o ho => List.mem_of_getElem? ho
  have a1 : ∀ (log log' : Log) (fr fr' : Fr) (H : List AObj), (∀ t, get fr' t = get fr t) → (∀ p, p ∈ log ↔ p ∈ log') → (okLog (masks ops []) log = true ∧ ∃ fr2, (∀ t, get fr2 t = get fr t) ∧ Q .normal fr2 H) →
      (okLog (masks ops []) log' = true ∧ ∃ fr2, (∀ t, get fr2 t = get fr' t) ∧ Q .normal fr2 H) := by
    intro log log' fr fr' H hf hl ⟨g0, fr2, g1, g2⟩
    exact ⟨okLog_congr hl g0, fr2, fun t => by rw [g1, hf], g2⟩
  have a2 : ∀ (log : Log) (fr : Fr) (H : List AObj) (a : Act) (w : World), (okLog (masks ops []) log = true ∧ ∃ fr2, (∀ t, get fr2 t = get fr t) ∧ Q .normal fr2 H) → SRep W0 A0 ds n outs outer fr H a w →
      ∃ fr' H', Q .normal fr' H' ∧ SRep W0 A0 ds n outs outer fr' H' a w := by
    intro log fr H a w ⟨_, fr2, g1, g2⟩ R
    exact ⟨fr2, H, g2, R.congr g1⟩
  have a3 : ∀ (i : Nat) o, ops[i]? = some o → dOK o.op := by
    intro i o ho
    have := List.all_eq_true.1 h2 o (hin i o ho)
    simpa [dOK] using this
  have a4 : ∀ (i : Nat) o, ops[i]? = some o → ∀ k, o.dst = some k → k < n := by
    intro i o ho k hk
    have := List.all_eq_true.1 h1 o (hin i o ho)
    rw [hk] at this
    simpa using this
  have a5 : ∀ t ∈ tags (H ++ resvs ops).length ops 0 H.length, ops[t.i]? = some t.o ∧ (Array.replicate ops.toArray.size false).getD t.i true = false := by
    intro t ht
    obtain ⟨k, g1, g2⟩ := tags_mem _ ops 0 _ t ht
    rw [Nat.zero_add] at g1
    have hlt : k < ops.length := (List.getElem?_eq_some_iff.1 g2).1
    exact ⟨by rw [g1]; exact g2, by rw [g1]; simp [Array.getD, hlt]⟩
  have a6 : ∀ i, i < ops.length → (Array.replicate ops.toArray.size false).getD i true = false → ∃ t ∈ tags (H ++ resvs ops).length ops 0 H.length, t.i = i := by
    intro i hi _
    obtain ⟨t, g1, g2⟩ := tags_has (H ++ resvs ops).length ops 0 H.length i hi
    exact ⟨t, g1, by omega⟩
  have a7 : ∀ k o, ops[k]? = some o → (Array.replicate ops.toArray.size false).getD k false = true → ∀ e ∈ o.after, Region.binds .any e = true → (Array.replicate ops.toArray.size false).getD e.on false = true := by
    intro k o _ hl
    exfalso
    simp [Array.getD] at hl
  exact any_sound (W0 := W0) (A0 := A0) (n := n) (outs := outs) (outer := outer) a1 (fun log fr H hk => hk.1) a2 a3 a4 h3 h4
    ops.length (tags _ ops 0 H.length) _ [] fr (H ++ resvs ops) a _ (tags_len ..) (by simp) a5 a6 (tags_sorted ..) a7 (tags_ids _ ops 0 H rfl) ((R.drawn _).resvs ops) hK
end
end Go.Ab
