/-
  The order of a drawn region does not matter.
-/
import Derived.Test.YtciaimpdnjpajaaSkN
namespace Go.Ab
open Go Go.RowKit
section
variable {P : Program}

theorem SRep.congr {W0 : World} {A0 : Nat → Prop} {ds : List Deferred} {n : Nat} {outs : List (Array Value)} {outer : List Fr} {fr fr' : Fr} {H : List AObj} {a : Act} {w : World} (hf : ∀ t, get fr' t = get fr t)
    (R : SRep W0 A0 ds n outs outer fr H a w) : SRep W0 A0 ds n outs outer fr' H a w := by
  obtain ⟨C, h1, h2, h3, h4, h5⟩ := R.ex
  exact ⟨C, h1, h2, h3, fun t => by rw [hf]; exact h4 t, h5⟩

theorem get_put (fr : Fr) (d : Option Tmp) (v : AVal) (t : Nat) : get (put fr d v) t = if d = some t then v else get fr t := by
  cases d with
  | none => simp [put]
  | some k => simp [put, get]

/-- One operation, run: what the world then is. -/
structure Good (W0 : World) (A0 : Nat → Prop) (ds : List Deferred) (n : Nat) (outs : List (Array Value)) (outer : List Fr) (K : DK) (fr : Fr) (dst : Option Tmp) (H : List AObj) (a' : Act) (w' : World) : Prop where
  ex : ∃ en v ef, K en v ef ∧ SRep W0 A0 ds n outs outer (put fr dst v) (ef.app H) a' w'

def OpRuns (P : Program) (all : List Oper) (o : Oper) (a : Act) (w : World) (G : Act → World → Prop) : Prop :=
  (Region.wanted o (yielded all.toArray a.tmps) = true ∧
    ((∃ v' w', (execOp a.eval o).run P w = .ok (.value v') w' ∧ G (a.put o.dst v') w') ∨ (∃ w', (execOp a.eval o).run P w = .ok .skip w' ∧ G (a.put o.dst undef) w') ∨
      (∃ f args, (execOp a.eval o).run P w = .ok (.enter f args) w ∧ Calls P f args w fun e w' => ∃ v', e = .returned v' ∧ G (a.put o.dst v') w'))) ∨
  (Region.wanted o (yielded all.toArray a.tmps) = false ∧ G (a.put o.dst undef) w)

theorem OpRuns.exists {all : List Oper} {o : Oper} {a : Act} {w : World} {G : Act → World → Prop} (h : OpRuns P all o a w G) : ∃ a' w', G a' w' := by
  rcases h with ⟨_, h⟩ | ⟨_, h⟩
  · rcases h with ⟨v, w', _, h⟩ | ⟨w', _, h⟩ | ⟨f, args, _, h⟩
    · exact ⟨_, _, h⟩
    · exact ⟨_, _, h⟩
    · obtain ⟨e, w', fr, ⟨v', _, h⟩, _⟩ := h []
      exact ⟨_, _, h⟩
  · exact ⟨_, _, h⟩

theorem OpRuns.wpOp {md : Option Nat} {all : List Oper} {i : Nat} {o : Oper} {a : Act} {w : World} {G : Act → World → Prop} {Q : Exit → Act → World → Prop} {K : Act → World → Prop} (hi : all[i]? = some o) (h : OpRuns P all o a w G) (hK : ∀ a' w', G a' w' → K a' w') (nd : ∀ c, o.op ≠ .defer c) :
    wpOpIn (fence md) 5 P all.toArray Q i K a w := by
  unfold Go.wpOpIn
  have hi' : all.toArray[i]? = some o := by simpa using hi
  rw [hi']
  simp only
  rcases h with ⟨hw, h⟩ | ⟨hw, h⟩
  · rw [if_pos hw]
    unfold Oper.wpIn
    refine ⟨fun _ _ => trivial, ?_⟩
    rw [Oper.semAt_eq _ _ _ nd]
    rcases h with ⟨v, w', h1, h⟩ | ⟨w', h1, h⟩ | ⟨f, args, h1, h⟩
    · rw [h1]; exact hK _ _ h
    · rw [h1]; exact hK _ _ h
    · rw [h1, Oper.uponIn_enter]
      exact ⟨fence_depth, fence_calls (h.mono fun e w' ⟨v', he, hg⟩ => by subst he; exact hK _ _ hg)⟩
  · rw [if_neg (by rw [hw]; simp)]
    exact ⟨fun _ _ => trivial, hK _ _ h⟩

theorem dstep_run {W0 : World} {A0 : Nat → Prop} {ds : List Deferred} {n : Nat} {outs : List (Array Value)} {outer : List Fr} {all : List Oper} {o : Oper} {i id : Nat} {K : DK} {fr : Fr} {H : List AObj} {a : Act} {w : World}
    (hd : ∀ k, o.dst = some k → k < n) (hid : Free H id) (R : SRep W0 A0 ds n outs outer fr H a w) (h : dstep P all o i id K fr H) :
    OpRuns P all o a w (Good W0 A0 ds n outs outer K fr o.dst H) := by
  obtain ⟨C, rfl, rfl, I, hF, hO, hn, hdf⟩ := R.ex
  have hlt : ∀ k, o.dst = some k → k < a.tmps.size := by intro k hk; rw [hn]; exact hd k hk
  have srep : ∀ (C' : Ctx) (w' : World) (v : Value) (r : AVal), C'.A0 = C.A0 → Inv W0 C' w' → RepF C' w' a.tmps fr → RepOuts C' w' outs outer → RepV C' w' v r → SRep W0 C.A0 ds n outs outer (put fr o.dst r) C'.H (a.put o.dst v) w' :=
    fun C' w' v r e I' hF' hO' hv => ⟨C', rfl, e, I', hF'.put hv o.dst hlt, hO', by rw [put_size, hn], by rw [put_defers, hdf]⟩
  have skip : dskip K fr C.H → Good W0 C.A0 ds n outs outer K fr o.dst C.H (a.put o.dst undef) w :=
    fun h => ⟨[], .tuple [], .none, h, srep C w undef _ rfl I hF hO (undef_rep C w)⟩
  have run : drun P o.op i id K fr C.H → (∃ v' w', (execOp a.eval o).run P w = .ok (.value v') w' ∧ Good W0 C.A0 ds n outs outer K fr o.dst C.H (a.put o.dst v') w') ∨ (∃ w', (execOp a.eval o).run P w = .ok .skip w' ∧ Good W0 C.A0 ds n outs outer K fr o.dst C.H (a.put o.dst undef) w') ∨
      (∃ f args, (execOp a.eval o).run P w = .ok (.enter f args) w ∧ Calls P f args w fun e w' => ∃ v', e = .returned v' ∧ Good W0 C.A0 ds n outs outer K fr o.dst C.H (a.put o.dst v') w') := by
    intro h
    unfold drun dop at h
    split at h
    · rename_i f args hc
      obtain ⟨as, ts, ho, rfl⟩ := callOf_spec hc
      obtain ⟨fid, gs, r, ef, g1, g2, g4, g5⟩ := h
      have hcall : ACall P (ev fr f) (as.toList.map (ev fr)) (fr :: outer) C.H fun r' H' => r' = r ∧ H' = ef.app C.H := by
        rw [g1]
        rcases g4 with ⟨rfl, ⟨g3, g4⟩ | ⟨g3, g4⟩ | ⟨g3, g4⟩⟩ | ⟨sz, xs, g3, rfl, rfl, g4⟩ | ⟨r0, o', rfl, _, _, g4⟩
        · exact ACall.snap g2 g3 g4.1 (fun r' hr => hr ▸ g4.2) fun r' hr => ⟨hr, rfl⟩
        · rw [g4.2] at g3; exact ACall.pure g2 g3 g4.1 fun r' hr => ⟨hr, rfl⟩
        · exact ACall.snapF g2 g3 g4 fun r' hr => ⟨hr, rfl⟩
        · exact ACall.rowAt g2 g3 g4 id hid ⟨rfl, rfl⟩
        · exact g4 _ _ rfl fun _ _ => rfl
      obtain ⟨fid', caps, h1, h2, h3⟩ := Or.resolve_right (hcall W0 C w (a.tmps :: outs) (a.eval f) (as.toList.map a.eval) I rfl (hO.cons hF) (ev_rep hF f) (by simp) (fun i v x hv hx => by
        simp only [List.getElem?_map] at hv hx
        cases hy : as.toList[i]? with
        | none => simp [hy] at hv
        | some y =>
          simp only [hy, Option.map_some, Option.some.injEq] at hv hx
          subst hv hx; exact ev_rep hF y)) (by
        rintro ⟨l, rec, h1, _⟩
        have hfv := ev_rep hF f
        rw [g1, h1] at hfv
        cases hfv)
      have hrun : (execOp a.eval o).run P w = .ok (.enter fid' ((as.toList.map a.eval).toArray ++ caps)) w := by
        unfold execOp
        rw [ho]
        simp only [resolve, Deferred.ofValue, h1, invoke, Sem.run_bind, Sem.run_pure, Result.andThen_ok]
        have e1 : (#[] ++ Array.map a.eval as ++ caps : Array Value) = (as.toList.map a.eval).toArray ++ caps := by
          apply Array.ext'; simp
        rw [e1, h2]
      refine .inr (.inr ⟨_, _, hrun, h3.mono fun e w' ⟨v, r', C', he, ⟨hr, hH⟩, hA, hv, I', hO'⟩ => ⟨v, he, ?_⟩⟩)
      subst hr
      exact ⟨_, r', ef, g5, hH ▸ srep C' w' v r' hA I' hO'.head hO'.tail hv⟩
    · obtain ⟨r, w', C', ef, hres, hk, hH, I', m⟩ := (astep_sound (P := P) I hid (ev_rep hF) h).ex
      rcases hres with ⟨v, hrun, hv⟩ | ⟨hrun, rfl⟩
      · exact .inl ⟨v, w', hrun, ⟨_, r, ef, hk, hH ▸ srep C' w' v r m.A0 I' (hF.mono m) (hO.mono m) hv⟩⟩
      · exact .inr (.inl ⟨w', hrun, ⟨_, _, ef, hk, hH ▸ srep C' w' undef _ m.A0 I' (hF.mono m) (hO.mono m) (undef_rep C' w')⟩⟩)
  unfold dstep at h
  unfold OpRuns
  cases hg : o.guard with
  | none =>
    simp only [hg] at h
    exact .inl ⟨by simp [Region.wanted, hg], run h⟩
  | some jw =>
    obtain ⟨j, want⟩ := jw
    have hy : ∀ d, (all[j]?).bind (·.dst) = some d → yielded all.toArray a.tmps j = match a.tmps[d]? with | some (.bool b) => some b | _ => none := by
      intro d hd
      unfold yielded
      simp only [List.getElem?_toArray, hd, Option.bind_some]
      rfl
    cases hdd : (all[j]?).bind (·.dst) with
    | some d =>
      simp only [hg, hdd] at h
      have hv := hF d
      unfold aguardK at h
      split at h
      · rename_i c hc
        rw [hc] at hv
        have hva : a.tmps.getD d undef = .bool c := by cases hv' : a.tmps.getD d undef <;> rw [hv'] at hv <;> cases hv; rfl
        have hsome : a.tmps[d]? = some (.bool c) := by
          rw [Array.getD_eq_getD_getElem?] at hva
          cases ht : a.tmps[d]? with
          | none => rw [ht] at hva; cases hva
          | some u => rw [ht] at hva; simp at hva; rw [hva]
        have hw : Region.wanted o (yielded all.toArray a.tmps) = decide (c = want) := by
          simp only [Region.wanted, hg, hy d hdd, hsome]
          cases c <;> cases want <;> rfl
        by_cases hcw : c = want
        · exact .inl ⟨by rw [hw]; simpa using hcw, run (h.1 hcw)⟩
        · exact .inr ⟨by rw [hw]; simpa using hcw, skip (h.2 hcw)⟩
      · rename_i vs hc
        rw [hc] at hv
        have hw : Region.wanted o (yielded all.toArray a.tmps) = false := by
          simp only [Region.wanted, hg, hy d hdd]
          cases ht : a.tmps[d]? with
          | none => rfl
          | some u =>
            have : a.tmps.getD d undef = u := by rw [Array.getD_eq_getD_getElem?, ht]; rfl
            rw [this] at hv
            cases hv; rfl
        exact .inr ⟨hw, skip h⟩
      · exact h.elim
    | none =>
      simp only [hg, hdd] at h
      have hw : Region.wanted o (yielded all.toArray a.tmps) = false := by
        simp only [Region.wanted, hg]
        unfold yielded
        simp [hdd]
      exact .inr ⟨hw, skip h⟩

/-! ### the order -/

theorem app_len {i id : Nat} {o : Oper} {H : List AObj} {en : Log} {ef : Eff} (hl : LocIn i id o H en ef) (hid : opNew o.op = true → H[id]? = some .resv) : (ef.app H).length = H.length := by
  cases ef with
  | none => rfl
  | new j x =>
    obtain ⟨_, h1, h2, _⟩ := hl
    subst h2
    have := (List.getElem?_eq_some_iff.1 (hid h1)).1
    simp only [Eff.app, addAt]
    rw [if_neg (by omega), List.length_set]
  | set r x => simp [Eff.app]

/-- an effect is a place and what is laid there -/
theorem app_set {i id : Nat} {o : Oper} {H : List AObj} {en : Log} {ef : Eff} (hl : LocIn i id o H en ef) (hid : opNew o.op = true → H[id]? = some .resv) :
    (ef = .none) ∨ ∃ l x, (∃ p ∈ en, p.2.2 = true ∧ l ∈ p.2.1) ∧ (∀ H2 : List AObj, H2.length = H.length → ef.app H2 = H2.set l x) ∧ ((opNew o.op = true ∧ l = id) ∨ ∃ y, H[l]? = some y ∧ y ≠ .resv) := by
  cases ef with
  | none => exact .inl rfl
  | new j x =>
    obtain ⟨_, h1, rfl, h3⟩ := hl
    have := (List.getElem?_eq_some_iff.1 (hid h1)).1
    refine .inr ⟨j, x, h3, fun H2 h2 => ?_, .inl ⟨h1, rfl⟩⟩
    simp only [Eff.app, addAt]
    rw [if_neg (by omega)]
  | set r x =>
    obtain ⟨_, h1, h2⟩ := hl
    exact .inr ⟨r, x, h1, fun H2 _ => rfl, .inr h2⟩

def TagD (s t : Tag) : Prop := opNew s.o.op = true → opNew t.o.op = true → s.id ≠ t.id
/-- the places of the operations that are still to come -/
structure Ids (L : List Tag) (H : List AObj) : Prop where
  new : ∀ t ∈ L, opNew t.o.op = true → H[t.id]? = some .resv
  old : ∀ t ∈ L, opNew t.o.op = false → t.id = H.length
  dst : L.Pairwise TagD

theorem Ids.free {L : List Tag} {H : List AObj} (h : Ids L H) {t : Tag} (ht : t ∈ L) : Free H t.id := by
  cases hn : opNew t.o.op with
  | true => exact .inr (h.new t ht hn)
  | false => exact .inl (h.old t ht hn)

theorem Ids.step {L1 L2 : List Tag} {t : Tag} {H : List AObj} (h : Ids (L1 ++ t :: L2) H) {en : Log} {ef : Eff} (hl : LocIn t.i t.id t.o H en ef) : Ids (L1 ++ L2) (ef.app H) := by
  have htm : t ∈ L1 ++ t :: L2 := by simp
  have hlen := app_len hl (h.new t htm)
  have hD : ∀ s ∈ L1 ++ L2, TagD s t := by
    have hp := h.dst
    rw [List.pairwise_append] at hp
    obtain ⟨_, hp2, hp3⟩ := hp
    intro s hs
    rcases List.mem_append.1 hs with hs | hs
    · exact hp3 s hs t (List.mem_cons_self ..)
    · intro a b e
      exact (List.pairwise_cons.1 hp2).1 s hs b a e.symm
  have hsub : ∀ s ∈ L1 ++ L2, s ∈ L1 ++ t :: L2 := by
    intro s hs
    rcases List.mem_append.1 hs with hs | hs
    · exact List.mem_append_left _ hs
    · exact List.mem_append_right _ (List.mem_cons_of_mem _ hs)
  refine ⟨fun s hs hn => ?_, fun s hs hn => by rw [hlen]; exact h.old s (hsub s hs) hn, ?_⟩
  · have hr := h.new s (hsub s hs) hn
    rcases app_set hl (h.new t htm) with rfl | ⟨l, x, _, h2, h3⟩
    · exact hr
    · rw [h2 H rfl]
      have hne : l ≠ s.id := by
        rcases h3 with ⟨g1, rfl⟩ | ⟨y, g1, g2⟩
        · exact fun e => hD s hs hn g1 e.symm
        · rintro rfl
          rw [hr, Option.some.injEq] at g1
          exact g2 g1.symm
      rw [List.getElem?_set_ne hne]; exact hr
  · have hp := h.dst
    rw [List.pairwise_append] at hp ⊢
    exact ⟨hp.1, (List.pairwise_cons.1 hp.2.1).2, fun a ha b hb => hp.2.2 a ha b (List.mem_cons_of_mem _ hb)⟩

variable {all : List Oper} {K : Log → Fr → List AObj → Prop}

theorem dlt_congr (hK : ∀ log log' fr fr' H, (∀ t, get fr' t = get fr t) → (∀ p, p ∈ log ↔ p ∈ log') → K log fr H → K log' fr' H) : ∀ (L : List Tag) (log log' : Log) (fr fr' : Fr) (H : List AObj),
    (∀ t ∈ L, dOK t.o.op) → (∀ t, get fr' t = get fr t) → (∀ p, p ∈ log ↔ p ∈ log') → dlt P all K L log fr H → dlt P all K L log' fr' H
  | [], log, log', fr, fr', H, _, hf, hl, h => hK _ _ _ _ _ hf hl h
  | t :: L, log, log', fr, fr', H, hd, hf, hl, h => by
    have ih := dlt_congr hK L
    unfold dlt at h ⊢
    have key : ∀ K1 K2 : DK, (∀ en v ef, K1 en v ef → K2 en v ef) → dstep P all t.o t.i t.id K1 fr H → dstep P all t.o t.i t.id K2 fr' H := by
      intro K1 K2 hk hs
      have e1 : dstep P all t.o t.i t.id K2 fr' H = dstep P all t.o t.i t.id K2 fr H := by
        have hg : get fr' = get fr := funext hf
        have he : ev fr' = ev fr := by funext x; cases x <;> simp [ev, hf]
        simp only [dstep, drun, dskip, aguardK, hg, he]
      rw [e1]
      rcases dstep_det (hd t (List.mem_cons_self ..)) hs with ⟨en, v, ef, h1, h2, h3⟩ | h1
      · exact h3 fr H rfl (fun _ _ => rfl) (fun _ _ _ _ => rfl) K2 (hk _ _ _ h1)
      · exact h1 K2
    refine key _ _ (fun en v ef hk => ?_) h
    refine ih _ _ _ _ _ (fun t ht => hd t (List.mem_cons_of_mem _ ht)) (fun x => ?_) (fun p => ?_) hk
    · rw [get_put, get_put, hf]
    · rw [List.mem_append, List.mem_append, hl]

variable {W0 : World} {A0 : Nat → Prop} {ds : List Deferred} {n : Nat} {outs : List (Array Value)} {outer : List Fr}

/-- one operation, in its place: its outcome, and the world behind it -/
theorem dstep_out {t : Tag} {L1 L2 : List Tag} {K1 : DK} {fr : Fr} {H : List AObj} {a : Act} {w : World} (hd : dOK t.o.op) (hn : ∀ k, t.o.dst = some k → k < n) (hI : Ids (L1 ++ t :: L2) H) (R : SRep W0 A0 ds n outs outer fr H a w)
    (h : dstep P all t.o t.i t.id K1 fr H) : ∃ en v ef, DOut P all t.o t.i t.id K1 fr H en v ef ∧ ∃ a' w', SRep W0 A0 ds n outs outer (put fr t.o.dst v) (ef.app H) a' w' := by
  have hid := hI.free (t := t) (by simp)
  rcases dstep_det hd h with ⟨en, v, ef, h1⟩ | h1
  · have h2 := h1.2.2 fr H rfl (fun _ _ => rfl) (fun _ _ _ _ => rfl) (fun en' v' ef' => en' = en ∧ v' = v ∧ ef' = ef) ⟨rfl, rfl, rfl⟩
    obtain ⟨a', w', ⟨⟨_, _, _, ⟨rfl, rfl, rfl⟩, R'⟩⟩⟩ := (dstep_run hn hid R h2).exists
    exact ⟨_, _, _, h1, a', w', R'⟩
  · obtain ⟨a', w', ⟨⟨_, _, _, hf, _⟩⟩⟩ := (dstep_run hn hid R (h1 fun _ _ _ => False)).exists
    exact hf.elim

theorem dlt_run : ∀ (L : List Tag) (log : Log) (fr : Fr) (H : List AObj) (a : Act) (w : World), (∀ t ∈ L, dOK t.o.op) → (∀ t ∈ L, ∀ k, t.o.dst = some k → k < n) → Ids L H → SRep W0 A0 ds n outs outer fr H a w →
    dlt P all K L log fr H → ∃ log' fr' H', K log' fr' H' ∧ ∀ p ∈ log, p ∈ log'
  | [], log, fr, H, _, _, _, _, _, _, h => ⟨log, fr, H, h, fun _ h => h⟩
  | t :: L, log, fr, H, a, w, hd, hn, hI, R, h => by
    unfold dlt at h
    obtain ⟨en, v, ef, ⟨h1, h2, _⟩, a', w', R'⟩ := dstep_out (L1 := []) (hd t (List.mem_cons_self ..)) (hn t (List.mem_cons_self ..)) hI R h
    obtain ⟨log', fr', H', g1, g2⟩ := dlt_run L _ _ _ a' w' (fun t ht => hd t (List.mem_cons_of_mem _ ht)) (fun t ht => hn t (List.mem_cons_of_mem _ ht)) (hI.step (L1 := []) h2) R' h1
    exact ⟨log', fr', H', g1, fun p hp => g2 p (List.mem_append_right _ hp)⟩

structure Apart (A : List Nat) (all : List Oper) (s t : Tag) : Prop where
  ap : s.o.apart all.toArray t.o = true
  b1 : bit A s.i t.i = false
  b2 : bit A t.i s.i = false
  ne : s.i ≠ t.i

theorem okLog_spec {A : List Nat} {log : Log} (h : okLog A log = true) {p q : Nat × List Nat × Bool} (hp : p ∈ log) (hq : q ∈ log) (hne : p.1 ≠ q.1) (h1 : bit A p.1 q.1 = false) (h2 : bit A q.1 p.1 = false) (hw : (p.2.2 || q.2.2) = true)
    {r : Nat} (hr : r ∈ p.2.1) : r ∉ q.2.1 := by
  unfold okLog at h
  have := List.all_eq_true.1 (List.all_eq_true.1 h p hp) q hq
  simp only [h1, h2, hw, Bool.or_false, Bool.not_true, Bool.or_eq_true, beq_iff_eq, hne, false_or] at this
  unfold disj at this
  have := List.all_eq_true.1 this r hr
  simpa using this

variable {A : List Nat}

theorem hoist (hK : ∀ log log' fr fr' H, (∀ t, get fr' t = get fr t) → (∀ p, p ∈ log ↔ p ∈ log') → K log fr H → K log' fr' H) (hOK : ∀ log fr H, K log fr H → okLog A log = true) : ∀ (L1 : List Tag) (t : Tag) (L2 : List Tag) (log : Log) (fr : Fr) (H : List AObj) (a : Act) (w : World),
    (∀ s ∈ L1 ++ t :: L2, dOK s.o.op) → (∀ s ∈ L1 ++ t :: L2, ∀ k, s.o.dst = some k → k < n) → Ids (L1 ++ t :: L2) H → SRep W0 A0 ds n outs outer fr H a w → (∀ s ∈ L1, Apart A all s t) →
    dlt P all K (L1 ++ t :: L2) log fr H → dstep P all t.o t.i t.id (dafter (dlt P all K (L1 ++ L2)) log fr t.o.dst H) fr H
  | [], t, L2, log, fr, H, a, w, _, _, _, _, _, h => h
  | s :: L1, t, L2, log, fr, H, a, w, hd, hn, hI, R, hA, h => by
    rw [List.cons_append] at h
    unfold dlt at h
    obtain ⟨en_s, v_s, ef_s, ⟨g1, g2, g3⟩, a', w', R'⟩ := dstep_out (L1 := []) (hd s (by simp)) (hn s (by simp)) hI R h
    have I' : Ids (L1 ++ t :: L2) (ef_s.app H) := hI.step (L1 := []) g2
    have hd' : ∀ s ∈ L1 ++ t :: L2, dOK s.o.op := fun x hx => hd x (by rw [List.cons_append]; exact List.mem_cons_of_mem _ hx)
    have hn' : ∀ s ∈ L1 ++ t :: L2, ∀ k, s.o.dst = some k → k < n := fun x hx => hn x (by rw [List.cons_append]; exact List.mem_cons_of_mem _ hx)
    have ht := hoist hK hOK L1 t L2 _ _ _ a' w' hd' hn' I' R' (fun x hx => hA x (List.mem_cons_of_mem _ hx)) g1
    obtain ⟨en_t, v_t, ef_t, ⟨k1, k2, k3⟩, a'', w'', R''⟩ := dstep_out (L1 := L1) (L2 := L2) (hd' t (by simp)) (hn' t (by simp)) I' R' ht
    have hsubm : ∀ x ∈ L1 ++ L2, x ∈ L1 ++ t :: L2 := by
      intro x hx
      rcases List.mem_append.1 hx with hx | hx
      · exact List.mem_append_left _ hx
      · exact List.mem_append_right _ (List.mem_cons_of_mem _ hx)
    obtain ⟨log', fr', H', q1, q2⟩ := dlt_run (L1 ++ L2) _ _ _ a'' w'' (fun x hx => hd' x (hsubm x hx)) (fun x hx => hn' x (hsubm x hx)) (I'.step k2) R'' k1
    have hok := hOK _ _ _ q1
    have hst := hA s (List.mem_cons_self ..)
    obtain ⟨ap1, ap2, ap3⟩ := Oper.apart_spec hst.ap
    have hdis : ∀ p ∈ en_s, ∀ q ∈ en_t, (p.2.2 || q.2.2) = true → ∀ r ∈ p.2.1, r ∉ q.2.1 := by
      intro p hp q hq hw r hr
      have e1 := g2.1 p hp
      have e2 := k2.1 q hq
      exact okLog_spec hok (q2 p (by simp [hp])) (q2 q (by simp [hq])) (by rw [e1, e2]; exact hst.ne) (by rw [e1, e2]; exact hst.b1) (by rw [e1, e2]; exact hst.b2) hw hr
    have sS := app_set g2 (hI.new s (by simp))
    have sT := app_set k2 (I'.new t (by simp))
    have lenS := app_len g2 (hI.new s (by simp))
    have lenT : (ef_t.app H).length = H.length := by
      rcases sT with rfl | ⟨lt, xt, _, ht2, _⟩
      · rfl
      · rw [ht2 H lenS.symm, List.length_set]
    have heq : ef_s.app (ef_t.app H) = ef_t.app (ef_s.app H) := by
      rcases sS with rfl | ⟨ls, xs, ⟨p, hp, hpw, hpl⟩, hs2, _⟩
      · rfl
      · rcases sT with rfl | ⟨lt, xt, ⟨q, hq, hqw, hql⟩, ht2, _⟩
        · rfl
        · rw [ht2 H lenS.symm, hs2 H rfl, hs2 (H.set lt xt) (by simp), ht2 (H.set ls xs) (by rw [lenS]; simp)]
          have hne : ls ≠ lt := fun e => hdis p hp q hq (by rw [hpw]; rfl) ls hpl (e ▸ hql)
          exact List.set_comm _ _ (fun e => hne e.symm)
    refine k3 fr H lenS.symm (fun x hx => ?_) (fun p hp r hr => ?_) _ ?_
    · rw [get_put, if_neg]
      exact fun e => ap1 x e hx
    · rcases sS with rfl | ⟨ls, xs, ⟨p', hp', hpw, hpl⟩, hs2, _⟩
      · rfl
      · rw [hs2 H rfl, List.getElem?_set_ne]
        exact fun e => hdis p' hp' p hp (by rw [hpw]; rfl) ls hpl (e ▸ hr)
    · show dlt P all K (s :: (L1 ++ L2)) (en_t ++ log) (put fr t.o.dst v_t) (ef_t.app H)
      unfold dlt
      refine g3 _ _ lenT (fun x hx => ?_) (fun p hp r hr => ?_) _ ?_
      · rw [get_put, if_neg]
        exact fun e => ap3 x e hx
      · rcases sT with rfl | ⟨lt, xt, ⟨q, hq, hqw, hql⟩, ht2, _⟩
        · rfl
        · rw [ht2 H lenS.symm, List.getElem?_set_ne]
          exact fun e => hdis p hp q hq (by rw [hqw, Bool.or_true]) r hr (e ▸ hql)
      · show dlt P all K (L1 ++ L2) (en_s ++ (en_t ++ log)) (put (put fr t.o.dst v_t) s.o.dst v_s) (ef_s.app (ef_t.app H))
        rw [heq]
        refine dlt_congr hK _ _ _ _ _ _ (fun x hx => hd' x (hsubm x hx)) (fun x => ?_) (fun p => ?_) k1
        · simp only [get_put]
          by_cases e1 : s.o.dst = some x
          · rw [if_pos e1, if_neg (fun e => ap2 x e1 e), if_pos e1]
          · rw [if_neg e1, if_neg e1]
        · simp only [List.mem_append]
          constructor
          · rintro (h | h | h)
            · exact .inr (.inl h)
            · exact .inl h
            · exact .inr (.inr h)
          · rintro (h | h | h)
            · exact .inr (.inl h)
            · exact .inl h
            · exact .inr (.inr h)
end
end Go.Ab
