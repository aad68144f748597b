/-
  Ranging over a function: a round, the statement, the end of its function.
-/
import Derived.Test.YtciaimpdnjpajaaSkZD
namespace Go.Ab
open Go Go.RowKit
variable {P : Program} {md : Option Nat}

theorem wpIn_room {md : Option Nat} {n m : Nat} {c : Code} {Q : Exit → Act → World → Prop} {a : Act} {w : World} (h : c.wpIn (fence md) n P Q a w) : c.wpIn (fence md) m P Q a w :=
  fun b k cs h1 h2 _ => h b k cs h1 h2 (fun _ h => by simp [fence, Fence.wide] at h)

/-- the record of a loop, turned -/
theorem lp_turn {W0 : World} {C : Ctx} {w : World} (I : Inv W0 C w) {r D n : Nat} {fr : Fr} {ps : Array Tmp} {asg body : Code} {st : LoopState} {p : Option Code} (hr : C.H[r]? = some (.lp D n fr ps asg body st p)) :
    ∃ rec : Loop, w.heap[D + 1]? = some (.loop rec) ∧ rec.state = st ∧ rec.pending = p ∧ rec.params = ps ∧ rec.assign = asg ∧ rec.body = body ∧ rec.tmps.size = n ∧ RepF C w rec.tmps fr ∧
      ∀ st' p', Inv W0 (C.set r (.lp D n fr ps asg body st' p')) (w.putObj (D + 1) (.loop { rec with state := st', pending := p' })) ∧ Mono C w (C.set r (.lp D n fr ps asg body st' p')) (w.putObj (D + 1) (.loop { rec with state := st', pending := p' })) := by
  obtain ⟨l, rec, h1, h0, h2, h3, h4, h5, h6, h7, h8, h9, h10, h11, h12⟩ := I.objs r _ hr
  rw [h0] at h2
  refine ⟨rec, h2, h6, h7, h3, h4, h5, h9, h10, fun st' p' => ?_⟩
  have hs := I.sep r l h1
  have hlt : D + 1 < w.heap.size := by have := hs.2.2.1; omega
  have hne : ∀ b, b ≠ l.b → (w.putObj (D + 1) (.loop { rec with state := st', pending := p' })).heap[b]? = w.heap[b]? := fun b hb => World.putObj_heap_other (by omega)
  refine I.put hr h1 hne World.putObj_size (below_heap I.below (by omega) _) ?_ (fun m => ?_)
  · unfold ObjMono
    simp only [Ctx.set, List.getElem?_set_self hs.1]
    exact ⟨⟨_, hr, rfl⟩, trivial⟩
  · exact ⟨l, { rec with state := st', pending := p' }, h1, h0, by rw [h0]; exact World.putObj_heap_same hlt, h3, h4, h5, rfl, rfl, h8, h9, fun t => (h10 t).mono m, h11, by rw [hne D (by omega)]; exact h12⟩

/-- the frame of a round -/
def putAll : Fr → List Tmp → List AVal → Fr
  | fr, t :: ts, v :: vs => putAll ((t, v) :: fr) ts vs
  | fr, _, _ => fr
theorem putAll_rep {C : Ctx} {w : World} : ∀ (ps : List Tmp) (vs : List Value) (args : List AVal) (tmps : Array Value) (fr : Fr), RepF C w tmps fr → vs.length = args.length → (∀ t ∈ ps, t < tmps.size) →
    (∀ (i : Nat) (v : Value) (a : AVal), vs[i]? = some v → args[i]? = some a → RepV C w v a) →
    RepF C w ((ps.zip vs).foldl (fun tmps (t, a) => tmps.setIfInBounds t a) tmps) (putAll fr ps args) ∧ ((ps.zip vs).foldl (fun tmps (t, a) => tmps.setIfInBounds t a) tmps).size = tmps.size
  | [], vs, args, tmps, fr, h, _, _, _ => ⟨by cases args <;> exact h, rfl⟩
  | t :: ps, [], [], tmps, fr, h, _, _, _ => ⟨h, rfl⟩
  | t :: ps, v :: vs, a :: args, tmps, fr, h, hl, hp, hv => by
    have hs : (tmps.setIfInBounds t v).size = tmps.size := by simp
    have h' : RepF C w (tmps.setIfInBounds t v) ((t, a) :: fr) := h.put (a := { tmps := tmps, defers := [] }) (hv 0 v a rfl rfl) (some t) (fun k hk => by simp at hk; subst hk; exact hp t (by simp))
    have := putAll_rep ps vs args (tmps.setIfInBounds t v) ((t, a) :: fr) h' (by simpa using hl) (fun t' ht' => by rw [hs]; exact hp t' (List.mem_cons_of_mem _ ht')) (fun i v' a' h1 h2 => hv (i + 1) v' a' (by simpa using h1) (by simpa using h2))
    exact ⟨this.1, this.2.trans hs⟩
  | t :: ps, [], a :: args, tmps, fr, h, hl, _, _ => by simp at hl
  | t :: ps, v :: vs, [], tmps, fr, h, hl, _, _ => by simp at hl

def qyB (r D n : Nat) (fr : Fr) (ps : Array Tmp) (asg body : Code) (K : AVal → List AObj → Prop) : Exit → Fr → List AObj → Prop
  | .normal, _, H => ∃ p, H[r]? = some (.lp D n fr ps asg body .busy p) ∧ K (.bool true) (H.set r (.lp D n fr ps asg body .ready none))
  | .ret, _, H => ∃ p, H[r]? = some (.lp D n fr ps asg body .busy p) ∧ K (.bool false) (H.set r (.lp D n fr ps asg body .done (some .ret)))
  | .exit id, _, H => ∃ p, H[r]? = some (.lp D n fr ps asg body .busy p) ∧ K (.bool false) (H.set r (.lp D n fr ps asg body .done (some (.exit id))))
  | _, _, _ => False
def qyA (md : Option Nat) (P : Program) (st : List Fr) (r D n : Nat) (fr : Fr) (ps : Array Tmp) (asg body bodyc : Code) (K : AVal → List AObj → Prop) : Exit → Fr → List AObj → Prop
  | .normal, fr1, H => ∃ p, H[r]? = some (.lp D n fr ps asg body .ready p) ∧ AWP md P n bodyc (qyB r D n fr ps asg body K) st fr1 (H.set r (.lp D n fr ps asg body .busy p))
  | _, _, _ => False

/-- A call of yield: the loop's body. -/
theorem ACall.yield {r D n : Nat} {fr : Fr} {ps : Array Tmp} {asg body : Code} {p : Option Code} {args : List AVal} {st : List Fr} {H : List AObj} {K : AVal → List AObj → Prop} (hr : H[r]? = some (.lp D n fr ps asg body .ready p))
    (hlen : args.length = ps.size) (hps : (ps.toList.all fun t => Nat.blt t n) = true) {asgc bodyc : Code} {pl : List Tmp} (hA : asg = asgc) (hB : body = bodyc) (hpl : ps.toList = pl) (h : ∀ md, AWP md P n asgc (qyA md P st r D n fr ps asg body bodyc K) st (putAll fr pl args) H) : ACall P (.yld r) args st H K := by
  subst hA hB hpl
  intro W0 C w outs fv vs I hH hO hf hl hv
  subst hH
  obtain ⟨rec, e1, e2, e3, rfl, rfl, rfl, e7, e8, e9⟩ := lp_turn I hr
  cases hf with
  | yld b _ hk hh =>
    obtain ⟨l, h1, rfl⟩ := hh _ hr rfl
    obtain ⟨l', _, h1', h0', _⟩ := I.objs r _ hr
    have hb : l.b = D + 1 := by rw [h1] at h1'; obtain rfl := Option.some.inj h1'; exact h0'
    rw [hb]
    refine .inr ⟨D + 1, rec, rfl, e1, by rw [hl, hlen], roundIn_of_wpIn (F := Fence.wide) trivial ?_⟩
    have hfold : (rec.params.zip vs.toArray).foldl (fun tmps (t, a) => tmps.setIfInBounds t a) rec.tmps = (rec.params.toList.zip vs).foldl (fun tmps (t, a) => tmps.setIfInBounds t a) rec.tmps := by
      rw [← Array.foldl_toList]; simp
    rw [hfold]
    have hF := putAll_rep rec.params.toList vs args rec.tmps fr e8 hl (fun t ht => by
      have := List.all_eq_true.1 hps t ht
      rw [e7]; simpa using this) hv
    refine wpIn_room (md := some (D + 1)) (n := 5) (wpIn_mono (h (some (D + 1)) W0 C.A0 [] outs _ w ⟨C, rfl, rfl, I, hF.1, hO, by rw [← e7]; exact hF.2, rfl⟩) ?_)
    intro e a1 w1 ⟨fr1, H1, hq, hR1⟩
    cases e with
    | normal =>
      obtain ⟨p1, hr1, hb1⟩ := hq
      obtain ⟨C1, rfl, hA1, I1, hF1, hO1, hn1, hd1⟩ := hR1.ex
      obtain ⟨rec1, f1, f2, f3, f4, f5, f6, f7, f8, f9⟩ := lp_turn I1 hr1
      have t1 := f9 .busy p1
      refine ⟨_, run_beginRound f1 f2, ?_⟩
      rw [show ({ rec1 with state := LoopState.busy } : Loop) = { rec1 with state := .busy, pending := p1 } by rw [← f3]]
      refine wpIn_room (md := some (D + 1)) (n := 5) (wpIn_mono (hb1 W0 C.A0 [] outs a1 _ ⟨C1.set r (.lp D n fr rec.params rec.assign rec.body .busy p1), rfl, hA1, t1.1, hF1.mono t1.2, hO1.mono t1.2, hn1, hd1⟩) ?_)
      intro e a2 w2 ⟨fr2, H2, hq2, hR2⟩
      have fin : ∀ (jump : Option Code) (p2 : Option Code) (b : Bool) (st2 : LoopState), b = jump.isNone → st2 = (if jump.isNone then LoopState.ready else .done) → H2[r]? = some (.lp D n fr rec.params rec.assign rec.body .busy p2) → K (.bool b) (H2.set r (.lp D n fr rec.params rec.assign rec.body st2 jump)) →
          ∃ v w', (Instr.endRound (D + 1) jump).run P w2 = .ok v w' ∧ ∃ v' r C', Ending.returned v = .returned v' ∧ K r C'.H ∧ C'.A0 = C.A0 ∧ RepV C' w' v' r ∧ Inv W0 C' w' ∧ RepOuts C' w' outs st := by
        intro jump p2 b st2 hb hst hr2 hk
        subst hb hst
        obtain ⟨C2, rfl, hA2, I2, hF2, hO2, hn2, hd2⟩ := hR2.ex
        obtain ⟨rec2, g1, g2, g3, g4, g5, g6, g7, g8, g9⟩ := lp_turn I2 hr2
        have t2 := g9 (if jump.isNone then LoopState.ready else .done) jump
        exact ⟨_, _, run_endRound jump g1, _, _, C2.set r (.lp D n fr rec.params rec.assign rec.body (if jump.isNone then LoopState.ready else LoopState.done) jump), rfl, hk, hA2, .bool _, t2.1, hO2.mono t2.2⟩
      cases e with
      | normal => obtain ⟨p2, hr2, hk⟩ := hq2; exact fin none p2 true _ rfl rfl hr2 hk
      | ret => obtain ⟨p2, hr2, hk⟩ := hq2; exact fin (some .ret) p2 false _ rfl rfl hr2 hk
      | exit id => obtain ⟨p2, hr2, hk⟩ := hq2; exact fin (some (.exit id)) p2 false _ rfl rfl hr2 hk
      | _ => exact hq2.elim
    | _ => exact hq.elim

def hasD (D : Nat) (H : List AObj) : Prop := ∃ (r n : Nat) (fr : Fr) (ps : Array Tmp) (asg body : Code) (st : LoopState) (p : Option Code), H[r]? = some (AObj.lp D n fr ps asg body st p)

/-- code of a function that may range over a function -/
def AWPm (P : Program) (n : Nat) (c : Code) (Q : Exit → Fr → List AObj → Prop) (fr : Fr) (H : List AObj) : Prop :=
  ∀ (W0 : World) (A0 : Nat → Prop) (a : Act) (w : World), SRep W0 A0 [] n [] [] fr H a w →
    c.wpIn (fence none) 5 P (fun e a' w' => ∃ fr' H', Q e fr' H' ∧ (SRep W0 A0 [] n [] [] fr' H' a' w' ∨ ∃ D, W0.heap.size ≤ D ∧ hasD D H' ∧ SRep W0 A0 [{ target := .collected D, args := #[] }] n [] [] fr' H' a' w')) a w

theorem AWPm.plain {n : Nat} {c : Code} {Q : Exit → Fr → List AObj → Prop} {fr : Fr} {H : List AObj} (h : AWP none P n c Q [] fr H) : AWPm P n c Q fr H :=
  fun W0 A0 a w R => wpIn_mono (h W0 A0 [] [] a w R) fun _ _ _ ⟨fr', H', hq, hR⟩ => ⟨fr', H', hq, .inl hR⟩
theorem AWPm.pre {n : Nat} {c d : Code} {Q : Exit → Fr → List AObj → Prop} {fr : Fr} {H : List AObj} (h : AWP none P n c (qthen (AWPm P n d Q) Q) [] fr H) : AWPm P n (.seq c d) Q fr H := by
  intro W0 A0 a w R
  refine wpIn_seq (wpIn_mono (h W0 A0 [] [] a w R) ?_)
  intro e a' w' ⟨fr', H', hq, hR⟩
  cases e <;> first | exact hq W0 A0 a' w' hR | exact ⟨fr', H', hq, .inl hR⟩

def qmD (D : Nat) (Q : Exit → Fr → List AObj → Prop) (e : Exit) (fr : Fr) (H : List AObj) : Prop := hasD D H ∧ Q e fr H
theorem qmD.mk {D r n : Nat} {Q : Exit → Fr → List AObj → Prop} {e : Exit} {fr : Fr} {H : List AObj} {fr' : Fr} {ps : Array Tmp} {asg body : Code} {st : LoopState} {p : Option Code} (hr : H[r]? = some (.lp D n fr' ps asg body st p)) (h : Q e fr H) : qmD D Q e fr H := ⟨⟨r, n, fr', ps, asg, body, st, p, hr⟩, h⟩
/-- code that may range over a function, and what is asked behind it -/
def AWPq (P : Program) (n : Nat) (c : Code) (N : Option Nat → Fr → List AObj → Prop) (Q : Exit → Fr → List AObj → Prop) (fr : Fr) (H : List AObj) : Prop :=
  ∀ (W0 : World) (A0 : Nat → Prop) (a : Act) (w : World), SRep W0 A0 [] n [] [] fr H a w →
    c.wpIn (fence none) 5 P (fun e a' w' => ∃ fr' H', (match e with
      | .normal => (N none fr' H' ∧ SRep W0 A0 [] n [] [] fr' H' a' w') ∨ ∃ D, W0.heap.size ≤ D ∧ N (some D) fr' H' ∧ SRep W0 A0 [{ target := .collected D, args := #[] }] n [] [] fr' H' a' w'
      | e => Q e fr' H' ∧ (SRep W0 A0 [] n [] [] fr' H' a' w' ∨ ∃ D, W0.heap.size ≤ D ∧ hasD D H' ∧ SRep W0 A0 [{ target := .collected D, args := #[] }] n [] [] fr' H' a' w'))) a w
def nafter (P : Program) (n : Nat) (d : Code) (Q : Exit → Fr → List AObj → Prop) : Option Nat → Fr → List AObj → Prop
  | none => AWPm P n d Q
  | some D => AWP none P n d (qmD D Q) []
theorem AWPm.seqq {n : Nat} {c d : Code} {Q : Exit → Fr → List AObj → Prop} {fr : Fr} {H : List AObj} (h : AWPq P n c (nafter P n d Q) Q fr H) : AWPm P n (.seq c d) Q fr H := by
  intro W0 A0 a w R
  refine wpIn_seq (wpIn_mono (h W0 A0 a w R) ?_)
  intro e a' w' ⟨fr', H', hq⟩
  cases e with
  | normal =>
    rcases hq with ⟨hn, hR⟩ | ⟨D, hge, hn, hR⟩
    · exact hn W0 A0 a' w' hR
    · exact wpIn_mono (hn W0 A0 _ [] a' w' hR) fun e a' w' ⟨fr', H', hq, hR⟩ => ⟨fr', H', hq.2, .inr ⟨D, hge, hq.1, hR⟩⟩
  | _ => exact ⟨fr', H', hq.1, hq.2⟩
theorem AWPq.seq {n : Nat} {c d : Code} {N : Option Nat → Fr → List AObj → Prop} {Q : Exit → Fr → List AObj → Prop} {fr : Fr} {H : List AObj} (h : AWP none P n c (qthen (AWPq P n d N Q) Q) [] fr H) : AWPq P n (.seq c d) N Q fr H := by
  intro W0 A0 a w R
  refine wpIn_seq (wpIn_mono (h W0 A0 [] [] a w R) ?_)
  intro e a' w' ⟨fr', H', hq, hR⟩
  cases e <;> first | exact hq W0 A0 a' w' hR | exact ⟨fr', H', hq, .inl hR⟩
/-- after the loop -/
def qrange (n : Nat) (N : Option Nat → Fr → List AObj → Prop) (Q : Exit → Fr → List AObj → Prop) (id D r : Nat) (fr : Fr) (ps : Array Tmp) (asg body : Code) (_ : AVal) (H : List AObj) : Prop :=
  ∃ st p, H[r]? = some (.lp D n fr ps asg body st p) ∧ st ≠ .busy ∧
    match p with
    | none => N (some D) fr (H.set r (.lp D n fr ps asg body .exhausted p))
    | some .ret => Q .ret fr (H.set r (.lp D n fr ps asg body .exhausted p))
    | some (.exit i) => i = id ∧ N (some D) fr (H.set r (.lp D n fr ps asg body .exhausted p))
    | _ => False
section
variable {n id D r : Nat} {N : Option Nat → Fr → List AObj → Prop} {Q : Exit → Fr → List AObj → Prop} {fr : Fr} {ps : Array Tmp} {asg body d : Code} {v : AVal} {H : List AObj}
theorem qrange.all (hr : H[r]? = some (.lp D n fr ps asg body .ready none)) (h : AWP none P n d (qmD D Q) [] fr (H.set r (.lp D n fr ps asg body .exhausted none))) : qrange n (nafter P n d Q) Q id D r fr ps asg body v H := ⟨_, _, hr, by simp, h⟩
theorem qrange.ret (hr : H[r]? = some (.lp D n fr ps asg body .done (some .ret))) (h : Q .ret fr (H.set r (.lp D n fr ps asg body .exhausted (some .ret)))) : qrange n N Q id D r fr ps asg body v H := ⟨_, _, hr, by simp, h⟩
theorem qrange.brk (hr : H[r]? = some (.lp D n fr ps asg body .done (some (.exit id)))) (h : AWP none P n d (qmD D Q) [] fr (H.set r (.lp D n fr ps asg body .exhausted (some (.exit id))))) : qrange n (nafter P n d Q) Q id D r fr ps asg body v H := ⟨_, _, hr, by simp, rfl, h⟩
end
theorem qyA.mk {md : Option Nat} {st : List Fr} {r D n : Nat} {fr fr1 : Fr} {ps : Array Tmp} {asg body bodyc : Code} {K : AVal → List AObj → Prop} {H : List AObj} {p : Option Code} (hr : H[r]? = some (.lp D n fr ps asg body .ready p))
    (h : AWP md P n bodyc (qyB r D n fr ps asg body K) st fr1 (H.set r (.lp D n fr ps asg body .busy p))) : qyA md P st r D n fr ps asg body bodyc K .normal fr1 H := ⟨p, hr, h⟩
section
variable {r D n : Nat} {fr fr1 : Fr} {ps : Array Tmp} {asg body : Code} {K : AVal → List AObj → Prop} {H : List AObj} {p : Option Code}
theorem qyB.next (hr : H[r]? = some (.lp D n fr ps asg body .busy p)) (h : K (.bool true) (H.set r (.lp D n fr ps asg body .ready none))) : qyB r D n fr ps asg body K .normal fr1 H := ⟨p, hr, h⟩
theorem qyB.ret (hr : H[r]? = some (.lp D n fr ps asg body .busy p)) (h : K (.bool false) (H.set r (.lp D n fr ps asg body .done (some .ret)))) : qyB r D n fr ps asg body K .ret fr1 H := ⟨p, hr, h⟩
theorem qyB.exit {id : Nat} (hr : H[r]? = some (.lp D n fr ps asg body .busy p)) (h : K (.bool false) (H.set r (.lp D n fr ps asg body .done (some (.exit id))))) : qyB r D n fr ps asg body K (.exit id) fr1 H := ⟨p, hr, h⟩
end

/-- The statement, its codes under names. -/
theorem AWPq.range {n id : Nat} {g : Operand} {ps : Array Tmp} {asg body : Code} {N : Option Nat → Fr → List AObj → Prop} {Q : Exit → Fr → List AObj → Prop} {fr0 : Fr} {H : List AObj} {f : FuncId} {cs : List AVal} (fr : Fr) (hF0 : subF fr0 fr) (hH0 : subH H H) (hg : ev fr g = .func f cs)
    (h : ∀ D asg' body', asg' = asg → body' = body → ACall P (.func f cs) [.yld H.length] [fr] (H ++ [.lp D n fr ps asg' body' .ready none]) (qrange n N Q id D H.length fr ps asg' body')) : AWPq P n (.block id (.rangeFunc g ps asg body)) N Q fr0 H := by
  intro W0 A0 a w R0
  have R := Sub.weak (outer := []) hH0 hF0 (.inl rfl) _ _ _ _ _ _ _ R0
  clear R0 hF0 hH0
  replace h := fun D => h D asg body rfl rfl
  obtain ⟨C, rfl, rfl, I, hF, hO, hn, hd⟩ := R.ex
  refine wpIn_block (wpIn_rangeFunc fun fn _ => ?_)
  have henter := run_enterLoop_outer (P := P) (w := w) fn a.tmps ps asg body
  have g1 := I.grow (w' := w.alloc (.deferred (some []))) (fun b => b = w.heap.size) (fun b hb => by subst hb; simp) (by
    exact ((Below.refl w.heap.size w).alloc (Nat.le_refl _) _))
  have hD : (w.alloc (.deferred (some []))).heap[w.heap.size]? = some (.deferred (some [])) := World.alloc_heap_new w _
  have g2 := g1.1.alloc (C.more fun b => b = w.heap.size).H.length (.inl rfl) (.lp w.heap.size n fr ps asg body .ready none)
    (.loop { state := .ready, pending := none, fn, tmps := a.tmps, params := ps, assign := asg, body := body, defers := w.heap.size }) 0 (fun m => by
      refine ⟨_, _, Ctx.new_ρ _ _ _ _, by simp, heap_alloc_self _ _, rfl, rfl, rfl, rfl, rfl, rfl, hn, fun t => ((hF t).mono g1.2).mono m, .inr rfl, ?_⟩
      rw [Below.heap_alloc _ _ _ (by simp)]; exact hD)
  have hH : ((C.more fun b => b = w.heap.size).new (C.more fun b => b = w.heap.size).H.length (.lp w.heap.size n fr ps asg body .ready none) ⟨(w.alloc (.deferred (some []))).heap.size, 0, 0⟩).H = C.H ++ [.lp w.heap.size n fr ps asg body .ready none] := by
    show addAt C.H C.H.length _ = _
    unfold addAt; rw [if_pos rfl]
  have hm := g1.2.trans g2.2
  have hcall := h w.heap.size W0 _ _ (a.tmps :: []) (a.eval g) [.func (.yield (w.heap.size + 1)) #[] #[]] g2.1 hH (RepOuts.nil.cons (hF.mono hm)) (hg ▸ ev_rep (hF.mono hm) g) rfl (fun i v x hv hx => by
    match i with
    | 0 =>
      simp at hv hx
      subst hv hx
      refine .yld _ _ (Ctx.new_known (C := C.more fun b => b = w.heap.size) (.inl rfl) _ (by simp)) fun o ho hlp => ⟨_, Ctx.new_ρ (C.more fun b => b = w.heap.size) _ _ _, by simp⟩
    | i + 1 => simp at hv)
  rcases hcall with ⟨fid, caps, h1, h2, h3⟩ | ⟨l, rec, h1, hl, _⟩
  · generalize hW1 : (w.alloc (.deferred (some []))).alloc (.loop { state := .ready, pending := none, fn, tmps := a.tmps, params := ps, assign := asg, body := body, defers := w.heap.size }) = W1 at henter h3 g2 hm
    refine ⟨w.heap.size + 1, [{ target := .collected w.heap.size, args := #[] }], W1, { target := .fn (.func fid) caps, args := #[.func (.yield (w.heap.size + 1)) #[] #[]] }, W1, fid, #[.func (.yield (w.heap.size + 1)) #[] #[]] ++ caps, W1, henter, ?_, fun _ _ => trivial, ?_, fence_depth, ?_⟩
    rotate_left 2
    · refine fence_calls (h3.mono ?_)
      rintro e w3 ⟨v, r, C3, he, hk, hA, hv, I3, hO3⟩
      subst he
      obtain ⟨st, p, hr, hst, hk⟩ := hk
      obtain ⟨rec, e1, e2, e3, e4, e5, e6, e7, e8, e9⟩ := lp_turn I3 hr
      have t := e9 .exhausted p
      refine ⟨rec.pending, _, run_endLoop e1 (by rw [e2]; exact hst), ?_⟩
      rw [show ({ rec with state := LoopState.exhausted } : Loop) = { rec with state := .exhausted, pending := p } by rw [← e3]]
      have hlt := (List.getElem?_eq_some_iff.1 hr).1
      have hhas : hasD w.heap.size (C3.H.set C.H.length (.lp w.heap.size n fr ps asg body .exhausted p)) := ⟨C.H.length, _, _, _, _, _, _, _, List.getElem?_set_self hlt⟩
      have R3 : SRep W0 C.A0 ({ target := .collected w.heap.size, args := #[] } :: []) n [] [] fr (C3.H.set C.H.length (.lp w.heap.size n fr ps asg body .exhausted p)) { a with defers := [{ target := .collected w.heap.size, args := #[] }] ++ a.defers } (w3.putObj (w.heap.size + 1) (.loop { rec with state := .exhausted, pending := p })) :=
        ⟨C3.set C.H.length (.lp w.heap.size n fr ps asg body .exhausted p), rfl, hA, t.1, hO3.head.mono t.2, .nil, hn, by simp [hd]⟩
      rw [e3]
      cases p with
      | none => exact ⟨fr, _, .inr ⟨_, I.below.size, hk, R3⟩⟩
      | some c =>
        cases c <;> first | exact hk.elim | skip
        · obtain ⟨rfl, hk⟩ := hk
          refine wpIn_exit ?_
          simp only [Exit.inBlock, if_pos]
          exact ⟨fr, _, .inr ⟨_, I.below.size, hk, R3⟩⟩
        · exact wpIn_ret ⟨fr, _, hk, .inr ⟨_, I.below.size, hhas, R3⟩⟩
    · simp only [resolve, rangeCall, Deferred.ofValue, h1, Sem.run_bind, Sem.run_pure, Result.andThen_ok]
      rw [show (#[] ++ Array.map a.eval #[Operand.const (Value.func (Fn.yield (w.heap.size + 1)) #[] #[])] : Array Value) = #[Value.func (Fn.yield (w.heap.size + 1)) #[] #[]] by apply Array.ext'; simp [Act.eval]]
    · simp only [invoke]
      exact h2 _ _
  · have hv := ev_rep hF g
    rw [hg, h1] at hv
    cases hv

/-- the heap without the records of loops -/
def noLp : AObj → AObj
  | .lp _ _ _ _ _ _ _ _ => .gone
  | o => o
def Ctx.noLp (C : Ctx) : Ctx := { C with ρ := fun r => match C.H[r]? with | some (.lp _ _ _ _ _ _ _ _) => none | _ => C.ρ r, H := C.H.map Go.Ab.noLp }
theorem Ctx.noLp_get (C : Ctx) (r : Nat) : C.noLp.H[r]? = (C.H[r]?).map Go.Ab.noLp := by simp [Ctx.noLp]
theorem Ctx.noLp_of {C : Ctx} {r : Nat} {o : AObj} (h : C.noLp.H[r]? = some o) (ho : o ≠ .gone) : C.H[r]? = some o ∧ C.noLp.ρ r = C.ρ r := by
  rw [Ctx.noLp_get] at h
  cases hc : C.H[r]? with
  | none => rw [hc] at h; cases h
  | some o0 =>
    rw [hc] at h
    obtain rfl := Option.some.inj h
    cases o0 <;> first | exact absurd rfl ho | exact ⟨rfl, by simp only [Ctx.noLp, hc]⟩
theorem Ctx.noLp_known {C : Ctx} {r : Nat} (h : C.known r) : C.noLp.known r := by
  obtain ⟨o, ho, hne⟩ := h
  refine ⟨Go.Ab.noLp o, by rw [Ctx.noLp_get, ho]; rfl, ?_⟩
  cases o <;> first | exact absurd rfl hne | simp [Go.Ab.noLp]

/-- a block that holds deferred calls is turned -/
theorem RepV.shut {C : Ctx} {w w' : World} {D : Nat} {ds : Option (List Deferred)} (hD : w.heap[D]? = some (.deferred ds)) (hw : ∀ b, b ≠ D → w'.heap[b]? = w.heap[b]?) {v : Value} {a : AVal} (h : RepV C w v a) : RepV C.noLp w' v a := by
  have hcell : ∀ (ad : Addr) (u : Value), w.cell? ad = some u → w'.cell? ad = some u := by
    intro ad u h
    by_cases e : ad.block = D
    · have : w.cell? ad = none := by unfold World.cell?; rw [e, hD]
      rw [this] at h; cases h
    · rw [cell?_of_heap (hw _ e)]; exact h
  induction h with
  | any v => exact .any v
  | bool b => exact .bool b
  | int k n => exact .int k n
  | str s => exact .str s
  | agg arr cs h _ ih => exact .agg arr cs h ih
  | tuple arr cs h _ ih => exact .tuple arr cs h ih
  | nils => exact .nils
  | z0 a => exact .z0 a
  | sl0 a cap sz hcm => exact .sl0 a cap sz hcm
  | sl a len cap xs sz u hsp hlen hlc hcm hA hsz1 hsz hg hc hrep ih => exact .sl a len cap xs sz u hsp hlen hlc hcm hA hsz1 hsz hg (fun j hj => hcell _ _ (hc j hj)) ih
  | own a len cap r v lo hr hlc hcm hv =>
    refine .own a len cap r v lo (Ctx.noLp_known hr) hlc hcm fun v' sz xs h => ?_
    have := Ctx.noLp_of h (by simp)
    rw [this.2]; exact hv _ _ _ this.1
  | eptr a cs u hsp hA hg hc hrep ih => exact .eptr a cs u hsp hA hg (fun j hj => hcell _ _ (hc j hj)) ih
  | ptr a r k hr h =>
    refine .ptr a r k (Ctx.noLp_known hr) fun cs h' => ?_
    have := Ctx.noLp_of h' (by simp)
    rw [this.2]; exact h _ this.1
  | rptr a r v i k hr h =>
    refine .rptr a r v i k (Ctx.noLp_known hr) fun v' sz xs h' => ?_
    have := Ctx.noLp_of h' (by simp)
    rw [this.2]; exact h _ _ _ this.1
  | nilm => exact .nilm
  | pr φ a len cap h hs =>
    refine .pr φ a len cap (hs _ _ _ _ (fun b hb => ⟨hb, ?_⟩) h) hs
    by_cases e : b = D
    · exact .inr ⟨ds, by rw [e]; exact hD⟩
    · exact .inl (hw b e)
  | map b r hr h =>
    refine .map b r (Ctx.noLp_known hr) fun o h' hl => ?_
    have := Ctx.noLp_of h' (by rintro rfl; cases hl)
    rw [this.2]; exact h _ this.1 hl
  | vmap0 => exact .vmap0
  | vmap b es entries clock hA hg hh hwf hrep ih =>
    refine .vmap b es entries clock hA hg ?_ hwf ih
    rw [hw b (fun e => by rw [e, hD] at hh; cases hh)]; exact hh
  | func f arr cs h _ ih => exact .func f arr cs h ih
  | iter a r hr hsp h =>
    refine .iter a r (Ctx.noLp_known hr) hsp fun left cur h' => ?_
    have := Ctx.noLp_of h' (by simp)
    rw [this.2]; exact h _ _ this.1
  | yld b r hr h =>
    refine .yld b r (Ctx.noLp_known hr) fun o h' hl => ?_
    have := Ctx.noLp_of h' (by rintro rfl; cases hl)
    rw [this.2]; exact h _ this.1 hl

theorem Inv.shut {W0 : World} {C : Ctx} {w w' : World} (I : Inv W0 C w) {D : Nat} {ds : Option (List Deferred)} (hD : w.heap[D]? = some (.deferred ds)) (hw : ∀ b, b ≠ D → w'.heap[b]? = w.heap[b]?) (hsz : w'.heap.size = w.heap.size) (hb : Below W0.heap.size W0 w') : Inv W0 C.noLp w' := by
  have sh : ∀ {v a}, RepV C w v a → RepV C.noLp w' v a := fun h => h.shut hD hw
  have hρ : ∀ {r l}, C.noLp.ρ r = some l → C.ρ r = some l := by
    intro r l h
    simp only [Ctx.noLp] at h
    split at h
    · cases h
    · exact h
  refine ⟨hb, fun b hA => by rw [hsz]; exact I.sub b hA, I.old, fun r l h => ?_, fun r r' l l' h h' => I.inj r r' l l' (hρ h) (hρ h'), fun r o h => ?_⟩
  · have := I.sep r l (hρ h)
    exact ⟨by simpa [Ctx.noLp] using this.1, this.2.1, by rw [hsz]; exact this.2.2.1, this.2.2.2⟩
  · by_cases hg : o = .gone
    · subst hg
      show C.noLp.ρ r = none
      rw [Ctx.noLp_get] at h
      cases hc : C.H[r]? with
      | none => rw [hc] at h; cases h
      | some o0 =>
        rw [hc] at h
        have h := Option.some.inj h
        have hR := I.objs r o0 hc
        cases o0 <;> simp only [Go.Ab.noLp] at h <;> first | (cases h; done) | skip
        · simp only [Ctx.noLp, hc]
        · simp only [Ctx.noLp, hc]; exact hR
    · obtain ⟨h1, h2⟩ := Ctx.noLp_of h hg
      have hR := I.objs r o h1
      have hne : ∀ {b : Nat} {o' : Obj}, w.heap[b]? = some o' → (∀ x, o' ≠ Obj.deferred x) → w'.heap[b]? = some o' := by
        intro b o' hb hx
        rw [hw b (fun e => by rw [e, hD] at hb; exact hx _ (Option.some.inj hb).symm)]; exact hb
      cases o with
      | box cs =>
        obtain ⟨l, arr, T, h1, h3, h4, h5⟩ := hR
        exact ⟨l, arr, T, by rw [h2]; exact h1, hne h3 (by simp), h4, fun i u c a b => sh (h5 i u c a b)⟩
      | row v sz xs =>
        obtain ⟨e1, e2, e3, h⟩ := hR
        refine ⟨e1, e2, e3, ?_⟩
        rcases h with ⟨h1, h3⟩ | ⟨l, arr, T, h1, h3, h4, h5, h6⟩
        · exact .inl ⟨h1, by rw [h2]; exact h3⟩
        · refine .inr ⟨l, arr, T, by rw [h2]; exact h1, hne h3 (by simp), h4, h5, fun i k x c a b => ?_⟩
          obtain ⟨u, hu, hr⟩ := h6 i k x c a b
          exact ⟨u, hu, sh hr⟩
      | mp es =>
        obtain ⟨l, en, cl, h1, h3, h4, hg, h5⟩ := hR
        exact ⟨l, en, cl, by rw [h2]; exact h1, hne h3 (by simp), h4, hg, fun i e p a b => sh (h5 i e p a b)⟩
      | mpo q es =>
        obtain ⟨l, en, cl, h1, h3, h4, h5⟩ := hR
        exact ⟨l, en, cl, by rw [h2]; exact h1, hne h3 (by simp), h4, fun i e p a b => sh (h5 i e p a b)⟩
      | it left cur =>
        obtain ⟨l, h1, h⟩ := hR
        refine ⟨l, by rw [h2]; exact h1, ?_⟩
        rcases h with ⟨e2, e2', s, n, k, h3⟩ | ⟨bm, seen, en, clock, e2, h3, h4, h5, h6, h7, h8⟩
        · exact .inl ⟨e2, e2', s, n, k, hne h3 (by simp)⟩
        · refine .inr ⟨bm, seen, en, clock, hne e2 (by simp), h3, hne h4 (by simp), h5, h6, ⟨h7.1, fun i e p a b => ⟨(h7.2 i e p a b).1, (h7.2 i e p a b).2.1, sh (h7.2 i e p a b).2.2⟩⟩, fun p hp => ?_⟩
          obtain ⟨e, g1, g2, g3, g4, g5⟩ := h8 p hp
          exact ⟨e, g1, g2, g3, g4, sh g5⟩
      | lp D' n fr ps asg body st p =>
        rw [Ctx.noLp_get, h1] at h
        exact absurd (Option.some.inj h).symm hg
      | gone => exact absurd rfl hg
      | resv => show C.noLp.ρ r = none; rw [h2]; exact hR

theorem aresult_noLp (fr : Fr) (C : Ctx) (rv : ResultVar) {a : AVal} (h : aresult P fr C.H rv = some a) : aresult P fr C.noLp.H rv = some a := by
  cases rv with
  | tmp t => exact h
  | cell p T =>
    simp only [aresult] at h ⊢
    split at h
    · rename_i r k hpk
      rw [Ctx.noLp_get]
      cases hc : C.H[r]? with
      | none => rw [hc] at h; cases h
      | some o =>
        rw [hc] at h
        cases o <;> first | exact h | (cases h; done)
    · cases h
theorem aresults_noLp (fr : Fr) (C : Ctx) : ∀ (l : List ResultVar) {vs : List AVal}, mapO (aresult P fr C.H) l = some vs → mapO (aresult P fr C.noLp.H) l = some vs
  | [], vs, h => h
  | rv :: l, vs, h => by
    simp only [mapO] at h ⊢
    split at h
    · rename_i y ys h1 h2
      rw [aresult_noLp fr C rv h1, aresults_noLp fr C l h2]
      exact h
    · cases h
theorem frz0_noLp (C : Ctx) (a : AVal) : frz0 C.noLp.H a = frz0 C.H a := by
  unfold frz0
  split
  · rename_i r _ _ _
    rw [Ctx.noLp_get]
    cases hc : C.H[r]? with
    | none => rfl
    | some o => cases o <;> rfl
  · rename_i r
    rw [Ctx.noLp_get]
    cases hc : C.H[r]? with
    | none => rfl
    | some o => cases o <;> rfl
  all_goals rfl
theorem mapO_congr {α β : Type} {f g : α → Option β} (h : ∀ x, f x = g x) : ∀ l : List α, mapO f l = mapO g l
  | [] => rfl
  | x :: l => by simp only [mapO, h x, mapO_congr h l]
theorem frz1_noLp (C : Ctx) (a : AVal) : frz1 C.noLp.H a = frz1 C.H a := by
  unfold frz1
  split
  · rw [mapO_congr (frz0_noLp C)]
  · exact frz0_noLp C _
theorem frz2_noLp (C : Ctx) (a : AVal) : frz2 C.noLp.H a = frz2 C.H a := by
  unfold frz2
  split
  · rw [mapO_congr (frz1_noLp C)]
  · exact frz1_noLp C _

/-- A contract, proved over the body of a function that ranges over a function. -/
theorem PureFn.introM {f : FuncId} {fn : Func} {c : Code} {n : Nat} {args : List AVal} {R : AVal → Prop} (hf : P.funcs[f]? = some fn) (hb : fn.body = some c) (hn : fn.ntmps = n) (hlen : args.length ≤ n)
    (h : AWPm P n c (qret P fn (rfrz R)) (frame0 args 0) []) : PureFn P f args R := by
  intro A w vs hA hvs
  have hsize : (vs.toArray ++ Array.replicate (fn.ntmps - vs.toArray.size) undef).size = n := by
    have := hvs.1
    simp only [Array.size_append, List.size_toArray, Array.size_replicate]; omega
  have I0 : Inv w (Ctx.imm A) w := ⟨.refl _ _, hA, fun b hb _ => hb, by simp [Ctx.imm], by simp [Ctx.imm], by simp [Ctx.imm]⟩
  refine (callsIn_wide (n := 5)).1 (callsIn_of_wp_marks hf hb trivial (wpIn_mono (h w A _ w ⟨Ctx.imm A, rfl, rfl, I0, enter_rep hvs _, .nil, hsize, rfl⟩) ?_))
  intro e a' w' ⟨fr', H', hq, hR⟩
  have key : ∀ (C : Ctx) (w2 : World), C.A0 = A → Inv w C w2 → RepF C w2 a'.tmps fr' → (match mapO (aresult P fr' C.H) fn.results.toList with | some vs => rfrz R (aret vs) C.H | none => False) →
      LeavesIn Fence.wide 5 P fn a'.tmps (fun e w' => ∃ v r, e = .returned v ∧ R r ∧ r.g2 = true ∧ Below w.heap.size w w' ∧ RepV (Ctx.imm fun b => A b ∨ (w.heap.size ≤ b ∧ b < w'.heap.size)) w' v r) [] .returning w2 := by
    intro C w2 hA0 I hF h
    split at h
    · rename_i rs hrs
      obtain ⟨v, h1, h2⟩ := results_run (P := P) I hF hrs
      unfold rfrz at h
      split at h
      · rename_i r hr
        have h3 := frz2_rep I h2 hr
        refine ⟨v, h1, v, r, rfl, h, h3.1, I.below, RepV.ground' (fun b hb => ?_) h3.2 h3.1⟩
        rcases hb with hb | hb
        · by_cases hlt : b < w.heap.size
          · exact .inl (hA0 ▸ I.old b hb hlt)
          · exact .inr ⟨by omega, I.sub b hb⟩
        · exact .inr hb
      · exact h.elim
    · exact h.elim
  have all : (match mapO (aresult P fr' H') fn.results.toList with | some vs => rfrz R (aret vs) H' | none => False) →
      LeavesInM Fence.wide 5 P fn a'.tmps (fun e w' => ∃ v r, e = .returned v ∧ R r ∧ r.g2 = true ∧ Below w.heap.size w w' ∧ RepV (Ctx.imm fun b => A b ∨ (w.heap.size ≤ b ∧ b < w'.heap.size)) w' v r) a'.defers .returning w' := by
    intro h
    rcases hR with hR | ⟨D, hDge, hD, hR⟩
    · obtain ⟨C, rfl, hA0, I, hF, _, _, hd⟩ := hR.ex
      rw [hd]
      exact key C w' hA0 I hF h
    · obtain ⟨C, rfl, hA0, I, hF, _, _, hd⟩ := hR.ex
      rw [hd]
      obtain ⟨r, n', fr2, ps, asg, body, st, p, hr⟩ := hD
      obtain ⟨l, rec, _, _, _, _, _, _, _, _, _, _, _, _, hdD⟩ := I.objs r _ hr
      obtain ⟨l', _, hl', h0', _⟩ := I.objs r _ hr
      have hs := I.sep r l' hl'
      have hDlt : D < w'.heap.size := (Array.getElem?_eq_some_iff.1 hdD).1
      refine ⟨by simp, .inl ⟨D, _, rfl, run_takeDeferred hdD, ?_⟩⟩
      have hw : ∀ b, b ≠ D → (w'.putObj D (.deferred none)).heap[b]? = w'.heap[b]? := fun b hb => World.putObj_heap_other hb
      have I2 := I.shut hdD hw World.putObj_size (below_heap I.below hDge _)
      refine key C.noLp _ hA0 I2 (fun t => (hF t).shut hdD hw) ?_
      split at h
      · rename_i rs hrs
        rw [aresults_noLp fr' C _ hrs]
        have h' : rfrz R (aret rs) C.noLp.H := by
          unfold rfrz at h ⊢
          rw [frz2_noLp C (aret rs)]
          exact h
        exact h'
      · exact h.elim
  cases e with
  | normal => exact all hq
  | ret => exact all hq
  | _ => exact hq.elim
end Go.Ab
