/-
  Regions, calls and control flow over abstract states: the rules.
-/
import Derived.Test.YtciaimpdnjpajaaSkI
import Derived.Lib.SliceRun
import Derived.TacticsIn
import Derived.OrdersIn
import Derived.Sort.LoopGhostIn
import Derived.RangeFuncRecord
namespace Go.Ab
open Go Go.RowKit

/-- every function may be entered; in a round of the loop l, or in none -/
def fence (md : Option Nat) : Fence := { Fence.wide with round := md }
theorem fence_calls {md : Option Nat} {n : Nat} {P : Program} {f : FuncId} {args : Array Value} {w : World} {R : Ending → World → Prop} (h : Calls P f args w R) : CallsIn (fence md) n P f args w R :=
  show CallsIn Fence.wide n P f args w R from callsIn_wide.2 h
theorem fence_depth {md : Option Nat} {n : Nat} : (fence md).depth.isSome = true → 1 ≤ n := fun h => by simp [fence, Fence.wide] at h
theorem fence_none : fence none = Fence.wide := rfl
theorem fence_round {md : Option Nat} {n : Nat} {P : Program} {l : Nat} {f : FuncId} {tmps : Array Value} {assign body : Code} {w : World} {R : Ending → World → Prop} (h : RoundIn Fence.wide n P l f tmps assign body w R) : RoundIn (fence md) n P l f tmps assign body w R := h

def RepOuts (C : Ctx) (w : World) (outs : List (Array Value)) (outer : List Fr) : Prop :=
  outs.length = outer.length ∧ ∀ (i : Nat) (t : Array Value) (f : Fr), outs[i]? = some t → outer[i]? = some f → RepF C w t f

theorem RepOuts.mono {C C' : Ctx} {w w' : World} (m : Mono C w C' w') {outs : List (Array Value)} {outer : List Fr} (h : RepOuts C w outs outer) : RepOuts C' w' outs outer :=
  ⟨h.1, fun i t f a b => (h.2 i t f a b).mono m⟩
theorem RepOuts.cons {C : Ctx} {w : World} {t : Array Value} {f : Fr} {outs : List (Array Value)} {outer : List Fr} (h1 : RepF C w t f) (h : RepOuts C w outs outer) : RepOuts C w (t :: outs) (f :: outer) := by
  refine ⟨by simp [h.1], fun i t' f' a b => ?_⟩
  match i, a, b with
  | 0, a, b => simp at a b; subst a b; exact h1
  | i + 1, a, b => exact h.2 i t' f' (by simpa using a) (by simpa using b)
theorem RepOuts.head {C : Ctx} {w : World} {t : Array Value} {f : Fr} {outs : List (Array Value)} {outer : List Fr} (h : RepOuts C w (t :: outs) (f :: outer)) : RepF C w t f := h.2 0 t f rfl rfl
theorem RepOuts.tail {C : Ctx} {w : World} {t : Array Value} {f : Fr} {outs : List (Array Value)} {outer : List Fr} (h : RepOuts C w (t :: outs) (f :: outer)) : RepOuts C w outs outer :=
  ⟨by simpa using h.1, fun i t' f' a b => h.2 (i + 1) t' f' (by simpa using a) (by simpa using b)⟩
theorem RepOuts.nil {C : Ctx} {w : World} : RepOuts C w [] [] := ⟨rfl, by simp⟩

/-- An abstract state (a frame, the frames behind it, a heap) tells of a state of the model. -/
structure SRep (W0 : World) (A0 : Nat → Prop) (ds : List Deferred) (n : Nat) (outs : List (Array Value)) (outer : List Fr) (fr : Fr) (H : List AObj) (a : Act) (w : World) : Prop where
  ex : ∃ C : Ctx, C.H = H ∧ C.A0 = A0 ∧ Inv W0 C w ∧ RepF C w a.tmps fr ∧ RepOuts C w outs outer ∧ a.tmps.size = n ∧ a.defers = ds

/-- A call: of a function value, with these arguments, the frames 'st' behind it. -/
def ACall (P : Program) (f : AVal) (args : List AVal) (st : List Fr) (H : List AObj) (K : AVal → List AObj → Prop) : Prop :=
  ∀ (W0 : World) (C : Ctx) (w : World) (outs : List (Array Value)) (fv : Value) (vs : List Value), Inv W0 C w → C.H = H → RepOuts C w outs st → RepV C w fv f → vs.length = args.length →
    (∀ (i : Nat) (v : Value) (a : AVal), vs[i]? = some v → args[i]? = some a → RepV C w v a) →
    (∃ fid caps, fv = .func (.func fid) #[] caps ∧ (∀ (args : Array Value) (w : World), (callFunc fid args).run P w = .ok (.enter fid args) w) ∧
      Calls P fid (vs.toArray ++ caps) w fun e w' => ∃ v r C', e = .returned v ∧ K r C'.H ∧ C'.A0 = C.A0 ∧ RepV C' w' v r ∧ Inv W0 C' w' ∧ RepOuts C' w' outs st) ∨
    (∃ l rec, fv = .func (.yield l) #[] #[] ∧ w.heap[l]? = some (.loop rec) ∧ vs.length = rec.params.size ∧
      RoundIn Fence.wide 4 P l rec.fn ((rec.params.zip vs.toArray).foldl (fun tmps (t, a) => tmps.setIfInBounds t a) rec.tmps) rec.assign rec.body w fun e w' => ∃ v r C', e = .returned v ∧ K r C'.H ∧ C'.A0 = C.A0 ∧ RepV C' w' v r ∧ Inv W0 C' w' ∧ RepOuts C' w' outs st)

/-- the two ways of a guard -/
def aguardK (v : AVal) (want : Bool) (Y N : Fr → List AObj → Prop) (fr : Fr) (H : List AObj) : Prop :=
  match v with
  | .bool c => (c = want → Y fr H) ∧ (c ≠ want → N fr H)
  | .tuple _ => N fr H
  | _ => False

/-- the function value and the arguments of a call of a function -/
def callOf : Op → Option (Operand × List Operand)
  | .call { callee := .value f, args := args, argTypes := _ } => some (f, args.toList)
  | _ => none

def afterCall (fr : Fr) (dst : Option Tmp) (next : Fr → List AObj → Prop) (v : AVal) (H : List AObj) : Prop := next (put fr dst v) H
def afterStep (fr : Fr) (dst : Option Tmp) (next : Fr → List AObj → Prop) (H : List AObj) (v : AVal) (ef : Eff) : Prop := next (put fr dst v) (ef.app H)
def askip (dst : Option Tmp) (next : Fr → List AObj → Prop) (fr : Fr) (H : List AObj) : Prop := next (put fr dst (.tuple [])) H

/-- a test of a slice against nil: what it shows -/
def aNil (P : Program) (op : Op) (e : Operand → AVal) : Option (List (List AVal)) :=
  match op with
  | .binOp .eql T x y _ => match e x, e y with
    | .sl _ xs, .nils => if (elemT P T).isSome = true then some xs else none
    | _, _ => none
  | _ => none
/-- one operation of a region -/
def aoper (P : Program) (outer : List Fr) (op : Op) (dst : Option Tmp) (next : Fr → List AObj → Prop) (fr : Fr) (H : List AObj) : Prop :=
  match callOf op with
  | some (f, args) => ACall P (ev fr f) (args.map (ev fr)) (fr :: outer) H (afterCall fr dst next)
  | none => match aNil P op (ev fr) with
    | some xs => ∀ b : Bool, (xs ≠ [] → b = false) → afterStep fr dst next H (.bool b) .none
    | none => astep P op (ev fr) H H.length (afterStep fr dst next H)

/-- the operations of a region, one behind the other -/
def alist (P : Program) (outer : List Fr) (all : List Oper) : List Oper → (Fr → List AObj → Prop) → Fr → List AObj → Prop
  | [], K => K
  | o :: rest, K => match o.guard with
    | none => aoper P outer o.op o.dst (alist P outer all rest K)
    | some (j, want) => match (all[j]?).bind (·.dst) with
      | some d => fun fr H => aguardK (get fr d) want (aoper P outer o.op o.dst (alist P outer all rest K)) (askip o.dst (alist P outer all rest K)) fr H
      | none => askip o.dst (alist P outer all rest K)

theorem alist_nil (P : Program) (outer : List Fr) (all : List Oper) (K : Fr → List AObj → Prop) (fr : Fr) (H : List AObj) : alist P outer all [] K fr H = K fr H := rfl
theorem alist_plain (P : Program) (outer : List Fr) (all : List Oper) (dst : Option Tmp) (op : Op) (type : TypeId) (pos : String) (after : Array Edge) (rest : List Oper) (K : Fr → List AObj → Prop) (fr : Fr) (H : List AObj) :
    alist P outer all ({ dst, op, type, pos, after, guard := none } :: rest) K fr H = aoper P outer op dst (alist P outer all rest K) fr H := rfl
def aguardD (d : Option Tmp) (want : Bool) (Y N : Fr → List AObj → Prop) (fr : Fr) (H : List AObj) : Prop :=
  match d with
  | some d => aguardK (get fr d) want Y N fr H
  | none => N fr H
theorem alist_guard (P : Program) (outer : List Fr) (all : List Oper) (dst : Option Tmp) (op : Op) (type : TypeId) (pos : String) (after : Array Edge) (j : Nat) (want : Bool) (rest : List Oper) (K : Fr → List AObj → Prop) (fr : Fr) (H : List AObj) :
    alist P outer all ({ dst, op, type, pos, after, guard := some (j, want) } :: rest) K fr H =
      aguardD ((all[j]?).bind (·.dst)) want (aoper P outer op dst (alist P outer all rest K)) (askip dst (alist P outer all rest K)) fr H := by
  simp only [alist, aguardD]
  cases (all[j]?).bind (·.dst) <;> rfl
theorem aguardK_any (c want : Bool) (Y N : Fr → List AObj → Prop) (fr : Fr) (H : List AObj) : aguardK (.bool c) want Y N fr H = ((c = want → Y fr H) ∧ (c ≠ want → N fr H)) := rfl
theorem aguardK_tt (Y N : Fr → List AObj → Prop) (fr : Fr) (H : List AObj) : aguardK (.bool true) true Y N fr H = Y fr H := by simp [aguardK]
theorem aguardK_ff (Y N : Fr → List AObj → Prop) (fr : Fr) (H : List AObj) : aguardK (.bool false) false Y N fr H = Y fr H := by simp [aguardK]
theorem aguardK_tf (Y N : Fr → List AObj → Prop) (fr : Fr) (H : List AObj) : aguardK (.bool true) false Y N fr H = N fr H := by simp [aguardK]
theorem aguardK_ft (Y N : Fr → List AObj → Prop) (fr : Fr) (H : List AObj) : aguardK (.bool false) true Y N fr H = N fr H := by simp [aguardK]
theorem aguardK_tuple (vs : List AVal) (want : Bool) (Y N : Fr → List AObj → Prop) (fr : Fr) (H : List AObj) : aguardK (.tuple vs) want Y N fr H = N fr H := rfl

/-- every slot that is written exists -/
def dstOK (n : Nat) (ops : List Oper) : Bool := ops.all fun o => match o.dst with | some d => Nat.blt d n | none => true

section
variable {P : Program} {md : Option Nat}

theorem put_size (a : Act) (d : Option Tmp) (v : Value) : (a.put d v).tmps.size = a.tmps.size := by
  cases d <;> simp [Act.put]
theorem put_defers (a : Act) (d : Option Tmp) (v : Value) : (a.put d v).defers = a.defers := by
  cases d <;> simp [Act.put]

theorem undef_rep (C : Ctx) (w : World) : RepV C w undef (.tuple []) := .tuple #[] [] rfl (by simp)

theorem callOf_spec {o : Op} {f : Operand} {args : List Operand} (h : callOf o = some (f, args)) : ∃ (as : Array Operand) (ts : Array TypeId), o = .call { callee := .value f, args := as, argTypes := ts } ∧ as.toList = args := by
  unfold callOf at h
  split at h
  · simp only [Option.some.injEq, Prod.mk.injEq] at h
    obtain ⟨rfl, rfl⟩ := h
    exact ⟨_, _, rfl, rfl⟩
  · cases h

theorem nil_sound {W0 : World} {C : Ctx} {w : World} (I : Inv W0 C w) {o : Oper} {ρ : Operand → Value} {e : Operand → AVal} (he : ∀ x, RepV C w (ρ x) (e x)) {xs : List (List AVal)} (hx : aNil P o.op e = some xs) {K : AVal → Eff → Prop}
    (h : ∀ b : Bool, (xs ≠ [] → b = false) → K (.bool b) .none) : OpDone W0 C w ((execOp ρ o).run P w) K := by
  unfold aNil at hx
  split at hx
  · rename_i T x y yT ho
    split at hx
    · rename_i sz ys h1 h2
      split at hx
      · rename_i hT
        obtain rfl := Option.some.inj hx
        have hu := he x
        have hv := he y
        rw [h1] at hu; rw [h2] at hv
        cases hv' : ρ y <;> rw [hv'] at hv <;> cases hv
        have hsl : ∃ a n c, ρ x = .slice a n c ∧ (ys ≠ [] → a.isNone = false) := by
          generalize ρ x = v at hu
          cases hu with
          | sl0 a cap _ _ => exact ⟨a, 0, cap, rfl, fun h => absurd rfl h⟩
          | sl a len cap _ _ _ _ _ _ _ _ _ _ _ _ _ => exact ⟨some a, len, cap, rfl, fun _ => rfl⟩
        obtain ⟨a, n, c, hsl, hne⟩ := hsl
        have hte : ∃ te, P.underlying T = some (.slice te) := by
          unfold elemT at hT
          split at hT
          · exact ⟨_, by assumption⟩
          · cases hT
        obtain ⟨te, hte⟩ := hte
        unfold execOp
        simp only [ho, hsl, hv']
        refine .ofQuiet I (.mk' ?_ (.bool a.isNone) (h _ hne))
        simp only [eqGuard_at_slice, Sem.run_bind, Sem.run_pure, Result.andThen_ok]
        exact Lib.run_eql_slice_nil w T te a n c 0 0 hte
      · cases hx
    · cases hx
  · cases hx
theorem alist_soundA {W0 : World} {A0 : Nat → Prop} {ds : List Deferred} {n : Nat} {outs : List (Array Value)} {outer : List Fr} {all l2 : List Oper} {Q : Exit → Act → World → Prop} {K : Fr → List AObj → Prop}
    (hQ : ∀ fr' H' a' w', K fr' H' → SRep W0 A0 ds n outs outer fr' H' a' w' → wpListIn (fence md) 5 P all.toArray Q l2 a' w') : ∀ (l : List Oper) (fr : Fr) (H : List AObj) (a : Act) (w : World), dstOK n l = true →
    SRep W0 A0 ds n outs outer fr H a w → alist P outer all l K fr H → wpListIn (fence md) 5 P all.toArray Q (l ++ l2) a w
  | [], fr, H, a, w, _, R, h => hQ _ _ _ _ h R
  | o :: rest, fr, H, a, w, hd, R, h => by
    simp only [dstOK, List.all_cons, Bool.and_eq_true] at hd
    obtain ⟨hd0, hd⟩ := hd
    have ih := fun fr H a w => alist_soundA (all := all) (l2 := l2) hQ rest fr H a w hd
    obtain ⟨C, rfl, rfl, I, hF, hO, hn, hdf⟩ := R.ex
    have hlt : ∀ k, o.dst = some k → k < a.tmps.size := by
      intro k hk
      rw [hk] at hd0
      rw [hn]
      simpa using hd0
    have srep : ∀ (C' : Ctx) (w' : World) (v : Value) (r : AVal), C'.A0 = C.A0 → Inv W0 C' w' → RepF C' w' a.tmps fr → RepOuts C' w' outs outer → RepV C' w' v r → SRep W0 C.A0 ds n outs outer (put fr o.dst r) C'.H (a.put o.dst v) w' :=
      fun C' w' v r e I' hF' hO' hv => ⟨C', rfl, e, I', hF'.put hv o.dst hlt, hO', by rw [put_size, hn], by rw [put_defers, hdf]⟩
    have skip : askip o.dst (alist P outer all rest K) fr C.H → wpListIn (fence md) 5 P all.toArray Q (rest ++ l2) (a.put o.dst undef) w :=
      fun h => ih _ _ _ _ (srep C w undef _ rfl I hF hO (undef_rep C w)) h
    have run : aoper P outer o.op o.dst (alist P outer all rest K) fr C.H → o.wpIn (fence md) 5 P a w (wpListIn (fence md) 5 P all.toArray Q (rest ++ l2)) Q := by
      intro h
      have nd : ∀ c, o.op ≠ .defer c := fun c hc => by
        rw [hc] at h; exact h
      unfold aoper at h
      unfold Oper.wpIn
      refine ⟨fun _ _ => trivial, ?_⟩
      rw [Oper.semAt_eq _ _ _ nd]
      split at h
      · rename_i f args hc
        obtain ⟨as, ts, ho, rfl⟩ := callOf_spec hc
        rcases h W0 C w (a.tmps :: outs) (a.eval f) (as.toList.map a.eval) I rfl (hO.cons hF) (ev_rep hF f) (by simp) (fun i v x hv hx => by
          simp only [List.getElem?_map] at hv hx
          cases hy : as.toList[i]? with
          | none => simp [hy] at hv
          | some y =>
            simp only [hy, Option.map_some, Option.some.injEq] at hv hx
            subst hv hx; exact ev_rep hF y) with ⟨fid, caps, h1, h2, h3⟩ | ⟨l, rec, h1, hh, hs, h3⟩
        · have hrun : (execOp a.eval o).run P w = .ok (.enter fid ((as.toList.map a.eval).toArray ++ caps)) w := by
            unfold execOp
            rw [ho]
            simp only [resolve, Deferred.ofValue, h1, invoke, Sem.run_bind, Sem.run_pure, Result.andThen_ok]
            have e1 : (#[] ++ Array.map a.eval as ++ caps : Array Value) = (as.toList.map a.eval).toArray ++ caps := by
              apply Array.ext'; simp
            rw [e1, h2]
          rw [hrun, Oper.uponIn_enter]
          refine ⟨fence_depth, fence_calls (h3.mono fun e w' ⟨v, r, C', he, hk, hA, hv, I', hO'⟩ => ?_)⟩
          subst he
          exact ih _ _ _ _ (srep C' w' v r hA I' hO'.head hO'.tail hv) hk
        · have hrun : (execOp a.eval o).run P w = .ok (.round l rec.fn ((rec.params.zip (as.toList.map a.eval).toArray).foldl (fun tmps (t, a) => tmps.setIfInBounds t a) rec.tmps) rec.assign rec.body) w := by
            unfold execOp
            rw [ho]
            simp only [resolve, Deferred.ofValue, h1, invoke, Sem.run_bind, Sem.run_pure, Result.andThen_ok]
            have e1 : (#[] ++ Array.map a.eval as ++ #[] : Array Value) = (as.toList.map a.eval).toArray := by
              apply Array.ext'; simp
            have e2 : (#[] ++ Array.map a.eval as : Array Value) = (as.toList.map a.eval).toArray := by
              apply Array.ext'; simp
            first | rw [e1] | rw [e2]
            exact run_yield hh (by simpa using hs)
          rw [hrun, Oper.uponIn_round]
          refine ⟨fence_depth, fence_round (h3.mono fun e w' ⟨v, r, C', he, hk, hA, hv, I', hO'⟩ => ?_)⟩
          subst he
          exact ih _ _ _ _ (srep C' w' v r hA I' hO'.head hO'.tail hv) hk
      · have od : OpDone W0 C w ((execOp a.eval o).run P w) (afterStep fr o.dst (alist P outer all rest K) C.H) := by
          split at h
          · rename_i xs hx
            exact nil_sound I (ev_rep hF) hx h
          · exact astep_sound (P := P) I (.inl rfl) (ev_rep hF) h
        obtain ⟨r, w', C', ef, hres, hk, hH, I', m⟩ := od.ex
        unfold afterStep at hk
        rw [← hH] at hk
        rcases hres with ⟨v, hrun, hv⟩ | ⟨hrun, rfl⟩
        · rw [hrun, Oper.uponIn_value]
          exact ih _ _ _ _ (srep C' w' v r m.A0 I' (hF.mono m) (hO.mono m) hv) hk
        · rw [hrun, Oper.uponIn_skip]
          exact ih _ _ _ _ (srep C' w' undef _ m.A0 I' (hF.mono m) (hO.mono m) (undef_rep C' w')) hk
    rw [List.cons_append]
    unfold wpListIn
    cases hg : o.guard with
    | none =>
      simp only [alist, hg] at h
      rw [if_pos (by simp [Region.wanted, hg])]
      exact run h
    | some jw =>
      obtain ⟨j, want⟩ := jw
      have hy : ∀ d, (all[j]?).bind (·.dst) = some d → yielded all.toArray a.tmps j = match a.tmps[d]? with | some (.bool b) => some b | _ => none := by
        intro d hd
        unfold yielded
        simp only [List.getElem?_toArray, hd, Option.bind_some]
        rfl
      cases hdd : (all[j]?).bind (·.dst) with
      | some d =>
        simp only [alist, hg, hdd] at h
        have hv := hF d
        unfold aguardK at h
        split at h
        · rename_i c hc
          rw [hc] at hv
          have hva : a.tmps.getD d undef = .bool c := by cases hv' : a.tmps.getD d undef <;> rw [hv'] at hv <;> cases hv; rfl
          have hsome : a.tmps[d]? = some (.bool c) := by
            rw [Array.getD_eq_getD_getElem?] at hva
            cases ht : a.tmps[d]? with
            | none => rw [ht] at hva; cases hva
            | some u => rw [ht] at hva; simp at hva; rw [hva]
          have hw : Region.wanted o (yielded all.toArray a.tmps) = decide (c = want) := by
            simp only [Region.wanted, hg, hy d hdd, hsome]
            cases c <;> cases want <;> rfl
          by_cases hcw : c = want
          · rw [if_pos (by rw [hw]; simpa using hcw)]
            exact run (h.1 hcw)
          · rw [if_neg (by rw [hw]; simpa using hcw)]
            exact ⟨fun _ _ => trivial, skip (h.2 hcw)⟩
        · rename_i vs hc
          rw [hc] at hv
          have hw : Region.wanted o (yielded all.toArray a.tmps) = false := by
            simp only [Region.wanted, hg, hy d hdd]
            cases ht : a.tmps[d]? with
            | none => rfl
            | some u =>
              have : a.tmps.getD d undef = u := by rw [Array.getD_eq_getD_getElem?, ht]; rfl
              rw [this] at hv
              cases hv; rfl
          rw [if_neg (by rw [hw]; simp)]
          exact ⟨fun _ _ => trivial, skip h⟩
        · exact h.elim
      | none =>
        simp only [alist, hg, hdd] at h
        have hw : Region.wanted o (yielded all.toArray a.tmps) = false := by
          simp only [Region.wanted, hg]
          unfold yielded
          simp [hdd]
        rw [if_neg (by rw [hw]; simp)]
        exact ⟨fun _ _ => trivial, skip h⟩

theorem alist_sound {W0 : World} {A0 : Nat → Prop} {ds : List Deferred} {n : Nat} {outs : List (Array Value)} {outer : List Fr} {all : List Oper} {Q : Exit → Act → World → Prop} {K : Fr → List AObj → Prop}
    (hQ : ∀ fr' H' a' w', K fr' H' → SRep W0 A0 ds n outs outer fr' H' a' w' → Q .normal a' w') (l : List Oper) (fr : Fr) (H : List AObj) (a : Act) (w : World) (hd : dstOK n l = true)
    (R : SRep W0 A0 ds n outs outer fr H a w) (h : alist P outer all l K fr H) : wpListIn (fence md) 5 P all.toArray Q l a w := by
  have := alist_soundA (md := md) (l2 := []) (Q := Q) hQ l fr H a w hd R h
  rwa [List.append_nil] at this
/-- operations of a region, from any state that is told so -/
def ALP (md : Option Nat) (P : Program) (n : Nat) (outer : List Fr) (all l : List Oper) (Q : Exit → Fr → List AObj → Prop) (fr : Fr) (H : List AObj) : Prop :=
  ∀ (W0 : World) (A0 : Nat → Prop) (ds : List Deferred) (outs : List (Array Value)) (a : Act) (w : World), SRep W0 A0 ds n outs outer fr H a w → wpListIn (fence md) 5 P all.toArray (fun e a' w' => ∃ fr' H', Q e fr' H' ∧ SRep W0 A0 ds n outs outer fr' H' a' w') l a w
theorem ALP.part {n : Nat} {outer : List Fr} {all l1 l2 : List Oper} {Q : Exit → Fr → List AObj → Prop} {fr : Fr} {H : List AObj} (hd : dstOK n l1 = true)
    (h : ∀ K : Fr → List AObj → Prop, (∀ fr H, ALP md P n outer all l2 Q fr H → K fr H) → alist P outer all l1 K fr H) : ALP md P n outer all (l1 ++ l2) Q fr H := by
  intro W0 A0 ds outs a w R
  exact alist_soundA (K := ALP md P n outer all l2 Q) (fun fr' H' a' w' hk hR => hk W0 A0 ds outs a' w' hR) l1 fr H a w hd R (h _ fun _ _ h => h)
theorem ALP.last {n : Nat} {outer : List Fr} {all l : List Oper} {Q : Exit → Fr → List AObj → Prop} {fr : Fr} {H : List AObj} (hd : dstOK n l = true)
    (h : ∀ K : Fr → List AObj → Prop, (∀ fr H, Q .normal fr H → K fr H) → alist P outer all l K fr H) : ALP md P n outer all l Q fr H := by
  intro W0 A0 ds outs a w R
  exact alist_sound (K := Q .normal) (fun fr' H' a' w' hk hR => ⟨fr', H', hk, hR⟩) l fr H a w hd R (h _ fun _ _ h => h)

/-- The weakest precondition of code over abstract states. -/
def AWP (md : Option Nat) (P : Program) (n : Nat) (c : Code) (Q : Exit → Fr → List AObj → Prop) (outer : List Fr) (fr : Fr) (H : List AObj) : Prop :=
  ∀ (W0 : World) (A0 : Nat → Prop) (ds : List Deferred) (outs : List (Array Value)) (a : Act) (w : World), SRep W0 A0 ds n outs outer fr H a w →
    c.wpIn (fence md) 5 P (fun e a' w' => ∃ fr' H', Q e fr' H' ∧ SRep W0 A0 ds n outs outer fr' H' a' w') a w

def qthen (K : Fr → List AObj → Prop) (Q : Exit → Fr → List AObj → Prop) : Exit → Fr → List AObj → Prop
  | .normal, fr, H => K fr H
  | e, fr, H => Q e fr H
def qblock (id : Nat) (Q : Exit → Fr → List AObj → Prop) : Exit → Fr → List AObj → Prop
  | .exit i, fr, H => if i = id then Q .normal fr H else Q (.exit i) fr H
  | e, fr, H => Q e fr H

theorem AWP.region {n id : Nat} {ops : List Oper} {Q : Exit → Fr → List AObj → Prop} {outer : List Fr} {fr : Fr} {H : List AObj} (hd : dstOK n ops = true)
    (h : ∀ K : Fr → List AObj → Prop, (∀ fr H, Q .normal fr H → K fr H) → alist P outer ops ops K fr H) : AWP md P n (.region id ops.toArray false) Q outer fr H := by
  intro W0 A0 ds outs a w R
  exact wpIn_region_lit (alist_sound (K := Q .normal) (fun fr' H' a' w' hk hR => ⟨fr', H', hk, hR⟩) ops fr H a w hd R (h _ fun _ _ h => h))

theorem AWP.regionP {n id : Nat} {ops : List Oper} {Q : Exit → Fr → List AObj → Prop} {outer : List Fr} {fr : Fr} {H : List AObj} (h : ALP md P n outer ops ops Q fr H) : AWP md P n (.region id ops.toArray false) Q outer fr H :=
  fun W0 A0 ds outs a w R => wpIn_region_lit (h W0 A0 ds outs a w R)
/-- .. its first k operations -/
theorem ALP.cut {n : Nat} {outer : List Fr} {all l : List Oper} {Q : Exit → Fr → List AObj → Prop} {fr : Fr} {H : List AObj} (k : Nat) (h : ALP md P n outer all (l.take k ++ l.drop k) Q fr H) : ALP md P n outer all l Q fr H := by
  rwa [List.take_append_drop] at h
theorem AWP.seq {n : Nat} {c d : Code} {Q : Exit → Fr → List AObj → Prop} {outer : List Fr} {fr : Fr} {H : List AObj}
    (h : AWP md P n c (qthen (AWP md P n d Q outer) Q) outer fr H) : AWP md P n (.seq c d) Q outer fr H := by
  intro W0 A0 ds outs a w R
  refine wpIn_seq (wpIn_mono (h W0 A0 ds outs a w R) ?_)
  intro e a' w' ⟨fr', H', hq, hR⟩
  cases e <;> first | exact hq W0 A0 ds outs a' w' hR | exact ⟨fr', H', hq, hR⟩

theorem AWP.block {n id : Nat} {c : Code} {Q : Exit → Fr → List AObj → Prop} {outer : List Fr} {fr : Fr} {H : List AObj}
    (h : AWP md P n c (qblock id Q) outer fr H) : AWP md P n (.block id c) Q outer fr H := by
  intro W0 A0 ds outs a w R
  refine wpIn_block (wpIn_mono (h W0 A0 ds outs a w R) ?_)
  intro e a' w' ⟨fr', H', hq, hR⟩
  cases e with
  | exit i =>
    simp only [qblock] at hq
    simp only [Exit.inBlock]
    split at hq
    · rename_i hi; rw [if_pos hi]; exact ⟨fr', H', hq, hR⟩
    · rename_i hi; rw [if_neg hi]; exact ⟨fr', H', hq, hR⟩
  | _ => exact ⟨fr', H', hq, hR⟩

theorem AWP.skip {n : Nat} {Q : Exit → Fr → List AObj → Prop} {outer : List Fr} {fr : Fr} {H : List AObj} (h : Q .normal fr H) : AWP md P n .skip Q outer fr H :=
  fun _ _ _ _ _ _ R => wpIn_skip ⟨fr, H, h, R⟩
theorem AWP.ret {n : Nat} {Q : Exit → Fr → List AObj → Prop} {outer : List Fr} {fr : Fr} {H : List AObj} (h : Q .ret fr H) : AWP md P n .ret Q outer fr H :=
  fun _ _ _ _ _ _ R => wpIn_ret ⟨fr, H, h, R⟩
theorem AWP.exit {n id : Nat} {Q : Exit → Fr → List AObj → Prop} {outer : List Fr} {fr : Fr} {H : List AObj} (h : Q (.exit id) fr H) : AWP md P n (.exit id) Q outer fr H :=
  fun _ _ _ _ _ _ R => wpIn_exit ⟨fr, H, h, R⟩

/-- the two ways of a test -/
def acond (v : AVal) (yes no : Prop) : Prop :=
  match v with
  | .bool t => (t = true → yes) ∧ (t = false → no)
  | _ => False

theorem AWP.cond {n : Nat} {x : Operand} {c d : Code} {Q : Exit → Fr → List AObj → Prop} {outer : List Fr} {fr : Fr} {H : List AObj}
    (h : acond (ev fr x) (AWP md P n c Q outer fr H) (AWP md P n d Q outer fr H)) : AWP md P n (.cond x c d) Q outer fr H := by
  intro W0 A0 ds outs a w R
  obtain ⟨C, rfl, _, I, hF, _⟩ := R.ex
  have hv := ev_rep hF x
  unfold acond at h
  split at h
  · rename_i t ht
    rw [ht] at hv
    have hva : a.eval x = .bool t := by cases hv' : a.eval x <;> rw [hv'] at hv <;> cases hv; rfl
    cases t with
    | true => exact wpIn_cond_true hva (h.1 rfl W0 A0 ds outs a w R)
    | false => exact wpIn_cond_false hva (h.2 rfl W0 A0 ds outs a w R)
  · exact h.elim

/-- one abstract state says no more than another -/
def Sub (outer : List Fr) (fr : Fr) (H : List AObj) (fr' : Fr) (H' : List AObj) : Prop :=
  ∀ (W0 : World) (A0 : Nat → Prop) (ds : List Deferred) (n : Nat) (outs : List (Array Value)) (a : Act) (w : World), SRep W0 A0 ds n outs outer fr H a w → SRep W0 A0 ds n outs outer fr' H' a w

theorem Sub.refl {outer : List Fr} {fr : Fr} {H : List AObj} : Sub outer fr H fr H := fun _ _ _ _ _ _ _ R => R
theorem Sub.trans {outer : List Fr} {fr fr' fr'' : Fr} {H H' H'' : List AObj} (h : Sub outer fr H fr' H') (k : Sub outer fr' H' fr'' H'') : Sub outer fr H fr'' H'' :=
  fun _ _ _ _ _ _ _ R => k _ _ _ _ _ _ _ (h _ _ _ _ _ _ _ R)

theorem AWP.sub {n : Nat} {c : Code} {Q : Exit → Fr → List AObj → Prop} {outer : List Fr} {fr fr' : Fr} {H H' : List AObj} (s : Sub outer fr H fr' H') (h : AWP md P n c Q outer fr' H') : AWP md P n c Q outer fr H :=
  fun W0 A0 ds outs a w R => h W0 A0 ds outs a w (s _ _ _ _ _ _ _ R)

theorem ALP.sub {n : Nat} {outer : List Fr} {all l : List Oper} {Q : Exit → Fr → List AObj → Prop} {fr fr' : Fr} {H H' : List AObj} (s : Sub outer fr H fr' H') (h : ALP md P n outer all l Q fr' H') : ALP md P n outer all l Q fr H :=
  fun W0 A0 ds outs a w R => h W0 A0 ds outs a w (s _ _ _ _ _ _ _ R)
theorem AWP.mono {n : Nat} {c : Code} {Q Q' : Exit → Fr → List AObj → Prop} {outer : List Fr} {fr : Fr} {H : List AObj} (hq : ∀ e fr H, Q e fr H → Q' e fr H) (h : AWP md P n c Q outer fr H) : AWP md P n c Q' outer fr H :=
  fun W0 A0 ds outs a w R => wpIn_mono (h W0 A0 ds outs a w R) fun _ _ _ ⟨fr', H', q, r⟩ => ⟨fr', H', hq _ _ _ q, r⟩

/-- A loop: a family of states, of which each round leads from one to another of a smaller measure. -/
theorem AWP.loop {ι : Type} {n : Nat} {c : Code} {Q : Exit → Fr → List AObj → Prop} {outer : List Fr} {fr : Fr} {H : List AObj} (F : ι → Fr) (HH : ι → List AObj) (J : ι → Prop) (μ : ι → Nat) (x0 : ι)
    (h0 : J x0) (s0 : Sub outer fr H (F x0) (HH x0))
    (round : ∀ x, J x → AWP md P n c (qthen (fun fr' H' => ∃ x', J x' ∧ μ x' < μ x ∧ Sub outer fr' H' (F x') (HH x')) Q) outer (F x) (HH x)) : AWP md P n (.loop c) Q outer fr H := by
  intro W0 A0 ds outs a w R
  refine wpIn_loop_ghost (fun k a w => ∃ x, J x ∧ μ x = k ∧ SRep W0 A0 ds n outs outer (F x) (HH x) a w) (μ x0) ⟨x0, h0, rfl, s0 _ _ _ _ _ _ _ R⟩ ?_
  intro k a w ⟨x, hJ, hk, R⟩
  refine wpIn_mono (round x hJ W0 A0 ds outs a w R) ?_
  intro e a' w' ⟨fr', H', hq, hR⟩
  cases e with
  | normal =>
    obtain ⟨x', h1, h2, h3⟩ := hq
    exact ⟨μ x', by omega, x', h1, rfl, h3 _ _ _ _ _ _ _ hR⟩
  | _ => exact ⟨fr', H', hq, hR⟩
end
end Go.Ab
