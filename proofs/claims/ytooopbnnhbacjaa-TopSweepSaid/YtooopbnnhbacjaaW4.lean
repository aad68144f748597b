/-
  What functions of the program compute, as plain Lean functions, and the walks that prove it; printed by a small program of our own (wip/walk.py).
-/
import Derived.Test.YtooopbnnhbacjaaW3
namespace Go.Proofs.Ytooopbnnhbacjaa
open Go Go.Ab
attribute [local irreducible] AWP ACall DCall PureFn Go.Ab.Sub alist dlist AIdx AElem ALook ANext
set_option maxRecDepth 100000
set_option maxHeartbeats 4000000
set_option linter.unusedSimpArgs false
set_option linter.unusedVariables false
noncomputable section
def ref56_before (m : ApiMap) (a : Int) (b : Int) : Option (Bool) :=
  (ref10_Run m a).bind fun y1 => (ref10_Run m b).bind fun y2 => (bif y1.2 then (bif y2.2 then some (decide (y1.1.To = y2.1.From)) else some false) else some false)

theorem ref56_before_spec (m : ApiMap) (a : Int) (b : Int) {r : Bool} (h : ref56_before m a b = some r) : PureFn Try.prog 42 [.agg (encApiMap m), .int .i64 a, .int .i64 b] (· = .bool r) := by
  refine PureFn.nle (PureFn.intro Try.func42 rfl rfl (by show _ ≤ 34; simp) ?_)
  unfold ref56_before at h
  (try simp +decide -implicitDefEqProofs only [go_sem])
  refine AWP.seq ?_
  refine AWP.region rfl ?_; intro K hK
  (try simp +decide -implicitDefEqProofs only [go_sem])
  refine hK _ _ ?_; clear hK K
  refine qthen_normal ?_
  refine AWP.seq ?_
  refine AWP.region rfl ?_; intro K hK
  (try simp +decide -implicitDefEqProofs only [go_sem])
  obtain ⟨y1, hy1, h⟩ := bindE h
  refine ACall.pure Try.call8 (ref10_Run_spec m a hy1) rfl fun _ hr => ?_
  subst hr
  (try simp +decide -implicitDefEqProofs only [go_sem])
  refine hK _ _ ?_; clear hK K
  refine qthen_normal ?_
  refine AWP.seq ?_
  refine AWP.region rfl ?_; intro K hK
  (try simp +decide -implicitDefEqProofs only [go_sem])
  obtain ⟨y2, hy2, h⟩ := bindE h
  refine ACall.pure Try.call8 (ref10_Run_spec m b hy2) rfl fun _ hr => ?_
  subst hr
  (try simp +decide -implicitDefEqProofs only [go_sem])
  refine hK _ _ ?_; clear hK K
  refine qthen_normal ?_
  refine AWP.seq ?_
  refine AWP.region rfl ?_; intro K hK
  (try simp +decide -implicitDefEqProofs only [go_sem])
  refine aguardK_split (fun hc => ?_) (fun hc => ?_)
  · replace h := bif_t h hc
    (try simp +decide -implicitDefEqProofs only [go_sem, hc])
    refine aguardK_split (fun hc => ?_) (fun hc => ?_)
    · replace h := bif_t h hc
      (try simp +decide -implicitDefEqProofs only [go_sem, hc])
      refine hK _ _ ?_; clear hK K
      refine qthen_normal ?_
      refine AWP.ret ?_
      obtain rfl := some_eq h
      simp +decide -implicitDefEqProofs only [go_sem, mpE_nil, AVal.int.injEq, Int.natCast_zero, List.replicate_zero, List.length_take, List.length_drop, AVal.own.injEq, reduceCtorEq, Int.reduceAdd, nle2, nle1, nle0, nleA, nleL, Try.results42]
    · replace h := bif_f h hc
      (try simp +decide -implicitDefEqProofs only [go_sem, hc, Bool.not_true])
      refine hK _ _ ?_; clear hK K
      refine qthen_normal ?_
      refine AWP.ret ?_
      obtain rfl := some_eq h
      simp +decide -implicitDefEqProofs only [go_sem, mpE_nil, AVal.int.injEq, Int.natCast_zero, List.replicate_zero, List.length_take, List.length_drop, AVal.own.injEq, reduceCtorEq, Int.reduceAdd, nle2, nle1, nle0, nleA, nleL, Try.results42]
  · replace h := bif_f h hc
    (try simp +decide -implicitDefEqProofs only [go_sem, hc, Bool.not_true])
    refine hK _ _ ?_; clear hK K
    refine qthen_normal ?_
    refine AWP.ret ?_
    obtain rfl := some_eq h
    simp +decide -implicitDefEqProofs only [go_sem, mpE_nil, AVal.int.injEq, Int.natCast_zero, List.replicate_zero, List.length_take, List.length_drop, AVal.own.injEq, reduceCtorEq, Int.reduceAdd, nle2, nle1, nle0, nleA, nleL, Try.results42]

def ref56_least_b1 (m : ApiMap) (run : Int) (k0 : Nat) (x_2 : Int) (sv : Unit) : Option (Out (Unit) (Int)) :=
  (ref56_before m run x_2).bind fun y3 => (bif y3 then some (Out.ret ((k0 : Nat) : Int)) else some (Out.next ()))

def ref56_least (m : ApiMap) (runs : List Int) (run : Int) : Option (Int) :=
  (forIx (ref56_least_b1 m run) 0 runs ()).bind fun o0 => o0.on fun s0 => some (-1 : Int)

theorem ref56_least_spec (m : ApiMap) (runs : List Int) (run : Int) {r : Int} (h : ref56_least m runs run = some r) : PureFn Try.prog 41 [.agg (encApiMap m), .sl 1 (runs.map intC), .int .i64 run] (· = .int .i64 r) := by
  refine PureFn.nle (PureFn.intro Try.func41 rfl rfl (by show _ ≤ 22; simp) ?_)
  unfold ref56_least at h
  (try simp +decide -implicitDefEqProofs only [go_sem])
  refine AWP.seq ?_
  refine AWP.region rfl ?_; intro K hK
  (try simp +decide -implicitDefEqProofs only [go_sem])
  refine hK _ _ ?_; clear hK K
  refine qthen_normal ?_
  refine AWP.seq ?_
  refine AWP.seq ?_
  refine AWP.region rfl ?_; intro K hK
  (try simp +decide -implicitDefEqProofs only [go_sem])
  refine hK _ _ ?_; clear hK K
  refine qthen_normal ?_
  refine AWP.block ?_
  obtain ⟨o0, hJ0, hO0⟩ := bindE h
  clear h
  refine AWP.loopW (ι := Nat × (Unit) × (Unit)) (fun zz => [(1, .sl 1 (runs.map intC)), (2, .int .i64 run), (3, .ptr 0 0), (7, .int .i64 ((zz.1 : Nat) : Int))]) (fun zz => [.box [.sl 2 (m.Nodes.map encApiNode), .sl 8 (m.Lifts.map encApiLift), .sl 7 (m.Runs.map encApiRun), .sl 1 (m.Bases.map intC)]]) (fun zz => zz.1 ≤ runs.length ∧ forIx (ref56_least_b1 m run) zz.1 ((runs).drop zz.1) zz.2.1 = some o0) (fun zz => runs.length - zz.1) (0, (), ()) ⟨Nat.zero_le _, hJ0⟩ (by (simp +decide -implicitDefEqProofs only [go_sem, mpE_nil, AVal.int.injEq, Int.natCast_zero, List.replicate_zero, List.length_take, List.length_drop, AVal.own.injEq, reduceCtorEq, Int.reduceAdd] <;> omega)) (by (simp +decide -implicitDefEqProofs only [go_sem, mpE_nil, AVal.int.injEq, Int.natCast_zero, List.replicate_zero, List.length_take, List.length_drop, AVal.own.injEq, reduceCtorEq, Int.reduceAdd] <;> omega)) (fun x => ⟨rfl, rfl, rfl⟩) ?_
  clear hJ0
  rintro ⟨k0, ⟨⟩, ⟨⟩⟩ ⟨hk0, hJ0⟩
  dsimp only at hk0 hJ0 ⊢
  refine AWP.seq ?_
  refine AWP.seq ?_
  refine AWP.region rfl ?_; intro K hK
  (try simp +decide -implicitDefEqProofs only [go_sem])
  intro hm
  refine hK _ _ ?_; clear hK K
  refine qthen_normal ?_
  refine AWP.cond (acond_split (fun hc => ?_) (fun hc => ?_))
  · have hlt0 : k0 < runs.length := by have := of_decide_eq_true hc; omega
    obtain ⟨x_2, b0, hx0_, h, hJ0⟩ := for_cons hJ0 hlt0
    have hx0 := idxL_nat hx0_
    have hw0 : IntKind.i64.wrap (((k0 : Nat) : Int) + 1) = (((k0 : Nat) : Int) + (1 : Int)) := by rw [wrap_i64] <;> omega
    unfold ref56_least_b1 at h; try dsimp only at h
    refine AWP.skip ?_
    refine qthen_normal ?_
    refine AWP.seq ?_
    refine AWP.block ?_
    refine AWP.seq ?_
    refine AWP.draw Try.mixed (by kernel_rfl) ?_; intro K hK
    (try simp +decide -implicitDefEqProofs only [go_sem])
    refine AIdx.of (f := intC) (l := runs) hx0 ?_
    (try simp +decide -implicitDefEqProofs only [go_sem])
    obtain ⟨y3, hy3, h⟩ := bindE h
    refine DCall.pure Try.call42 (ref56_before_spec m run x_2 hy3) rfl ?_
    (try simp +decide -implicitDefEqProofs only [go_sem])
    refine hK _ _ _ (by kernel_rfl) ?_; clear hK K
    refine qthen_normal ?_
    refine AWP.cond (acond_split (fun hc => ?_) (fun hc => ?_))
    · replace h := bif_t h hc
      refine AWP.seq ?_
      refine AWP.region rfl ?_; intro K hK
      (try simp +decide -implicitDefEqProofs only [go_sem])
      refine hK _ _ ?_; clear hK K
      refine qthen_normal ?_
      refine AWP.ret ?_
      refine qblock_ret ?_
      refine qthen_ret ?_
      refine qthen_ret ?_
      obtain rfl := some_eq h
      obtain rfl := cont_ret hJ0
      replace h := on_ret hO0
      refine qblock_ret ?_
      refine qthen_ret ?_
      obtain rfl := some_eq h
      simp +decide -implicitDefEqProofs only [go_sem, mpE_nil, AVal.int.injEq, Int.natCast_zero, List.replicate_zero, List.length_take, List.length_drop, AVal.own.injEq, reduceCtorEq, Int.reduceAdd, nle2, nle1, nle0, nleA, nleL, Try.results41]
    replace h := bif_f h hc
    refine AWP.skip ?_
    refine qblock_normal ?_
    refine qthen_normal ?_
    refine AWP.region rfl ?_; intro K hK
    (try simp +decide -implicitDefEqProofs only [go_sem])
    refine hK _ _ ?_; clear hK K
    refine qthen_normal ?_
    obtain rfl := some_eq h
    refine ⟨(k0 + 1, (), ()), ⟨by dsimp only; omega, cont_next hJ0⟩, by dsimp only; omega, ?_, ?_⟩
    · (simp +decide -implicitDefEqProofs only [go_sem, mpE_nil, AVal.int.injEq, Int.natCast_zero, List.replicate_zero, List.length_take, List.length_drop, AVal.own.injEq, reduceCtorEq, Int.reduceAdd, hw0] <;> omega)
    · (simp +decide -implicitDefEqProofs only [go_sem, mpE_nil, AVal.int.injEq, Int.natCast_zero, List.replicate_zero, List.length_take, List.length_drop, AVal.own.injEq, reduceCtorEq, Int.reduceAdd, hw0] <;> omega)
  · obtain rfl := for_nil hJ0 (fun hl => by have := of_decide_eq_false hc; omega)
    have h := on_next hO0; try dsimp only at h
    have hkl : runs.length = k0 := by have := of_decide_eq_false hc; omega
    subst hkl
    refine AWP.exit ?_
    refine qthen_exit ?_
    refine qthen_exit ?_
    refine qblock_same ?_
    refine qthen_normal ?_
    refine AWP.seq ?_
    refine AWP.region rfl ?_; intro K hK
    (try simp +decide -implicitDefEqProofs only [go_sem])
    refine hK _ _ ?_; clear hK K
    refine qthen_normal ?_
    refine AWP.ret ?_
    obtain rfl := some_eq h
    simp +decide -implicitDefEqProofs only [go_sem, mpE_nil, AVal.int.injEq, Int.natCast_zero, List.replicate_zero, List.length_take, List.length_drop, AVal.own.injEq, reduceCtorEq, Int.reduceAdd, nle2, nle1, nle0, nleA, nleL, Try.results41]

def ref56_runs_b2 (m : ApiMap) (l : List Int) (k1 : Nat) (x_3 : Int) (sv : Unit) : Option (Out (Unit) (Int)) :=
  (ref56_out m x_3).bind fun y4 => (bif (!y4) then (ref56_least m l x_3).bind fun y5 => (bif (decide (y5 < (0 : Int))) then some (Out.ret (16 : Int)) else some (Out.next ())) else some (Out.next ()))

def ref56_runs_j1 (m : ApiMap) (l : List Int) : Option (Int) :=
  (forIx (ref56_runs_b2 m l) 0 l ()).bind fun o1 => o1.on fun s1 => some (0 : Int)

def ref56_runs_b3 (m : ApiMap) (l : List Int) (k5 : Nat) (x_7 : Int) (sv : Unit) : Option (Out (Unit) (Int)) :=
  (ref10_Run m x_7).bind fun y8 => (bif (!y8.2) then some (Out.ret (8 : Int)) else (bif (decide ((0 : Int) < ((k5 : Nat) : Int))) then (idxL l (IntKind.i64.wrap (((k5 : Nat) : Int) - (1 : Int)))).bind fun x_9 => (bif (decide (x_7 ≤ x_9)) then some (Out.ret (11 : Int)) else some (Out.next ())) else some (Out.next ())))

def ref56_runs (m : ApiMap) (l : List Int) : Option (Int) :=
  (forIx (ref56_runs_b3 m l) 0 l ()).bind fun o5 => o5.on fun s5 => ref56_runs_j1 m l

theorem ref56_runs_spec (m : ApiMap) (l : List Int) {r : Int} (h : ref56_runs m l = some r) : PureFn Try.prog 19 [.agg (encApiMap m), .sl 1 (l.map intC)] (· = .int .i64 r) := by
  refine PureFn.nle (PureFn.intro Try.func19 rfl rfl (by show _ ≤ 63; simp) ?_)
  unfold ref56_runs at h
  (try simp +decide -implicitDefEqProofs only [go_sem])
  refine AWP.seq ?_
  refine AWP.region rfl ?_; intro K hK
  (try simp +decide -implicitDefEqProofs only [go_sem])
  refine hK _ _ ?_; clear hK K
  refine qthen_normal ?_
  refine AWP.seqJoin (ι := (Unit) × (Unit)) (fun zz => [(1, .sl 1 (l.map intC)), (2, .ptr 0 0)]) (fun zz => [.box [.sl 2 (m.Nodes.map encApiNode), .sl 8 (m.Lifts.map encApiLift), .sl 7 (m.Runs.map encApiRun), .sl 1 (m.Bases.map intC)]]) (fun zz => ref56_runs_j1 m l = some r) (fun zz => ⟨rfl, rfl, rfl⟩) ?_ ?_
  · refine AWP.seq ?_
    refine AWP.region rfl ?_; intro K hK
    (try simp +decide -implicitDefEqProofs only [go_sem])
    refine hK _ _ ?_; clear hK K
    refine qthen_normal ?_
    refine AWP.block ?_
    obtain ⟨o5, hJ5, hO5⟩ := bindE h
    clear h
    refine AWP.loopW (ι := Nat × (Unit) × (Unit)) (fun zz => [(1, .sl 1 (l.map intC)), (2, .ptr 0 0), (5, .int .i64 ((zz.1 : Nat) : Int))]) (fun zz => [.box [.sl 2 (m.Nodes.map encApiNode), .sl 8 (m.Lifts.map encApiLift), .sl 7 (m.Runs.map encApiRun), .sl 1 (m.Bases.map intC)]]) (fun zz => zz.1 ≤ l.length ∧ forIx (ref56_runs_b3 m l) zz.1 ((l).drop zz.1) zz.2.1 = some o5) (fun zz => l.length - zz.1) (0, (), ()) ⟨Nat.zero_le _, hJ5⟩ (by (simp +decide -implicitDefEqProofs only [go_sem, mpE_nil, AVal.int.injEq, Int.natCast_zero, List.replicate_zero, List.length_take, List.length_drop, AVal.own.injEq, reduceCtorEq, Int.reduceAdd] <;> omega)) (by (simp +decide -implicitDefEqProofs only [go_sem, mpE_nil, AVal.int.injEq, Int.natCast_zero, List.replicate_zero, List.length_take, List.length_drop, AVal.own.injEq, reduceCtorEq, Int.reduceAdd] <;> omega)) (fun x => ⟨rfl, rfl, rfl⟩) ?_
    clear hJ5
    rintro ⟨k5, ⟨⟩, ⟨⟩⟩ ⟨hk5, hJ5⟩
    dsimp only at hk5 hJ5 ⊢
    refine AWP.seq ?_
    refine AWP.seq ?_
    refine AWP.region rfl ?_; intro K hK
    (try simp +decide -implicitDefEqProofs only [go_sem])
    intro hm
    refine hK _ _ ?_; clear hK K
    refine qthen_normal ?_
    refine AWP.cond (acond_split (fun hc => ?_) (fun hc => ?_))
    · have hlt5 : k5 < l.length := by have := of_decide_eq_true hc; omega
      obtain ⟨x_7, b5, hx5_, h, hJ5⟩ := for_cons hJ5 hlt5
      have hx5 := idxL_nat hx5_
      have hw5 : IntKind.i64.wrap (((k5 : Nat) : Int) + 1) = (((k5 : Nat) : Int) + (1 : Int)) := by rw [wrap_i64] <;> omega
      unfold ref56_runs_b3 at h; try dsimp only at h
      refine AWP.skip ?_
      refine qthen_normal ?_
      refine AWP.seq ?_
      refine AWP.block ?_
      refine AWP.seq ?_
      refine AWP.seq ?_
      refine AWP.draw Try.mixed (by kernel_rfl) ?_; intro K hK
      (try simp +decide -implicitDefEqProofs only [go_sem])
      refine AIdx.of (f := intC) (l := l) hx5 ?_
      (try simp +decide -implicitDefEqProofs only [go_sem])
      obtain ⟨y8, hy8, h⟩ := bindE h
      refine DCall.pure Try.call8 (ref10_Run_spec m x_7 hy8) rfl ?_
      (try simp +decide -implicitDefEqProofs only [go_sem])
      refine hK _ _ _ (by kernel_rfl) ?_; clear hK K
      refine qthen_normal ?_
      refine AWP.seq ?_
      refine AWP.region rfl ?_; intro K hK
      (try simp +decide -implicitDefEqProofs only [go_sem])
      refine hK _ _ ?_; clear hK K
      refine qthen_normal ?_
      refine AWP.cond (acond_split (fun hc => ?_) (fun hc => ?_))
      · replace h := bif_t h hc
        refine AWP.seq ?_
        refine AWP.region rfl ?_; intro K hK
        (try simp +decide -implicitDefEqProofs only [go_sem])
        refine hK _ _ ?_; clear hK K
        refine qthen_normal ?_
        refine AWP.ret ?_
        refine qthen_ret ?_
        refine qblock_ret ?_
        refine qthen_ret ?_
        refine qthen_ret ?_
        obtain rfl := some_eq h
        obtain rfl := cont_ret hJ5
        replace h := on_ret hO5
        refine qblock_ret ?_
        refine qthen_ret ?_
        obtain rfl := some_eq h
        simp +decide -implicitDefEqProofs only [go_sem, mpE_nil, AVal.int.injEq, Int.natCast_zero, List.replicate_zero, List.length_take, List.length_drop, AVal.own.injEq, reduceCtorEq, Int.reduceAdd, nle2, nle1, nle0, nleA, nleL, Try.results19]
      replace h := bif_f h hc
      refine AWP.skip ?_
      refine qthen_normal ?_
      refine AWP.seq ?_
      refine AWP.draw Try.mixed (by kernel_rfl) ?_; intro K hK
      (try simp +decide -implicitDefEqProofs only [go_sem])
      refine aguardK_split (fun hc => ?_) (fun hc => ?_)
      · replace h := bif_t h hc
        (try simp +decide -implicitDefEqProofs only [go_sem, hc])
        refine AIdx.of (f := intC) (l := l) hx5 ?_
        (try simp +decide -implicitDefEqProofs only [go_sem])
        obtain ⟨x_9, hx_9, h⟩ := bindE h
        refine AIdx.of (f := intC) (l := l) hx_9 ?_
        (try simp +decide -implicitDefEqProofs only [go_sem])
        refine hK _ _ _ (by kernel_rfl) ?_; clear hK K
        refine qthen_normal ?_
        refine AWP.cond (acond_split (fun hc => ?_) (fun hc => ?_))
        · replace h := bif_t h hc
          refine AWP.seq ?_
          refine AWP.region rfl ?_; intro K hK
          (try simp +decide -implicitDefEqProofs only [go_sem])
          refine hK _ _ ?_; clear hK K
          refine qthen_normal ?_
          refine AWP.ret ?_
          refine qblock_ret ?_
          refine qthen_ret ?_
          refine qthen_ret ?_
          obtain rfl := some_eq h
          obtain rfl := cont_ret hJ5
          replace h := on_ret hO5
          refine qblock_ret ?_
          refine qthen_ret ?_
          obtain rfl := some_eq h
          simp +decide -implicitDefEqProofs only [go_sem, mpE_nil, AVal.int.injEq, Int.natCast_zero, List.replicate_zero, List.length_take, List.length_drop, AVal.own.injEq, reduceCtorEq, Int.reduceAdd, nle2, nle1, nle0, nleA, nleL, Try.results19]
        replace h := bif_f h hc
        refine AWP.skip ?_
        refine qblock_normal ?_
        refine qthen_normal ?_
        refine AWP.region rfl ?_; intro K hK
        (try simp +decide -implicitDefEqProofs only [go_sem])
        refine hK _ _ ?_; clear hK K
        refine qthen_normal ?_
        obtain rfl := some_eq h
        refine ⟨(k5 + 1, (), ()), ⟨by dsimp only; omega, cont_next hJ5⟩, by dsimp only; omega, ?_, ?_⟩
        · (simp +decide -implicitDefEqProofs only [go_sem, mpE_nil, AVal.int.injEq, Int.natCast_zero, List.replicate_zero, List.length_take, List.length_drop, AVal.own.injEq, reduceCtorEq, Int.reduceAdd, hw5] <;> omega)
        · (simp +decide -implicitDefEqProofs only [go_sem, mpE_nil, AVal.int.injEq, Int.natCast_zero, List.replicate_zero, List.length_take, List.length_drop, AVal.own.injEq, reduceCtorEq, Int.reduceAdd, hw5] <;> omega)
      · replace h := bif_f h hc
        (try simp +decide -implicitDefEqProofs only [go_sem, hc, Bool.not_true])
        refine hK _ _ _ (by kernel_rfl) ?_; clear hK K
        refine qthen_normal ?_
        refine AWP.cond (acond_false ?_)
        refine AWP.skip ?_
        refine qblock_normal ?_
        refine qthen_normal ?_
        refine AWP.region rfl ?_; intro K hK
        (try simp +decide -implicitDefEqProofs only [go_sem])
        refine hK _ _ ?_; clear hK K
        refine qthen_normal ?_
        obtain rfl := some_eq h
        refine ⟨(k5 + 1, (), ()), ⟨by dsimp only; omega, cont_next hJ5⟩, by dsimp only; omega, ?_, ?_⟩
        · (simp +decide -implicitDefEqProofs only [go_sem, mpE_nil, AVal.int.injEq, Int.natCast_zero, List.replicate_zero, List.length_take, List.length_drop, AVal.own.injEq, reduceCtorEq, Int.reduceAdd, hw5] <;> omega)
        · (simp +decide -implicitDefEqProofs only [go_sem, mpE_nil, AVal.int.injEq, Int.natCast_zero, List.replicate_zero, List.length_take, List.length_drop, AVal.own.injEq, reduceCtorEq, Int.reduceAdd, hw5] <;> omega)
    · obtain rfl := for_nil hJ5 (fun hl => by have := of_decide_eq_false hc; omega)
      have h := on_next hO5; try dsimp only at h
      have hkl : l.length = k5 := by have := of_decide_eq_false hc; omega
      subst hkl
      refine AWP.exit ?_
      refine qthen_exit ?_
      refine qthen_exit ?_
      refine qblock_same ?_
      refine qthen_normal ?_
      exact ⟨((), ()), h, by (simp +decide -implicitDefEqProofs only [go_sem, mpE_nil, AVal.int.injEq, Int.natCast_zero, List.replicate_zero, List.length_take, List.length_drop, AVal.own.injEq, reduceCtorEq, Int.reduceAdd] <;> omega), by (simp +decide -implicitDefEqProofs only [go_sem, mpE_nil, AVal.int.injEq, Int.natCast_zero, List.replicate_zero, List.length_take, List.length_drop, AVal.own.injEq, reduceCtorEq, Int.reduceAdd] <;> omega)⟩
  · rintro ⟨⟨⟩, ⟨⟩⟩ h
    try dsimp only at h ⊢
    unfold ref56_runs_j1 at h; try dsimp only at h
    refine AWP.seq ?_
    refine AWP.seq ?_
    refine AWP.region rfl ?_; intro K hK
    (try simp +decide -implicitDefEqProofs only [go_sem])
    refine hK _ _ ?_; clear hK K
    refine qthen_normal ?_
    refine AWP.block ?_
    obtain ⟨o1, hJ1, hO1⟩ := bindE h
    clear h
    refine AWP.loopW (ι := Nat × (Unit) × (Unit)) (fun zz => [(1, .sl 1 (l.map intC)), (2, .ptr 0 0), (8, .int .i64 ((zz.1 : Nat) : Int))]) (fun zz => [.box [.sl 2 (m.Nodes.map encApiNode), .sl 8 (m.Lifts.map encApiLift), .sl 7 (m.Runs.map encApiRun), .sl 1 (m.Bases.map intC)]]) (fun zz => zz.1 ≤ l.length ∧ forIx (ref56_runs_b2 m l) zz.1 ((l).drop zz.1) zz.2.1 = some o1) (fun zz => l.length - zz.1) (0, (), ()) ⟨Nat.zero_le _, hJ1⟩ (by (simp +decide -implicitDefEqProofs only [go_sem, mpE_nil, AVal.int.injEq, Int.natCast_zero, List.replicate_zero, List.length_take, List.length_drop, AVal.own.injEq, reduceCtorEq, Int.reduceAdd] <;> omega)) (by (simp +decide -implicitDefEqProofs only [go_sem, mpE_nil, AVal.int.injEq, Int.natCast_zero, List.replicate_zero, List.length_take, List.length_drop, AVal.own.injEq, reduceCtorEq, Int.reduceAdd] <;> omega)) (fun x => ⟨rfl, rfl, rfl⟩) ?_
    clear hJ1
    rintro ⟨k1, ⟨⟩, ⟨⟩⟩ ⟨hk1, hJ1⟩
    dsimp only at hk1 hJ1 ⊢
    refine AWP.seq ?_
    refine AWP.seq ?_
    refine AWP.region rfl ?_; intro K hK
    (try simp +decide -implicitDefEqProofs only [go_sem])
    intro hm
    refine hK _ _ ?_; clear hK K
    refine qthen_normal ?_
    refine AWP.cond (acond_split (fun hc => ?_) (fun hc => ?_))
    · have hlt1 : k1 < l.length := by have := of_decide_eq_true hc; omega
      obtain ⟨x_3, b1, hx1_, h, hJ1⟩ := for_cons hJ1 hlt1
      have hx1 := idxL_nat hx1_
      have hw1 : IntKind.i64.wrap (((k1 : Nat) : Int) + 1) = (((k1 : Nat) : Int) + (1 : Int)) := by rw [wrap_i64] <;> omega
      unfold ref56_runs_b2 at h; try dsimp only at h
      refine AWP.skip ?_
      refine qthen_normal ?_
      refine AWP.seq ?_
      refine AWP.block ?_
      refine AWP.seq ?_
      refine AWP.draw Try.mixed (by kernel_rfl) ?_; intro K hK
      (try simp +decide -implicitDefEqProofs only [go_sem])
      refine AIdx.of (f := intC) (l := l) hx1 ?_
      (try simp +decide -implicitDefEqProofs only [go_sem])
      obtain ⟨y4, hy4, h⟩ := bindE h
      refine DCall.pure Try.call40 (ref56_out_spec m x_3 hy4) rfl ?_
      (try simp +decide -implicitDefEqProofs only [go_sem])
      refine aguardK_split (fun hc => ?_) (fun hc => ?_)
      · replace h := bif_t h hc
        (try simp +decide -implicitDefEqProofs only [go_sem, hc])
        refine AIdx.of (f := intC) (l := l) hx1 ?_
        (try simp +decide -implicitDefEqProofs only [go_sem])
        obtain ⟨y5, hy5, h⟩ := bindE h
        refine DCall.pure Try.call41 (ref56_least_spec m l x_3 hy5) rfl ?_
        (try simp +decide -implicitDefEqProofs only [go_sem])
        refine hK _ _ _ (by kernel_rfl) ?_; clear hK K
        refine qthen_normal ?_
        refine AWP.cond (acond_split (fun hc => ?_) (fun hc => ?_))
        · replace h := bif_t h hc
          refine AWP.seq ?_
          refine AWP.region rfl ?_; intro K hK
          (try simp +decide -implicitDefEqProofs only [go_sem])
          refine hK _ _ ?_; clear hK K
          refine qthen_normal ?_
          refine AWP.ret ?_
          refine qblock_ret ?_
          refine qthen_ret ?_
          refine qthen_ret ?_
          obtain rfl := some_eq h
          obtain rfl := cont_ret hJ1
          replace h := on_ret hO1
          refine qblock_ret ?_
          refine qthen_ret ?_
          obtain rfl := some_eq h
          simp +decide -implicitDefEqProofs only [go_sem, mpE_nil, AVal.int.injEq, Int.natCast_zero, List.replicate_zero, List.length_take, List.length_drop, AVal.own.injEq, reduceCtorEq, Int.reduceAdd, nle2, nle1, nle0, nleA, nleL, Try.results19]
        replace h := bif_f h hc
        refine AWP.skip ?_
        refine qblock_normal ?_
        refine qthen_normal ?_
        refine AWP.region rfl ?_; intro K hK
        (try simp +decide -implicitDefEqProofs only [go_sem])
        refine hK _ _ ?_; clear hK K
        refine qthen_normal ?_
        obtain rfl := some_eq h
        refine ⟨(k1 + 1, (), ()), ⟨by dsimp only; omega, cont_next hJ1⟩, by dsimp only; omega, ?_, ?_⟩
        · (simp +decide -implicitDefEqProofs only [go_sem, mpE_nil, AVal.int.injEq, Int.natCast_zero, List.replicate_zero, List.length_take, List.length_drop, AVal.own.injEq, reduceCtorEq, Int.reduceAdd, hw1] <;> omega)
        · (simp +decide -implicitDefEqProofs only [go_sem, mpE_nil, AVal.int.injEq, Int.natCast_zero, List.replicate_zero, List.length_take, List.length_drop, AVal.own.injEq, reduceCtorEq, Int.reduceAdd, hw1] <;> omega)
      · replace h := bif_f h hc
        (try simp +decide -implicitDefEqProofs only [go_sem, hc, Bool.not_true])
        refine hK _ _ _ (by kernel_rfl) ?_; clear hK K
        refine qthen_normal ?_
        refine AWP.cond (acond_false ?_)
        refine AWP.skip ?_
        refine qblock_normal ?_
        refine qthen_normal ?_
        refine AWP.region rfl ?_; intro K hK
        (try simp +decide -implicitDefEqProofs only [go_sem])
        refine hK _ _ ?_; clear hK K
        refine qthen_normal ?_
        obtain rfl := some_eq h
        refine ⟨(k1 + 1, (), ()), ⟨by dsimp only; omega, cont_next hJ1⟩, by dsimp only; omega, ?_, ?_⟩
        · (simp +decide -implicitDefEqProofs only [go_sem, mpE_nil, AVal.int.injEq, Int.natCast_zero, List.replicate_zero, List.length_take, List.length_drop, AVal.own.injEq, reduceCtorEq, Int.reduceAdd, hw1] <;> omega)
        · (simp +decide -implicitDefEqProofs only [go_sem, mpE_nil, AVal.int.injEq, Int.natCast_zero, List.replicate_zero, List.length_take, List.length_drop, AVal.own.injEq, reduceCtorEq, Int.reduceAdd, hw1] <;> omega)
    · obtain rfl := for_nil hJ1 (fun hl => by have := of_decide_eq_false hc; omega)
      have h := on_next hO1; try dsimp only at h
      have hkl : l.length = k1 := by have := of_decide_eq_false hc; omega
      subst hkl
      refine AWP.exit ?_
      refine qthen_exit ?_
      refine qthen_exit ?_
      refine qblock_same ?_
      refine qthen_normal ?_
      refine AWP.seq ?_
      refine AWP.region rfl ?_; intro K hK
      (try simp +decide -implicitDefEqProofs only [go_sem])
      refine hK _ _ ?_; clear hK K
      refine qthen_normal ?_
      refine AWP.ret ?_
      obtain rfl := some_eq h
      simp +decide -implicitDefEqProofs only [go_sem, mpE_nil, AVal.int.injEq, Int.natCast_zero, List.replicate_zero, List.length_take, List.length_drop, AVal.own.injEq, reduceCtorEq, Int.reduceAdd, nle2, nle1, nle0, nleA, nleL, Try.results19]

def ref56_in (n_ : Int) (lo : Int) (hi : Int) : Option (Bool) :=
  (bif (decide (lo ≤ n_)) then some (decide (n_ ≤ hi)) else some false)

theorem ref56_in_spec (n_ : Int) (lo : Int) (hi : Int) {r : Bool} (h : ref56_in n_ lo hi = some r) : PureFn Try.prog 20 [.int .i64 n_, .int .i64 lo, .int .i64 hi] (· = .bool r) := by
  refine PureFn.nle (PureFn.intro Try.func20 rfl rfl (by show _ ≤ 15; simp) ?_)
  unfold ref56_in at h
  (try simp +decide -implicitDefEqProofs only [go_sem])
  refine AWP.seq ?_
  refine AWP.region rfl ?_; intro K hK
  (try simp +decide -implicitDefEqProofs only [go_sem])
  refine hK _ _ ?_; clear hK K
  refine qthen_normal ?_
  refine AWP.seq ?_
  refine AWP.region rfl ?_; intro K hK
  (try simp +decide -implicitDefEqProofs only [go_sem])
  refine aguardK_split (fun hc => ?_) (fun hc => ?_)
  · replace h := bif_t h hc
    (try simp +decide -implicitDefEqProofs only [go_sem, hc])
    refine hK _ _ ?_; clear hK K
    refine qthen_normal ?_
    refine AWP.ret ?_
    obtain rfl := some_eq h
    simp +decide -implicitDefEqProofs only [go_sem, mpE_nil, AVal.int.injEq, Int.natCast_zero, List.replicate_zero, List.length_take, List.length_drop, AVal.own.injEq, reduceCtorEq, Int.reduceAdd, nle2, nle1, nle0, nleA, nleL, Try.results20]
  · replace h := bif_f h hc
    (try simp +decide -implicitDefEqProofs only [go_sem, hc, Bool.not_true])
    refine hK _ _ ?_; clear hK K
    refine qthen_normal ?_
    refine AWP.ret ?_
    obtain rfl := some_eq h
    simp +decide -implicitDefEqProofs only [go_sem, mpE_nil, AVal.int.injEq, Int.natCast_zero, List.replicate_zero, List.length_take, List.length_drop, AVal.own.injEq, reduceCtorEq, Int.reduceAdd, nle2, nle1, nle0, nleA, nleL, Try.results20]

def ref56_swept_b1 (run : Int) (k0 : Nat) (x_2 : ApiSwept) (sv : Unit) : Option (Out (Unit) (Bool)) :=
  (bif (decide (x_2.Run = run)) then some (Out.ret true) else some (Out.next ()))

def ref56_swept (l : List ApiSwept) (run : Int) : Option (Bool) :=
  (forIx (ref56_swept_b1 run) 0 l ()).bind fun o0 => o0.on fun s0 => some false

theorem ref56_swept_spec (l : List ApiSwept) (run : Int) {r : Bool} (h : ref56_swept l run = some r) : PureFn Try.prog 22 [.sl 4 (l.map encApiSwept), .int .i64 run] (· = .bool r) := by
  refine PureFn.nle (PureFn.intro Try.func22 rfl rfl (by show _ ≤ 19; simp) ?_)
  unfold ref56_swept at h
  (try simp +decide -implicitDefEqProofs only [go_sem])
  refine AWP.seq ?_
  refine AWP.region rfl ?_; intro K hK
  (try simp +decide -implicitDefEqProofs only [go_sem])
  refine hK _ _ ?_; clear hK K
  refine qthen_normal ?_
  refine AWP.seq ?_
  refine AWP.seq ?_
  refine AWP.region rfl ?_; intro K hK
  (try simp +decide -implicitDefEqProofs only [go_sem])
  refine hK _ _ ?_; clear hK K
  refine qthen_normal ?_
  refine AWP.block ?_
  obtain ⟨o0, hJ0, hO0⟩ := bindE h
  clear h
  refine AWP.loopW (ι := Nat × (Unit) × (Unit)) (fun zz => [(0, .sl 4 (l.map encApiSwept)), (1, .int .i64 run), (5, .int .i64 ((zz.1 : Nat) : Int))]) (fun zz => []) (fun zz => zz.1 ≤ l.length ∧ forIx (ref56_swept_b1 run) zz.1 ((l).drop zz.1) zz.2.1 = some o0) (fun zz => l.length - zz.1) (0, (), ()) ⟨Nat.zero_le _, hJ0⟩ (by (simp +decide -implicitDefEqProofs only [go_sem, mpE_nil, AVal.int.injEq, Int.natCast_zero, List.replicate_zero, List.length_take, List.length_drop, AVal.own.injEq, reduceCtorEq, Int.reduceAdd] <;> omega)) (by (simp +decide -implicitDefEqProofs only [go_sem, mpE_nil, AVal.int.injEq, Int.natCast_zero, List.replicate_zero, List.length_take, List.length_drop, AVal.own.injEq, reduceCtorEq, Int.reduceAdd] <;> omega)) (fun x => ⟨rfl, rfl, rfl⟩) ?_
  clear hJ0
  rintro ⟨k0, ⟨⟩, ⟨⟩⟩ ⟨hk0, hJ0⟩
  dsimp only at hk0 hJ0 ⊢
  refine AWP.seq ?_
  refine AWP.seq ?_
  refine AWP.region rfl ?_; intro K hK
  (try simp +decide -implicitDefEqProofs only [go_sem])
  intro hm
  refine hK _ _ ?_; clear hK K
  refine qthen_normal ?_
  refine AWP.cond (acond_split (fun hc => ?_) (fun hc => ?_))
  · have hlt0 : k0 < l.length := by have := of_decide_eq_true hc; omega
    obtain ⟨x_2, b0, hx0_, h, hJ0⟩ := for_cons hJ0 hlt0
    have hx0 := idxL_nat hx0_
    have hw0 : IntKind.i64.wrap (((k0 : Nat) : Int) + 1) = (((k0 : Nat) : Int) + (1 : Int)) := by rw [wrap_i64] <;> omega
    unfold ref56_swept_b1 at h; try dsimp only at h
    refine AWP.skip ?_
    refine qthen_normal ?_
    refine AWP.seq ?_
    refine AWP.block ?_
    refine AWP.seq ?_
    refine AWP.region rfl ?_; intro K hK
    (try simp +decide -implicitDefEqProofs only [go_sem])
    refine AIdx.of (f := encApiSwept) (l := l) hx0 ?_
    (try simp +decide -implicitDefEqProofs only [go_sem])
    refine hK _ _ ?_; clear hK K
    refine qthen_normal ?_
    refine AWP.cond (acond_split (fun hc => ?_) (fun hc => ?_))
    · replace h := bif_t h hc
      refine AWP.seq ?_
      refine AWP.region rfl ?_; intro K hK
      (try simp +decide -implicitDefEqProofs only [go_sem])
      refine hK _ _ ?_; clear hK K
      refine qthen_normal ?_
      refine AWP.ret ?_
      refine qblock_ret ?_
      refine qthen_ret ?_
      refine qthen_ret ?_
      obtain rfl := some_eq h
      obtain rfl := cont_ret hJ0
      replace h := on_ret hO0
      refine qblock_ret ?_
      refine qthen_ret ?_
      obtain rfl := some_eq h
      simp +decide -implicitDefEqProofs only [go_sem, mpE_nil, AVal.int.injEq, Int.natCast_zero, List.replicate_zero, List.length_take, List.length_drop, AVal.own.injEq, reduceCtorEq, Int.reduceAdd, nle2, nle1, nle0, nleA, nleL, Try.results22]
    replace h := bif_f h hc
    refine AWP.skip ?_
    refine qblock_normal ?_
    refine qthen_normal ?_
    refine AWP.region rfl ?_; intro K hK
    (try simp +decide -implicitDefEqProofs only [go_sem])
    refine hK _ _ ?_; clear hK K
    refine qthen_normal ?_
    obtain rfl := some_eq h
    refine ⟨(k0 + 1, (), ()), ⟨by dsimp only; omega, cont_next hJ0⟩, by dsimp only; omega, ?_, ?_⟩
    · (simp +decide -implicitDefEqProofs only [go_sem, mpE_nil, AVal.int.injEq, Int.natCast_zero, List.replicate_zero, List.length_take, List.length_drop, AVal.own.injEq, reduceCtorEq, Int.reduceAdd, hw0] <;> omega)
    · (simp +decide -implicitDefEqProofs only [go_sem, mpE_nil, AVal.int.injEq, Int.natCast_zero, List.replicate_zero, List.length_take, List.length_drop, AVal.own.injEq, reduceCtorEq, Int.reduceAdd, hw0] <;> omega)
  · obtain rfl := for_nil hJ0 (fun hl => by have := of_decide_eq_false hc; omega)
    have h := on_next hO0; try dsimp only at h
    have hkl : l.length = k0 := by have := of_decide_eq_false hc; omega
    subst hkl
    refine AWP.exit ?_
    refine qthen_exit ?_
    refine qthen_exit ?_
    refine qblock_same ?_
    refine qthen_normal ?_
    refine AWP.seq ?_
    refine AWP.region rfl ?_; intro K hK
    (try simp +decide -implicitDefEqProofs only [go_sem])
    refine hK _ _ ?_; clear hK K
    refine qthen_normal ?_
    refine AWP.ret ?_
    obtain rfl := some_eq h
    simp +decide -implicitDefEqProofs only [go_sem, mpE_nil, AVal.int.injEq, Int.natCast_zero, List.replicate_zero, List.length_take, List.length_drop, AVal.own.injEq, reduceCtorEq, Int.reduceAdd, nle2, nle1, nle0, nleA, nleL, Try.results22]

def ref56_free_b1 (m : ApiMap) (l : List ApiSwept) (run : Int) (k0 : Nat) (x_2 : Int) (sv : Unit) : Option (Out (Unit) (Bool)) :=
  (ref56_before m x_2 run).bind fun y3 => (bif y3 then (ref56_swept l x_2).bind fun y4 => (bif (!y4) then some (Out.ret false) else some (Out.next ())) else some (Out.next ()))

def ref56_free (m : ApiMap) (runs : List Int) (l : List ApiSwept) (run : Int) : Option (Bool) :=
  (forIx (ref56_free_b1 m l run) 0 runs ()).bind fun o0 => o0.on fun s0 => some true

theorem ref56_free_spec (m : ApiMap) (runs : List Int) (l : List ApiSwept) (run : Int) {r : Bool} (h : ref56_free m runs l run = some r) : PureFn Try.prog 23 [.agg (encApiMap m), .sl 1 (runs.map intC), .sl 4 (l.map encApiSwept), .int .i64 run] (· = .bool r) := by
  refine PureFn.nle (PureFn.intro Try.func23 rfl rfl (by show _ ≤ 32; simp) ?_)
  unfold ref56_free at h
  (try simp +decide -implicitDefEqProofs only [go_sem])
  refine AWP.seq ?_
  refine AWP.region rfl ?_; intro K hK
  (try simp +decide -implicitDefEqProofs only [go_sem])
  refine hK _ _ ?_; clear hK K
  refine qthen_normal ?_
  refine AWP.seq ?_
  refine AWP.seq ?_
  refine AWP.region rfl ?_; intro K hK
  (try simp +decide -implicitDefEqProofs only [go_sem])
  refine hK _ _ ?_; clear hK K
  refine qthen_normal ?_
  refine AWP.block ?_
  obtain ⟨o0, hJ0, hO0⟩ := bindE h
  clear h
  refine AWP.loopW (ι := Nat × (Unit) × (Unit)) (fun zz => [(1, .sl 1 (runs.map intC)), (2, .sl 4 (l.map encApiSwept)), (3, .int .i64 run), (4, .ptr 0 0), (9, .int .i64 ((zz.1 : Nat) : Int))]) (fun zz => [.box [.sl 2 (m.Nodes.map encApiNode), .sl 8 (m.Lifts.map encApiLift), .sl 7 (m.Runs.map encApiRun), .sl 1 (m.Bases.map intC)]]) (fun zz => zz.1 ≤ runs.length ∧ forIx (ref56_free_b1 m l run) zz.1 ((runs).drop zz.1) zz.2.1 = some o0) (fun zz => runs.length - zz.1) (0, (), ()) ⟨Nat.zero_le _, hJ0⟩ (by (simp +decide -implicitDefEqProofs only [go_sem, mpE_nil, AVal.int.injEq, Int.natCast_zero, List.replicate_zero, List.length_take, List.length_drop, AVal.own.injEq, reduceCtorEq, Int.reduceAdd] <;> omega)) (by (simp +decide -implicitDefEqProofs only [go_sem, mpE_nil, AVal.int.injEq, Int.natCast_zero, List.replicate_zero, List.length_take, List.length_drop, AVal.own.injEq, reduceCtorEq, Int.reduceAdd] <;> omega)) (fun x => ⟨rfl, rfl, rfl⟩) ?_
  clear hJ0
  rintro ⟨k0, ⟨⟩, ⟨⟩⟩ ⟨hk0, hJ0⟩
  dsimp only at hk0 hJ0 ⊢
  refine AWP.seq ?_
  refine AWP.seq ?_
  refine AWP.region rfl ?_; intro K hK
  (try simp +decide -implicitDefEqProofs only [go_sem])
  intro hm
  refine hK _ _ ?_; clear hK K
  refine qthen_normal ?_
  refine AWP.cond (acond_split (fun hc => ?_) (fun hc => ?_))
  · have hlt0 : k0 < runs.length := by have := of_decide_eq_true hc; omega
    obtain ⟨x_2, b0, hx0_, h, hJ0⟩ := for_cons hJ0 hlt0
    have hx0 := idxL_nat hx0_
    have hw0 : IntKind.i64.wrap (((k0 : Nat) : Int) + 1) = (((k0 : Nat) : Int) + (1 : Int)) := by rw [wrap_i64] <;> omega
    unfold ref56_free_b1 at h; try dsimp only at h
    refine AWP.skip ?_
    refine qthen_normal ?_
    refine AWP.seq ?_
    refine AWP.block ?_
    refine AWP.seq ?_
    refine AWP.draw Try.mixed (by kernel_rfl) ?_; intro K hK
    (try simp +decide -implicitDefEqProofs only [go_sem])
    refine AIdx.of (f := intC) (l := runs) hx0 ?_
    (try simp +decide -implicitDefEqProofs only [go_sem])
    obtain ⟨y3, hy3, h⟩ := bindE h
    refine DCall.pure Try.call42 (ref56_before_spec m x_2 run hy3) rfl ?_
    (try simp +decide -implicitDefEqProofs only [go_sem])
    refine aguardK_split (fun hc => ?_) (fun hc => ?_)
    · replace h := bif_t h hc
      (try simp +decide -implicitDefEqProofs only [go_sem, hc])
      refine AIdx.of (f := intC) (l := runs) hx0 ?_
      (try simp +decide -implicitDefEqProofs only [go_sem])
      obtain ⟨y4, hy4, h⟩ := bindE h
      refine DCall.pure Try.call22 (ref56_swept_spec l x_2 hy4) rfl ?_
      (try simp +decide -implicitDefEqProofs only [go_sem])
      refine hK _ _ _ (by kernel_rfl) ?_; clear hK K
      refine qthen_normal ?_
      refine AWP.cond (acond_split (fun hc => ?_) (fun hc => ?_))
      · replace h := bif_t h hc
        refine AWP.seq ?_
        refine AWP.region rfl ?_; intro K hK
        (try simp +decide -implicitDefEqProofs only [go_sem])
        refine hK _ _ ?_; clear hK K
        refine qthen_normal ?_
        refine AWP.ret ?_
        refine qblock_ret ?_
        refine qthen_ret ?_
        refine qthen_ret ?_
        obtain rfl := some_eq h
        obtain rfl := cont_ret hJ0
        replace h := on_ret hO0
        refine qblock_ret ?_
        refine qthen_ret ?_
        obtain rfl := some_eq h
        simp +decide -implicitDefEqProofs only [go_sem, mpE_nil, AVal.int.injEq, Int.natCast_zero, List.replicate_zero, List.length_take, List.length_drop, AVal.own.injEq, reduceCtorEq, Int.reduceAdd, nle2, nle1, nle0, nleA, nleL, Try.results23]
      replace h := bif_f h hc
      refine AWP.skip ?_
      refine qblock_normal ?_
      refine qthen_normal ?_
      refine AWP.region rfl ?_; intro K hK
      (try simp +decide -implicitDefEqProofs only [go_sem])
      refine hK _ _ ?_; clear hK K
      refine qthen_normal ?_
      obtain rfl := some_eq h
      refine ⟨(k0 + 1, (), ()), ⟨by dsimp only; omega, cont_next hJ0⟩, by dsimp only; omega, ?_, ?_⟩
      · (simp +decide -implicitDefEqProofs only [go_sem, mpE_nil, AVal.int.injEq, Int.natCast_zero, List.replicate_zero, List.length_take, List.length_drop, AVal.own.injEq, reduceCtorEq, Int.reduceAdd, hw0] <;> omega)
      · (simp +decide -implicitDefEqProofs only [go_sem, mpE_nil, AVal.int.injEq, Int.natCast_zero, List.replicate_zero, List.length_take, List.length_drop, AVal.own.injEq, reduceCtorEq, Int.reduceAdd, hw0] <;> omega)
    · replace h := bif_f h hc
      (try simp +decide -implicitDefEqProofs only [go_sem, hc, Bool.not_true])
      refine hK _ _ _ (by kernel_rfl) ?_; clear hK K
      refine qthen_normal ?_
      refine AWP.cond (acond_false ?_)
      refine AWP.skip ?_
      refine qblock_normal ?_
      refine qthen_normal ?_
      refine AWP.region rfl ?_; intro K hK
      (try simp +decide -implicitDefEqProofs only [go_sem])
      refine hK _ _ ?_; clear hK K
      refine qthen_normal ?_
      obtain rfl := some_eq h
      refine ⟨(k0 + 1, (), ()), ⟨by dsimp only; omega, cont_next hJ0⟩, by dsimp only; omega, ?_, ?_⟩
      · (simp +decide -implicitDefEqProofs only [go_sem, mpE_nil, AVal.int.injEq, Int.natCast_zero, List.replicate_zero, List.length_take, List.length_drop, AVal.own.injEq, reduceCtorEq, Int.reduceAdd, hw0] <;> omega)
      · (simp +decide -implicitDefEqProofs only [go_sem, mpE_nil, AVal.int.injEq, Int.natCast_zero, List.replicate_zero, List.length_take, List.length_drop, AVal.own.injEq, reduceCtorEq, Int.reduceAdd, hw0] <;> omega)
  · obtain rfl := for_nil hJ0 (fun hl => by have := of_decide_eq_false hc; omega)
    have h := on_next hO0; try dsimp only at h
    have hkl : runs.length = k0 := by have := of_decide_eq_false hc; omega
    subst hkl
    refine AWP.exit ?_
    refine qthen_exit ?_
    refine qthen_exit ?_
    refine qblock_same ?_
    refine qthen_normal ?_
    refine AWP.seq ?_
    refine AWP.region rfl ?_; intro K hK
    (try simp +decide -implicitDefEqProofs only [go_sem])
    refine hK _ _ ?_; clear hK K
    refine qthen_normal ?_
    refine AWP.ret ?_
    obtain rfl := some_eq h
    simp +decide -implicitDefEqProofs only [go_sem, mpE_nil, AVal.int.injEq, Int.natCast_zero, List.replicate_zero, List.length_take, List.length_drop, AVal.own.injEq, reduceCtorEq, Int.reduceAdd, nle2, nle1, nle0, nleA, nleL, Try.results23]

def ref56_Right_b1 (m : ApiMap) (s_ : ApiSweep) (k2 : Nat) (x_4 : ApiSwept) (sv : Unit) : Option (Out (Unit) (Int)) :=
  (ref10_Has s_.Runs x_4.Run).bind fun y5 => (bif (!y5) then some (Out.ret (8 : Int)) else okB (decide ((0 : Int) ≤ ((k2 : Nat) : Int) ∧ ((k2 : Nat) : Int) ≤ ((s_.Swept.length : Nat) : Int))) ((ref56_swept (s_.Swept.take k2) x_4.Run).bind fun y6 => (bif y6 then some (Out.ret (7 : Int)) else (ref56_in x_4.By (1 : Int) (9999 : Int)).bind fun y7 => (bif (!y7) then some (Out.ret (2 : Int)) else (ref56_in x_4.Found (0 : Int) (1000 : Int)).bind fun y8 => (bif (!y8) then some (Out.ret (2 : Int)) else (ref56_in x_4.At s_.Begun (20000000 : Int)).bind fun y9 => (bif (!y9) then some (Out.ret (2 : Int)) else (bif (decide ((0 : Int) < ((k2 : Nat) : Int))) then (idxL s_.Swept (IntKind.i64.wrap (((k2 : Nat) : Int) - (1 : Int)))).bind fun x_10 => (bif (decide (x_4.At < x_10.At)) then some (Out.ret (11 : Int)) else okB (decide ((0 : Int) ≤ ((k2 : Nat) : Int) ∧ ((k2 : Nat) : Int) ≤ ((s_.Swept.length : Nat) : Int))) ((ref56_free m s_.Runs (s_.Swept.take k2) x_4.Run).bind fun y11 => (bif (!y11) then some (Out.ret (11 : Int)) else some (Out.next ())))) else okB (decide ((0 : Int) ≤ ((k2 : Nat) : Int) ∧ ((k2 : Nat) : Int) ≤ ((s_.Swept.length : Nat) : Int))) ((ref56_free m s_.Runs (s_.Swept.take k2) x_4.Run).bind fun y12 => (bif (!y12) then some (Out.ret (11 : Int)) else some (Out.next ()))))))))))

def ref56_Right (m : ApiMap) (s_ : ApiSweep) : Option (Int) :=
  (bif (decide ((64 : Int) < ((s_.Runs.length : Nat) : Int))) then some (4 : Int) else (ref56_runs m s_.Runs).bind fun y1 => (bif (decide (y1 ≠ (0 : Int))) then some y1 else (ref56_in s_.Begun (0 : Int) (20000000 : Int)).bind fun y2 => (bif (!y2) then some (2 : Int) else (forIx (ref56_Right_b1 m s_) 0 s_.Swept ()).bind fun o2 => o2.on fun s2 => some (0 : Int))))

theorem ref56_Right_spec (m : ApiMap) (s_ : ApiSweep) {r : Int} (h : ref56_Right m s_ = some r) : PureFn Try.prog 6 [.agg (encApiMap m), .agg (encApiSweep s_)] (· = .int .i64 r) := by
  refine PureFn.nle (PureFn.intro Try.func6 rfl rfl (by show _ ≤ 97; simp) ?_)
  unfold ref56_Right at h
  (try simp +decide -implicitDefEqProofs only [go_sem])
  refine AWP.seq ?_
  refine AWP.region rfl ?_; intro K hK
  (try simp +decide -implicitDefEqProofs only [go_sem])
  refine hK _ _ ?_; clear hK K
  refine qthen_normal ?_
  refine AWP.seq ?_
  refine AWP.seq ?_
  refine AWP.region rfl ?_; intro K hK
  (try simp +decide -implicitDefEqProofs only [go_sem])
  intro hm
  refine hK _ _ ?_; clear hK K
  refine qthen_normal ?_
  refine AWP.cond (acond_split (fun hc => ?_) (fun hc => ?_))
  · replace h := bif_t h hc
    refine AWP.seq ?_
    refine AWP.region rfl ?_; intro K hK
    (try simp +decide -implicitDefEqProofs only [go_sem])
    refine hK _ _ ?_; clear hK K
    refine qthen_normal ?_
    refine AWP.ret ?_
    refine qthen_ret ?_
    obtain rfl := some_eq h
    simp +decide -implicitDefEqProofs only [go_sem, mpE_nil, AVal.int.injEq, Int.natCast_zero, List.replicate_zero, List.length_take, List.length_drop, AVal.own.injEq, reduceCtorEq, Int.reduceAdd, nle2, nle1, nle0, nleA, nleL, Try.results6]
  replace h := bif_f h hc
  refine AWP.skip ?_
  refine qthen_normal ?_
  refine AWP.seq ?_
  refine AWP.seq ?_
  refine AWP.region rfl ?_; intro K hK
  (try simp +decide -implicitDefEqProofs only [go_sem])
  obtain ⟨y1, hy1, h⟩ := bindE h
  refine ACall.pure Try.call19 (ref56_runs_spec m s_.Runs hy1) rfl fun _ hr => ?_
  subst hr
  (try simp +decide -implicitDefEqProofs only [go_sem])
  refine hK _ _ ?_; clear hK K
  refine qthen_normal ?_
  refine AWP.seq ?_
  refine AWP.region rfl ?_; intro K hK
  (try simp +decide -implicitDefEqProofs only [go_sem])
  refine hK _ _ ?_; clear hK K
  refine qthen_normal ?_
  refine AWP.cond (acond_split (fun hc => ?_) (fun hc => ?_))
  · replace h := bif_t h hc
    refine AWP.seq ?_
    refine AWP.region rfl ?_; intro K hK
    (try simp +decide -implicitDefEqProofs only [go_sem])
    refine hK _ _ ?_; clear hK K
    refine qthen_normal ?_
    refine AWP.ret ?_
    refine qthen_ret ?_
    obtain rfl := some_eq h
    simp +decide -implicitDefEqProofs only [go_sem, mpE_nil, AVal.int.injEq, Int.natCast_zero, List.replicate_zero, List.length_take, List.length_drop, AVal.own.injEq, reduceCtorEq, Int.reduceAdd, nle2, nle1, nle0, nleA, nleL, Try.results6]
  replace h := bif_f h hc
  refine AWP.skip ?_
  refine qthen_normal ?_
  refine AWP.seq ?_
  refine AWP.seq ?_
  refine AWP.region rfl ?_; intro K hK
  (try simp +decide -implicitDefEqProofs only [go_sem])
  obtain ⟨y2, hy2, h⟩ := bindE h
  refine ACall.pure Try.call20 (ref56_in_spec s_.Begun (0 : Int) (20000000 : Int) hy2) rfl fun _ hr => ?_
  subst hr
  (try simp +decide -implicitDefEqProofs only [go_sem])
  refine hK _ _ ?_; clear hK K
  refine qthen_normal ?_
  refine AWP.cond (acond_split (fun hc => ?_) (fun hc => ?_))
  · replace h := bif_t h hc
    refine AWP.seq ?_
    refine AWP.region rfl ?_; intro K hK
    (try simp +decide -implicitDefEqProofs only [go_sem])
    refine hK _ _ ?_; clear hK K
    refine qthen_normal ?_
    refine AWP.ret ?_
    refine qthen_ret ?_
    obtain rfl := some_eq h
    simp +decide -implicitDefEqProofs only [go_sem, mpE_nil, AVal.int.injEq, Int.natCast_zero, List.replicate_zero, List.length_take, List.length_drop, AVal.own.injEq, reduceCtorEq, Int.reduceAdd, nle2, nle1, nle0, nleA, nleL, Try.results6]
  replace h := bif_f h hc
  refine AWP.skip ?_
  refine qthen_normal ?_
  refine AWP.seq ?_
  refine AWP.seq ?_
  refine AWP.region rfl ?_; intro K hK
  (try simp +decide -implicitDefEqProofs only [go_sem])
  refine hK _ _ ?_; clear hK K
  refine qthen_normal ?_
  refine AWP.block ?_
  obtain ⟨o2, hJ2, hO2⟩ := bindE h
  clear h
  refine AWP.loopW (ι := Nat × (Unit) × (Unit)) (fun zz => [(2, .ptr 0 0), (3, .ptr 1 0), (6, .int .i64 ((zz.1 : Nat) : Int))]) (fun zz => [.box [.sl 2 (m.Nodes.map encApiNode), .sl 8 (m.Lifts.map encApiLift), .sl 7 (m.Runs.map encApiRun), .sl 1 (m.Bases.map intC)], .box [.sl 1 (s_.Runs.map intC), .sl 4 (s_.Swept.map encApiSwept), .int .i64 s_.Begun]]) (fun zz => zz.1 ≤ s_.Swept.length ∧ forIx (ref56_Right_b1 m s_) zz.1 ((s_.Swept).drop zz.1) zz.2.1 = some o2) (fun zz => s_.Swept.length - zz.1) (0, (), ()) ⟨Nat.zero_le _, hJ2⟩ (by (simp +decide -implicitDefEqProofs only [go_sem, mpE_nil, AVal.int.injEq, Int.natCast_zero, List.replicate_zero, List.length_take, List.length_drop, AVal.own.injEq, reduceCtorEq, Int.reduceAdd] <;> omega)) (by (simp +decide -implicitDefEqProofs only [go_sem, mpE_nil, AVal.int.injEq, Int.natCast_zero, List.replicate_zero, List.length_take, List.length_drop, AVal.own.injEq, reduceCtorEq, Int.reduceAdd] <;> omega)) (fun x => ⟨rfl, rfl, rfl⟩) ?_
  clear hJ2
  rintro ⟨k2, ⟨⟩, ⟨⟩⟩ ⟨hk2, hJ2⟩
  dsimp only at hk2 hJ2 ⊢
  refine AWP.seq ?_
  refine AWP.seq ?_
  refine AWP.region rfl ?_; intro K hK
  (try simp +decide -implicitDefEqProofs only [go_sem])
  intro hm
  refine hK _ _ ?_; clear hK K
  refine qthen_normal ?_
  refine AWP.cond (acond_split (fun hc => ?_) (fun hc => ?_))
  · have hlt2 : k2 < s_.Swept.length := by have := of_decide_eq_true hc; omega
    obtain ⟨x_4, b2, hx2_, h, hJ2⟩ := for_cons hJ2 hlt2
    have hx2 := idxL_nat hx2_
    have hw2 : IntKind.i64.wrap (((k2 : Nat) : Int) + 1) = (((k2 : Nat) : Int) + (1 : Int)) := by rw [wrap_i64] <;> omega
    unfold ref56_Right_b1 at h; try dsimp only at h
    refine AWP.skip ?_
    refine qthen_normal ?_
    refine AWP.seq ?_
    refine AWP.block ?_
    refine AWP.seq ?_
    refine AWP.region rfl ?_; intro K hK
    (try simp +decide -implicitDefEqProofs only [go_sem])
    refine AIdx.of (f := encApiSwept) (l := s_.Swept) hx2 ?_
    (try simp +decide -implicitDefEqProofs only [go_sem])
    refine hK _ _ ?_; clear hK K
    refine qthen_normal ?_
    refine AWP.block ?_
    refine AWP.seq ?_
    refine AWP.region rfl ?_; intro K hK
    (try simp +decide -implicitDefEqProofs only [go_sem])
    obtain ⟨y5, hy5, h⟩ := bindE h
    refine ACall.pure Try.call21 (ref10_Has_spec s_.Runs x_4.Run hy5) rfl fun _ hr => ?_
    subst hr
    (try simp +decide -implicitDefEqProofs only [go_sem])
    refine hK _ _ ?_; clear hK K
    refine qthen_normal ?_
    refine AWP.cond (acond_split (fun hc => ?_) (fun hc => ?_))
    · replace h := bif_t h hc
      refine AWP.seq ?_
      refine AWP.region rfl ?_; intro K hK
      (try simp +decide -implicitDefEqProofs only [go_sem])
      refine hK _ _ ?_; clear hK K
      refine qthen_normal ?_
      refine AWP.ret ?_
      refine qblock_ret ?_
      refine qblock_ret ?_
      refine qthen_ret ?_
      refine qthen_ret ?_
      obtain rfl := some_eq h
      obtain rfl := cont_ret hJ2
      replace h := on_ret hO2
      refine qblock_ret ?_
      refine qthen_ret ?_
      obtain rfl := some_eq h
      simp +decide -implicitDefEqProofs only [go_sem, mpE_nil, AVal.int.injEq, Int.natCast_zero, List.replicate_zero, List.length_take, List.length_drop, AVal.own.injEq, reduceCtorEq, Int.reduceAdd, nle2, nle1, nle0, nleA, nleL, Try.results6]
    replace h := bif_f h hc
    refine AWP.seq ?_
    refine AWP.draw Try.mixed (by kernel_rfl) ?_; intro K hK
    (try simp +decide -implicitDefEqProofs only [go_sem])
    obtain ⟨hk, h⟩ := okB_in h
    intro hm
    (repeat (refine ⟨by omega, ?_⟩))
    obtain ⟨y6, hy6, h⟩ := bindE h
    refine DCall.pure Try.call22 (ref56_swept_spec (s_.Swept.take k2) x_4.Run hy6) rfl ?_
    (try simp +decide -implicitDefEqProofs only [go_sem])
    refine hK _ _ _ (by kernel_rfl) ?_; clear hK K
    refine qthen_normal ?_
    refine AWP.cond (acond_split (fun hc => ?_) (fun hc => ?_))
    · replace h := bif_t h hc
      refine AWP.seq ?_
      refine AWP.region rfl ?_; intro K hK
      (try simp +decide -implicitDefEqProofs only [go_sem])
      refine hK _ _ ?_; clear hK K
      refine qthen_normal ?_
      refine AWP.ret ?_
      refine qblock_ret ?_
      refine qblock_ret ?_
      refine qthen_ret ?_
      refine qthen_ret ?_
      obtain rfl := some_eq h
      obtain rfl := cont_ret hJ2
      replace h := on_ret hO2
      refine qblock_ret ?_
      refine qthen_ret ?_
      obtain rfl := some_eq h
      simp +decide -implicitDefEqProofs only [go_sem, mpE_nil, AVal.int.injEq, Int.natCast_zero, List.replicate_zero, List.length_take, List.length_drop, AVal.own.injEq, reduceCtorEq, Int.reduceAdd, nle2, nle1, nle0, nleA, nleL, Try.results6]
    replace h := bif_f h hc
    refine AWP.seq ?_
    refine AWP.region rfl ?_; intro K hK
    (try simp +decide -implicitDefEqProofs only [go_sem])
    obtain ⟨y7, hy7, h⟩ := bindE h
    refine ACall.pure Try.call20 (ref56_in_spec x_4.By (1 : Int) (9999 : Int) hy7) rfl fun _ hr => ?_
    subst hr
    (try simp +decide -implicitDefEqProofs only [go_sem])
    refine aguardK_split (fun hc => ?_) (fun hc => ?_)
    · replace h := bif_f h hc
      (try simp +decide -implicitDefEqProofs only [go_sem, hc])
      obtain ⟨y8, hy8, h⟩ := bindE h
      refine ACall.pure Try.call20 (ref56_in_spec x_4.Found (0 : Int) (1000 : Int) hy8) rfl fun _ hr => ?_
      subst hr
      (try simp +decide -implicitDefEqProofs only [go_sem])
      refine aguardK_split (fun hc => ?_) (fun hc => ?_)
      · replace h := bif_f h hc
        (try simp +decide -implicitDefEqProofs only [go_sem, hc])
        obtain ⟨y9, hy9, h⟩ := bindE h
        refine ACall.pure Try.call20 (ref56_in_spec x_4.At s_.Begun (20000000 : Int) hy9) rfl fun _ hr => ?_
        subst hr
        (try simp +decide -implicitDefEqProofs only [go_sem])
        refine hK _ _ ?_; clear hK K
        refine qthen_normal ?_
        refine AWP.cond (acond_split (fun hc => ?_) (fun hc => ?_))
        · replace h := bif_t h hc
          refine AWP.seq ?_
          refine AWP.region rfl ?_; intro K hK
          (try simp +decide -implicitDefEqProofs only [go_sem])
          refine hK _ _ ?_; clear hK K
          refine qthen_normal ?_
          refine AWP.ret ?_
          refine qblock_ret ?_
          refine qblock_ret ?_
          refine qthen_ret ?_
          refine qthen_ret ?_
          obtain rfl := some_eq h
          obtain rfl := cont_ret hJ2
          replace h := on_ret hO2
          refine qblock_ret ?_
          refine qthen_ret ?_
          obtain rfl := some_eq h
          simp +decide -implicitDefEqProofs only [go_sem, mpE_nil, AVal.int.injEq, Int.natCast_zero, List.replicate_zero, List.length_take, List.length_drop, AVal.own.injEq, reduceCtorEq, Int.reduceAdd, nle2, nle1, nle0, nleA, nleL, Try.results6]
        replace h := bif_f h hc
        refine AWP.seq ?_
        refine AWP.draw Try.mixed (by kernel_rfl) ?_; intro K hK
        (try simp +decide -implicitDefEqProofs only [go_sem])
        refine aguardK_split (fun hc => ?_) (fun hc => ?_)
        · replace h := bif_t h hc
          (try simp +decide -implicitDefEqProofs only [go_sem, hc])
          obtain ⟨x_10, hx_10, h⟩ := bindE h
          refine AIdx.of (f := encApiSwept) (l := s_.Swept) hx_10 ?_
          (try simp +decide -implicitDefEqProofs only [go_sem])
          refine aguardK_split (fun hc => ?_) (fun hc => ?_)
          · replace h := bif_f h hc
            (try simp +decide -implicitDefEqProofs only [go_sem, hc])
            obtain ⟨hk, h⟩ := okB_in h
            intro hm
            (repeat (refine ⟨by omega, ?_⟩))
            obtain ⟨y11, hy11, h⟩ := bindE h
            refine DCall.pure Try.call23 (ref56_free_spec m s_.Runs (s_.Swept.take k2) x_4.Run hy11) rfl ?_
            (try simp +decide -implicitDefEqProofs only [go_sem])
            refine hK _ _ _ (by kernel_rfl) ?_; clear hK K
            refine qthen_normal ?_
            refine AWP.cond (acond_split (fun hc => ?_) (fun hc => ?_))
            · replace h := bif_t h hc
              refine AWP.seq ?_
              refine AWP.region rfl ?_; intro K hK
              (try simp +decide -implicitDefEqProofs only [go_sem])
              refine hK _ _ ?_; clear hK K
              refine qthen_normal ?_
              refine AWP.ret ?_
              refine qblock_ret ?_
              refine qblock_ret ?_
              refine qthen_ret ?_
              refine qthen_ret ?_
              obtain rfl := some_eq h
              obtain rfl := cont_ret hJ2
              replace h := on_ret hO2
              refine qblock_ret ?_
              refine qthen_ret ?_
              obtain rfl := some_eq h
              simp +decide -implicitDefEqProofs only [go_sem, mpE_nil, AVal.int.injEq, Int.natCast_zero, List.replicate_zero, List.length_take, List.length_drop, AVal.own.injEq, reduceCtorEq, Int.reduceAdd, nle2, nle1, nle0, nleA, nleL, Try.results6]
            replace h := bif_f h hc
            refine AWP.skip ?_
            refine qblock_normal ?_
            refine qblock_normal ?_
            refine qthen_normal ?_
            refine AWP.region rfl ?_; intro K hK
            (try simp +decide -implicitDefEqProofs only [go_sem])
            refine hK _ _ ?_; clear hK K
            refine qthen_normal ?_
            obtain rfl := some_eq h
            refine ⟨(k2 + 1, (), ()), ⟨by dsimp only; omega, cont_next hJ2⟩, by dsimp only; omega, ?_, ?_⟩
            · (simp +decide -implicitDefEqProofs only [go_sem, mpE_nil, AVal.int.injEq, Int.natCast_zero, List.replicate_zero, List.length_take, List.length_drop, AVal.own.injEq, reduceCtorEq, Int.reduceAdd, hw2] <;> omega)
            · (simp +decide -implicitDefEqProofs only [go_sem, mpE_nil, AVal.int.injEq, Int.natCast_zero, List.replicate_zero, List.length_take, List.length_drop, AVal.own.injEq, reduceCtorEq, Int.reduceAdd, hw2] <;> omega)
          · replace h := bif_t h hc
            (try simp +decide -implicitDefEqProofs only [go_sem, hc, Bool.not_false])
            refine hK _ _ _ (by kernel_rfl) ?_; clear hK K
            refine qthen_normal ?_
            refine AWP.cond (acond_true ?_)
            refine AWP.seq ?_
            refine AWP.region rfl ?_; intro K hK
            (try simp +decide -implicitDefEqProofs only [go_sem])
            refine hK _ _ ?_; clear hK K
            refine qthen_normal ?_
            refine AWP.ret ?_
            refine qblock_ret ?_
            refine qblock_ret ?_
            refine qthen_ret ?_
            refine qthen_ret ?_
            obtain rfl := some_eq h
            obtain rfl := cont_ret hJ2
            replace h := on_ret hO2
            refine qblock_ret ?_
            refine qthen_ret ?_
            obtain rfl := some_eq h
            simp +decide -implicitDefEqProofs only [go_sem, mpE_nil, AVal.int.injEq, Int.natCast_zero, List.replicate_zero, List.length_take, List.length_drop, AVal.own.injEq, reduceCtorEq, Int.reduceAdd, nle2, nle1, nle0, nleA, nleL, Try.results6]
        · replace h := bif_f h hc
          (try simp +decide -implicitDefEqProofs only [go_sem, hc, Bool.not_true])
          obtain ⟨hk, h⟩ := okB_in h
          intro hm
          (repeat (refine ⟨by omega, ?_⟩))
          obtain ⟨y12, hy12, h⟩ := bindE h
          refine DCall.pure Try.call23 (ref56_free_spec m s_.Runs (s_.Swept.take k2) x_4.Run hy12) rfl ?_
          (try simp +decide -implicitDefEqProofs only [go_sem])
          refine hK _ _ _ (by kernel_rfl) ?_; clear hK K
          refine qthen_normal ?_
          refine AWP.cond (acond_split (fun hc => ?_) (fun hc => ?_))
          · replace h := bif_t h hc
            refine AWP.seq ?_
            refine AWP.region rfl ?_; intro K hK
            (try simp +decide -implicitDefEqProofs only [go_sem])
            refine hK _ _ ?_; clear hK K
            refine qthen_normal ?_
            refine AWP.ret ?_
            refine qblock_ret ?_
            refine qblock_ret ?_
            refine qthen_ret ?_
            refine qthen_ret ?_
            obtain rfl := some_eq h
            obtain rfl := cont_ret hJ2
            replace h := on_ret hO2
            refine qblock_ret ?_
            refine qthen_ret ?_
            obtain rfl := some_eq h
            simp +decide -implicitDefEqProofs only [go_sem, mpE_nil, AVal.int.injEq, Int.natCast_zero, List.replicate_zero, List.length_take, List.length_drop, AVal.own.injEq, reduceCtorEq, Int.reduceAdd, nle2, nle1, nle0, nleA, nleL, Try.results6]
          replace h := bif_f h hc
          refine AWP.skip ?_
          refine qblock_normal ?_
          refine qblock_normal ?_
          refine qthen_normal ?_
          refine AWP.region rfl ?_; intro K hK
          (try simp +decide -implicitDefEqProofs only [go_sem])
          refine hK _ _ ?_; clear hK K
          refine qthen_normal ?_
          obtain rfl := some_eq h
          refine ⟨(k2 + 1, (), ()), ⟨by dsimp only; omega, cont_next hJ2⟩, by dsimp only; omega, ?_, ?_⟩
          · (simp +decide -implicitDefEqProofs only [go_sem, mpE_nil, AVal.int.injEq, Int.natCast_zero, List.replicate_zero, List.length_take, List.length_drop, AVal.own.injEq, reduceCtorEq, Int.reduceAdd, hw2] <;> omega)
          · (simp +decide -implicitDefEqProofs only [go_sem, mpE_nil, AVal.int.injEq, Int.natCast_zero, List.replicate_zero, List.length_take, List.length_drop, AVal.own.injEq, reduceCtorEq, Int.reduceAdd, hw2] <;> omega)
      · replace h := bif_t h hc
        (try simp +decide -implicitDefEqProofs only [go_sem, hc, Bool.not_false])
        refine hK _ _ ?_; clear hK K
        refine qthen_normal ?_
        refine AWP.cond (acond_true ?_)
        refine AWP.seq ?_
        refine AWP.region rfl ?_; intro K hK
        (try simp +decide -implicitDefEqProofs only [go_sem])
        refine hK _ _ ?_; clear hK K
        refine qthen_normal ?_
        refine AWP.ret ?_
        refine qblock_ret ?_
        refine qblock_ret ?_
        refine qthen_ret ?_
        refine qthen_ret ?_
        obtain rfl := some_eq h
        obtain rfl := cont_ret hJ2
        replace h := on_ret hO2
        refine qblock_ret ?_
        refine qthen_ret ?_
        obtain rfl := some_eq h
        simp +decide -implicitDefEqProofs only [go_sem, mpE_nil, AVal.int.injEq, Int.natCast_zero, List.replicate_zero, List.length_take, List.length_drop, AVal.own.injEq, reduceCtorEq, Int.reduceAdd, nle2, nle1, nle0, nleA, nleL, Try.results6]
    · replace h := bif_t h hc
      (try simp +decide -implicitDefEqProofs only [go_sem, hc, Bool.not_false])
      refine hK _ _ ?_; clear hK K
      refine qthen_normal ?_
      refine AWP.cond (acond_true ?_)
      refine AWP.seq ?_
      refine AWP.region rfl ?_; intro K hK
      (try simp +decide -implicitDefEqProofs only [go_sem])
      refine hK _ _ ?_; clear hK K
      refine qthen_normal ?_
      refine AWP.ret ?_
      refine qblock_ret ?_
      refine qblock_ret ?_
      refine qthen_ret ?_
      refine qthen_ret ?_
      obtain rfl := some_eq h
      obtain rfl := cont_ret hJ2
      replace h := on_ret hO2
      refine qblock_ret ?_
      refine qthen_ret ?_
      obtain rfl := some_eq h
      simp +decide -implicitDefEqProofs only [go_sem, mpE_nil, AVal.int.injEq, Int.natCast_zero, List.replicate_zero, List.length_take, List.length_drop, AVal.own.injEq, reduceCtorEq, Int.reduceAdd, nle2, nle1, nle0, nleA, nleL, Try.results6]
  · obtain rfl := for_nil hJ2 (fun hl => by have := of_decide_eq_false hc; omega)
    have h := on_next hO2; try dsimp only at h
    have hkl : s_.Swept.length = k2 := by have := of_decide_eq_false hc; omega
    subst hkl
    refine AWP.exit ?_
    refine qthen_exit ?_
    refine qthen_exit ?_
    refine qblock_same ?_
    refine qthen_normal ?_
    refine AWP.seq ?_
    refine AWP.region rfl ?_; intro K hK
    (try simp +decide -implicitDefEqProofs only [go_sem])
    refine hK _ _ ?_; clear hK K
    refine qthen_normal ?_
    refine AWP.ret ?_
    obtain rfl := some_eq h
    simp +decide -implicitDefEqProofs only [go_sem, mpE_nil, AVal.int.injEq, Int.natCast_zero, List.replicate_zero, List.length_take, List.length_drop, AVal.own.injEq, reduceCtorEq, Int.reduceAdd, nle2, nle1, nle0, nleA, nleL, Try.results6]

def terrain_Down_b1 (runs : List Int) (k2 : Nat) (x_4 : ApiRun) (sv : (List ApiEdge)) : Option (Out ((List ApiEdge)) ((List ApiEdge))) :=
  (slices_Contains_sint_int runs x_4.ID).bind fun y5 => (bif y5 then chk (sv.length + 1) (some (Out.next (sv ++ [(ApiEdge.mk x_4.ID x_4.From x_4.To x_4.Length)]))) else some (Out.next sv))

def terrain_Down (m : ApiMap) (runs : List Int) : Option ((List ApiEdge)) :=
  (forIx (terrain_Down_b1 runs) 0 m.Runs []).bind fun o2 => o2.on fun s2 => some s2

theorem terrain_Down_fresh (m : ApiMap) (runs : List Int) {r : (List ApiEdge)} (h : terrain_Down m runs = some r) : FreshFn Try.prog 26 [.agg (encApiMap m), .sl 1 (runs.map intC)] (· = .sl 4 (r.map encApiEdge)) := by
  refine FreshFn.nle (FreshFn.intro Try.func26 rfl rfl (by show _ ≤ 33; simp) ?_)
  unfold terrain_Down at h
  (try simp +decide -implicitDefEqProofs only [go_sem])
  refine AWP.seq ?_
  refine AWP.region rfl ?_; intro K hK
  (try simp +decide -implicitDefEqProofs only [go_sem])
  refine hK _ _ ?_; clear hK K
  refine qthen_normal ?_
  refine AWP.seq ?_
  refine AWP.region rfl ?_; intro K hK
  (try simp +decide -implicitDefEqProofs only [go_sem])
  refine hK _ _ ?_; clear hK K
  refine qthen_normal ?_
  refine AWP.seq ?_
  refine AWP.seq ?_
  refine AWP.region rfl ?_; intro K hK
  (try simp +decide -implicitDefEqProofs only [go_sem])
  intro hm
  refine hK _ _ ?_; clear hK K
  refine qthen_normal ?_
  refine AWP.block ?_
  refine AWP.ghost 5 4 rfl (by decide) ?_
  obtain ⟨o2, hJ2, hO2⟩ := bindE h
  clear h
  refine AWP.loopW (ι := Nat × ((List ApiEdge)) × (Nat)) (fun zz => [(1, .sl 1 (runs.map intC)), (5, .own 1 zz.2.2 0 zz.2.1.length), (9, .sl 7 (m.Runs.map encApiRun)), (10, .int .i64 ((m.Runs.length : Nat) : Int)), (11, .int .i64 ((zz.1 : Nat) : Int))]) (fun zz => [.gone, .row zz.2.2 4 (zz.2.1.map encApiEdge)]) (fun zz => zz.1 ≤ m.Runs.length ∧ forIx (terrain_Down_b1 runs) zz.1 ((m.Runs).drop zz.1) zz.2.1 = some o2) (fun zz => m.Runs.length - zz.1) (0, [], 0) ⟨Nat.zero_le _, hJ2⟩ (by (simp +decide -implicitDefEqProofs only [go_sem, mpE_nil, AVal.int.injEq, Int.natCast_zero, List.replicate_zero, List.length_take, List.length_drop, AVal.own.injEq, reduceCtorEq, Int.reduceAdd] <;> omega)) (by (simp +decide -implicitDefEqProofs only [go_sem, mpE_nil, AVal.int.injEq, Int.natCast_zero, List.replicate_zero, List.length_take, List.length_drop, AVal.own.injEq, reduceCtorEq, Int.reduceAdd] <;> omega)) (fun x => ⟨rfl, rfl, rfl⟩) ?_
  clear hJ2
  rintro ⟨k2, out1, ver2⟩ ⟨hk2, hJ2⟩
  dsimp only at hk2 hJ2 ⊢
  refine AWP.seq ?_
  refine AWP.region rfl ?_; intro K hK
  (try simp +decide -implicitDefEqProofs only [go_sem])
  refine hK _ _ ?_; clear hK K
  refine qthen_normal ?_
  refine AWP.seq ?_
  refine AWP.cond (acond_split (fun hc => ?_) (fun hc => ?_))
  · have hlt2 : k2 < m.Runs.length := by have := of_decide_eq_true hc; omega
    obtain ⟨x_4, b2, hx2_, h, hJ2⟩ := for_cons hJ2 hlt2
    have hx2 := idxL_nat hx2_
    have hw2 : IntKind.i64.wrap (((k2 : Nat) : Int) + 1) = (((k2 : Nat) : Int) + (1 : Int)) := by rw [wrap_i64] <;> omega
    unfold terrain_Down_b1 at h; try dsimp only at h
    refine AWP.skip ?_
    refine qthen_normal ?_
    refine AWP.seq ?_
    refine AWP.block ?_
    refine AWP.seq ?_
    refine AWP.region rfl ?_; intro K hK
    (try simp +decide -implicitDefEqProofs only [go_sem])
    refine AIdx.of (f := encApiRun) (l := m.Runs) hx2 ?_
    (try simp +decide -implicitDefEqProofs only [go_sem])
    refine hK _ _ ?_; clear hK K
    refine qthen_normal ?_
    refine AWP.seq ?_
    refine AWP.region rfl ?_; intro K hK
    (try simp +decide -implicitDefEqProofs only [go_sem])
    obtain ⟨y5, hy5, h⟩ := bindE h
    refine ACall.pure Try.call33 (slices_Contains_sint_int_spec runs x_4.ID hy5) rfl fun _ hr => ?_
    subst hr
    (try simp +decide -implicitDefEqProofs only [go_sem])
    refine hK _ _ ?_; clear hK K
    refine qthen_normal ?_
    refine AWP.cond (acond_split (fun hc => ?_) (fun hc => ?_))
    · replace h := bif_t h hc
      refine AWP.region rfl ?_; intro K hK
      (try simp +decide -implicitDefEqProofs only [go_sem])
      obtain ⟨hk, h⟩ := chk_in h
      (repeat (refine ⟨by first | omega | (simp only [List.length_take, List.length_drop, List.length_append]; omega), ?_⟩)); try simp +decide -implicitDefEqProofs only [go_sem]
      refine hK _ _ ?_; clear hK K
      refine qblock_normal ?_
      refine qthen_normal ?_
      refine AWP.region rfl ?_; intro K hK
      (try simp +decide -implicitDefEqProofs only [go_sem])
      refine hK _ _ ?_; clear hK K
      refine qthen_normal ?_
      obtain rfl := some_eq h
      refine ⟨(k2 + 1, (out1 ++ [(ApiEdge.mk x_4.ID x_4.From x_4.To x_4.Length)]), (ver2 + 1)), ⟨by dsimp only; omega, cont_next hJ2⟩, by dsimp only; omega, ?_, ?_⟩
      · (simp +decide -implicitDefEqProofs only [go_sem, mpE_nil, AVal.int.injEq, Int.natCast_zero, List.replicate_zero, List.length_take, List.length_drop, AVal.own.injEq, reduceCtorEq, Int.reduceAdd, hw2] <;> omega)
      · (simp +decide -implicitDefEqProofs only [go_sem, mpE_nil, AVal.int.injEq, Int.natCast_zero, List.replicate_zero, List.length_take, List.length_drop, AVal.own.injEq, reduceCtorEq, Int.reduceAdd, hw2] <;> omega)
    replace h := bif_f h hc
    refine AWP.skip ?_
    refine qblock_normal ?_
    refine qthen_normal ?_
    refine AWP.region rfl ?_; intro K hK
    (try simp +decide -implicitDefEqProofs only [go_sem])
    refine hK _ _ ?_; clear hK K
    refine qthen_normal ?_
    obtain rfl := some_eq h
    refine ⟨(k2 + 1, out1, ver2), ⟨by dsimp only; omega, cont_next hJ2⟩, by dsimp only; omega, ?_, ?_⟩
    · (simp +decide -implicitDefEqProofs only [go_sem, mpE_nil, AVal.int.injEq, Int.natCast_zero, List.replicate_zero, List.length_take, List.length_drop, AVal.own.injEq, reduceCtorEq, Int.reduceAdd, hw2] <;> omega)
    · (simp +decide -implicitDefEqProofs only [go_sem, mpE_nil, AVal.int.injEq, Int.natCast_zero, List.replicate_zero, List.length_take, List.length_drop, AVal.own.injEq, reduceCtorEq, Int.reduceAdd, hw2] <;> omega)
  · obtain rfl := for_nil hJ2 (fun hl => by have := of_decide_eq_false hc; omega)
    have h := on_next hO2; try dsimp only at h
    have hkl : m.Runs.length = k2 := by have := of_decide_eq_false hc; omega
    subst hkl
    refine AWP.exit ?_
    refine qthen_exit ?_
    refine qthen_exit ?_
    refine qblock_same ?_
    refine qthen_normal ?_
    refine AWP.seq ?_
    refine AWP.region rfl ?_; intro K hK
    (try simp +decide -implicitDefEqProofs only [go_sem])
    refine hK _ _ ?_; clear hK K
    refine qthen_normal ?_
    refine AWP.ret ?_
    obtain rfl := some_eq h
    simp +decide -implicitDefEqProofs only [go_sem, mpE_nil, AVal.int.injEq, Int.natCast_zero, List.replicate_zero, List.length_take, List.length_drop, AVal.own.injEq, reduceCtorEq, Int.reduceAdd, nle2, nle1, nle0, nleA, nleL, Try.results26]
theorem terrain_Down_spec (m : ApiMap) (runs : List Int) {r : (List ApiEdge)} (h : terrain_Down m runs = some r) : PureFn Try.prog 26 [.agg (encApiMap m), .sl 1 (runs.map intC)] (· = .sl 4 (r.map encApiEdge)) := (terrain_Down_fresh m runs h).pure

end
end Go.Proofs.Ytooopbnnhbacjaa
