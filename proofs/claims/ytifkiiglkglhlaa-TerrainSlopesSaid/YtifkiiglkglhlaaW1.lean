/-
  What functions of the program compute, as plain Lean functions, and the walks that prove it; printed by a small program of our own (wip/walk.py).
-/
import Derived.Test.YtifkiiglkglhlaaData
namespace Go.Proofs.Ytifkiiglkglhlaa
open Go Go.Ab
attribute [local irreducible] AWP ACall DCall PureFn Go.Ab.Sub alist dlist AIdx AElem ALook ANext
set_option maxRecDepth 100000
set_option maxHeartbeats 4000000
set_option linter.unusedSimpArgs false
set_option linter.unusedVariables false
noncomputable section
def law10_Small : Option (ApiMap) :=
  some (ApiMap.mk [(ApiNode.mk (1 : Int) (1000 : Int)), (ApiNode.mk (2 : Int) (1500 : Int)), (ApiNode.mk (3 : Int) (2000 : Int))] [(ApiLift.mk (1 : Int) (1 : Int) (1 : Int) (3 : Int) (2000 : Int) (5000 : Int) (4 : Int) (20 : Int))] [(ApiRun.mk (11 : Int) (1 : Int) (3 : Int) (2 : Int) (2 : Int) (1 : Int) (900 : Int)), (ApiRun.mk (12 : Int) (1 : Int) (2 : Int) (1 : Int) (1 : Int) (2 : Int) (1200 : Int))] [(1 : Int)])

theorem law10_Small_spec {r : ApiMap} (h : law10_Small = some r) : PureFn Try.prog 34 [] (· = .agg (encApiMap r)) := by
  refine PureFn.nle (PureFn.intro Try.func34 rfl rfl (by show _ ≤ 12; simp) ?_)
  unfold law10_Small at h
  (try simp (implicitDefEqProofs := false) (decide := true) only [go_sem, Nat.reduceAdd, Nat.reduceMul, Nat.reduceSub, Int.reduceToNat])
  refine AWP.seq ?_
  refine AWP.region rfl ?_; intro K hK
  (try simp (implicitDefEqProofs := false) (decide := true) only [go_sem, Nat.reduceAdd, Nat.reduceMul, Nat.reduceSub, Int.reduceToNat])
  refine hK _ _ ?_; clear hK K
  refine qthen_normal ?_
  refine AWP.seq ?_
  refine AWP.region rfl ?_; intro K hK
  (try simp (implicitDefEqProofs := false) (decide := true) only [go_sem, Nat.reduceAdd, Nat.reduceMul, Nat.reduceSub, Int.reduceToNat])
  refine hK _ _ ?_; clear hK K
  refine qthen_normal ?_
  refine AWP.ret ?_
  obtain rfl := some_eq h
  simp (implicitDefEqProofs := false) (decide := true) only [go_sem, Nat.reduceAdd, Nat.reduceMul, Nat.reduceSub, Int.reduceToNat, mpE_nil, Int.natCast_zero, List.replicate_zero, List.length_take, List.length_drop, AVal.own.injEq, reduceCtorEq, Int.reduceAdd, nle2, nle1, nle0, nleA, nleL, Try.results34]

def terrain_Run_b1 (id_ : Int) (k0 : Nat) (x_2 : ApiRun) (sv : Unit) : Option (Out (Unit) (ApiRun × Bool)) :=
  (bif (decide (x_2.ID = id_)) then some (Out.ret (x_2, true)) else some (Out.next ()))

def terrain_Run (m : ApiMap) (id_ : Int) : Option (ApiRun × Bool) :=
  (forIx (terrain_Run_b1 id_) 0 m.Runs ()).bind fun o0 => o0.on fun s0 => some ((ApiRun.mk (0 : Int) (0 : Int) (0 : Int) (0 : Int) (0 : Int) (0 : Int) (0 : Int)), false)

theorem terrain_Run_spec (m : ApiMap) (id_ : Int) {r : ApiRun × Bool} (h : terrain_Run m id_ = some r) : PureFn Try.prog 19 [.agg (encApiMap m), .int .i64 id_] (· = .tuple [.agg (encApiRun r.1), .bool r.2]) := by
  refine PureFn.nle (PureFn.intro Try.func19 rfl rfl (by show _ ≤ 22; simp) ?_)
  unfold terrain_Run at h
  (try simp (implicitDefEqProofs := false) (decide := true) only [go_sem, Nat.reduceAdd, Nat.reduceMul, Nat.reduceSub, Int.reduceToNat])
  refine AWP.seq ?_
  refine AWP.region rfl ?_; intro K hK
  (try simp (implicitDefEqProofs := false) (decide := true) only [go_sem, Nat.reduceAdd, Nat.reduceMul, Nat.reduceSub, Int.reduceToNat])
  refine hK _ _ ?_; clear hK K
  refine qthen_normal ?_
  refine AWP.seq ?_
  refine AWP.seq ?_
  refine AWP.region rfl ?_; intro K hK
  (try simp (implicitDefEqProofs := false) (decide := true) only [go_sem, Nat.reduceAdd, Nat.reduceMul, Nat.reduceSub, Int.reduceToNat])
  intro hm
  refine hK _ _ ?_; clear hK K
  refine qthen_normal ?_
  refine AWP.block ?_
  obtain ⟨o0, hJ0, hO0⟩ := bindE h
  clear h
  refine AWP.loopW (ι := Nat × (Unit) × (Unit)) (fun zz => [(1, .int .i64 id_), (4, .ptr 1 0), (9, .sl 7 (m.Runs.map encApiRun)), (10, .int .i64 ((m.Runs.length : Nat) : Int)), (11, .int .i64 ((zz.1 : Nat) : Int))]) (fun zz => [.gone, .box [.int .i64 (0 : Int), .int .i64 (0 : Int), .int .i64 (0 : Int), .int .i64 (0 : Int), .int .i64 (0 : Int), .int .i64 (0 : Int), .int .i64 (0 : Int)]]) (fun zz => zz.1 ≤ m.Runs.length ∧ forIx (terrain_Run_b1 id_) zz.1 ((m.Runs).drop zz.1) zz.2.1 = some o0) (fun zz => m.Runs.length - zz.1) (0, (), ()) ⟨Nat.zero_le _, hJ0⟩ (by (simp (implicitDefEqProofs := false) (decide := true) only [go_sem, Nat.reduceAdd, Nat.reduceMul, Nat.reduceSub, Int.reduceToNat, mpE_nil, Int.natCast_zero, List.replicate_zero, List.length_take, List.length_drop, AVal.own.injEq, reduceCtorEq, Int.reduceAdd] <;> omega)) (by (simp (implicitDefEqProofs := false) (decide := true) only [go_sem, Nat.reduceAdd, Nat.reduceMul, Nat.reduceSub, Int.reduceToNat, mpE_nil, Int.natCast_zero, List.replicate_zero, List.length_take, List.length_drop, AVal.own.injEq, reduceCtorEq, Int.reduceAdd] <;> omega)) (fun x => ⟨rfl, rfl, rfl⟩) ?_
  clear hJ0
  rintro ⟨k0, ⟨⟩, ⟨⟩⟩ ⟨hk0, hJ0⟩
  dsimp only at hk0 hJ0 ⊢
  refine AWP.seq ?_
  refine AWP.region rfl ?_; intro K hK
  (try simp (implicitDefEqProofs := false) (decide := true) only [go_sem, Nat.reduceAdd, Nat.reduceMul, Nat.reduceSub, Int.reduceToNat])
  refine hK _ _ ?_; clear hK K
  refine qthen_normal ?_
  refine AWP.seq ?_
  refine AWP.cond (acond_split (fun hc => ?_) (fun hc => ?_))
  · have hlt0 : k0 < m.Runs.length := by have := of_decide_eq_true hc; omega
    obtain ⟨x_2, b0, hx0_, h, hJ0⟩ := for_cons hJ0 hlt0
    have hx0 := idxL_nat hx0_
    have hw0 : IntKind.i64.wrap (((k0 : Nat) : Int) + 1) = (((k0 : Nat) : Int) + (1 : Int)) := by rw [wrap_i64] <;> omega
    unfold terrain_Run_b1 at h; try dsimp only at h
    refine AWP.skip ?_
    refine qthen_normal ?_
    refine AWP.seq ?_
    refine AWP.block ?_
    refine AWP.seq ?_
    refine AWP.region rfl ?_; intro K hK
    (try simp (implicitDefEqProofs := false) (decide := true) only [go_sem, Nat.reduceAdd, Nat.reduceMul, Nat.reduceSub, Int.reduceToNat])
    refine AIdx.of (f := encApiRun) (l := m.Runs) hx0 ?_
    (try simp (implicitDefEqProofs := false) (decide := true) only [go_sem, Nat.reduceAdd, Nat.reduceMul, Nat.reduceSub, Int.reduceToNat])
    refine hK _ _ ?_; clear hK K
    refine qthen_normal ?_
    refine AWP.seq ?_
    refine AWP.region rfl ?_; intro K hK
    (try simp (implicitDefEqProofs := false) (decide := true) only [go_sem, Nat.reduceAdd, Nat.reduceMul, Nat.reduceSub, Int.reduceToNat])
    refine hK _ _ ?_; clear hK K
    refine qthen_normal ?_
    refine AWP.cond (acond_split (fun hc => ?_) (fun hc => ?_))
    · replace h := bif_t h hc
      refine AWP.seq ?_
      refine AWP.region rfl ?_; intro K hK
      (try simp (implicitDefEqProofs := false) (decide := true) only [go_sem, Nat.reduceAdd, Nat.reduceMul, Nat.reduceSub, Int.reduceToNat])
      refine hK _ _ ?_; clear hK K
      refine qthen_normal ?_
      refine AWP.ret ?_
      refine qblock_ret ?_
      refine qthen_ret ?_
      refine qthen_ret ?_
      obtain rfl := some_eq h
      obtain rfl := cont_ret hJ0
      replace h := on_ret hO0
      refine qblock_ret ?_
      refine qthen_ret ?_
      obtain rfl := some_eq h
      simp (implicitDefEqProofs := false) (decide := true) only [go_sem, Nat.reduceAdd, Nat.reduceMul, Nat.reduceSub, Int.reduceToNat, mpE_nil, Int.natCast_zero, List.replicate_zero, List.length_take, List.length_drop, AVal.own.injEq, reduceCtorEq, Int.reduceAdd, nle2, nle1, nle0, nleA, nleL, Try.results19]
    · replace h := bif_f h hc
      refine AWP.skip ?_
      refine qblock_normal ?_
      refine qthen_normal ?_
      refine AWP.region rfl ?_; intro K hK
      (try simp (implicitDefEqProofs := false) (decide := true) only [go_sem, Nat.reduceAdd, Nat.reduceMul, Nat.reduceSub, Int.reduceToNat])
      refine hK _ _ ?_; clear hK K
      refine qthen_normal ?_
      obtain rfl := some_eq h
      refine ⟨(k0 + 1, (), ()), ⟨by dsimp only; omega, cont_next hJ0⟩, by dsimp only; omega, ?_, ?_⟩
      · (simp (implicitDefEqProofs := false) (decide := true) only [go_sem, Nat.reduceAdd, Nat.reduceMul, Nat.reduceSub, Int.reduceToNat, mpE_nil, Int.natCast_zero, List.replicate_zero, List.length_take, List.length_drop, AVal.own.injEq, reduceCtorEq, Int.reduceAdd, hw0] <;> omega)
      · (simp (implicitDefEqProofs := false) (decide := true) only [go_sem, Nat.reduceAdd, Nat.reduceMul, Nat.reduceSub, Int.reduceToNat, mpE_nil, Int.natCast_zero, List.replicate_zero, List.length_take, List.length_drop, AVal.own.injEq, reduceCtorEq, Int.reduceAdd, hw0] <;> omega)
  · obtain rfl := for_nil hJ0 (fun hl => by have := of_decide_eq_false hc; omega)
    have h := on_next hO0; try dsimp only at h
    have hkl : m.Runs.length = k0 := by have := of_decide_eq_false hc; omega
    subst hkl
    refine AWP.exit ?_
    refine qthen_exit ?_
    refine qthen_exit ?_
    refine qblock_same ?_
    refine qthen_normal ?_
    refine AWP.seq ?_
    refine AWP.region rfl ?_; intro K hK
    (try simp (implicitDefEqProofs := false) (decide := true) only [go_sem, Nat.reduceAdd, Nat.reduceMul, Nat.reduceSub, Int.reduceToNat])
    refine hK _ _ ?_; clear hK K
    refine qthen_normal ?_
    refine AWP.ret ?_
    obtain rfl := some_eq h
    simp (implicitDefEqProofs := false) (decide := true) only [go_sem, Nat.reduceAdd, Nat.reduceMul, Nat.reduceSub, Int.reduceToNat, mpE_nil, Int.natCast_zero, List.replicate_zero, List.length_take, List.length_drop, AVal.own.injEq, reduceCtorEq, Int.reduceAdd, nle2, nle1, nle0, nleA, nleL, Try.results19]

def terrain_Lift_b1 (id_ : Int) (k0 : Nat) (x_2 : ApiLift) (sv : Unit) : Option (Out (Unit) (ApiLift × Bool)) :=
  (bif (decide (x_2.ID = id_)) then some (Out.ret (x_2, true)) else some (Out.next ()))

def terrain_Lift (m : ApiMap) (id_ : Int) : Option (ApiLift × Bool) :=
  (forIx (terrain_Lift_b1 id_) 0 m.Lifts ()).bind fun o0 => o0.on fun s0 => some ((ApiLift.mk (0 : Int) (0 : Int) (0 : Int) (0 : Int) (0 : Int) (0 : Int) (0 : Int) (0 : Int)), false)

theorem terrain_Lift_spec (m : ApiMap) (id_ : Int) {r : ApiLift × Bool} (h : terrain_Lift m id_ = some r) : PureFn Try.prog 17 [.agg (encApiMap m), .int .i64 id_] (· = .tuple [.agg (encApiLift r.1), .bool r.2]) := by
  refine PureFn.nle (PureFn.intro Try.func17 rfl rfl (by show _ ≤ 22; simp) ?_)
  unfold terrain_Lift at h
  (try simp (implicitDefEqProofs := false) (decide := true) only [go_sem, Nat.reduceAdd, Nat.reduceMul, Nat.reduceSub, Int.reduceToNat])
  refine AWP.seq ?_
  refine AWP.region rfl ?_; intro K hK
  (try simp (implicitDefEqProofs := false) (decide := true) only [go_sem, Nat.reduceAdd, Nat.reduceMul, Nat.reduceSub, Int.reduceToNat])
  refine hK _ _ ?_; clear hK K
  refine qthen_normal ?_
  refine AWP.seq ?_
  refine AWP.seq ?_
  refine AWP.region rfl ?_; intro K hK
  (try simp (implicitDefEqProofs := false) (decide := true) only [go_sem, Nat.reduceAdd, Nat.reduceMul, Nat.reduceSub, Int.reduceToNat])
  intro hm
  refine hK _ _ ?_; clear hK K
  refine qthen_normal ?_
  refine AWP.block ?_
  obtain ⟨o0, hJ0, hO0⟩ := bindE h
  clear h
  refine AWP.loopW (ι := Nat × (Unit) × (Unit)) (fun zz => [(1, .int .i64 id_), (4, .ptr 1 0), (9, .sl 8 (m.Lifts.map encApiLift)), (10, .int .i64 ((m.Lifts.length : Nat) : Int)), (11, .int .i64 ((zz.1 : Nat) : Int))]) (fun zz => [.gone, .box [.int .i64 (0 : Int), .int .i64 (0 : Int), .int .i64 (0 : Int), .int .i64 (0 : Int), .int .i64 (0 : Int), .int .i64 (0 : Int), .int .i64 (0 : Int), .int .i64 (0 : Int)]]) (fun zz => zz.1 ≤ m.Lifts.length ∧ forIx (terrain_Lift_b1 id_) zz.1 ((m.Lifts).drop zz.1) zz.2.1 = some o0) (fun zz => m.Lifts.length - zz.1) (0, (), ()) ⟨Nat.zero_le _, hJ0⟩ (by (simp (implicitDefEqProofs := false) (decide := true) only [go_sem, Nat.reduceAdd, Nat.reduceMul, Nat.reduceSub, Int.reduceToNat, mpE_nil, Int.natCast_zero, List.replicate_zero, List.length_take, List.length_drop, AVal.own.injEq, reduceCtorEq, Int.reduceAdd] <;> omega)) (by (simp (implicitDefEqProofs := false) (decide := true) only [go_sem, Nat.reduceAdd, Nat.reduceMul, Nat.reduceSub, Int.reduceToNat, mpE_nil, Int.natCast_zero, List.replicate_zero, List.length_take, List.length_drop, AVal.own.injEq, reduceCtorEq, Int.reduceAdd] <;> omega)) (fun x => ⟨rfl, rfl, rfl⟩) ?_
  clear hJ0
  rintro ⟨k0, ⟨⟩, ⟨⟩⟩ ⟨hk0, hJ0⟩
  dsimp only at hk0 hJ0 ⊢
  refine AWP.seq ?_
  refine AWP.region rfl ?_; intro K hK
  (try simp (implicitDefEqProofs := false) (decide := true) only [go_sem, Nat.reduceAdd, Nat.reduceMul, Nat.reduceSub, Int.reduceToNat])
  refine hK _ _ ?_; clear hK K
  refine qthen_normal ?_
  refine AWP.seq ?_
  refine AWP.cond (acond_split (fun hc => ?_) (fun hc => ?_))
  · have hlt0 : k0 < m.Lifts.length := by have := of_decide_eq_true hc; omega
    obtain ⟨x_2, b0, hx0_, h, hJ0⟩ := for_cons hJ0 hlt0
    have hx0 := idxL_nat hx0_
    have hw0 : IntKind.i64.wrap (((k0 : Nat) : Int) + 1) = (((k0 : Nat) : Int) + (1 : Int)) := by rw [wrap_i64] <;> omega
    unfold terrain_Lift_b1 at h; try dsimp only at h
    refine AWP.skip ?_
    refine qthen_normal ?_
    refine AWP.seq ?_
    refine AWP.block ?_
    refine AWP.seq ?_
    refine AWP.region rfl ?_; intro K hK
    (try simp (implicitDefEqProofs := false) (decide := true) only [go_sem, Nat.reduceAdd, Nat.reduceMul, Nat.reduceSub, Int.reduceToNat])
    refine AIdx.of (f := encApiLift) (l := m.Lifts) hx0 ?_
    (try simp (implicitDefEqProofs := false) (decide := true) only [go_sem, Nat.reduceAdd, Nat.reduceMul, Nat.reduceSub, Int.reduceToNat])
    refine hK _ _ ?_; clear hK K
    refine qthen_normal ?_
    refine AWP.seq ?_
    refine AWP.region rfl ?_; intro K hK
    (try simp (implicitDefEqProofs := false) (decide := true) only [go_sem, Nat.reduceAdd, Nat.reduceMul, Nat.reduceSub, Int.reduceToNat])
    refine hK _ _ ?_; clear hK K
    refine qthen_normal ?_
    refine AWP.cond (acond_split (fun hc => ?_) (fun hc => ?_))
    · replace h := bif_t h hc
      refine AWP.seq ?_
      refine AWP.region rfl ?_; intro K hK
      (try simp (implicitDefEqProofs := false) (decide := true) only [go_sem, Nat.reduceAdd, Nat.reduceMul, Nat.reduceSub, Int.reduceToNat])
      refine hK _ _ ?_; clear hK K
      refine qthen_normal ?_
      refine AWP.ret ?_
      refine qblock_ret ?_
      refine qthen_ret ?_
      refine qthen_ret ?_
      obtain rfl := some_eq h
      obtain rfl := cont_ret hJ0
      replace h := on_ret hO0
      refine qblock_ret ?_
      refine qthen_ret ?_
      obtain rfl := some_eq h
      simp (implicitDefEqProofs := false) (decide := true) only [go_sem, Nat.reduceAdd, Nat.reduceMul, Nat.reduceSub, Int.reduceToNat, mpE_nil, Int.natCast_zero, List.replicate_zero, List.length_take, List.length_drop, AVal.own.injEq, reduceCtorEq, Int.reduceAdd, nle2, nle1, nle0, nleA, nleL, Try.results17]
    · replace h := bif_f h hc
      refine AWP.skip ?_
      refine qblock_normal ?_
      refine qthen_normal ?_
      refine AWP.region rfl ?_; intro K hK
      (try simp (implicitDefEqProofs := false) (decide := true) only [go_sem, Nat.reduceAdd, Nat.reduceMul, Nat.reduceSub, Int.reduceToNat])
      refine hK _ _ ?_; clear hK K
      refine qthen_normal ?_
      obtain rfl := some_eq h
      refine ⟨(k0 + 1, (), ()), ⟨by dsimp only; omega, cont_next hJ0⟩, by dsimp only; omega, ?_, ?_⟩
      · (simp (implicitDefEqProofs := false) (decide := true) only [go_sem, Nat.reduceAdd, Nat.reduceMul, Nat.reduceSub, Int.reduceToNat, mpE_nil, Int.natCast_zero, List.replicate_zero, List.length_take, List.length_drop, AVal.own.injEq, reduceCtorEq, Int.reduceAdd, hw0] <;> omega)
      · (simp (implicitDefEqProofs := false) (decide := true) only [go_sem, Nat.reduceAdd, Nat.reduceMul, Nat.reduceSub, Int.reduceToNat, mpE_nil, Int.natCast_zero, List.replicate_zero, List.length_take, List.length_drop, AVal.own.injEq, reduceCtorEq, Int.reduceAdd, hw0] <;> omega)
  · obtain rfl := for_nil hJ0 (fun hl => by have := of_decide_eq_false hc; omega)
    have h := on_next hO0; try dsimp only at h
    have hkl : m.Lifts.length = k0 := by have := of_decide_eq_false hc; omega
    subst hkl
    refine AWP.exit ?_
    refine qthen_exit ?_
    refine qthen_exit ?_
    refine qblock_same ?_
    refine qthen_normal ?_
    refine AWP.seq ?_
    refine AWP.region rfl ?_; intro K hK
    (try simp (implicitDefEqProofs := false) (decide := true) only [go_sem, Nat.reduceAdd, Nat.reduceMul, Nat.reduceSub, Int.reduceToNat])
    refine hK _ _ ?_; clear hK K
    refine qthen_normal ?_
    refine AWP.ret ?_
    obtain rfl := some_eq h
    simp (implicitDefEqProofs := false) (decide := true) only [go_sem, Nat.reduceAdd, Nat.reduceMul, Nat.reduceSub, Int.reduceToNat, mpE_nil, Int.natCast_zero, List.replicate_zero, List.length_take, List.length_drop, AVal.own.injEq, reduceCtorEq, Int.reduceAdd, nle2, nle1, nle0, nleA, nleL, Try.results17]

def terrain_within (n_ : Int) (least : Int) (most : Int) : Option (Bool) :=
  (bif (decide (least ≤ n_)) then some (decide (n_ ≤ most)) else some false)

theorem terrain_within_spec (n_ : Int) (least : Int) (most : Int) {r : Bool} (h : terrain_within n_ least most = some r) : PureFn Try.prog 47 [.int .i64 n_, .int .i64 least, .int .i64 most] (· = .bool r) := by
  refine PureFn.nle (PureFn.intro Try.func47 rfl rfl (by show _ ≤ 15; simp) ?_)
  unfold terrain_within at h
  (try simp (implicitDefEqProofs := false) (decide := true) only [go_sem, Nat.reduceAdd, Nat.reduceMul, Nat.reduceSub, Int.reduceToNat])
  refine AWP.seq ?_
  refine AWP.region rfl ?_; intro K hK
  (try simp (implicitDefEqProofs := false) (decide := true) only [go_sem, Nat.reduceAdd, Nat.reduceMul, Nat.reduceSub, Int.reduceToNat])
  refine hK _ _ ?_; clear hK K
  refine qthen_normal ?_
  refine AWP.seq ?_
  refine AWP.region rfl ?_; intro K hK
  (try simp (implicitDefEqProofs := false) (decide := true) only [go_sem, Nat.reduceAdd, Nat.reduceMul, Nat.reduceSub, Int.reduceToNat])
  refine aguardK_split (fun hc => ?_) (fun hc => ?_)
  · replace h := bif_t h hc
    (try simp (implicitDefEqProofs := false) (decide := true) only [go_sem, Nat.reduceAdd, Nat.reduceMul, Nat.reduceSub, Int.reduceToNat, hc])
    refine hK _ _ ?_; clear hK K
    refine qthen_normal ?_
    refine AWP.ret ?_
    obtain rfl := some_eq h
    simp (implicitDefEqProofs := false) (decide := true) only [go_sem, Nat.reduceAdd, Nat.reduceMul, Nat.reduceSub, Int.reduceToNat, mpE_nil, Int.natCast_zero, List.replicate_zero, List.length_take, List.length_drop, AVal.own.injEq, reduceCtorEq, Int.reduceAdd, nle2, nle1, nle0, nleA, nleL, Try.results47]
  · replace h := bif_f h hc
    (try simp (implicitDefEqProofs := false) (decide := true) only [go_sem, Nat.reduceAdd, Nat.reduceMul, Nat.reduceSub, Int.reduceToNat, hc, Bool.not_true])
    refine hK _ _ ?_; clear hK K
    refine qthen_normal ?_
    refine AWP.ret ?_
    obtain rfl := some_eq h
    simp (implicitDefEqProofs := false) (decide := true) only [go_sem, Nat.reduceAdd, Nat.reduceMul, Nat.reduceSub, Int.reduceToNat, mpE_nil, Int.natCast_zero, List.replicate_zero, List.length_take, List.length_drop, AVal.own.injEq, reduceCtorEq, Int.reduceAdd, nle2, nle1, nle0, nleA, nleL, Try.results47]

def terrain_rightNodes_b1 (m : ApiMap) (k0 : Nat) (x_2 : ApiNode) (sv : Unit) : Option (Out (Unit) (Int)) :=
  (terrain_within x_2.ID (1 : Int) (9999 : Int)).bind fun y3 => (bif (!y3) then some (Out.ret (2 : Int)) else (terrain_within x_2.Alt (0 : Int) (5000 : Int)).bind fun y4 => (bif (!y4) then some (Out.ret (2 : Int)) else (bif (decide ((0 : Int) < ((k0 : Nat) : Int))) then (idxL m.Nodes (IntKind.i64.wrap (((k0 : Nat) : Int) - (1 : Int)))).bind fun x_5 => (bif (decide (x_2.ID ≤ x_5.ID)) then some (Out.ret (7 : Int)) else some (Out.next ())) else some (Out.next ()))))

def terrain_rightNodes (m : ApiMap) : Option (Int) :=
  (forIx (terrain_rightNodes_b1 m) 0 m.Nodes ()).bind fun o0 => o0.on fun s0 => some (0 : Int)

theorem terrain_rightNodes_spec (m : ApiMap) {r : Int} (h : terrain_rightNodes m = some r) : PureFn Try.prog 35 [.agg (encApiMap m)] (· = .int .i64 r) := by
  refine PureFn.nle (PureFn.intro Try.func35 rfl rfl (by show _ ≤ 38; simp) ?_)
  unfold terrain_rightNodes at h
  (try simp (implicitDefEqProofs := false) (decide := true) only [go_sem, Nat.reduceAdd, Nat.reduceMul, Nat.reduceSub, Int.reduceToNat])
  refine AWP.seq ?_
  refine AWP.region rfl ?_; intro K hK
  (try simp (implicitDefEqProofs := false) (decide := true) only [go_sem, Nat.reduceAdd, Nat.reduceMul, Nat.reduceSub, Int.reduceToNat])
  refine hK _ _ ?_; clear hK K
  refine qthen_normal ?_
  refine AWP.seq ?_
  refine AWP.seq ?_
  refine AWP.region rfl ?_; intro K hK
  (try simp (implicitDefEqProofs := false) (decide := true) only [go_sem, Nat.reduceAdd, Nat.reduceMul, Nat.reduceSub, Int.reduceToNat])
  intro hm
  refine hK _ _ ?_; clear hK K
  refine qthen_normal ?_
  refine AWP.block ?_
  obtain ⟨o0, hJ0, hO0⟩ := bindE h
  clear h
  refine AWP.loopW (ι := Nat × (Unit) × (Unit)) (fun zz => [(1, .ptr 0 0), (6, .sl 2 (m.Nodes.map encApiNode)), (7, .int .i64 ((m.Nodes.length : Nat) : Int)), (8, .int .i64 ((zz.1 : Nat) : Int))]) (fun zz => [.box [.sl 2 (m.Nodes.map encApiNode), .sl 8 (m.Lifts.map encApiLift), .sl 7 (m.Runs.map encApiRun), .sl 1 (m.Bases.map intC)]]) (fun zz => zz.1 ≤ m.Nodes.length ∧ forIx (terrain_rightNodes_b1 m) zz.1 ((m.Nodes).drop zz.1) zz.2.1 = some o0) (fun zz => m.Nodes.length - zz.1) (0, (), ()) ⟨Nat.zero_le _, hJ0⟩ (by (simp (implicitDefEqProofs := false) (decide := true) only [go_sem, Nat.reduceAdd, Nat.reduceMul, Nat.reduceSub, Int.reduceToNat, mpE_nil, Int.natCast_zero, List.replicate_zero, List.length_take, List.length_drop, AVal.own.injEq, reduceCtorEq, Int.reduceAdd] <;> omega)) (by (simp (implicitDefEqProofs := false) (decide := true) only [go_sem, Nat.reduceAdd, Nat.reduceMul, Nat.reduceSub, Int.reduceToNat, mpE_nil, Int.natCast_zero, List.replicate_zero, List.length_take, List.length_drop, AVal.own.injEq, reduceCtorEq, Int.reduceAdd] <;> omega)) (fun x => ⟨rfl, rfl, rfl⟩) ?_
  clear hJ0
  rintro ⟨k0, ⟨⟩, ⟨⟩⟩ ⟨hk0, hJ0⟩
  dsimp only at hk0 hJ0 ⊢
  refine AWP.seq ?_
  refine AWP.region rfl ?_; intro K hK
  (try simp (implicitDefEqProofs := false) (decide := true) only [go_sem, Nat.reduceAdd, Nat.reduceMul, Nat.reduceSub, Int.reduceToNat])
  refine hK _ _ ?_; clear hK K
  refine qthen_normal ?_
  refine AWP.seq ?_
  refine AWP.cond (acond_split (fun hc => ?_) (fun hc => ?_))
  · have hlt0 : k0 < m.Nodes.length := by have := of_decide_eq_true hc; omega
    obtain ⟨x_2, b0, hx0_, h, hJ0⟩ := for_cons hJ0 hlt0
    have hx0 := idxL_nat hx0_
    have hw0 : IntKind.i64.wrap (((k0 : Nat) : Int) + 1) = (((k0 : Nat) : Int) + (1 : Int)) := by rw [wrap_i64] <;> omega
    unfold terrain_rightNodes_b1 at h; try dsimp only at h
    refine AWP.skip ?_
    refine qthen_normal ?_
    refine AWP.seq ?_
    refine AWP.block ?_
    refine AWP.seq ?_
    refine AWP.region rfl ?_; intro K hK
    (try simp (implicitDefEqProofs := false) (decide := true) only [go_sem, Nat.reduceAdd, Nat.reduceMul, Nat.reduceSub, Int.reduceToNat])
    refine AIdx.of (f := encApiNode) (l := m.Nodes) hx0 ?_
    (try simp (implicitDefEqProofs := false) (decide := true) only [go_sem, Nat.reduceAdd, Nat.reduceMul, Nat.reduceSub, Int.reduceToNat])
    refine hK _ _ ?_; clear hK K
    refine qthen_normal ?_
    refine AWP.seq ?_
    refine AWP.seq ?_
    refine AWP.region rfl ?_; intro K hK
    (try simp (implicitDefEqProofs := false) (decide := true) only [go_sem, Nat.reduceAdd, Nat.reduceMul, Nat.reduceSub, Int.reduceToNat])
    obtain ⟨y3, hy3, h⟩ := bindE h
    refine ACall.pure Try.call47 (terrain_within_spec x_2.ID (1 : Int) (9999 : Int) hy3) rfl fun _ hr => ?_
    subst hr
    (try simp (implicitDefEqProofs := false) (decide := true) only [go_sem, Nat.reduceAdd, Nat.reduceMul, Nat.reduceSub, Int.reduceToNat])
    refine aguardK_split (fun hc => ?_) (fun hc => ?_)
    · replace h := bif_f h hc
      (try simp (implicitDefEqProofs := false) (decide := true) only [go_sem, Nat.reduceAdd, Nat.reduceMul, Nat.reduceSub, Int.reduceToNat, hc])
      obtain ⟨y4, hy4, h⟩ := bindE h
      refine ACall.pure Try.call47 (terrain_within_spec x_2.Alt (0 : Int) (5000 : Int) hy4) rfl fun _ hr => ?_
      subst hr
      (try simp (implicitDefEqProofs := false) (decide := true) only [go_sem, Nat.reduceAdd, Nat.reduceMul, Nat.reduceSub, Int.reduceToNat])
      refine hK _ _ ?_; clear hK K
      refine qthen_normal ?_
      refine AWP.cond (acond_split (fun hc => ?_) (fun hc => ?_))
      · replace h := bif_t h hc
        refine AWP.seq ?_
        refine AWP.region rfl ?_; intro K hK
        (try simp (implicitDefEqProofs := false) (decide := true) only [go_sem, Nat.reduceAdd, Nat.reduceMul, Nat.reduceSub, Int.reduceToNat])
        refine hK _ _ ?_; clear hK K
        refine qthen_normal ?_
        refine AWP.ret ?_
        refine qthen_ret ?_
        refine qblock_ret ?_
        refine qthen_ret ?_
        refine qthen_ret ?_
        obtain rfl := some_eq h
        obtain rfl := cont_ret hJ0
        replace h := on_ret hO0
        refine qblock_ret ?_
        refine qthen_ret ?_
        obtain rfl := some_eq h
        simp (implicitDefEqProofs := false) (decide := true) only [go_sem, Nat.reduceAdd, Nat.reduceMul, Nat.reduceSub, Int.reduceToNat, mpE_nil, Int.natCast_zero, List.replicate_zero, List.length_take, List.length_drop, AVal.own.injEq, reduceCtorEq, Int.reduceAdd, nle2, nle1, nle0, nleA, nleL, Try.results35]
      · replace h := bif_f h hc
        refine AWP.skip ?_
        refine qthen_normal ?_
        refine AWP.seq ?_
        refine AWP.draw Try.mixed (by kernel_rfl) ?_; intro K hK
        (try simp (implicitDefEqProofs := false) (decide := true) only [go_sem, Nat.reduceAdd, Nat.reduceMul, Nat.reduceSub, Int.reduceToNat])
        refine aguardK_split (fun hc => ?_) (fun hc => ?_)
        · replace h := bif_t h hc
          (try simp (implicitDefEqProofs := false) (decide := true) only [go_sem, Nat.reduceAdd, Nat.reduceMul, Nat.reduceSub, Int.reduceToNat, hc])
          obtain ⟨x_5, hx_5, h⟩ := bindE h
          refine AIdx.of (f := encApiNode) (l := m.Nodes) hx_5 ?_
          (try simp (implicitDefEqProofs := false) (decide := true) only [go_sem, Nat.reduceAdd, Nat.reduceMul, Nat.reduceSub, Int.reduceToNat])
          refine hK _ _ _ (by kernel_rfl) ?_; clear hK K
          refine qthen_normal ?_
          refine AWP.cond (acond_split (fun hc => ?_) (fun hc => ?_))
          · replace h := bif_t h hc
            refine AWP.seq ?_
            refine AWP.region rfl ?_; intro K hK
            (try simp (implicitDefEqProofs := false) (decide := true) only [go_sem, Nat.reduceAdd, Nat.reduceMul, Nat.reduceSub, Int.reduceToNat])
            refine hK _ _ ?_; clear hK K
            refine qthen_normal ?_
            refine AWP.ret ?_
            refine qblock_ret ?_
            refine qthen_ret ?_
            refine qthen_ret ?_
            obtain rfl := some_eq h
            obtain rfl := cont_ret hJ0
            replace h := on_ret hO0
            refine qblock_ret ?_
            refine qthen_ret ?_
            obtain rfl := some_eq h
            simp (implicitDefEqProofs := false) (decide := true) only [go_sem, Nat.reduceAdd, Nat.reduceMul, Nat.reduceSub, Int.reduceToNat, mpE_nil, Int.natCast_zero, List.replicate_zero, List.length_take, List.length_drop, AVal.own.injEq, reduceCtorEq, Int.reduceAdd, nle2, nle1, nle0, nleA, nleL, Try.results35]
          · replace h := bif_f h hc
            refine AWP.skip ?_
            refine qblock_normal ?_
            refine qthen_normal ?_
            refine AWP.region rfl ?_; intro K hK
            (try simp (implicitDefEqProofs := false) (decide := true) only [go_sem, Nat.reduceAdd, Nat.reduceMul, Nat.reduceSub, Int.reduceToNat])
            refine hK _ _ ?_; clear hK K
            refine qthen_normal ?_
            obtain rfl := some_eq h
            refine ⟨(k0 + 1, (), ()), ⟨by dsimp only; omega, cont_next hJ0⟩, by dsimp only; omega, ?_, ?_⟩
            · (simp (implicitDefEqProofs := false) (decide := true) only [go_sem, Nat.reduceAdd, Nat.reduceMul, Nat.reduceSub, Int.reduceToNat, mpE_nil, Int.natCast_zero, List.replicate_zero, List.length_take, List.length_drop, AVal.own.injEq, reduceCtorEq, Int.reduceAdd, hw0] <;> omega)
            · (simp (implicitDefEqProofs := false) (decide := true) only [go_sem, Nat.reduceAdd, Nat.reduceMul, Nat.reduceSub, Int.reduceToNat, mpE_nil, Int.natCast_zero, List.replicate_zero, List.length_take, List.length_drop, AVal.own.injEq, reduceCtorEq, Int.reduceAdd, hw0] <;> omega)
        · replace h := bif_f h hc
          (try simp (implicitDefEqProofs := false) (decide := true) only [go_sem, Nat.reduceAdd, Nat.reduceMul, Nat.reduceSub, Int.reduceToNat, hc, Bool.not_true])
          refine hK _ _ _ (by kernel_rfl) ?_; clear hK K
          refine qthen_normal ?_
          refine AWP.cond (acond_false ?_)
          refine AWP.skip ?_
          refine qblock_normal ?_
          refine qthen_normal ?_
          refine AWP.region rfl ?_; intro K hK
          (try simp (implicitDefEqProofs := false) (decide := true) only [go_sem, Nat.reduceAdd, Nat.reduceMul, Nat.reduceSub, Int.reduceToNat])
          refine hK _ _ ?_; clear hK K
          refine qthen_normal ?_
          obtain rfl := some_eq h
          refine ⟨(k0 + 1, (), ()), ⟨by dsimp only; omega, cont_next hJ0⟩, by dsimp only; omega, ?_, ?_⟩
          · (simp (implicitDefEqProofs := false) (decide := true) only [go_sem, Nat.reduceAdd, Nat.reduceMul, Nat.reduceSub, Int.reduceToNat, mpE_nil, Int.natCast_zero, List.replicate_zero, List.length_take, List.length_drop, AVal.own.injEq, reduceCtorEq, Int.reduceAdd, hw0] <;> omega)
          · (simp (implicitDefEqProofs := false) (decide := true) only [go_sem, Nat.reduceAdd, Nat.reduceMul, Nat.reduceSub, Int.reduceToNat, mpE_nil, Int.natCast_zero, List.replicate_zero, List.length_take, List.length_drop, AVal.own.injEq, reduceCtorEq, Int.reduceAdd, hw0] <;> omega)
    · replace h := bif_t h hc
      (try simp (implicitDefEqProofs := false) (decide := true) only [go_sem, Nat.reduceAdd, Nat.reduceMul, Nat.reduceSub, Int.reduceToNat, hc, Bool.not_false])
      refine hK _ _ ?_; clear hK K
      refine qthen_normal ?_
      refine AWP.cond (acond_true ?_)
      refine AWP.seq ?_
      refine AWP.region rfl ?_; intro K hK
      (try simp (implicitDefEqProofs := false) (decide := true) only [go_sem, Nat.reduceAdd, Nat.reduceMul, Nat.reduceSub, Int.reduceToNat])
      refine hK _ _ ?_; clear hK K
      refine qthen_normal ?_
      refine AWP.ret ?_
      refine qthen_ret ?_
      refine qblock_ret ?_
      refine qthen_ret ?_
      refine qthen_ret ?_
      obtain rfl := some_eq h
      obtain rfl := cont_ret hJ0
      replace h := on_ret hO0
      refine qblock_ret ?_
      refine qthen_ret ?_
      obtain rfl := some_eq h
      simp (implicitDefEqProofs := false) (decide := true) only [go_sem, Nat.reduceAdd, Nat.reduceMul, Nat.reduceSub, Int.reduceToNat, mpE_nil, Int.natCast_zero, List.replicate_zero, List.length_take, List.length_drop, AVal.own.injEq, reduceCtorEq, Int.reduceAdd, nle2, nle1, nle0, nleA, nleL, Try.results35]
  · obtain rfl := for_nil hJ0 (fun hl => by have := of_decide_eq_false hc; omega)
    have h := on_next hO0; try dsimp only at h
    have hkl : m.Nodes.length = k0 := by have := of_decide_eq_false hc; omega
    subst hkl
    refine AWP.exit ?_
    refine qthen_exit ?_
    refine qthen_exit ?_
    refine qblock_same ?_
    refine qthen_normal ?_
    refine AWP.seq ?_
    refine AWP.region rfl ?_; intro K hK
    (try simp (implicitDefEqProofs := false) (decide := true) only [go_sem, Nat.reduceAdd, Nat.reduceMul, Nat.reduceSub, Int.reduceToNat])
    refine hK _ _ ?_; clear hK K
    refine qthen_normal ?_
    refine AWP.ret ?_
    obtain rfl := some_eq h
    simp (implicitDefEqProofs := false) (decide := true) only [go_sem, Nat.reduceAdd, Nat.reduceMul, Nat.reduceSub, Int.reduceToNat, mpE_nil, Int.natCast_zero, List.replicate_zero, List.length_take, List.length_drop, AVal.own.injEq, reduceCtorEq, Int.reduceAdd, nle2, nle1, nle0, nleA, nleL, Try.results35]

def terrain_Node_b1 (id_ : Int) (k0 : Nat) (x_2 : ApiNode) (sv : Unit) : Option (Out (Unit) (ApiNode × Bool)) :=
  (bif (decide (x_2.ID = id_)) then some (Out.ret (x_2, true)) else some (Out.next ()))

def terrain_Node (m : ApiMap) (id_ : Int) : Option (ApiNode × Bool) :=
  (forIx (terrain_Node_b1 id_) 0 m.Nodes ()).bind fun o0 => o0.on fun s0 => some ((ApiNode.mk (0 : Int) (0 : Int)), false)

theorem terrain_Node_spec (m : ApiMap) (id_ : Int) {r : ApiNode × Bool} (h : terrain_Node m id_ = some r) : PureFn Try.prog 15 [.agg (encApiMap m), .int .i64 id_] (· = .tuple [.agg (encApiNode r.1), .bool r.2]) := by
  refine PureFn.nle (PureFn.intro Try.func15 rfl rfl (by show _ ≤ 22; simp) ?_)
  unfold terrain_Node at h
  (try simp (implicitDefEqProofs := false) (decide := true) only [go_sem, Nat.reduceAdd, Nat.reduceMul, Nat.reduceSub, Int.reduceToNat])
  refine AWP.seq ?_
  refine AWP.region rfl ?_; intro K hK
  (try simp (implicitDefEqProofs := false) (decide := true) only [go_sem, Nat.reduceAdd, Nat.reduceMul, Nat.reduceSub, Int.reduceToNat])
  refine hK _ _ ?_; clear hK K
  refine qthen_normal ?_
  refine AWP.seq ?_
  refine AWP.seq ?_
  refine AWP.region rfl ?_; intro K hK
  (try simp (implicitDefEqProofs := false) (decide := true) only [go_sem, Nat.reduceAdd, Nat.reduceMul, Nat.reduceSub, Int.reduceToNat])
  intro hm
  refine hK _ _ ?_; clear hK K
  refine qthen_normal ?_
  refine AWP.block ?_
  obtain ⟨o0, hJ0, hO0⟩ := bindE h
  clear h
  refine AWP.loopW (ι := Nat × (Unit) × (Unit)) (fun zz => [(1, .int .i64 id_), (4, .ptr 1 0), (9, .sl 2 (m.Nodes.map encApiNode)), (10, .int .i64 ((m.Nodes.length : Nat) : Int)), (11, .int .i64 ((zz.1 : Nat) : Int))]) (fun zz => [.gone, .box [.int .i64 (0 : Int), .int .i64 (0 : Int)]]) (fun zz => zz.1 ≤ m.Nodes.length ∧ forIx (terrain_Node_b1 id_) zz.1 ((m.Nodes).drop zz.1) zz.2.1 = some o0) (fun zz => m.Nodes.length - zz.1) (0, (), ()) ⟨Nat.zero_le _, hJ0⟩ (by (simp (implicitDefEqProofs := false) (decide := true) only [go_sem, Nat.reduceAdd, Nat.reduceMul, Nat.reduceSub, Int.reduceToNat, mpE_nil, Int.natCast_zero, List.replicate_zero, List.length_take, List.length_drop, AVal.own.injEq, reduceCtorEq, Int.reduceAdd] <;> omega)) (by (simp (implicitDefEqProofs := false) (decide := true) only [go_sem, Nat.reduceAdd, Nat.reduceMul, Nat.reduceSub, Int.reduceToNat, mpE_nil, Int.natCast_zero, List.replicate_zero, List.length_take, List.length_drop, AVal.own.injEq, reduceCtorEq, Int.reduceAdd] <;> omega)) (fun x => ⟨rfl, rfl, rfl⟩) ?_
  clear hJ0
  rintro ⟨k0, ⟨⟩, ⟨⟩⟩ ⟨hk0, hJ0⟩
  dsimp only at hk0 hJ0 ⊢
  refine AWP.seq ?_
  refine AWP.region rfl ?_; intro K hK
  (try simp (implicitDefEqProofs := false) (decide := true) only [go_sem, Nat.reduceAdd, Nat.reduceMul, Nat.reduceSub, Int.reduceToNat])
  refine hK _ _ ?_; clear hK K
  refine qthen_normal ?_
  refine AWP.seq ?_
  refine AWP.cond (acond_split (fun hc => ?_) (fun hc => ?_))
  · have hlt0 : k0 < m.Nodes.length := by have := of_decide_eq_true hc; omega
    obtain ⟨x_2, b0, hx0_, h, hJ0⟩ := for_cons hJ0 hlt0
    have hx0 := idxL_nat hx0_
    have hw0 : IntKind.i64.wrap (((k0 : Nat) : Int) + 1) = (((k0 : Nat) : Int) + (1 : Int)) := by rw [wrap_i64] <;> omega
    unfold terrain_Node_b1 at h; try dsimp only at h
    refine AWP.skip ?_
    refine qthen_normal ?_
    refine AWP.seq ?_
    refine AWP.block ?_
    refine AWP.seq ?_
    refine AWP.region rfl ?_; intro K hK
    (try simp (implicitDefEqProofs := false) (decide := true) only [go_sem, Nat.reduceAdd, Nat.reduceMul, Nat.reduceSub, Int.reduceToNat])
    refine AIdx.of (f := encApiNode) (l := m.Nodes) hx0 ?_
    (try simp (implicitDefEqProofs := false) (decide := true) only [go_sem, Nat.reduceAdd, Nat.reduceMul, Nat.reduceSub, Int.reduceToNat])
    refine hK _ _ ?_; clear hK K
    refine qthen_normal ?_
    refine AWP.seq ?_
    refine AWP.region rfl ?_; intro K hK
    (try simp (implicitDefEqProofs := false) (decide := true) only [go_sem, Nat.reduceAdd, Nat.reduceMul, Nat.reduceSub, Int.reduceToNat])
    refine hK _ _ ?_; clear hK K
    refine qthen_normal ?_
    refine AWP.cond (acond_split (fun hc => ?_) (fun hc => ?_))
    · replace h := bif_t h hc
      refine AWP.seq ?_
      refine AWP.region rfl ?_; intro K hK
      (try simp (implicitDefEqProofs := false) (decide := true) only [go_sem, Nat.reduceAdd, Nat.reduceMul, Nat.reduceSub, Int.reduceToNat])
      refine hK _ _ ?_; clear hK K
      refine qthen_normal ?_
      refine AWP.ret ?_
      refine qblock_ret ?_
      refine qthen_ret ?_
      refine qthen_ret ?_
      obtain rfl := some_eq h
      obtain rfl := cont_ret hJ0
      replace h := on_ret hO0
      refine qblock_ret ?_
      refine qthen_ret ?_
      obtain rfl := some_eq h
      simp (implicitDefEqProofs := false) (decide := true) only [go_sem, Nat.reduceAdd, Nat.reduceMul, Nat.reduceSub, Int.reduceToNat, mpE_nil, Int.natCast_zero, List.replicate_zero, List.length_take, List.length_drop, AVal.own.injEq, reduceCtorEq, Int.reduceAdd, nle2, nle1, nle0, nleA, nleL, Try.results15]
    · replace h := bif_f h hc
      refine AWP.skip ?_
      refine qblock_normal ?_
      refine qthen_normal ?_
      refine AWP.region rfl ?_; intro K hK
      (try simp (implicitDefEqProofs := false) (decide := true) only [go_sem, Nat.reduceAdd, Nat.reduceMul, Nat.reduceSub, Int.reduceToNat])
      refine hK _ _ ?_; clear hK K
      refine qthen_normal ?_
      obtain rfl := some_eq h
      refine ⟨(k0 + 1, (), ()), ⟨by dsimp only; omega, cont_next hJ0⟩, by dsimp only; omega, ?_, ?_⟩
      · (simp (implicitDefEqProofs := false) (decide := true) only [go_sem, Nat.reduceAdd, Nat.reduceMul, Nat.reduceSub, Int.reduceToNat, mpE_nil, Int.natCast_zero, List.replicate_zero, List.length_take, List.length_drop, AVal.own.injEq, reduceCtorEq, Int.reduceAdd, hw0] <;> omega)
      · (simp (implicitDefEqProofs := false) (decide := true) only [go_sem, Nat.reduceAdd, Nat.reduceMul, Nat.reduceSub, Int.reduceToNat, mpE_nil, Int.natCast_zero, List.replicate_zero, List.length_take, List.length_drop, AVal.own.injEq, reduceCtorEq, Int.reduceAdd, hw0] <;> omega)
  · obtain rfl := for_nil hJ0 (fun hl => by have := of_decide_eq_false hc; omega)
    have h := on_next hO0; try dsimp only at h
    have hkl : m.Nodes.length = k0 := by have := of_decide_eq_false hc; omega
    subst hkl
    refine AWP.exit ?_
    refine qthen_exit ?_
    refine qthen_exit ?_
    refine qblock_same ?_
    refine qthen_normal ?_
    refine AWP.seq ?_
    refine AWP.region rfl ?_; intro K hK
    (try simp (implicitDefEqProofs := false) (decide := true) only [go_sem, Nat.reduceAdd, Nat.reduceMul, Nat.reduceSub, Int.reduceToNat])
    refine hK _ _ ?_; clear hK K
    refine qthen_normal ?_
    refine AWP.ret ?_
    obtain rfl := some_eq h
    simp (implicitDefEqProofs := false) (decide := true) only [go_sem, Nat.reduceAdd, Nat.reduceMul, Nat.reduceSub, Int.reduceToNat, mpE_nil, Int.natCast_zero, List.replicate_zero, List.length_take, List.length_drop, AVal.own.injEq, reduceCtorEq, Int.reduceAdd, nle2, nle1, nle0, nleA, nleL, Try.results15]

def terrain_rightLifts_j2 (m : ApiMap) (x_2 : ApiLift) : Option (Out (Unit) (Int)) :=
  (terrain_Node m x_2.From).bind fun y10 => (terrain_Node m x_2.To).bind fun y11 => (bif (!y10.2) then some (Out.ret (8 : Int)) else (bif (!y11.2) then some (Out.ret (8 : Int)) else (bif (decide (y11.1.Alt ≤ y10.1.Alt)) then some (Out.ret (11 : Int)) else nz x_2.Spacing ((bif (decide ((Int.tmod (IntKind.i64.wrap ((2 : Int) * x_2.Length)) x_2.Spacing) ≠ (0 : Int))) then some (Out.ret (1 : Int)) else nz x_2.Spacing ((terrain_within (IntKind.i64.wrap (Int.tdiv (IntKind.i64.wrap ((2 : Int) * x_2.Length)) x_2.Spacing)) (1 : Int) (200 : Int)).bind fun y12 => (bif (!y12) then some (Out.ret (1 : Int)) else some (Out.next ()))))))))

def terrain_rightLifts_b1 (m : ApiMap) (k0 : Nat) (x_2 : ApiLift) (sv : Unit) : Option (Out (Unit) (Int)) :=
  (terrain_within x_2.ID (1 : Int) (9999 : Int)).bind fun y3 => (bif (!y3) then some (Out.ret (2 : Int)) else (terrain_within x_2.Operator (1 : Int) (8 : Int)).bind fun y4 => (bif (!y4) then some (Out.ret (2 : Int)) else (terrain_within x_2.Length (10 : Int) (6000 : Int)).bind fun y5 => (bif (!y5) then some (Out.ret (2 : Int)) else (terrain_within x_2.Speed (500 : Int) (12000 : Int)).bind fun y6 => (bif (!y6) then some (Out.ret (2 : Int)) else (terrain_within x_2.Seats (1 : Int) (16 : Int)).bind fun y7 => (bif (!y7) then some (Out.ret (2 : Int)) else (terrain_within x_2.Spacing (5 : Int) (1000 : Int)).bind fun y8 => (bif (!y8) then some (Out.ret (2 : Int)) else (bif (decide ((0 : Int) < ((k0 : Nat) : Int))) then (idxL m.Lifts (IntKind.i64.wrap (((k0 : Nat) : Int) - (1 : Int)))).bind fun x_13 => (bif (decide (x_2.ID ≤ x_13.ID)) then some (Out.ret (7 : Int)) else terrain_rightLifts_j2 m x_2) else terrain_rightLifts_j2 m x_2)))))))

def terrain_rightLifts (m : ApiMap) : Option (Int) :=
  (forIx (terrain_rightLifts_b1 m) 0 m.Lifts ()).bind fun o0 => o0.on fun s0 => some (0 : Int)

theorem terrain_rightLifts_spec (m : ApiMap) {r : Int} (h : terrain_rightLifts m = some r) : PureFn Try.prog 36 [.agg (encApiMap m)] (· = .int .i64 r) := by
  refine PureFn.nle (PureFn.intro Try.func36 rfl rfl (by show _ ≤ 108; simp) ?_)
  unfold terrain_rightLifts at h
  (try simp (implicitDefEqProofs := false) (decide := true) only [go_sem, Nat.reduceAdd, Nat.reduceMul, Nat.reduceSub, Int.reduceToNat])
  refine AWP.seq ?_
  refine AWP.region rfl ?_; intro K hK
  (try simp (implicitDefEqProofs := false) (decide := true) only [go_sem, Nat.reduceAdd, Nat.reduceMul, Nat.reduceSub, Int.reduceToNat])
  refine hK _ _ ?_; clear hK K
  refine qthen_normal ?_
  refine AWP.seq ?_
  refine AWP.seq ?_
  refine AWP.region rfl ?_; intro K hK
  (try simp (implicitDefEqProofs := false) (decide := true) only [go_sem, Nat.reduceAdd, Nat.reduceMul, Nat.reduceSub, Int.reduceToNat])
  intro hm
  refine hK _ _ ?_; clear hK K
  refine qthen_normal ?_
  refine AWP.block ?_
  obtain ⟨o0, hJ0, hO0⟩ := bindE h
  clear h
  refine AWP.loopW (ι := Nat × (Unit) × (Unit)) (fun zz => [(1, .ptr 0 0), (10, .sl 8 (m.Lifts.map encApiLift)), (11, .int .i64 ((m.Lifts.length : Nat) : Int)), (12, .int .i64 ((zz.1 : Nat) : Int))]) (fun zz => [.box [.sl 2 (m.Nodes.map encApiNode), .sl 8 (m.Lifts.map encApiLift), .sl 7 (m.Runs.map encApiRun), .sl 1 (m.Bases.map intC)]]) (fun zz => zz.1 ≤ m.Lifts.length ∧ forIx (terrain_rightLifts_b1 m) zz.1 ((m.Lifts).drop zz.1) zz.2.1 = some o0) (fun zz => m.Lifts.length - zz.1) (0, (), ()) ⟨Nat.zero_le _, hJ0⟩ (by (simp (implicitDefEqProofs := false) (decide := true) only [go_sem, Nat.reduceAdd, Nat.reduceMul, Nat.reduceSub, Int.reduceToNat, mpE_nil, Int.natCast_zero, List.replicate_zero, List.length_take, List.length_drop, AVal.own.injEq, reduceCtorEq, Int.reduceAdd] <;> omega)) (by (simp (implicitDefEqProofs := false) (decide := true) only [go_sem, Nat.reduceAdd, Nat.reduceMul, Nat.reduceSub, Int.reduceToNat, mpE_nil, Int.natCast_zero, List.replicate_zero, List.length_take, List.length_drop, AVal.own.injEq, reduceCtorEq, Int.reduceAdd] <;> omega)) (fun x => ⟨rfl, rfl, rfl⟩) ?_
  clear hJ0
  rintro ⟨k0, ⟨⟩, ⟨⟩⟩ ⟨hk0, hJ0⟩
  dsimp only at hk0 hJ0 ⊢
  refine AWP.seq ?_
  refine AWP.region rfl ?_; intro K hK
  (try simp (implicitDefEqProofs := false) (decide := true) only [go_sem, Nat.reduceAdd, Nat.reduceMul, Nat.reduceSub, Int.reduceToNat])
  refine hK _ _ ?_; clear hK K
  refine qthen_normal ?_
  refine AWP.seq ?_
  refine AWP.cond (acond_split (fun hc => ?_) (fun hc => ?_))
  · have hlt0 : k0 < m.Lifts.length := by have := of_decide_eq_true hc; omega
    obtain ⟨x_2, b0, hx0_, h, hJ0⟩ := for_cons hJ0 hlt0
    have hx0 := idxL_nat hx0_
    have hw0 : IntKind.i64.wrap (((k0 : Nat) : Int) + 1) = (((k0 : Nat) : Int) + (1 : Int)) := by rw [wrap_i64] <;> omega
    unfold terrain_rightLifts_b1 at h; try dsimp only at h
    refine AWP.skip ?_
    refine qthen_normal ?_
    refine AWP.seq ?_
    refine AWP.block ?_
    refine AWP.seq ?_
    refine AWP.region rfl ?_; intro K hK
    (try simp (implicitDefEqProofs := false) (decide := true) only [go_sem, Nat.reduceAdd, Nat.reduceMul, Nat.reduceSub, Int.reduceToNat])
    refine AIdx.of (f := encApiLift) (l := m.Lifts) hx0 ?_
    (try simp (implicitDefEqProofs := false) (decide := true) only [go_sem, Nat.reduceAdd, Nat.reduceMul, Nat.reduceSub, Int.reduceToNat])
    refine hK _ _ ?_; clear hK K
    refine qthen_normal ?_
    refine AWP.seq ?_
    refine AWP.seq ?_
    refine AWP.region rfl ?_; intro K hK
    (try simp (implicitDefEqProofs := false) (decide := true) only [go_sem, Nat.reduceAdd, Nat.reduceMul, Nat.reduceSub, Int.reduceToNat])
    obtain ⟨y3, hy3, h⟩ := bindE h
    refine ACall.pure Try.call47 (terrain_within_spec x_2.ID (1 : Int) (9999 : Int) hy3) rfl fun _ hr => ?_
    subst hr
    (try simp (implicitDefEqProofs := false) (decide := true) only [go_sem, Nat.reduceAdd, Nat.reduceMul, Nat.reduceSub, Int.reduceToNat])
    refine aguardK_split (fun hc => ?_) (fun hc => ?_)
    · replace h := bif_f h hc
      (try simp (implicitDefEqProofs := false) (decide := true) only [go_sem, Nat.reduceAdd, Nat.reduceMul, Nat.reduceSub, Int.reduceToNat, hc])
      obtain ⟨y4, hy4, h⟩ := bindE h
      refine ACall.pure Try.call47 (terrain_within_spec x_2.Operator (1 : Int) (8 : Int) hy4) rfl fun _ hr => ?_
      subst hr
      (try simp (implicitDefEqProofs := false) (decide := true) only [go_sem, Nat.reduceAdd, Nat.reduceMul, Nat.reduceSub, Int.reduceToNat])
      refine aguardK_split (fun hc => ?_) (fun hc => ?_)
      · replace h := bif_f h hc
        (try simp (implicitDefEqProofs := false) (decide := true) only [go_sem, Nat.reduceAdd, Nat.reduceMul, Nat.reduceSub, Int.reduceToNat, hc])
        obtain ⟨y5, hy5, h⟩ := bindE h
        refine ACall.pure Try.call47 (terrain_within_spec x_2.Length (10 : Int) (6000 : Int) hy5) rfl fun _ hr => ?_
        subst hr
        (try simp (implicitDefEqProofs := false) (decide := true) only [go_sem, Nat.reduceAdd, Nat.reduceMul, Nat.reduceSub, Int.reduceToNat])
        refine aguardK_split (fun hc => ?_) (fun hc => ?_)
        · replace h := bif_f h hc
          (try simp (implicitDefEqProofs := false) (decide := true) only [go_sem, Nat.reduceAdd, Nat.reduceMul, Nat.reduceSub, Int.reduceToNat, hc])
          obtain ⟨y6, hy6, h⟩ := bindE h
          refine ACall.pure Try.call47 (terrain_within_spec x_2.Speed (500 : Int) (12000 : Int) hy6) rfl fun _ hr => ?_
          subst hr
          (try simp (implicitDefEqProofs := false) (decide := true) only [go_sem, Nat.reduceAdd, Nat.reduceMul, Nat.reduceSub, Int.reduceToNat])
          refine aguardK_split (fun hc => ?_) (fun hc => ?_)
          · replace h := bif_f h hc
            (try simp (implicitDefEqProofs := false) (decide := true) only [go_sem, Nat.reduceAdd, Nat.reduceMul, Nat.reduceSub, Int.reduceToNat, hc])
            obtain ⟨y7, hy7, h⟩ := bindE h
            refine ACall.pure Try.call47 (terrain_within_spec x_2.Seats (1 : Int) (16 : Int) hy7) rfl fun _ hr => ?_
            subst hr
            (try simp (implicitDefEqProofs := false) (decide := true) only [go_sem, Nat.reduceAdd, Nat.reduceMul, Nat.reduceSub, Int.reduceToNat])
            refine aguardK_split (fun hc => ?_) (fun hc => ?_)
            · replace h := bif_f h hc
              (try simp (implicitDefEqProofs := false) (decide := true) only [go_sem, Nat.reduceAdd, Nat.reduceMul, Nat.reduceSub, Int.reduceToNat, hc])
              obtain ⟨y8, hy8, h⟩ := bindE h
              refine ACall.pure Try.call47 (terrain_within_spec x_2.Spacing (5 : Int) (1000 : Int) hy8) rfl fun _ hr => ?_
              subst hr
              (try simp (implicitDefEqProofs := false) (decide := true) only [go_sem, Nat.reduceAdd, Nat.reduceMul, Nat.reduceSub, Int.reduceToNat])
              refine hK _ _ ?_; clear hK K
              refine qthen_normal ?_
              refine AWP.cond (acond_split (fun hc => ?_) (fun hc => ?_))
              · replace h := bif_t h hc
                refine AWP.seq ?_
                refine AWP.region rfl ?_; intro K hK
                (try simp (implicitDefEqProofs := false) (decide := true) only [go_sem, Nat.reduceAdd, Nat.reduceMul, Nat.reduceSub, Int.reduceToNat])
                refine hK _ _ ?_; clear hK K
                refine qthen_normal ?_
                refine AWP.ret ?_
                refine qthen_ret ?_
                refine qblock_ret ?_
                refine qthen_ret ?_
                refine qthen_ret ?_
                obtain rfl := some_eq h
                obtain rfl := cont_ret hJ0
                replace h := on_ret hO0
                refine qblock_ret ?_
                refine qthen_ret ?_
                obtain rfl := some_eq h
                simp (implicitDefEqProofs := false) (decide := true) only [go_sem, Nat.reduceAdd, Nat.reduceMul, Nat.reduceSub, Int.reduceToNat, mpE_nil, Int.natCast_zero, List.replicate_zero, List.length_take, List.length_drop, AVal.own.injEq, reduceCtorEq, Int.reduceAdd, nle2, nle1, nle0, nleA, nleL, Try.results36]
              · replace h := bif_f h hc
                refine AWP.skip ?_
                refine qthen_normal ?_
                refine AWP.seqJoin (ι := (Unit) × (Unit)) (fun zz => [(1, .ptr 0 0), (4, .ptr 1 0), (10, .sl 8 (m.Lifts.map encApiLift)), (11, .int .i64 ((m.Lifts.length : Nat) : Int)), (12, .int .i64 ((k0 : Nat) : Int))]) (fun zz => [.box [.sl 2 (m.Nodes.map encApiNode), .sl 8 (m.Lifts.map encApiLift), .sl 7 (m.Runs.map encApiRun), .sl 1 (m.Bases.map intC)], .box [.int .i64 x_2.ID, .int .i64 x_2.Operator, .int .i64 x_2.From, .int .i64 x_2.To, .int .i64 x_2.Length, .int .i64 x_2.Speed, .int .i64 x_2.Seats, .int .i64 x_2.Spacing]]) (fun zz => terrain_rightLifts_j2 m x_2 = some b0) (fun zz => ⟨rfl, rfl, rfl⟩) ?_ ?_
                · refine AWP.seq ?_
                  refine AWP.draw Try.mixed (by kernel_rfl) ?_; intro K hK
                  (try simp (implicitDefEqProofs := false) (decide := true) only [go_sem, Nat.reduceAdd, Nat.reduceMul, Nat.reduceSub, Int.reduceToNat])
                  refine aguardK_split (fun hc => ?_) (fun hc => ?_)
                  · replace h := bif_t h hc
                    (try simp (implicitDefEqProofs := false) (decide := true) only [go_sem, Nat.reduceAdd, Nat.reduceMul, Nat.reduceSub, Int.reduceToNat, hc])
                    obtain ⟨x_13, hx_13, h⟩ := bindE h
                    refine AIdx.of (f := encApiLift) (l := m.Lifts) hx_13 ?_
                    (try simp (implicitDefEqProofs := false) (decide := true) only [go_sem, Nat.reduceAdd, Nat.reduceMul, Nat.reduceSub, Int.reduceToNat])
                    refine hK _ _ _ (by kernel_rfl) ?_; clear hK K
                    refine qthen_normal ?_
                    refine AWP.cond (acond_split (fun hc => ?_) (fun hc => ?_))
                    · replace h := bif_t h hc
                      refine AWP.seq ?_
                      refine AWP.region rfl ?_; intro K hK
                      (try simp (implicitDefEqProofs := false) (decide := true) only [go_sem, Nat.reduceAdd, Nat.reduceMul, Nat.reduceSub, Int.reduceToNat])
                      refine hK _ _ ?_; clear hK K
                      refine qthen_normal ?_
                      refine AWP.ret ?_
                      refine qthen_ret ?_
                      refine qblock_ret ?_
                      refine qthen_ret ?_
                      refine qthen_ret ?_
                      obtain rfl := some_eq h
                      obtain rfl := cont_ret hJ0
                      replace h := on_ret hO0
                      refine qblock_ret ?_
                      refine qthen_ret ?_
                      obtain rfl := some_eq h
                      simp (implicitDefEqProofs := false) (decide := true) only [go_sem, Nat.reduceAdd, Nat.reduceMul, Nat.reduceSub, Int.reduceToNat, mpE_nil, Int.natCast_zero, List.replicate_zero, List.length_take, List.length_drop, AVal.own.injEq, reduceCtorEq, Int.reduceAdd, nle2, nle1, nle0, nleA, nleL, Try.results36]
                    · replace h := bif_f h hc
                      refine AWP.skip ?_
                      refine qthen_normal ?_
                      exact ⟨((), ()), h, by (simp (implicitDefEqProofs := false) (decide := true) only [go_sem, Nat.reduceAdd, Nat.reduceMul, Nat.reduceSub, Int.reduceToNat, mpE_nil, Int.natCast_zero, List.replicate_zero, List.length_take, List.length_drop, AVal.own.injEq, reduceCtorEq, Int.reduceAdd] <;> omega), by (simp (implicitDefEqProofs := false) (decide := true) only [go_sem, Nat.reduceAdd, Nat.reduceMul, Nat.reduceSub, Int.reduceToNat, mpE_nil, Int.natCast_zero, List.replicate_zero, List.length_take, List.length_drop, AVal.own.injEq, reduceCtorEq, Int.reduceAdd] <;> omega)⟩
                  · replace h := bif_f h hc
                    (try simp (implicitDefEqProofs := false) (decide := true) only [go_sem, Nat.reduceAdd, Nat.reduceMul, Nat.reduceSub, Int.reduceToNat, hc, Bool.not_true])
                    refine hK _ _ _ (by kernel_rfl) ?_; clear hK K
                    refine qthen_normal ?_
                    refine AWP.cond (acond_false ?_)
                    refine AWP.skip ?_
                    refine qthen_normal ?_
                    exact ⟨((), ()), h, by (simp (implicitDefEqProofs := false) (decide := true) only [go_sem, Nat.reduceAdd, Nat.reduceMul, Nat.reduceSub, Int.reduceToNat, mpE_nil, Int.natCast_zero, List.replicate_zero, List.length_take, List.length_drop, AVal.own.injEq, reduceCtorEq, Int.reduceAdd] <;> omega), by (simp (implicitDefEqProofs := false) (decide := true) only [go_sem, Nat.reduceAdd, Nat.reduceMul, Nat.reduceSub, Int.reduceToNat, mpE_nil, Int.natCast_zero, List.replicate_zero, List.length_take, List.length_drop, AVal.own.injEq, reduceCtorEq, Int.reduceAdd] <;> omega)⟩
                · rintro ⟨⟨⟩, ⟨⟩⟩ h
                  try dsimp only at h ⊢
                  unfold terrain_rightLifts_j2 at h; try dsimp only at h
                  refine AWP.seq ?_
                  refine AWP.region rfl ?_; intro K hK
                  (try simp (implicitDefEqProofs := false) (decide := true) only [go_sem, Nat.reduceAdd, Nat.reduceMul, Nat.reduceSub, Int.reduceToNat])
                  obtain ⟨y10, hy10, h⟩ := bindE h
                  refine ACall.pure Try.call15 (terrain_Node_spec m x_2.From hy10) rfl fun _ hr => ?_
                  subst hr
                  (try simp (implicitDefEqProofs := false) (decide := true) only [go_sem, Nat.reduceAdd, Nat.reduceMul, Nat.reduceSub, Int.reduceToNat])
                  refine hK _ _ ?_; clear hK K
                  refine qthen_normal ?_
                  refine AWP.seq ?_
                  refine AWP.region rfl ?_; intro K hK
                  (try simp (implicitDefEqProofs := false) (decide := true) only [go_sem, Nat.reduceAdd, Nat.reduceMul, Nat.reduceSub, Int.reduceToNat])
                  obtain ⟨y11, hy11, h⟩ := bindE h
                  refine ACall.pure Try.call15 (terrain_Node_spec m x_2.To hy11) rfl fun _ hr => ?_
                  subst hr
                  (try simp (implicitDefEqProofs := false) (decide := true) only [go_sem, Nat.reduceAdd, Nat.reduceMul, Nat.reduceSub, Int.reduceToNat])
                  refine hK _ _ ?_; clear hK K
                  refine qthen_normal ?_
                  refine AWP.seq ?_
                  refine AWP.seq ?_
                  refine AWP.region rfl ?_; intro K hK
                  (try simp (implicitDefEqProofs := false) (decide := true) only [go_sem, Nat.reduceAdd, Nat.reduceMul, Nat.reduceSub, Int.reduceToNat])
                  refine aguardK_split (fun hc => ?_) (fun hc => ?_)
                  · replace h := bif_f h hc
                    (try simp (implicitDefEqProofs := false) (decide := true) only [go_sem, Nat.reduceAdd, Nat.reduceMul, Nat.reduceSub, Int.reduceToNat, hc])
                    refine hK _ _ ?_; clear hK K
                    refine qthen_normal ?_
                    refine AWP.cond (acond_split (fun hc => ?_) (fun hc => ?_))
                    · replace h := bif_t h hc
                      refine AWP.seq ?_
                      refine AWP.region rfl ?_; intro K hK
                      (try simp (implicitDefEqProofs := false) (decide := true) only [go_sem, Nat.reduceAdd, Nat.reduceMul, Nat.reduceSub, Int.reduceToNat])
                      refine hK _ _ ?_; clear hK K
                      refine qthen_normal ?_
                      refine AWP.ret ?_
                      refine qthen_ret ?_
                      refine qblock_ret ?_
                      refine qthen_ret ?_
                      refine qthen_ret ?_
                      obtain rfl := some_eq h
                      obtain rfl := cont_ret hJ0
                      replace h := on_ret hO0
                      refine qblock_ret ?_
                      refine qthen_ret ?_
                      obtain rfl := some_eq h
                      simp (implicitDefEqProofs := false) (decide := true) only [go_sem, Nat.reduceAdd, Nat.reduceMul, Nat.reduceSub, Int.reduceToNat, mpE_nil, Int.natCast_zero, List.replicate_zero, List.length_take, List.length_drop, AVal.own.injEq, reduceCtorEq, Int.reduceAdd, nle2, nle1, nle0, nleA, nleL, Try.results36]
                    · replace h := bif_f h hc
                      refine AWP.skip ?_
                      refine qthen_normal ?_
                      refine AWP.seq ?_
                      refine AWP.seq ?_
                      refine AWP.region rfl ?_; intro K hK
                      (try simp (implicitDefEqProofs := false) (decide := true) only [go_sem, Nat.reduceAdd, Nat.reduceMul, Nat.reduceSub, Int.reduceToNat])
                      refine hK _ _ ?_; clear hK K
                      refine qthen_normal ?_
                      refine AWP.cond (acond_split (fun hc => ?_) (fun hc => ?_))
                      · replace h := bif_t h hc
                        refine AWP.seq ?_
                        refine AWP.region rfl ?_; intro K hK
                        (try simp (implicitDefEqProofs := false) (decide := true) only [go_sem, Nat.reduceAdd, Nat.reduceMul, Nat.reduceSub, Int.reduceToNat])
                        refine hK _ _ ?_; clear hK K
                        refine qthen_normal ?_
                        refine AWP.ret ?_
                        refine qthen_ret ?_
                        refine qblock_ret ?_
                        refine qthen_ret ?_
                        refine qthen_ret ?_
                        obtain rfl := some_eq h
                        obtain rfl := cont_ret hJ0
                        replace h := on_ret hO0
                        refine qblock_ret ?_
                        refine qthen_ret ?_
                        obtain rfl := some_eq h
                        simp (implicitDefEqProofs := false) (decide := true) only [go_sem, Nat.reduceAdd, Nat.reduceMul, Nat.reduceSub, Int.reduceToNat, mpE_nil, Int.natCast_zero, List.replicate_zero, List.length_take, List.length_drop, AVal.own.injEq, reduceCtorEq, Int.reduceAdd, nle2, nle1, nle0, nleA, nleL, Try.results36]
                      · replace h := bif_f h hc
                        refine AWP.skip ?_
                        refine qthen_normal ?_
                        refine AWP.seq ?_
                        refine AWP.region rfl ?_; intro K hK
                        (try simp (implicitDefEqProofs := false) (decide := true) only [go_sem, Nat.reduceAdd, Nat.reduceMul, Nat.reduceSub, Int.reduceToNat])
                        obtain ⟨hk, h⟩ := nz_in h
                        refine ⟨hk, ?_⟩
                        refine aguardK_split (fun hc => ?_) (fun hc => ?_)
                        · replace h := bif_f h hc
                          (try simp (implicitDefEqProofs := false) (decide := true) only [go_sem, Nat.reduceAdd, Nat.reduceMul, Nat.reduceSub, Int.reduceToNat, hc])
                          obtain ⟨hk, h⟩ := nz_in h
                          refine ⟨hk, ?_⟩
                          obtain ⟨y12, hy12, h⟩ := bindE h
                          refine ACall.pure Try.call47 (terrain_within_spec (IntKind.i64.wrap (Int.tdiv (IntKind.i64.wrap ((2 : Int) * x_2.Length)) x_2.Spacing)) (1 : Int) (200 : Int) hy12) rfl fun _ hr => ?_
                          subst hr
                          (try simp (implicitDefEqProofs := false) (decide := true) only [go_sem, Nat.reduceAdd, Nat.reduceMul, Nat.reduceSub, Int.reduceToNat])
                          refine hK _ _ ?_; clear hK K
                          refine qthen_normal ?_
                          refine AWP.cond (acond_split (fun hc => ?_) (fun hc => ?_))
                          · replace h := bif_t h hc
                            refine AWP.seq ?_
                            refine AWP.region rfl ?_; intro K hK
                            (try simp (implicitDefEqProofs := false) (decide := true) only [go_sem, Nat.reduceAdd, Nat.reduceMul, Nat.reduceSub, Int.reduceToNat])
                            refine hK _ _ ?_; clear hK K
                            refine qthen_normal ?_
                            refine AWP.ret ?_
                            refine qblock_ret ?_
                            refine qthen_ret ?_
                            refine qthen_ret ?_
                            obtain rfl := some_eq h
                            obtain rfl := cont_ret hJ0
                            replace h := on_ret hO0
                            refine qblock_ret ?_
                            refine qthen_ret ?_
                            obtain rfl := some_eq h
                            simp (implicitDefEqProofs := false) (decide := true) only [go_sem, Nat.reduceAdd, Nat.reduceMul, Nat.reduceSub, Int.reduceToNat, mpE_nil, Int.natCast_zero, List.replicate_zero, List.length_take, List.length_drop, AVal.own.injEq, reduceCtorEq, Int.reduceAdd, nle2, nle1, nle0, nleA, nleL, Try.results36]
                          · replace h := bif_f h hc
                            refine AWP.skip ?_
                            refine qblock_normal ?_
                            refine qthen_normal ?_
                            refine AWP.region rfl ?_; intro K hK
                            (try simp (implicitDefEqProofs := false) (decide := true) only [go_sem, Nat.reduceAdd, Nat.reduceMul, Nat.reduceSub, Int.reduceToNat])
                            refine hK _ _ ?_; clear hK K
                            refine qthen_normal ?_
                            obtain rfl := some_eq h
                            refine ⟨(k0 + 1, (), ()), ⟨by dsimp only; omega, cont_next hJ0⟩, by dsimp only; omega, ?_, ?_⟩
                            · (simp (implicitDefEqProofs := false) (decide := true) only [go_sem, Nat.reduceAdd, Nat.reduceMul, Nat.reduceSub, Int.reduceToNat, mpE_nil, Int.natCast_zero, List.replicate_zero, List.length_take, List.length_drop, AVal.own.injEq, reduceCtorEq, Int.reduceAdd, hw0] <;> omega)
                            · (simp (implicitDefEqProofs := false) (decide := true) only [go_sem, Nat.reduceAdd, Nat.reduceMul, Nat.reduceSub, Int.reduceToNat, mpE_nil, Int.natCast_zero, List.replicate_zero, List.length_take, List.length_drop, AVal.own.injEq, reduceCtorEq, Int.reduceAdd, hw0] <;> omega)
                        · replace h := bif_t h hc
                          (try simp (implicitDefEqProofs := false) (decide := true) only [go_sem, Nat.reduceAdd, Nat.reduceMul, Nat.reduceSub, Int.reduceToNat, hc, Bool.not_false])
                          refine hK _ _ ?_; clear hK K
                          refine qthen_normal ?_
                          refine AWP.cond (acond_true ?_)
                          refine AWP.seq ?_
                          refine AWP.region rfl ?_; intro K hK
                          (try simp (implicitDefEqProofs := false) (decide := true) only [go_sem, Nat.reduceAdd, Nat.reduceMul, Nat.reduceSub, Int.reduceToNat])
                          refine hK _ _ ?_; clear hK K
                          refine qthen_normal ?_
                          refine AWP.ret ?_
                          refine qblock_ret ?_
                          refine qthen_ret ?_
                          refine qthen_ret ?_
                          obtain rfl := some_eq h
                          obtain rfl := cont_ret hJ0
                          replace h := on_ret hO0
                          refine qblock_ret ?_
                          refine qthen_ret ?_
                          obtain rfl := some_eq h
                          simp (implicitDefEqProofs := false) (decide := true) only [go_sem, Nat.reduceAdd, Nat.reduceMul, Nat.reduceSub, Int.reduceToNat, mpE_nil, Int.natCast_zero, List.replicate_zero, List.length_take, List.length_drop, AVal.own.injEq, reduceCtorEq, Int.reduceAdd, nle2, nle1, nle0, nleA, nleL, Try.results36]
                  · replace h := bif_t h hc
                    (try simp (implicitDefEqProofs := false) (decide := true) only [go_sem, Nat.reduceAdd, Nat.reduceMul, Nat.reduceSub, Int.reduceToNat, hc, Bool.not_false])
                    refine hK _ _ ?_; clear hK K
                    refine qthen_normal ?_
                    refine AWP.cond (acond_true ?_)
                    refine AWP.seq ?_
                    refine AWP.region rfl ?_; intro K hK
                    (try simp (implicitDefEqProofs := false) (decide := true) only [go_sem, Nat.reduceAdd, Nat.reduceMul, Nat.reduceSub, Int.reduceToNat])
                    refine hK _ _ ?_; clear hK K
                    refine qthen_normal ?_
                    refine AWP.ret ?_
                    refine qthen_ret ?_
                    refine qblock_ret ?_
                    refine qthen_ret ?_
                    refine qthen_ret ?_
                    obtain rfl := some_eq h
                    obtain rfl := cont_ret hJ0
                    replace h := on_ret hO0
                    refine qblock_ret ?_
                    refine qthen_ret ?_
                    obtain rfl := some_eq h
                    simp (implicitDefEqProofs := false) (decide := true) only [go_sem, Nat.reduceAdd, Nat.reduceMul, Nat.reduceSub, Int.reduceToNat, mpE_nil, Int.natCast_zero, List.replicate_zero, List.length_take, List.length_drop, AVal.own.injEq, reduceCtorEq, Int.reduceAdd, nle2, nle1, nle0, nleA, nleL, Try.results36]
            · replace h := bif_t h hc
              (try simp (implicitDefEqProofs := false) (decide := true) only [go_sem, Nat.reduceAdd, Nat.reduceMul, Nat.reduceSub, Int.reduceToNat, hc, Bool.not_false])
              refine hK _ _ ?_; clear hK K
              refine qthen_normal ?_
              refine AWP.cond (acond_true ?_)
              refine AWP.seq ?_
              refine AWP.region rfl ?_; intro K hK
              (try simp (implicitDefEqProofs := false) (decide := true) only [go_sem, Nat.reduceAdd, Nat.reduceMul, Nat.reduceSub, Int.reduceToNat])
              refine hK _ _ ?_; clear hK K
              refine qthen_normal ?_
              refine AWP.ret ?_
              refine qthen_ret ?_
              refine qblock_ret ?_
              refine qthen_ret ?_
              refine qthen_ret ?_
              obtain rfl := some_eq h
              obtain rfl := cont_ret hJ0
              replace h := on_ret hO0
              refine qblock_ret ?_
              refine qthen_ret ?_
              obtain rfl := some_eq h
              simp (implicitDefEqProofs := false) (decide := true) only [go_sem, Nat.reduceAdd, Nat.reduceMul, Nat.reduceSub, Int.reduceToNat, mpE_nil, Int.natCast_zero, List.replicate_zero, List.length_take, List.length_drop, AVal.own.injEq, reduceCtorEq, Int.reduceAdd, nle2, nle1, nle0, nleA, nleL, Try.results36]
          · replace h := bif_t h hc
            (try simp (implicitDefEqProofs := false) (decide := true) only [go_sem, Nat.reduceAdd, Nat.reduceMul, Nat.reduceSub, Int.reduceToNat, hc, Bool.not_false])
            refine hK _ _ ?_; clear hK K
            refine qthen_normal ?_
            refine AWP.cond (acond_true ?_)
            refine AWP.seq ?_
            refine AWP.region rfl ?_; intro K hK
            (try simp (implicitDefEqProofs := false) (decide := true) only [go_sem, Nat.reduceAdd, Nat.reduceMul, Nat.reduceSub, Int.reduceToNat])
            refine hK _ _ ?_; clear hK K
            refine qthen_normal ?_
            refine AWP.ret ?_
            refine qthen_ret ?_
            refine qblock_ret ?_
            refine qthen_ret ?_
            refine qthen_ret ?_
            obtain rfl := some_eq h
            obtain rfl := cont_ret hJ0
            replace h := on_ret hO0
            refine qblock_ret ?_
            refine qthen_ret ?_
            obtain rfl := some_eq h
            simp (implicitDefEqProofs := false) (decide := true) only [go_sem, Nat.reduceAdd, Nat.reduceMul, Nat.reduceSub, Int.reduceToNat, mpE_nil, Int.natCast_zero, List.replicate_zero, List.length_take, List.length_drop, AVal.own.injEq, reduceCtorEq, Int.reduceAdd, nle2, nle1, nle0, nleA, nleL, Try.results36]
        · replace h := bif_t h hc
          (try simp (implicitDefEqProofs := false) (decide := true) only [go_sem, Nat.reduceAdd, Nat.reduceMul, Nat.reduceSub, Int.reduceToNat, hc, Bool.not_false])
          refine hK _ _ ?_; clear hK K
          refine qthen_normal ?_
          refine AWP.cond (acond_true ?_)
          refine AWP.seq ?_
          refine AWP.region rfl ?_; intro K hK
          (try simp (implicitDefEqProofs := false) (decide := true) only [go_sem, Nat.reduceAdd, Nat.reduceMul, Nat.reduceSub, Int.reduceToNat])
          refine hK _ _ ?_; clear hK K
          refine qthen_normal ?_
          refine AWP.ret ?_
          refine qthen_ret ?_
          refine qblock_ret ?_
          refine qthen_ret ?_
          refine qthen_ret ?_
          obtain rfl := some_eq h
          obtain rfl := cont_ret hJ0
          replace h := on_ret hO0
          refine qblock_ret ?_
          refine qthen_ret ?_
          obtain rfl := some_eq h
          simp (implicitDefEqProofs := false) (decide := true) only [go_sem, Nat.reduceAdd, Nat.reduceMul, Nat.reduceSub, Int.reduceToNat, mpE_nil, Int.natCast_zero, List.replicate_zero, List.length_take, List.length_drop, AVal.own.injEq, reduceCtorEq, Int.reduceAdd, nle2, nle1, nle0, nleA, nleL, Try.results36]
      · replace h := bif_t h hc
        (try simp (implicitDefEqProofs := false) (decide := true) only [go_sem, Nat.reduceAdd, Nat.reduceMul, Nat.reduceSub, Int.reduceToNat, hc, Bool.not_false])
        refine hK _ _ ?_; clear hK K
        refine qthen_normal ?_
        refine AWP.cond (acond_true ?_)
        refine AWP.seq ?_
        refine AWP.region rfl ?_; intro K hK
        (try simp (implicitDefEqProofs := false) (decide := true) only [go_sem, Nat.reduceAdd, Nat.reduceMul, Nat.reduceSub, Int.reduceToNat])
        refine hK _ _ ?_; clear hK K
        refine qthen_normal ?_
        refine AWP.ret ?_
        refine qthen_ret ?_
        refine qblock_ret ?_
        refine qthen_ret ?_
        refine qthen_ret ?_
        obtain rfl := some_eq h
        obtain rfl := cont_ret hJ0
        replace h := on_ret hO0
        refine qblock_ret ?_
        refine qthen_ret ?_
        obtain rfl := some_eq h
        simp (implicitDefEqProofs := false) (decide := true) only [go_sem, Nat.reduceAdd, Nat.reduceMul, Nat.reduceSub, Int.reduceToNat, mpE_nil, Int.natCast_zero, List.replicate_zero, List.length_take, List.length_drop, AVal.own.injEq, reduceCtorEq, Int.reduceAdd, nle2, nle1, nle0, nleA, nleL, Try.results36]
    · replace h := bif_t h hc
      (try simp (implicitDefEqProofs := false) (decide := true) only [go_sem, Nat.reduceAdd, Nat.reduceMul, Nat.reduceSub, Int.reduceToNat, hc, Bool.not_false])
      refine hK _ _ ?_; clear hK K
      refine qthen_normal ?_
      refine AWP.cond (acond_true ?_)
      refine AWP.seq ?_
      refine AWP.region rfl ?_; intro K hK
      (try simp (implicitDefEqProofs := false) (decide := true) only [go_sem, Nat.reduceAdd, Nat.reduceMul, Nat.reduceSub, Int.reduceToNat])
      refine hK _ _ ?_; clear hK K
      refine qthen_normal ?_
      refine AWP.ret ?_
      refine qthen_ret ?_
      refine qblock_ret ?_
      refine qthen_ret ?_
      refine qthen_ret ?_
      obtain rfl := some_eq h
      obtain rfl := cont_ret hJ0
      replace h := on_ret hO0
      refine qblock_ret ?_
      refine qthen_ret ?_
      obtain rfl := some_eq h
      simp (implicitDefEqProofs := false) (decide := true) only [go_sem, Nat.reduceAdd, Nat.reduceMul, Nat.reduceSub, Int.reduceToNat, mpE_nil, Int.natCast_zero, List.replicate_zero, List.length_take, List.length_drop, AVal.own.injEq, reduceCtorEq, Int.reduceAdd, nle2, nle1, nle0, nleA, nleL, Try.results36]
  · obtain rfl := for_nil hJ0 (fun hl => by have := of_decide_eq_false hc; omega)
    have h := on_next hO0; try dsimp only at h
    have hkl : m.Lifts.length = k0 := by have := of_decide_eq_false hc; omega
    subst hkl
    refine AWP.exit ?_
    refine qthen_exit ?_
    refine qthen_exit ?_
    refine qblock_same ?_
    refine qthen_normal ?_
    refine AWP.seq ?_
    refine AWP.region rfl ?_; intro K hK
    (try simp (implicitDefEqProofs := false) (decide := true) only [go_sem, Nat.reduceAdd, Nat.reduceMul, Nat.reduceSub, Int.reduceToNat])
    refine hK _ _ ?_; clear hK K
    refine qthen_normal ?_
    refine AWP.ret ?_
    obtain rfl := some_eq h
    simp (implicitDefEqProofs := false) (decide := true) only [go_sem, Nat.reduceAdd, Nat.reduceMul, Nat.reduceSub, Int.reduceToNat, mpE_nil, Int.natCast_zero, List.replicate_zero, List.length_take, List.length_drop, AVal.own.injEq, reduceCtorEq, Int.reduceAdd, nle2, nle1, nle0, nleA, nleL, Try.results36]

def terrain_rightRuns_b1 (m : ApiMap) (k0 : Nat) (x_2 : ApiRun) (sv : Unit) : Option (Out (Unit) (Int)) :=
  (terrain_within x_2.ID (1 : Int) (9999 : Int)).bind fun y3 => (bif (!y3) then some (Out.ret (2 : Int)) else (terrain_within x_2.Operator (1 : Int) (8 : Int)).bind fun y4 => (bif (!y4) then some (Out.ret (2 : Int)) else (terrain_within x_2.Grade (1 : Int) (4 : Int)).bind fun y5 => (bif (!y5) then some (Out.ret (2 : Int)) else (terrain_within x_2.Zone (1 : Int) (32 : Int)).bind fun y6 => (bif (!y6) then some (Out.ret (2 : Int)) else (terrain_within x_2.Length (10 : Int) (20000 : Int)).bind fun y7 => (bif (!y7) then some (Out.ret (2 : Int)) else (bif (decide ((0 : Int) < ((k0 : Nat) : Int))) then (idxL m.Runs (IntKind.i64.wrap (((k0 : Nat) : Int) - (1 : Int)))).bind fun x_8 => (bif (decide (x_2.ID ≤ x_8.ID)) then some (Out.ret (7 : Int)) else (terrain_Node m x_2.From).bind fun y9 => (terrain_Node m x_2.To).bind fun y10 => (bif (!y9.2) then some (Out.ret (8 : Int)) else (bif (!y10.2) then some (Out.ret (8 : Int)) else (bif (decide (y9.1.Alt ≤ y10.1.Alt)) then some (Out.ret (11 : Int)) else some (Out.next ()))))) else (terrain_Node m x_2.From).bind fun y11 => (terrain_Node m x_2.To).bind fun y12 => (bif (!y11.2) then some (Out.ret (8 : Int)) else (bif (!y12.2) then some (Out.ret (8 : Int)) else (bif (decide (y11.1.Alt ≤ y12.1.Alt)) then some (Out.ret (11 : Int)) else some (Out.next ()))))))))))

def terrain_rightRuns (m : ApiMap) : Option (Int) :=
  (forIx (terrain_rightRuns_b1 m) 0 m.Runs ()).bind fun o0 => o0.on fun s0 => some (0 : Int)

theorem terrain_rightRuns_spec (m : ApiMap) {r : Int} (h : terrain_rightRuns m = some r) : PureFn Try.prog 37 [.agg (encApiMap m)] (· = .int .i64 r) := by
  refine PureFn.nle (PureFn.intro Try.func37 rfl rfl (by show _ ≤ 85; simp) ?_)
  unfold terrain_rightRuns at h
  (try simp (implicitDefEqProofs := false) (decide := true) only [go_sem, Nat.reduceAdd, Nat.reduceMul, Nat.reduceSub, Int.reduceToNat])
  refine AWP.seq ?_
  refine AWP.region rfl ?_; intro K hK
  (try simp (implicitDefEqProofs := false) (decide := true) only [go_sem, Nat.reduceAdd, Nat.reduceMul, Nat.reduceSub, Int.reduceToNat])
  refine hK _ _ ?_; clear hK K
  refine qthen_normal ?_
  refine AWP.seq ?_
  refine AWP.seq ?_
  refine AWP.region rfl ?_; intro K hK
  (try simp (implicitDefEqProofs := false) (decide := true) only [go_sem, Nat.reduceAdd, Nat.reduceMul, Nat.reduceSub, Int.reduceToNat])
  intro hm
  refine hK _ _ ?_; clear hK K
  refine qthen_normal ?_
  refine AWP.block ?_
  obtain ⟨o0, hJ0, hO0⟩ := bindE h
  clear h
  refine AWP.loopW (ι := Nat × (Unit) × (Unit)) (fun zz => [(1, .ptr 0 0), (10, .sl 7 (m.Runs.map encApiRun)), (11, .int .i64 ((m.Runs.length : Nat) : Int)), (12, .int .i64 ((zz.1 : Nat) : Int))]) (fun zz => [.box [.sl 2 (m.Nodes.map encApiNode), .sl 8 (m.Lifts.map encApiLift), .sl 7 (m.Runs.map encApiRun), .sl 1 (m.Bases.map intC)]]) (fun zz => zz.1 ≤ m.Runs.length ∧ forIx (terrain_rightRuns_b1 m) zz.1 ((m.Runs).drop zz.1) zz.2.1 = some o0) (fun zz => m.Runs.length - zz.1) (0, (), ()) ⟨Nat.zero_le _, hJ0⟩ (by (simp (implicitDefEqProofs := false) (decide := true) only [go_sem, Nat.reduceAdd, Nat.reduceMul, Nat.reduceSub, Int.reduceToNat, mpE_nil, Int.natCast_zero, List.replicate_zero, List.length_take, List.length_drop, AVal.own.injEq, reduceCtorEq, Int.reduceAdd] <;> omega)) (by (simp (implicitDefEqProofs := false) (decide := true) only [go_sem, Nat.reduceAdd, Nat.reduceMul, Nat.reduceSub, Int.reduceToNat, mpE_nil, Int.natCast_zero, List.replicate_zero, List.length_take, List.length_drop, AVal.own.injEq, reduceCtorEq, Int.reduceAdd] <;> omega)) (fun x => ⟨rfl, rfl, rfl⟩) ?_
  clear hJ0
  rintro ⟨k0, ⟨⟩, ⟨⟩⟩ ⟨hk0, hJ0⟩
  dsimp only at hk0 hJ0 ⊢
  refine AWP.seq ?_
  refine AWP.region rfl ?_; intro K hK
  (try simp (implicitDefEqProofs := false) (decide := true) only [go_sem, Nat.reduceAdd, Nat.reduceMul, Nat.reduceSub, Int.reduceToNat])
  refine hK _ _ ?_; clear hK K
  refine qthen_normal ?_
  refine AWP.seq ?_
  refine AWP.cond (acond_split (fun hc => ?_) (fun hc => ?_))
  · have hlt0 : k0 < m.Runs.length := by have := of_decide_eq_true hc; omega
    obtain ⟨x_2, b0, hx0_, h, hJ0⟩ := for_cons hJ0 hlt0
    have hx0 := idxL_nat hx0_
    have hw0 : IntKind.i64.wrap (((k0 : Nat) : Int) + 1) = (((k0 : Nat) : Int) + (1 : Int)) := by rw [wrap_i64] <;> omega
    unfold terrain_rightRuns_b1 at h; try dsimp only at h
    refine AWP.skip ?_
    refine qthen_normal ?_
    refine AWP.seq ?_
    refine AWP.block ?_
    refine AWP.seq ?_
    refine AWP.region rfl ?_; intro K hK
    (try simp (implicitDefEqProofs := false) (decide := true) only [go_sem, Nat.reduceAdd, Nat.reduceMul, Nat.reduceSub, Int.reduceToNat])
    refine AIdx.of (f := encApiRun) (l := m.Runs) hx0 ?_
    (try simp (implicitDefEqProofs := false) (decide := true) only [go_sem, Nat.reduceAdd, Nat.reduceMul, Nat.reduceSub, Int.reduceToNat])
    refine hK _ _ ?_; clear hK K
    refine qthen_normal ?_
    refine AWP.seq ?_
    refine AWP.seq ?_
    refine AWP.region rfl ?_; intro K hK
    (try simp (implicitDefEqProofs := false) (decide := true) only [go_sem, Nat.reduceAdd, Nat.reduceMul, Nat.reduceSub, Int.reduceToNat])
    obtain ⟨y3, hy3, h⟩ := bindE h
    refine ACall.pure Try.call47 (terrain_within_spec x_2.ID (1 : Int) (9999 : Int) hy3) rfl fun _ hr => ?_
    subst hr
    (try simp (implicitDefEqProofs := false) (decide := true) only [go_sem, Nat.reduceAdd, Nat.reduceMul, Nat.reduceSub, Int.reduceToNat])
    refine aguardK_split (fun hc => ?_) (fun hc => ?_)
    · replace h := bif_f h hc
      (try simp (implicitDefEqProofs := false) (decide := true) only [go_sem, Nat.reduceAdd, Nat.reduceMul, Nat.reduceSub, Int.reduceToNat, hc])
      obtain ⟨y4, hy4, h⟩ := bindE h
      refine ACall.pure Try.call47 (terrain_within_spec x_2.Operator (1 : Int) (8 : Int) hy4) rfl fun _ hr => ?_
      subst hr
      (try simp (implicitDefEqProofs := false) (decide := true) only [go_sem, Nat.reduceAdd, Nat.reduceMul, Nat.reduceSub, Int.reduceToNat])
      refine aguardK_split (fun hc => ?_) (fun hc => ?_)
      · replace h := bif_f h hc
        (try simp (implicitDefEqProofs := false) (decide := true) only [go_sem, Nat.reduceAdd, Nat.reduceMul, Nat.reduceSub, Int.reduceToNat, hc])
        obtain ⟨y5, hy5, h⟩ := bindE h
        refine ACall.pure Try.call47 (terrain_within_spec x_2.Grade (1 : Int) (4 : Int) hy5) rfl fun _ hr => ?_
        subst hr
        (try simp (implicitDefEqProofs := false) (decide := true) only [go_sem, Nat.reduceAdd, Nat.reduceMul, Nat.reduceSub, Int.reduceToNat])
        refine aguardK_split (fun hc => ?_) (fun hc => ?_)
        · replace h := bif_f h hc
          (try simp (implicitDefEqProofs := false) (decide := true) only [go_sem, Nat.reduceAdd, Nat.reduceMul, Nat.reduceSub, Int.reduceToNat, hc])
          obtain ⟨y6, hy6, h⟩ := bindE h
          refine ACall.pure Try.call47 (terrain_within_spec x_2.Zone (1 : Int) (32 : Int) hy6) rfl fun _ hr => ?_
          subst hr
          (try simp (implicitDefEqProofs := false) (decide := true) only [go_sem, Nat.reduceAdd, Nat.reduceMul, Nat.reduceSub, Int.reduceToNat])
          refine aguardK_split (fun hc => ?_) (fun hc => ?_)
          · replace h := bif_f h hc
            (try simp (implicitDefEqProofs := false) (decide := true) only [go_sem, Nat.reduceAdd, Nat.reduceMul, Nat.reduceSub, Int.reduceToNat, hc])
            obtain ⟨y7, hy7, h⟩ := bindE h
            refine ACall.pure Try.call47 (terrain_within_spec x_2.Length (10 : Int) (20000 : Int) hy7) rfl fun _ hr => ?_
            subst hr
            (try simp (implicitDefEqProofs := false) (decide := true) only [go_sem, Nat.reduceAdd, Nat.reduceMul, Nat.reduceSub, Int.reduceToNat])
            refine hK _ _ ?_; clear hK K
            refine qthen_normal ?_
            refine AWP.cond (acond_split (fun hc => ?_) (fun hc => ?_))
            · replace h := bif_t h hc
              refine AWP.seq ?_
              refine AWP.region rfl ?_; intro K hK
              (try simp (implicitDefEqProofs := false) (decide := true) only [go_sem, Nat.reduceAdd, Nat.reduceMul, Nat.reduceSub, Int.reduceToNat])
              refine hK _ _ ?_; clear hK K
              refine qthen_normal ?_
              refine AWP.ret ?_
              refine qthen_ret ?_
              refine qblock_ret ?_
              refine qthen_ret ?_
              refine qthen_ret ?_
              obtain rfl := some_eq h
              obtain rfl := cont_ret hJ0
              replace h := on_ret hO0
              refine qblock_ret ?_
              refine qthen_ret ?_
              obtain rfl := some_eq h
              simp (implicitDefEqProofs := false) (decide := true) only [go_sem, Nat.reduceAdd, Nat.reduceMul, Nat.reduceSub, Int.reduceToNat, mpE_nil, Int.natCast_zero, List.replicate_zero, List.length_take, List.length_drop, AVal.own.injEq, reduceCtorEq, Int.reduceAdd, nle2, nle1, nle0, nleA, nleL, Try.results37]
            · replace h := bif_f h hc
              refine AWP.skip ?_
              refine qthen_normal ?_
              refine AWP.seq ?_
              refine AWP.seq ?_
              refine AWP.draw Try.mixed (by kernel_rfl) ?_; intro K hK
              (try simp (implicitDefEqProofs := false) (decide := true) only [go_sem, Nat.reduceAdd, Nat.reduceMul, Nat.reduceSub, Int.reduceToNat])
              refine aguardK_split (fun hc => ?_) (fun hc => ?_)
              · replace h := bif_t h hc
                (try simp (implicitDefEqProofs := false) (decide := true) only [go_sem, Nat.reduceAdd, Nat.reduceMul, Nat.reduceSub, Int.reduceToNat, hc])
                obtain ⟨x_8, hx_8, h⟩ := bindE h
                refine AIdx.of (f := encApiRun) (l := m.Runs) hx_8 ?_
                (try simp (implicitDefEqProofs := false) (decide := true) only [go_sem, Nat.reduceAdd, Nat.reduceMul, Nat.reduceSub, Int.reduceToNat])
                refine hK _ _ _ (by kernel_rfl) ?_; clear hK K
                refine qthen_normal ?_
                refine AWP.cond (acond_split (fun hc => ?_) (fun hc => ?_))
                · replace h := bif_t h hc
                  refine AWP.seq ?_
                  refine AWP.region rfl ?_; intro K hK
                  (try simp (implicitDefEqProofs := false) (decide := true) only [go_sem, Nat.reduceAdd, Nat.reduceMul, Nat.reduceSub, Int.reduceToNat])
                  refine hK _ _ ?_; clear hK K
                  refine qthen_normal ?_
                  refine AWP.ret ?_
                  refine qthen_ret ?_
                  refine qblock_ret ?_
                  refine qthen_ret ?_
                  refine qthen_ret ?_
                  obtain rfl := some_eq h
                  obtain rfl := cont_ret hJ0
                  replace h := on_ret hO0
                  refine qblock_ret ?_
                  refine qthen_ret ?_
                  obtain rfl := some_eq h
                  simp (implicitDefEqProofs := false) (decide := true) only [go_sem, Nat.reduceAdd, Nat.reduceMul, Nat.reduceSub, Int.reduceToNat, mpE_nil, Int.natCast_zero, List.replicate_zero, List.length_take, List.length_drop, AVal.own.injEq, reduceCtorEq, Int.reduceAdd, nle2, nle1, nle0, nleA, nleL, Try.results37]
                · replace h := bif_f h hc
                  refine AWP.skip ?_
                  refine qthen_normal ?_
                  refine AWP.seq ?_
                  refine AWP.region rfl ?_; intro K hK
                  (try simp (implicitDefEqProofs := false) (decide := true) only [go_sem, Nat.reduceAdd, Nat.reduceMul, Nat.reduceSub, Int.reduceToNat])
                  obtain ⟨y9, hy9, h⟩ := bindE h
                  refine ACall.pure Try.call15 (terrain_Node_spec m x_2.From hy9) rfl fun _ hr => ?_
                  subst hr
                  (try simp (implicitDefEqProofs := false) (decide := true) only [go_sem, Nat.reduceAdd, Nat.reduceMul, Nat.reduceSub, Int.reduceToNat])
                  refine hK _ _ ?_; clear hK K
                  refine qthen_normal ?_
                  refine AWP.seq ?_
                  refine AWP.region rfl ?_; intro K hK
                  (try simp (implicitDefEqProofs := false) (decide := true) only [go_sem, Nat.reduceAdd, Nat.reduceMul, Nat.reduceSub, Int.reduceToNat])
                  obtain ⟨y10, hy10, h⟩ := bindE h
                  refine ACall.pure Try.call15 (terrain_Node_spec m x_2.To hy10) rfl fun _ hr => ?_
                  subst hr
                  (try simp (implicitDefEqProofs := false) (decide := true) only [go_sem, Nat.reduceAdd, Nat.reduceMul, Nat.reduceSub, Int.reduceToNat])
                  refine hK _ _ ?_; clear hK K
                  refine qthen_normal ?_
                  refine AWP.seq ?_
                  refine AWP.seq ?_
                  refine AWP.region rfl ?_; intro K hK
                  (try simp (implicitDefEqProofs := false) (decide := true) only [go_sem, Nat.reduceAdd, Nat.reduceMul, Nat.reduceSub, Int.reduceToNat])
                  refine aguardK_split (fun hc => ?_) (fun hc => ?_)
                  · replace h := bif_f h hc
                    (try simp (implicitDefEqProofs := false) (decide := true) only [go_sem, Nat.reduceAdd, Nat.reduceMul, Nat.reduceSub, Int.reduceToNat, hc])
                    refine hK _ _ ?_; clear hK K
                    refine qthen_normal ?_
                    refine AWP.cond (acond_split (fun hc => ?_) (fun hc => ?_))
                    · replace h := bif_t h hc
                      refine AWP.seq ?_
                      refine AWP.region rfl ?_; intro K hK
                      (try simp (implicitDefEqProofs := false) (decide := true) only [go_sem, Nat.reduceAdd, Nat.reduceMul, Nat.reduceSub, Int.reduceToNat])
                      refine hK _ _ ?_; clear hK K
                      refine qthen_normal ?_
                      refine AWP.ret ?_
                      refine qthen_ret ?_
                      refine qblock_ret ?_
                      refine qthen_ret ?_
                      refine qthen_ret ?_
                      obtain rfl := some_eq h
                      obtain rfl := cont_ret hJ0
                      replace h := on_ret hO0
                      refine qblock_ret ?_
                      refine qthen_ret ?_
                      obtain rfl := some_eq h
                      simp (implicitDefEqProofs := false) (decide := true) only [go_sem, Nat.reduceAdd, Nat.reduceMul, Nat.reduceSub, Int.reduceToNat, mpE_nil, Int.natCast_zero, List.replicate_zero, List.length_take, List.length_drop, AVal.own.injEq, reduceCtorEq, Int.reduceAdd, nle2, nle1, nle0, nleA, nleL, Try.results37]
                    · replace h := bif_f h hc
                      refine AWP.skip ?_
                      refine qthen_normal ?_
                      refine AWP.seq ?_
                      refine AWP.region rfl ?_; intro K hK
                      (try simp (implicitDefEqProofs := false) (decide := true) only [go_sem, Nat.reduceAdd, Nat.reduceMul, Nat.reduceSub, Int.reduceToNat])
                      refine hK _ _ ?_; clear hK K
                      refine qthen_normal ?_
                      refine AWP.cond (acond_split (fun hc => ?_) (fun hc => ?_))
                      · replace h := bif_t h hc
                        refine AWP.seq ?_
                        refine AWP.region rfl ?_; intro K hK
                        (try simp (implicitDefEqProofs := false) (decide := true) only [go_sem, Nat.reduceAdd, Nat.reduceMul, Nat.reduceSub, Int.reduceToNat])
                        refine hK _ _ ?_; clear hK K
                        refine qthen_normal ?_
                        refine AWP.ret ?_
                        refine qblock_ret ?_
                        refine qthen_ret ?_
                        refine qthen_ret ?_
                        obtain rfl := some_eq h
                        obtain rfl := cont_ret hJ0
                        replace h := on_ret hO0
                        refine qblock_ret ?_
                        refine qthen_ret ?_
                        obtain rfl := some_eq h
                        simp (implicitDefEqProofs := false) (decide := true) only [go_sem, Nat.reduceAdd, Nat.reduceMul, Nat.reduceSub, Int.reduceToNat, mpE_nil, Int.natCast_zero, List.replicate_zero, List.length_take, List.length_drop, AVal.own.injEq, reduceCtorEq, Int.reduceAdd, nle2, nle1, nle0, nleA, nleL, Try.results37]
                      · replace h := bif_f h hc
                        refine AWP.skip ?_
                        refine qblock_normal ?_
                        refine qthen_normal ?_
                        refine AWP.region rfl ?_; intro K hK
                        (try simp (implicitDefEqProofs := false) (decide := true) only [go_sem, Nat.reduceAdd, Nat.reduceMul, Nat.reduceSub, Int.reduceToNat])
                        refine hK _ _ ?_; clear hK K
                        refine qthen_normal ?_
                        obtain rfl := some_eq h
                        refine ⟨(k0 + 1, (), ()), ⟨by dsimp only; omega, cont_next hJ0⟩, by dsimp only; omega, ?_, ?_⟩
                        · (simp (implicitDefEqProofs := false) (decide := true) only [go_sem, Nat.reduceAdd, Nat.reduceMul, Nat.reduceSub, Int.reduceToNat, mpE_nil, Int.natCast_zero, List.replicate_zero, List.length_take, List.length_drop, AVal.own.injEq, reduceCtorEq, Int.reduceAdd, hw0] <;> omega)
                        · (simp (implicitDefEqProofs := false) (decide := true) only [go_sem, Nat.reduceAdd, Nat.reduceMul, Nat.reduceSub, Int.reduceToNat, mpE_nil, Int.natCast_zero, List.replicate_zero, List.length_take, List.length_drop, AVal.own.injEq, reduceCtorEq, Int.reduceAdd, hw0] <;> omega)
                  · replace h := bif_t h hc
                    (try simp (implicitDefEqProofs := false) (decide := true) only [go_sem, Nat.reduceAdd, Nat.reduceMul, Nat.reduceSub, Int.reduceToNat, hc, Bool.not_false])
                    refine hK _ _ ?_; clear hK K
                    refine qthen_normal ?_
                    refine AWP.cond (acond_true ?_)
                    refine AWP.seq ?_
                    refine AWP.region rfl ?_; intro K hK
                    (try simp (implicitDefEqProofs := false) (decide := true) only [go_sem, Nat.reduceAdd, Nat.reduceMul, Nat.reduceSub, Int.reduceToNat])
                    refine hK _ _ ?_; clear hK K
                    refine qthen_normal ?_
                    refine AWP.ret ?_
                    refine qthen_ret ?_
                    refine qblock_ret ?_
                    refine qthen_ret ?_
                    refine qthen_ret ?_
                    obtain rfl := some_eq h
                    obtain rfl := cont_ret hJ0
                    replace h := on_ret hO0
                    refine qblock_ret ?_
                    refine qthen_ret ?_
                    obtain rfl := some_eq h
                    simp (implicitDefEqProofs := false) (decide := true) only [go_sem, Nat.reduceAdd, Nat.reduceMul, Nat.reduceSub, Int.reduceToNat, mpE_nil, Int.natCast_zero, List.replicate_zero, List.length_take, List.length_drop, AVal.own.injEq, reduceCtorEq, Int.reduceAdd, nle2, nle1, nle0, nleA, nleL, Try.results37]
              · replace h := bif_f h hc
                (try simp (implicitDefEqProofs := false) (decide := true) only [go_sem, Nat.reduceAdd, Nat.reduceMul, Nat.reduceSub, Int.reduceToNat, hc, Bool.not_true])
                refine hK _ _ _ (by kernel_rfl) ?_; clear hK K
                refine qthen_normal ?_
                refine AWP.cond (acond_false ?_)
                refine AWP.skip ?_
                refine qthen_normal ?_
                refine AWP.seq ?_
                refine AWP.region rfl ?_; intro K hK
                (try simp (implicitDefEqProofs := false) (decide := true) only [go_sem, Nat.reduceAdd, Nat.reduceMul, Nat.reduceSub, Int.reduceToNat])
                obtain ⟨y11, hy11, h⟩ := bindE h
                refine ACall.pure Try.call15 (terrain_Node_spec m x_2.From hy11) rfl fun _ hr => ?_
                subst hr
                (try simp (implicitDefEqProofs := false) (decide := true) only [go_sem, Nat.reduceAdd, Nat.reduceMul, Nat.reduceSub, Int.reduceToNat])
                refine hK _ _ ?_; clear hK K
                refine qthen_normal ?_
                refine AWP.seq ?_
                refine AWP.region rfl ?_; intro K hK
                (try simp (implicitDefEqProofs := false) (decide := true) only [go_sem, Nat.reduceAdd, Nat.reduceMul, Nat.reduceSub, Int.reduceToNat])
                obtain ⟨y12, hy12, h⟩ := bindE h
                refine ACall.pure Try.call15 (terrain_Node_spec m x_2.To hy12) rfl fun _ hr => ?_
                subst hr
                (try simp (implicitDefEqProofs := false) (decide := true) only [go_sem, Nat.reduceAdd, Nat.reduceMul, Nat.reduceSub, Int.reduceToNat])
                refine hK _ _ ?_; clear hK K
                refine qthen_normal ?_
                refine AWP.seq ?_
                refine AWP.seq ?_
                refine AWP.region rfl ?_; intro K hK
                (try simp (implicitDefEqProofs := false) (decide := true) only [go_sem, Nat.reduceAdd, Nat.reduceMul, Nat.reduceSub, Int.reduceToNat])
                refine aguardK_split (fun hc => ?_) (fun hc => ?_)
                · replace h := bif_f h hc
                  (try simp (implicitDefEqProofs := false) (decide := true) only [go_sem, Nat.reduceAdd, Nat.reduceMul, Nat.reduceSub, Int.reduceToNat, hc])
                  refine hK _ _ ?_; clear hK K
                  refine qthen_normal ?_
                  refine AWP.cond (acond_split (fun hc => ?_) (fun hc => ?_))
                  · replace h := bif_t h hc
                    refine AWP.seq ?_
                    refine AWP.region rfl ?_; intro K hK
                    (try simp (implicitDefEqProofs := false) (decide := true) only [go_sem, Nat.reduceAdd, Nat.reduceMul, Nat.reduceSub, Int.reduceToNat])
                    refine hK _ _ ?_; clear hK K
                    refine qthen_normal ?_
                    refine AWP.ret ?_
                    refine qthen_ret ?_
                    refine qblock_ret ?_
                    refine qthen_ret ?_
                    refine qthen_ret ?_
                    obtain rfl := some_eq h
                    obtain rfl := cont_ret hJ0
                    replace h := on_ret hO0
                    refine qblock_ret ?_
                    refine qthen_ret ?_
                    obtain rfl := some_eq h
                    simp (implicitDefEqProofs := false) (decide := true) only [go_sem, Nat.reduceAdd, Nat.reduceMul, Nat.reduceSub, Int.reduceToNat, mpE_nil, Int.natCast_zero, List.replicate_zero, List.length_take, List.length_drop, AVal.own.injEq, reduceCtorEq, Int.reduceAdd, nle2, nle1, nle0, nleA, nleL, Try.results37]
                  · replace h := bif_f h hc
                    refine AWP.skip ?_
                    refine qthen_normal ?_
                    refine AWP.seq ?_
                    refine AWP.region rfl ?_; intro K hK
                    (try simp (implicitDefEqProofs := false) (decide := true) only [go_sem, Nat.reduceAdd, Nat.reduceMul, Nat.reduceSub, Int.reduceToNat])
                    refine hK _ _ ?_; clear hK K
                    refine qthen_normal ?_
                    refine AWP.cond (acond_split (fun hc => ?_) (fun hc => ?_))
                    · replace h := bif_t h hc
                      refine AWP.seq ?_
                      refine AWP.region rfl ?_; intro K hK
                      (try simp (implicitDefEqProofs := false) (decide := true) only [go_sem, Nat.reduceAdd, Nat.reduceMul, Nat.reduceSub, Int.reduceToNat])
                      refine hK _ _ ?_; clear hK K
                      refine qthen_normal ?_
                      refine AWP.ret ?_
                      refine qblock_ret ?_
                      refine qthen_ret ?_
                      refine qthen_ret ?_
                      obtain rfl := some_eq h
                      obtain rfl := cont_ret hJ0
                      replace h := on_ret hO0
                      refine qblock_ret ?_
                      refine qthen_ret ?_
                      obtain rfl := some_eq h
                      simp (implicitDefEqProofs := false) (decide := true) only [go_sem, Nat.reduceAdd, Nat.reduceMul, Nat.reduceSub, Int.reduceToNat, mpE_nil, Int.natCast_zero, List.replicate_zero, List.length_take, List.length_drop, AVal.own.injEq, reduceCtorEq, Int.reduceAdd, nle2, nle1, nle0, nleA, nleL, Try.results37]
                    · replace h := bif_f h hc
                      refine AWP.skip ?_
                      refine qblock_normal ?_
                      refine qthen_normal ?_
                      refine AWP.region rfl ?_; intro K hK
                      (try simp (implicitDefEqProofs := false) (decide := true) only [go_sem, Nat.reduceAdd, Nat.reduceMul, Nat.reduceSub, Int.reduceToNat])
                      refine hK _ _ ?_; clear hK K
                      refine qthen_normal ?_
                      obtain rfl := some_eq h
                      refine ⟨(k0 + 1, (), ()), ⟨by dsimp only; omega, cont_next hJ0⟩, by dsimp only; omega, ?_, ?_⟩
                      · (simp (implicitDefEqProofs := false) (decide := true) only [go_sem, Nat.reduceAdd, Nat.reduceMul, Nat.reduceSub, Int.reduceToNat, mpE_nil, Int.natCast_zero, List.replicate_zero, List.length_take, List.length_drop, AVal.own.injEq, reduceCtorEq, Int.reduceAdd, hw0] <;> omega)
                      · (simp (implicitDefEqProofs := false) (decide := true) only [go_sem, Nat.reduceAdd, Nat.reduceMul, Nat.reduceSub, Int.reduceToNat, mpE_nil, Int.natCast_zero, List.replicate_zero, List.length_take, List.length_drop, AVal.own.injEq, reduceCtorEq, Int.reduceAdd, hw0] <;> omega)
                · replace h := bif_t h hc
                  (try simp (implicitDefEqProofs := false) (decide := true) only [go_sem, Nat.reduceAdd, Nat.reduceMul, Nat.reduceSub, Int.reduceToNat, hc, Bool.not_false])
                  refine hK _ _ ?_; clear hK K
                  refine qthen_normal ?_
                  refine AWP.cond (acond_true ?_)
                  refine AWP.seq ?_
                  refine AWP.region rfl ?_; intro K hK
                  (try simp (implicitDefEqProofs := false) (decide := true) only [go_sem, Nat.reduceAdd, Nat.reduceMul, Nat.reduceSub, Int.reduceToNat])
                  refine hK _ _ ?_; clear hK K
                  refine qthen_normal ?_
                  refine AWP.ret ?_
                  refine qthen_ret ?_
                  refine qblock_ret ?_
                  refine qthen_ret ?_
                  refine qthen_ret ?_
                  obtain rfl := some_eq h
                  obtain rfl := cont_ret hJ0
                  replace h := on_ret hO0
                  refine qblock_ret ?_
                  refine qthen_ret ?_
                  obtain rfl := some_eq h
                  simp (implicitDefEqProofs := false) (decide := true) only [go_sem, Nat.reduceAdd, Nat.reduceMul, Nat.reduceSub, Int.reduceToNat, mpE_nil, Int.natCast_zero, List.replicate_zero, List.length_take, List.length_drop, AVal.own.injEq, reduceCtorEq, Int.reduceAdd, nle2, nle1, nle0, nleA, nleL, Try.results37]
          · replace h := bif_t h hc
            (try simp (implicitDefEqProofs := false) (decide := true) only [go_sem, Nat.reduceAdd, Nat.reduceMul, Nat.reduceSub, Int.reduceToNat, hc, Bool.not_false])
            refine hK _ _ ?_; clear hK K
            refine qthen_normal ?_
            refine AWP.cond (acond_true ?_)
            refine AWP.seq ?_
            refine AWP.region rfl ?_; intro K hK
            (try simp (implicitDefEqProofs := false) (decide := true) only [go_sem, Nat.reduceAdd, Nat.reduceMul, Nat.reduceSub, Int.reduceToNat])
            refine hK _ _ ?_; clear hK K
            refine qthen_normal ?_
            refine AWP.ret ?_
            refine qthen_ret ?_
            refine qblock_ret ?_
            refine qthen_ret ?_
            refine qthen_ret ?_
            obtain rfl := some_eq h
            obtain rfl := cont_ret hJ0
            replace h := on_ret hO0
            refine qblock_ret ?_
            refine qthen_ret ?_
            obtain rfl := some_eq h
            simp (implicitDefEqProofs := false) (decide := true) only [go_sem, Nat.reduceAdd, Nat.reduceMul, Nat.reduceSub, Int.reduceToNat, mpE_nil, Int.natCast_zero, List.replicate_zero, List.length_take, List.length_drop, AVal.own.injEq, reduceCtorEq, Int.reduceAdd, nle2, nle1, nle0, nleA, nleL, Try.results37]
        · replace h := bif_t h hc
          (try simp (implicitDefEqProofs := false) (decide := true) only [go_sem, Nat.reduceAdd, Nat.reduceMul, Nat.reduceSub, Int.reduceToNat, hc, Bool.not_false])
          refine hK _ _ ?_; clear hK K
          refine qthen_normal ?_
          refine AWP.cond (acond_true ?_)
          refine AWP.seq ?_
          refine AWP.region rfl ?_; intro K hK
          (try simp (implicitDefEqProofs := false) (decide := true) only [go_sem, Nat.reduceAdd, Nat.reduceMul, Nat.reduceSub, Int.reduceToNat])
          refine hK _ _ ?_; clear hK K
          refine qthen_normal ?_
          refine AWP.ret ?_
          refine qthen_ret ?_
          refine qblock_ret ?_
          refine qthen_ret ?_
          refine qthen_ret ?_
          obtain rfl := some_eq h
          obtain rfl := cont_ret hJ0
          replace h := on_ret hO0
          refine qblock_ret ?_
          refine qthen_ret ?_
          obtain rfl := some_eq h
          simp (implicitDefEqProofs := false) (decide := true) only [go_sem, Nat.reduceAdd, Nat.reduceMul, Nat.reduceSub, Int.reduceToNat, mpE_nil, Int.natCast_zero, List.replicate_zero, List.length_take, List.length_drop, AVal.own.injEq, reduceCtorEq, Int.reduceAdd, nle2, nle1, nle0, nleA, nleL, Try.results37]
      · replace h := bif_t h hc
        (try simp (implicitDefEqProofs := false) (decide := true) only [go_sem, Nat.reduceAdd, Nat.reduceMul, Nat.reduceSub, Int.reduceToNat, hc, Bool.not_false])
        refine hK _ _ ?_; clear hK K
        refine qthen_normal ?_
        refine AWP.cond (acond_true ?_)
        refine AWP.seq ?_
        refine AWP.region rfl ?_; intro K hK
        (try simp (implicitDefEqProofs := false) (decide := true) only [go_sem, Nat.reduceAdd, Nat.reduceMul, Nat.reduceSub, Int.reduceToNat])
        refine hK _ _ ?_; clear hK K
        refine qthen_normal ?_
        refine AWP.ret ?_
        refine qthen_ret ?_
        refine qblock_ret ?_
        refine qthen_ret ?_
        refine qthen_ret ?_
        obtain rfl := some_eq h
        obtain rfl := cont_ret hJ0
        replace h := on_ret hO0
        refine qblock_ret ?_
        refine qthen_ret ?_
        obtain rfl := some_eq h
        simp (implicitDefEqProofs := false) (decide := true) only [go_sem, Nat.reduceAdd, Nat.reduceMul, Nat.reduceSub, Int.reduceToNat, mpE_nil, Int.natCast_zero, List.replicate_zero, List.length_take, List.length_drop, AVal.own.injEq, reduceCtorEq, Int.reduceAdd, nle2, nle1, nle0, nleA, nleL, Try.results37]
    · replace h := bif_t h hc
      (try simp (implicitDefEqProofs := false) (decide := true) only [go_sem, Nat.reduceAdd, Nat.reduceMul, Nat.reduceSub, Int.reduceToNat, hc, Bool.not_false])
      refine hK _ _ ?_; clear hK K
      refine qthen_normal ?_
      refine AWP.cond (acond_true ?_)
      refine AWP.seq ?_
      refine AWP.region rfl ?_; intro K hK
      (try simp (implicitDefEqProofs := false) (decide := true) only [go_sem, Nat.reduceAdd, Nat.reduceMul, Nat.reduceSub, Int.reduceToNat])
      refine hK _ _ ?_; clear hK K
      refine qthen_normal ?_
      refine AWP.ret ?_
      refine qthen_ret ?_
      refine qblock_ret ?_
      refine qthen_ret ?_
      refine qthen_ret ?_
      obtain rfl := some_eq h
      obtain rfl := cont_ret hJ0
      replace h := on_ret hO0
      refine qblock_ret ?_
      refine qthen_ret ?_
      obtain rfl := some_eq h
      simp (implicitDefEqProofs := false) (decide := true) only [go_sem, Nat.reduceAdd, Nat.reduceMul, Nat.reduceSub, Int.reduceToNat, mpE_nil, Int.natCast_zero, List.replicate_zero, List.length_take, List.length_drop, AVal.own.injEq, reduceCtorEq, Int.reduceAdd, nle2, nle1, nle0, nleA, nleL, Try.results37]
  · obtain rfl := for_nil hJ0 (fun hl => by have := of_decide_eq_false hc; omega)
    have h := on_next hO0; try dsimp only at h
    have hkl : m.Runs.length = k0 := by have := of_decide_eq_false hc; omega
    subst hkl
    refine AWP.exit ?_
    refine qthen_exit ?_
    refine qthen_exit ?_
    refine qblock_same ?_
    refine qthen_normal ?_
    refine AWP.seq ?_
    refine AWP.region rfl ?_; intro K hK
    (try simp (implicitDefEqProofs := false) (decide := true) only [go_sem, Nat.reduceAdd, Nat.reduceMul, Nat.reduceSub, Int.reduceToNat])
    refine hK _ _ ?_; clear hK K
    refine qthen_normal ?_
    refine AWP.ret ?_
    obtain rfl := some_eq h
    simp (implicitDefEqProofs := false) (decide := true) only [go_sem, Nat.reduceAdd, Nat.reduceMul, Nat.reduceSub, Int.reduceToNat, mpE_nil, Int.natCast_zero, List.replicate_zero, List.length_take, List.length_drop, AVal.own.injEq, reduceCtorEq, Int.reduceAdd, nle2, nle1, nle0, nleA, nleL, Try.results37]

end
end Go.Proofs.Ytifkiiglkglhlaa
