/-
  What functions of the program compute, as plain Lean functions, and the walks that prove it; printed by a small program of our own (wip/walk.py).
-/
import Derived.Test.YtifkiiglkglhlaaW1
namespace Go.Proofs.Ytifkiiglkglhlaa
open Go Go.Ab
attribute [local irreducible] AWP ACall DCall PureFn Go.Ab.Sub alist dlist AIdx AElem ALook ANext
set_option maxRecDepth 100000
set_option maxHeartbeats 4000000
set_option linter.unusedSimpArgs false
set_option linter.unusedVariables false
noncomputable section
def terrain_Run_b1 (id_ : Int) (k0 : Nat) (x_2 : ApiRun) (sv : Unit) : Option (Out (Unit) (ApiRun × Bool)) :=
  (bif (decide (x_2.ID = id_)) then some (Out.ret (x_2, true)) else some (Out.next ()))

def terrain_Run (m : ApiMap) (id_ : Int) : Option (ApiRun × Bool) :=
  (forIx (terrain_Run_b1 id_) 0 m.Runs ()).bind fun o0 => o0.on fun s0 => some ((ApiRun.mk (0 : Int) (0 : Int) (0 : Int) (0 : Int) (0 : Int) (0 : Int) (0 : Int)), false)

theorem terrain_Run_spec (m : ApiMap) (id_ : Int) {r : ApiRun × Bool} (h : terrain_Run m id_ = some r) : PureFn Try.prog 19 [.agg (encApiMap m), .int .i64 id_] (· = .tuple [.agg (encApiRun r.1), .bool r.2]) := by
  refine PureFn.nle (PureFn.intro Try.func19 rfl rfl (by show _ ≤ 22; simp) ?_)
  unfold terrain_Run at h
  (try simp (implicitDefEqProofs := false) (decide := true) only [go_sem, Nat.reduceAdd, Nat.reduceMul, Nat.reduceSub, Int.reduceToNat])
  refine AWP.seq ?_
  refine AWP.region rfl ?_; intro K hK
  (try simp (implicitDefEqProofs := false) (decide := true) only [go_sem, Nat.reduceAdd, Nat.reduceMul, Nat.reduceSub, Int.reduceToNat])
  refine hK _ _ ?_; clear hK K
  refine qthen_normal ?_
  refine AWP.seq ?_
  refine AWP.seq ?_
  refine AWP.region rfl ?_; intro K hK
  (try simp (implicitDefEqProofs := false) (decide := true) only [go_sem, Nat.reduceAdd, Nat.reduceMul, Nat.reduceSub, Int.reduceToNat])
  intro hm
  refine hK _ _ ?_; clear hK K
  refine qthen_normal ?_
  refine AWP.block ?_
  obtain ⟨o0, hJ0, hO0⟩ := bindE h
  clear h
  refine AWP.loopW (ι := Nat × (Unit) × (Unit)) (fun zz => [(1, .int .i64 id_), (4, .ptr 1 0), (9, .sl 7 (m.Runs.map encApiRun)), (10, .int .i64 ((m.Runs.length : Nat) : Int)), (11, .int .i64 ((zz.1 : Nat) : Int))]) (fun zz => [.gone, .box [.int .i64 (0 : Int), .int .i64 (0 : Int), .int .i64 (0 : Int), .int .i64 (0 : Int), .int .i64 (0 : Int), .int .i64 (0 : Int), .int .i64 (0 : Int)]]) (fun zz => zz.1 ≤ m.Runs.length ∧ forIx (terrain_Run_b1 id_) zz.1 ((m.Runs).drop zz.1) zz.2.1 = some o0) (fun zz => m.Runs.length - zz.1) (0, (), ()) ⟨Nat.zero_le _, hJ0⟩ (by (simp (implicitDefEqProofs := false) (decide := true) only [go_sem, Nat.reduceAdd, Nat.reduceMul, Nat.reduceSub, Int.reduceToNat, mpE_nil, Int.natCast_zero, List.replicate_zero, List.length_take, List.length_drop, AVal.own.injEq, reduceCtorEq, Int.reduceAdd] <;> omega)) (by (simp (implicitDefEqProofs := false) (decide := true) only [go_sem, Nat.reduceAdd, Nat.reduceMul, Nat.reduceSub, Int.reduceToNat, mpE_nil, Int.natCast_zero, List.replicate_zero, List.length_take, List.length_drop, AVal.own.injEq, reduceCtorEq, Int.reduceAdd] <;> omega)) (fun x => ⟨rfl, rfl, rfl⟩) ?_
  clear hJ0
  rintro ⟨k0, ⟨⟩, ⟨⟩⟩ ⟨hk0, hJ0⟩
  dsimp only at hk0 hJ0 ⊢
  refine AWP.seq ?_
  refine AWP.region rfl ?_; intro K hK
  (try simp (implicitDefEqProofs := false) (decide := true) only [go_sem, Nat.reduceAdd, Nat.reduceMul, Nat.reduceSub, Int.reduceToNat])
  refine hK _ _ ?_; clear hK K
  refine qthen_normal ?_
  refine AWP.seq ?_
  refine AWP.cond (acond_split (fun hc => ?_) (fun hc => ?_))
  · have hlt0 : k0 < m.Runs.length := by have := of_decide_eq_true hc; omega
    obtain ⟨x_2, b0, hx0_, h, hJ0⟩ := for_cons hJ0 hlt0
    have hx0 := idxL_nat hx0_
    have hw : IntKind.i64.wrap (((k0 : Nat) : Int) + 1) = (((k0 : Nat) : Int) + (1 : Int)) := by rw [wrap_i64] <;> omega
    unfold terrain_Run_b1 at h; try dsimp only at h
    refine AWP.skip ?_
    refine qthen_normal ?_
    refine AWP.seq ?_
    refine AWP.block ?_
    refine AWP.seq ?_
    refine AWP.region rfl ?_; intro K hK
    (try simp (implicitDefEqProofs := false) (decide := true) only [go_sem, Nat.reduceAdd, Nat.reduceMul, Nat.reduceSub, Int.reduceToNat])
    refine AIdx.of (f := encApiRun) (l := m.Runs) hx0 ?_
    (try simp (implicitDefEqProofs := false) (decide := true) only [go_sem, Nat.reduceAdd, Nat.reduceMul, Nat.reduceSub, Int.reduceToNat])
    refine hK _ _ ?_; clear hK K
    refine qthen_normal ?_
    refine AWP.seq ?_
    refine AWP.region rfl ?_; intro K hK
    (try simp (implicitDefEqProofs := false) (decide := true) only [go_sem, Nat.reduceAdd, Nat.reduceMul, Nat.reduceSub, Int.reduceToNat])
    refine hK _ _ ?_; clear hK K
    refine qthen_normal ?_
    refine AWP.cond (acond_split (fun hc => ?_) (fun hc => ?_))
    · replace h := bif_t h hc
      refine AWP.seq ?_
      refine AWP.region rfl ?_; intro K hK
      (try simp (implicitDefEqProofs := false) (decide := true) only [go_sem, Nat.reduceAdd, Nat.reduceMul, Nat.reduceSub, Int.reduceToNat])
      refine hK _ _ ?_; clear hK K
      refine qthen_normal ?_
      refine AWP.ret ?_
      refine qblock_ret ?_
      refine qthen_ret ?_
      refine qthen_ret ?_
      obtain rfl := some_eq h
      obtain rfl := cont_ret hJ0
      replace h := on_ret hO0
      refine qblock_ret ?_
      refine qthen_ret ?_
      obtain rfl := some_eq h
      simp (implicitDefEqProofs := false) (decide := true) only [go_sem, Nat.reduceAdd, Nat.reduceMul, Nat.reduceSub, Int.reduceToNat, mpE_nil, Int.natCast_zero, List.replicate_zero, List.length_take, List.length_drop, AVal.own.injEq, reduceCtorEq, Int.reduceAdd, nle2, nle1, nle0, nleA, nleL, Try.results19]
    · replace h := bif_f h hc
      refine AWP.skip ?_
      refine qblock_normal ?_
      refine qthen_normal ?_
      refine AWP.region rfl ?_; intro K hK
      (try simp (implicitDefEqProofs := false) (decide := true) only [go_sem, Nat.reduceAdd, Nat.reduceMul, Nat.reduceSub, Int.reduceToNat])
      refine hK _ _ ?_; clear hK K
      refine qthen_normal ?_
      obtain rfl := some_eq h
      refine ⟨(k0 + 1, (), ()), ⟨by dsimp only; omega, cont_next hJ0⟩, by dsimp only; omega, ?_, ?_⟩
      · (simp (implicitDefEqProofs := false) (decide := true) only [go_sem, Nat.reduceAdd, Nat.reduceMul, Nat.reduceSub, Int.reduceToNat, mpE_nil, Int.natCast_zero, List.replicate_zero, List.length_take, List.length_drop, AVal.own.injEq, reduceCtorEq, Int.reduceAdd, hw] <;> omega)
      · (simp (implicitDefEqProofs := false) (decide := true) only [go_sem, Nat.reduceAdd, Nat.reduceMul, Nat.reduceSub, Int.reduceToNat, mpE_nil, Int.natCast_zero, List.replicate_zero, List.length_take, List.length_drop, AVal.own.injEq, reduceCtorEq, Int.reduceAdd, hw] <;> omega)
  · obtain rfl := for_nil hJ0 (fun hl => by have := of_decide_eq_false hc; omega)
    have h := on_next hO0; try dsimp only at h
    have hkl : k0 = m.Runs.length := by have := of_decide_eq_false hc; omega
    subst hkl
    refine AWP.exit ?_
    refine qthen_exit ?_
    refine qthen_exit ?_
    refine qblock_same ?_
    refine qthen_normal ?_
    refine AWP.seq ?_
    refine AWP.region rfl ?_; intro K hK
    (try simp (implicitDefEqProofs := false) (decide := true) only [go_sem, Nat.reduceAdd, Nat.reduceMul, Nat.reduceSub, Int.reduceToNat])
    refine hK _ _ ?_; clear hK K
    refine qthen_normal ?_
    refine AWP.ret ?_
    obtain rfl := some_eq h
    simp (implicitDefEqProofs := false) (decide := true) only [go_sem, Nat.reduceAdd, Nat.reduceMul, Nat.reduceSub, Int.reduceToNat, mpE_nil, Int.natCast_zero, List.replicate_zero, List.length_take, List.length_drop, AVal.own.injEq, reduceCtorEq, Int.reduceAdd, nle2, nle1, nle0, nleA, nleL, Try.results19]

def terrain_Vertical (m : ApiMap) (lift : Int) : Option (Int) :=
  (terrain_Lift m lift).bind fun y1 => (bif (!y1.2) then some (0 : Int) else (terrain_Node m y1.1.To).bind fun y2 => (terrain_Node m y1.1.From).bind fun y3 => some (IntKind.i64.wrap (y2.1.Alt - y3.1.Alt)))

theorem terrain_Vertical_spec (m : ApiMap) (lift : Int) {r : Int} (h : terrain_Vertical m lift = some r) : PureFn Try.prog 21 [.agg (encApiMap m), .int .i64 lift] (· = .int .i64 r) := by
  refine PureFn.nle (PureFn.intro Try.func21 rfl rfl (by show _ ≤ 38; simp) ?_)
  unfold terrain_Vertical at h
  (try simp (implicitDefEqProofs := false) (decide := true) only [go_sem, Nat.reduceAdd, Nat.reduceMul, Nat.reduceSub, Int.reduceToNat])
  refine AWP.seq ?_
  refine AWP.region rfl ?_; intro K hK
  (try simp (implicitDefEqProofs := false) (decide := true) only [go_sem, Nat.reduceAdd, Nat.reduceMul, Nat.reduceSub, Int.reduceToNat])
  refine hK _ _ ?_; clear hK K
  refine qthen_normal ?_
  refine AWP.seq ?_
  refine AWP.region rfl ?_; intro K hK
  (try simp (implicitDefEqProofs := false) (decide := true) only [go_sem, Nat.reduceAdd, Nat.reduceMul, Nat.reduceSub, Int.reduceToNat])
  obtain ⟨y1, hy1, h⟩ := bindE h
  refine ACall.pure Try.call17 (terrain_Lift_spec m lift hy1) rfl fun _ hr => ?_
  subst hr
  (try simp (implicitDefEqProofs := false) (decide := true) only [go_sem, Nat.reduceAdd, Nat.reduceMul, Nat.reduceSub, Int.reduceToNat])
  refine hK _ _ ?_; clear hK K
  refine qthen_normal ?_
  refine AWP.seq ?_
  refine AWP.seq ?_
  refine AWP.region rfl ?_; intro K hK
  (try simp (implicitDefEqProofs := false) (decide := true) only [go_sem, Nat.reduceAdd, Nat.reduceMul, Nat.reduceSub, Int.reduceToNat])
  refine hK _ _ ?_; clear hK K
  refine qthen_normal ?_
  refine AWP.cond (acond_split (fun hc => ?_) (fun hc => ?_))
  · replace h := bif_t h hc
    refine AWP.seq ?_
    refine AWP.region rfl ?_; intro K hK
    (try simp (implicitDefEqProofs := false) (decide := true) only [go_sem, Nat.reduceAdd, Nat.reduceMul, Nat.reduceSub, Int.reduceToNat])
    refine hK _ _ ?_; clear hK K
    refine qthen_normal ?_
    refine AWP.ret ?_
    refine qthen_ret ?_
    obtain rfl := some_eq h
    simp (implicitDefEqProofs := false) (decide := true) only [go_sem, Nat.reduceAdd, Nat.reduceMul, Nat.reduceSub, Int.reduceToNat, mpE_nil, Int.natCast_zero, List.replicate_zero, List.length_take, List.length_drop, AVal.own.injEq, reduceCtorEq, Int.reduceAdd, nle2, nle1, nle0, nleA, nleL, Try.results21]
  · replace h := bif_f h hc
    refine AWP.skip ?_
    refine qthen_normal ?_
    refine AWP.seq ?_
    refine AWP.region rfl ?_; intro K hK
    (try simp (implicitDefEqProofs := false) (decide := true) only [go_sem, Nat.reduceAdd, Nat.reduceMul, Nat.reduceSub, Int.reduceToNat])
    obtain ⟨y2, hy2, h⟩ := bindE h
    refine ACall.pure Try.call15 (terrain_Node_spec m y1.1.To hy2) rfl fun _ hr => ?_
    subst hr
    (try simp (implicitDefEqProofs := false) (decide := true) only [go_sem, Nat.reduceAdd, Nat.reduceMul, Nat.reduceSub, Int.reduceToNat])
    refine hK _ _ ?_; clear hK K
    refine qthen_normal ?_
    refine AWP.seq ?_
    refine AWP.region rfl ?_; intro K hK
    (try simp (implicitDefEqProofs := false) (decide := true) only [go_sem, Nat.reduceAdd, Nat.reduceMul, Nat.reduceSub, Int.reduceToNat])
    obtain ⟨y3, hy3, h⟩ := bindE h
    refine ACall.pure Try.call15 (terrain_Node_spec m y1.1.From hy3) rfl fun _ hr => ?_
    subst hr
    (try simp (implicitDefEqProofs := false) (decide := true) only [go_sem, Nat.reduceAdd, Nat.reduceMul, Nat.reduceSub, Int.reduceToNat])
    refine hK _ _ ?_; clear hK K
    refine qthen_normal ?_
    refine AWP.seq ?_
    refine AWP.region rfl ?_; intro K hK
    (try simp (implicitDefEqProofs := false) (decide := true) only [go_sem, Nat.reduceAdd, Nat.reduceMul, Nat.reduceSub, Int.reduceToNat])
    refine hK _ _ ?_; clear hK K
    refine qthen_normal ?_
    refine AWP.ret ?_
    obtain rfl := some_eq h
    simp (implicitDefEqProofs := false) (decide := true) only [go_sem, Nat.reduceAdd, Nat.reduceMul, Nat.reduceSub, Int.reduceToNat, mpE_nil, Int.natCast_zero, List.replicate_zero, List.length_take, List.length_drop, AVal.own.injEq, reduceCtorEq, Int.reduceAdd, nle2, nle1, nle0, nleA, nleL, Try.results21]

def ref10_SameInts_b1 (b : List Int) (k0 : Nat) (x_2 : Int) (sv : Unit) : Option (Out (Unit) (Bool)) :=
  (idxL b ((k0 : Nat) : Int)).bind fun x_3 => (bif (decide (x_2 ≠ x_3)) then some (Out.ret false) else some (Out.next ()))

def ref10_SameInts (a : List Int) (b : List Int) : Option (Bool) :=
  (bif (decide (((a.length : Nat) : Int) ≠ ((b.length : Nat) : Int))) then some false else (forIx (ref10_SameInts_b1 b) 0 a ()).bind fun o0 => o0.on fun s0 => some true)

theorem ref10_SameInts_spec (a : List Int) (b : List Int) {r : Bool} (h : ref10_SameInts a b = some r) : PureFn Try.prog 23 [.sl 1 (a.map intC), .sl 1 (b.map intC)] (· = .bool r) := by
  refine PureFn.nle (PureFn.intro Try.func23 rfl rfl (by show _ ≤ 26; simp) ?_)
  unfold ref10_SameInts at h
  (try simp (implicitDefEqProofs := false) (decide := true) only [go_sem, Nat.reduceAdd, Nat.reduceMul, Nat.reduceSub, Int.reduceToNat])
  refine AWP.seq ?_
  refine AWP.region rfl ?_; intro K hK
  (try simp (implicitDefEqProofs := false) (decide := true) only [go_sem, Nat.reduceAdd, Nat.reduceMul, Nat.reduceSub, Int.reduceToNat])
  refine hK _ _ ?_; clear hK K
  refine qthen_normal ?_
  refine AWP.seq ?_
  refine AWP.seq ?_
  refine AWP.region rfl ?_; intro K hK
  (try simp (implicitDefEqProofs := false) (decide := true) only [go_sem, Nat.reduceAdd, Nat.reduceMul, Nat.reduceSub, Int.reduceToNat])
  intro hm
  intro hm
  refine hK _ _ ?_; clear hK K
  refine qthen_normal ?_
  refine AWP.cond (acond_split (fun hc => ?_) (fun hc => ?_))
  · replace h := bif_t h hc
    refine AWP.seq ?_
    refine AWP.region rfl ?_; intro K hK
    (try simp (implicitDefEqProofs := false) (decide := true) only [go_sem, Nat.reduceAdd, Nat.reduceMul, Nat.reduceSub, Int.reduceToNat])
    refine hK _ _ ?_; clear hK K
    refine qthen_normal ?_
    refine AWP.ret ?_
    refine qthen_ret ?_
    obtain rfl := some_eq h
    simp (implicitDefEqProofs := false) (decide := true) only [go_sem, Nat.reduceAdd, Nat.reduceMul, Nat.reduceSub, Int.reduceToNat, mpE_nil, Int.natCast_zero, List.replicate_zero, List.length_take, List.length_drop, AVal.own.injEq, reduceCtorEq, Int.reduceAdd, nle2, nle1, nle0, nleA, nleL, Try.results23]
  · replace h := bif_f h hc
    refine AWP.skip ?_
    refine qthen_normal ?_
    refine AWP.seq ?_
    refine AWP.seq ?_
    refine AWP.region rfl ?_; intro K hK
    (try simp (implicitDefEqProofs := false) (decide := true) only [go_sem, Nat.reduceAdd, Nat.reduceMul, Nat.reduceSub, Int.reduceToNat])
    refine hK _ _ ?_; clear hK K
    refine qthen_normal ?_
    refine AWP.block ?_
    obtain ⟨o0, hJ0, hO0⟩ := bindE h
    clear h
    refine AWP.loopW (ι := Nat × (Unit) × (Unit)) (fun zz => [(0, .sl 1 (a.map intC)), (1, .sl 1 (b.map intC)), (5, .int .i64 ((zz.1 : Nat) : Int))]) (fun zz => []) (fun zz => zz.1 ≤ a.length ∧ forIx (ref10_SameInts_b1 b) zz.1 ((a).drop zz.1) zz.2.1 = some o0) (fun zz => a.length - zz.1) (0, (), ()) ⟨Nat.zero_le _, hJ0⟩ (by (simp (implicitDefEqProofs := false) (decide := true) only [go_sem, Nat.reduceAdd, Nat.reduceMul, Nat.reduceSub, Int.reduceToNat, mpE_nil, Int.natCast_zero, List.replicate_zero, List.length_take, List.length_drop, AVal.own.injEq, reduceCtorEq, Int.reduceAdd] <;> omega)) (by (simp (implicitDefEqProofs := false) (decide := true) only [go_sem, Nat.reduceAdd, Nat.reduceMul, Nat.reduceSub, Int.reduceToNat, mpE_nil, Int.natCast_zero, List.replicate_zero, List.length_take, List.length_drop, AVal.own.injEq, reduceCtorEq, Int.reduceAdd] <;> omega)) (fun x => ⟨rfl, rfl, rfl⟩) ?_
    clear hJ0
    rintro ⟨k0, ⟨⟩, ⟨⟩⟩ ⟨hk0, hJ0⟩
    dsimp only at hk0 hJ0 ⊢
    refine AWP.seq ?_
    refine AWP.seq ?_
    refine AWP.region rfl ?_; intro K hK
    (try simp (implicitDefEqProofs := false) (decide := true) only [go_sem, Nat.reduceAdd, Nat.reduceMul, Nat.reduceSub, Int.reduceToNat])
    intro hm
    refine hK _ _ ?_; clear hK K
    refine qthen_normal ?_
    refine AWP.cond (acond_split (fun hc => ?_) (fun hc => ?_))
    · have hlt0 : k0 < a.length := by have := of_decide_eq_true hc; omega
      obtain ⟨x_2, b0, hx0_, h, hJ0⟩ := for_cons hJ0 hlt0
      have hx0 := idxL_nat hx0_
      have hw : IntKind.i64.wrap (((k0 : Nat) : Int) + 1) = (((k0 : Nat) : Int) + (1 : Int)) := by rw [wrap_i64] <;> omega
      unfold ref10_SameInts_b1 at h; try dsimp only at h
      refine AWP.skip ?_
      refine qthen_normal ?_
      refine AWP.seq ?_
      refine AWP.block ?_
      refine AWP.seq ?_
      refine AWP.draw Try.mixed (by kernel_rfl) ?_; intro K hK
      (try simp (implicitDefEqProofs := false) (decide := true) only [go_sem, Nat.reduceAdd, Nat.reduceMul, Nat.reduceSub, Int.reduceToNat])
      refine AIdx.of (f := intC) (l := a) hx0 ?_
      (try simp (implicitDefEqProofs := false) (decide := true) only [go_sem, Nat.reduceAdd, Nat.reduceMul, Nat.reduceSub, Int.reduceToNat])
      obtain ⟨x_3, hx_3, h⟩ := bindE h
      refine AIdx.of (f := intC) (l := b) hx_3 ?_
      (try simp (implicitDefEqProofs := false) (decide := true) only [go_sem, Nat.reduceAdd, Nat.reduceMul, Nat.reduceSub, Int.reduceToNat])
      refine hK _ _ _ (by kernel_rfl) ?_; clear hK K
      refine qthen_normal ?_
      refine AWP.cond (acond_split (fun hc => ?_) (fun hc => ?_))
      · replace h := bif_t h hc
        refine AWP.seq ?_
        refine AWP.region rfl ?_; intro K hK
        (try simp (implicitDefEqProofs := false) (decide := true) only [go_sem, Nat.reduceAdd, Nat.reduceMul, Nat.reduceSub, Int.reduceToNat])
        refine hK _ _ ?_; clear hK K
        refine qthen_normal ?_
        refine AWP.ret ?_
        refine qblock_ret ?_
        refine qthen_ret ?_
        refine qthen_ret ?_
        obtain rfl := some_eq h
        obtain rfl := cont_ret hJ0
        replace h := on_ret hO0
        refine qblock_ret ?_
        refine qthen_ret ?_
        obtain rfl := some_eq h
        simp (implicitDefEqProofs := false) (decide := true) only [go_sem, Nat.reduceAdd, Nat.reduceMul, Nat.reduceSub, Int.reduceToNat, mpE_nil, Int.natCast_zero, List.replicate_zero, List.length_take, List.length_drop, AVal.own.injEq, reduceCtorEq, Int.reduceAdd, nle2, nle1, nle0, nleA, nleL, Try.results23]
      · replace h := bif_f h hc
        refine AWP.skip ?_
        refine qblock_normal ?_
        refine qthen_normal ?_
        refine AWP.region rfl ?_; intro K hK
        (try simp (implicitDefEqProofs := false) (decide := true) only [go_sem, Nat.reduceAdd, Nat.reduceMul, Nat.reduceSub, Int.reduceToNat])
        refine hK _ _ ?_; clear hK K
        refine qthen_normal ?_
        obtain rfl := some_eq h
        refine ⟨(k0 + 1, (), ()), ⟨by dsimp only; omega, cont_next hJ0⟩, by dsimp only; omega, ?_, ?_⟩
        · (simp (implicitDefEqProofs := false) (decide := true) only [go_sem, Nat.reduceAdd, Nat.reduceMul, Nat.reduceSub, Int.reduceToNat, mpE_nil, Int.natCast_zero, List.replicate_zero, List.length_take, List.length_drop, AVal.own.injEq, reduceCtorEq, Int.reduceAdd, hw] <;> omega)
        · (simp (implicitDefEqProofs := false) (decide := true) only [go_sem, Nat.reduceAdd, Nat.reduceMul, Nat.reduceSub, Int.reduceToNat, mpE_nil, Int.natCast_zero, List.replicate_zero, List.length_take, List.length_drop, AVal.own.injEq, reduceCtorEq, Int.reduceAdd, hw] <;> omega)
    · obtain rfl := for_nil hJ0 (fun hl => by have := of_decide_eq_false hc; omega)
      have h := on_next hO0; try dsimp only at h
      have hkl : k0 = a.length := by have := of_decide_eq_false hc; omega
      subst hkl
      refine AWP.exit ?_
      refine qthen_exit ?_
      refine qthen_exit ?_
      refine qblock_same ?_
      refine qthen_normal ?_
      refine AWP.seq ?_
      refine AWP.region rfl ?_; intro K hK
      (try simp (implicitDefEqProofs := false) (decide := true) only [go_sem, Nat.reduceAdd, Nat.reduceMul, Nat.reduceSub, Int.reduceToNat])
      refine hK _ _ ?_; clear hK K
      refine qthen_normal ?_
      refine AWP.ret ?_
      obtain rfl := some_eq h
      simp (implicitDefEqProofs := false) (decide := true) only [go_sem, Nat.reduceAdd, Nat.reduceMul, Nat.reduceSub, Int.reduceToNat, mpE_nil, Int.natCast_zero, List.replicate_zero, List.length_take, List.length_drop, AVal.own.injEq, reduceCtorEq, Int.reduceAdd, nle2, nle1, nle0, nleA, nleL, Try.results23]

def terrain_Runs_b1 (zone : Int) (k2 : Nat) (x_4 : ApiRun) (sv : (List Int)) : Option (Out ((List Int)) ((List Int))) :=
  (bif (decide (x_4.Zone = zone)) then chk (sv.length + 1) (some (Out.next (sv ++ [x_4.ID]))) else some (Out.next sv))

def terrain_Runs (m : ApiMap) (zone : Int) : Option ((List Int)) :=
  (forIx (terrain_Runs_b1 zone) 0 m.Runs []).bind fun o2 => o2.on fun s2 => some s2

theorem terrain_Runs_spec (m : ApiMap) (zone : Int) {r : (List Int)} (h : terrain_Runs m zone = some r) : PureFn Try.prog 24 [.agg (encApiMap m), .int .i64 zone] (· = .sl 1 (r.map intC)) := by
  refine PureFn.nle (PureFn.intro Try.func24 rfl rfl (by show _ ≤ 26; simp) ?_)
  unfold terrain_Runs at h
  (try simp (implicitDefEqProofs := false) (decide := true) only [go_sem, Nat.reduceAdd, Nat.reduceMul, Nat.reduceSub, Int.reduceToNat])
  refine AWP.seq ?_
  refine AWP.region rfl ?_; intro K hK
  (try simp (implicitDefEqProofs := false) (decide := true) only [go_sem, Nat.reduceAdd, Nat.reduceMul, Nat.reduceSub, Int.reduceToNat])
  refine hK _ _ ?_; clear hK K
  refine qthen_normal ?_
  refine AWP.seq ?_
  refine AWP.region rfl ?_; intro K hK
  (try simp (implicitDefEqProofs := false) (decide := true) only [go_sem, Nat.reduceAdd, Nat.reduceMul, Nat.reduceSub, Int.reduceToNat])
  refine hK _ _ ?_; clear hK K
  refine qthen_normal ?_
  refine AWP.seq ?_
  refine AWP.seq ?_
  refine AWP.region rfl ?_; intro K hK
  (try simp (implicitDefEqProofs := false) (decide := true) only [go_sem, Nat.reduceAdd, Nat.reduceMul, Nat.reduceSub, Int.reduceToNat])
  intro hm
  refine hK _ _ ?_; clear hK K
  refine qthen_normal ?_
  refine AWP.block ?_
  refine AWP.ghost 5 1 rfl (by decide) ?_
  obtain ⟨o2, hJ2, hO2⟩ := bindE h
  clear h
  refine AWP.loopW (ι := Nat × ((List Int)) × (Nat)) (fun zz => [(1, .int .i64 zone), (5, .own 1 zz.2.2 0 zz.2.1.length), (9, .sl 7 (m.Runs.map encApiRun)), (10, .int .i64 ((m.Runs.length : Nat) : Int)), (11, .int .i64 ((zz.1 : Nat) : Int))]) (fun zz => [.gone, .row zz.2.2 1 (zz.2.1.map intC)]) (fun zz => zz.1 ≤ m.Runs.length ∧ forIx (terrain_Runs_b1 zone) zz.1 ((m.Runs).drop zz.1) zz.2.1 = some o2) (fun zz => m.Runs.length - zz.1) (0, [], 0) ⟨Nat.zero_le _, hJ2⟩ (by (simp (implicitDefEqProofs := false) (decide := true) only [go_sem, Nat.reduceAdd, Nat.reduceMul, Nat.reduceSub, Int.reduceToNat, mpE_nil, Int.natCast_zero, List.replicate_zero, List.length_take, List.length_drop, AVal.own.injEq, reduceCtorEq, Int.reduceAdd] <;> omega)) (by (simp (implicitDefEqProofs := false) (decide := true) only [go_sem, Nat.reduceAdd, Nat.reduceMul, Nat.reduceSub, Int.reduceToNat, mpE_nil, Int.natCast_zero, List.replicate_zero, List.length_take, List.length_drop, AVal.own.injEq, reduceCtorEq, Int.reduceAdd] <;> omega)) (fun x => ⟨rfl, rfl, rfl⟩) ?_
  clear hJ2
  rintro ⟨k2, out1, ver2⟩ ⟨hk2, hJ2⟩
  dsimp only at hk2 hJ2 ⊢
  refine AWP.seq ?_
  refine AWP.region rfl ?_; intro K hK
  (try simp (implicitDefEqProofs := false) (decide := true) only [go_sem, Nat.reduceAdd, Nat.reduceMul, Nat.reduceSub, Int.reduceToNat])
  refine hK _ _ ?_; clear hK K
  refine qthen_normal ?_
  refine AWP.seq ?_
  refine AWP.cond (acond_split (fun hc => ?_) (fun hc => ?_))
  · have hlt2 : k2 < m.Runs.length := by have := of_decide_eq_true hc; omega
    obtain ⟨x_4, b2, hx2_, h, hJ2⟩ := for_cons hJ2 hlt2
    have hx2 := idxL_nat hx2_
    have hw : IntKind.i64.wrap (((k2 : Nat) : Int) + 1) = (((k2 : Nat) : Int) + (1 : Int)) := by rw [wrap_i64] <;> omega
    unfold terrain_Runs_b1 at h; try dsimp only at h
    refine AWP.skip ?_
    refine qthen_normal ?_
    refine AWP.seq ?_
    refine AWP.block ?_
    refine AWP.seq ?_
    refine AWP.region rfl ?_; intro K hK
    (try simp (implicitDefEqProofs := false) (decide := true) only [go_sem, Nat.reduceAdd, Nat.reduceMul, Nat.reduceSub, Int.reduceToNat])
    refine AIdx.of (f := encApiRun) (l := m.Runs) hx2 ?_
    (try simp (implicitDefEqProofs := false) (decide := true) only [go_sem, Nat.reduceAdd, Nat.reduceMul, Nat.reduceSub, Int.reduceToNat])
    refine hK _ _ ?_; clear hK K
    refine qthen_normal ?_
    refine AWP.seq ?_
    refine AWP.region rfl ?_; intro K hK
    (try simp (implicitDefEqProofs := false) (decide := true) only [go_sem, Nat.reduceAdd, Nat.reduceMul, Nat.reduceSub, Int.reduceToNat])
    refine hK _ _ ?_; clear hK K
    refine qthen_normal ?_
    refine AWP.cond (acond_split (fun hc => ?_) (fun hc => ?_))
    · replace h := bif_t h hc
      refine AWP.region rfl ?_; intro K hK
      (try simp (implicitDefEqProofs := false) (decide := true) only [go_sem, Nat.reduceAdd, Nat.reduceMul, Nat.reduceSub, Int.reduceToNat])
      obtain ⟨hk, h⟩ := chk_in h
      (repeat (refine ⟨by first | omega | (simp only [List.length_take, List.length_drop, List.length_append]; omega), ?_⟩)); try simp (implicitDefEqProofs := false) (decide := true) only [go_sem, Nat.reduceAdd, Nat.reduceMul, Nat.reduceSub, Int.reduceToNat]
      refine hK _ _ ?_; clear hK K
      refine qblock_normal ?_
      refine qthen_normal ?_
      refine AWP.region rfl ?_; intro K hK
      (try simp (implicitDefEqProofs := false) (decide := true) only [go_sem, Nat.reduceAdd, Nat.reduceMul, Nat.reduceSub, Int.reduceToNat])
      refine hK _ _ ?_; clear hK K
      refine qthen_normal ?_
      obtain rfl := some_eq h
      refine ⟨(k2 + 1, (out1 ++ [x_4.ID]), (ver2 + 1)), ⟨by dsimp only; omega, cont_next hJ2⟩, by dsimp only; omega, ?_, ?_⟩
      · (simp (implicitDefEqProofs := false) (decide := true) only [go_sem, Nat.reduceAdd, Nat.reduceMul, Nat.reduceSub, Int.reduceToNat, mpE_nil, Int.natCast_zero, List.replicate_zero, List.length_take, List.length_drop, AVal.own.injEq, reduceCtorEq, Int.reduceAdd, hw] <;> omega)
      · (simp (implicitDefEqProofs := false) (decide := true) only [go_sem, Nat.reduceAdd, Nat.reduceMul, Nat.reduceSub, Int.reduceToNat, mpE_nil, Int.natCast_zero, List.replicate_zero, List.length_take, List.length_drop, AVal.own.injEq, reduceCtorEq, Int.reduceAdd, hw] <;> omega)
    · replace h := bif_f h hc
      refine AWP.skip ?_
      refine qblock_normal ?_
      refine qthen_normal ?_
      refine AWP.region rfl ?_; intro K hK
      (try simp (implicitDefEqProofs := false) (decide := true) only [go_sem, Nat.reduceAdd, Nat.reduceMul, Nat.reduceSub, Int.reduceToNat])
      refine hK _ _ ?_; clear hK K
      refine qthen_normal ?_
      obtain rfl := some_eq h
      refine ⟨(k2 + 1, out1, ver2), ⟨by dsimp only; omega, cont_next hJ2⟩, by dsimp only; omega, ?_, ?_⟩
      · (simp (implicitDefEqProofs := false) (decide := true) only [go_sem, Nat.reduceAdd, Nat.reduceMul, Nat.reduceSub, Int.reduceToNat, mpE_nil, Int.natCast_zero, List.replicate_zero, List.length_take, List.length_drop, AVal.own.injEq, reduceCtorEq, Int.reduceAdd, hw] <;> omega)
      · (simp (implicitDefEqProofs := false) (decide := true) only [go_sem, Nat.reduceAdd, Nat.reduceMul, Nat.reduceSub, Int.reduceToNat, mpE_nil, Int.natCast_zero, List.replicate_zero, List.length_take, List.length_drop, AVal.own.injEq, reduceCtorEq, Int.reduceAdd, hw] <;> omega)
  · obtain rfl := for_nil hJ2 (fun hl => by have := of_decide_eq_false hc; omega)
    have h := on_next hO2; try dsimp only at h
    have hkl : k2 = m.Runs.length := by have := of_decide_eq_false hc; omega
    subst hkl
    refine AWP.exit ?_
    refine qthen_exit ?_
    refine qthen_exit ?_
    refine qblock_same ?_
    refine qthen_normal ?_
    refine AWP.seq ?_
    refine AWP.region rfl ?_; intro K hK
    (try simp (implicitDefEqProofs := false) (decide := true) only [go_sem, Nat.reduceAdd, Nat.reduceMul, Nat.reduceSub, Int.reduceToNat])
    refine hK _ _ ?_; clear hK K
    refine qthen_normal ?_
    refine AWP.ret ?_
    obtain rfl := some_eq h
    simp (implicitDefEqProofs := false) (decide := true) only [go_sem, Nat.reduceAdd, Nat.reduceMul, Nat.reduceSub, Int.reduceToNat, mpE_nil, Int.natCast_zero, List.replicate_zero, List.length_take, List.length_drop, AVal.own.injEq, reduceCtorEq, Int.reduceAdd, nle2, nle1, nle0, nleA, nleL, Try.results24]

def ref10_SameEdges_b1 (b : List ApiEdge) (k0 : Nat) (x_2 : ApiEdge) (sv : Unit) : Option (Out (Unit) (Bool)) :=
  (idxL b ((k0 : Nat) : Int)).bind fun x_3 => (bif (!((decide (x_2.ID = x_3.ID)) && ((decide (x_2.From = x_3.From)) && ((decide (x_2.To = x_3.To)) && (decide (x_2.Cost = x_3.Cost)))))) then some (Out.ret false) else some (Out.next ()))

def ref10_SameEdges (a : List ApiEdge) (b : List ApiEdge) : Option (Bool) :=
  (bif (decide (((a.length : Nat) : Int) ≠ ((b.length : Nat) : Int))) then some false else (forIx (ref10_SameEdges_b1 b) 0 a ()).bind fun o0 => o0.on fun s0 => some true)

theorem ref10_SameEdges_spec (a : List ApiEdge) (b : List ApiEdge) {r : Bool} (h : ref10_SameEdges a b = some r) : PureFn Try.prog 26 [.sl 4 (a.map encApiEdge), .sl 4 (b.map encApiEdge)] (· = .bool r) := by
  refine PureFn.nle (PureFn.intro Try.func26 rfl rfl (by show _ ≤ 26; simp) ?_)
  unfold ref10_SameEdges at h
  (try simp (implicitDefEqProofs := false) (decide := true) only [go_sem, Nat.reduceAdd, Nat.reduceMul, Nat.reduceSub, Int.reduceToNat])
  refine AWP.seq ?_
  refine AWP.region rfl ?_; intro K hK
  (try simp (implicitDefEqProofs := false) (decide := true) only [go_sem, Nat.reduceAdd, Nat.reduceMul, Nat.reduceSub, Int.reduceToNat])
  refine hK _ _ ?_; clear hK K
  refine qthen_normal ?_
  refine AWP.seq ?_
  refine AWP.seq ?_
  refine AWP.region rfl ?_; intro K hK
  (try simp (implicitDefEqProofs := false) (decide := true) only [go_sem, Nat.reduceAdd, Nat.reduceMul, Nat.reduceSub, Int.reduceToNat])
  intro hm
  intro hm
  refine hK _ _ ?_; clear hK K
  refine qthen_normal ?_
  refine AWP.cond (acond_split (fun hc => ?_) (fun hc => ?_))
  · replace h := bif_t h hc
    refine AWP.seq ?_
    refine AWP.region rfl ?_; intro K hK
    (try simp (implicitDefEqProofs := false) (decide := true) only [go_sem, Nat.reduceAdd, Nat.reduceMul, Nat.reduceSub, Int.reduceToNat])
    refine hK _ _ ?_; clear hK K
    refine qthen_normal ?_
    refine AWP.ret ?_
    refine qthen_ret ?_
    obtain rfl := some_eq h
    simp (implicitDefEqProofs := false) (decide := true) only [go_sem, Nat.reduceAdd, Nat.reduceMul, Nat.reduceSub, Int.reduceToNat, mpE_nil, Int.natCast_zero, List.replicate_zero, List.length_take, List.length_drop, AVal.own.injEq, reduceCtorEq, Int.reduceAdd, nle2, nle1, nle0, nleA, nleL, Try.results26]
  · replace h := bif_f h hc
    refine AWP.skip ?_
    refine qthen_normal ?_
    refine AWP.seq ?_
    refine AWP.seq ?_
    refine AWP.region rfl ?_; intro K hK
    (try simp (implicitDefEqProofs := false) (decide := true) only [go_sem, Nat.reduceAdd, Nat.reduceMul, Nat.reduceSub, Int.reduceToNat])
    refine hK _ _ ?_; clear hK K
    refine qthen_normal ?_
    refine AWP.block ?_
    obtain ⟨o0, hJ0, hO0⟩ := bindE h
    clear h
    refine AWP.loopW (ι := Nat × (Unit) × (Unit)) (fun zz => [(0, .sl 4 (a.map encApiEdge)), (1, .sl 4 (b.map encApiEdge)), (5, .int .i64 ((zz.1 : Nat) : Int))]) (fun zz => []) (fun zz => zz.1 ≤ a.length ∧ forIx (ref10_SameEdges_b1 b) zz.1 ((a).drop zz.1) zz.2.1 = some o0) (fun zz => a.length - zz.1) (0, (), ()) ⟨Nat.zero_le _, hJ0⟩ (by (simp (implicitDefEqProofs := false) (decide := true) only [go_sem, Nat.reduceAdd, Nat.reduceMul, Nat.reduceSub, Int.reduceToNat, mpE_nil, Int.natCast_zero, List.replicate_zero, List.length_take, List.length_drop, AVal.own.injEq, reduceCtorEq, Int.reduceAdd] <;> omega)) (by (simp (implicitDefEqProofs := false) (decide := true) only [go_sem, Nat.reduceAdd, Nat.reduceMul, Nat.reduceSub, Int.reduceToNat, mpE_nil, Int.natCast_zero, List.replicate_zero, List.length_take, List.length_drop, AVal.own.injEq, reduceCtorEq, Int.reduceAdd] <;> omega)) (fun x => ⟨rfl, rfl, rfl⟩) ?_
    clear hJ0
    rintro ⟨k0, ⟨⟩, ⟨⟩⟩ ⟨hk0, hJ0⟩
    dsimp only at hk0 hJ0 ⊢
    refine AWP.seq ?_
    refine AWP.seq ?_
    refine AWP.region rfl ?_; intro K hK
    (try simp (implicitDefEqProofs := false) (decide := true) only [go_sem, Nat.reduceAdd, Nat.reduceMul, Nat.reduceSub, Int.reduceToNat])
    intro hm
    refine hK _ _ ?_; clear hK K
    refine qthen_normal ?_
    refine AWP.cond (acond_split (fun hc => ?_) (fun hc => ?_))
    · have hlt0 : k0 < a.length := by have := of_decide_eq_true hc; omega
      obtain ⟨x_2, b0, hx0_, h, hJ0⟩ := for_cons hJ0 hlt0
      have hx0 := idxL_nat hx0_
      have hw : IntKind.i64.wrap (((k0 : Nat) : Int) + 1) = (((k0 : Nat) : Int) + (1 : Int)) := by rw [wrap_i64] <;> omega
      unfold ref10_SameEdges_b1 at h; try dsimp only at h
      refine AWP.skip ?_
      refine qthen_normal ?_
      refine AWP.seq ?_
      refine AWP.block ?_
      refine AWP.seq ?_
      refine AWP.draw Try.mixed (by kernel_rfl) ?_; intro K hK
      (try simp (implicitDefEqProofs := false) (decide := true) only [go_sem, Nat.reduceAdd, Nat.reduceMul, Nat.reduceSub, Int.reduceToNat])
      refine AIdx.of (f := encApiEdge) (l := a) hx0 ?_
      (try simp (implicitDefEqProofs := false) (decide := true) only [go_sem, Nat.reduceAdd, Nat.reduceMul, Nat.reduceSub, Int.reduceToNat])
      obtain ⟨x_3, hx_3, h⟩ := bindE h
      refine AIdx.of (f := encApiEdge) (l := b) hx_3 ?_
      (try simp (implicitDefEqProofs := false) (decide := true) only [go_sem, Nat.reduceAdd, Nat.reduceMul, Nat.reduceSub, Int.reduceToNat])
      refine hK _ _ _ (by kernel_rfl) ?_; clear hK K
      refine qthen_normal ?_
      refine AWP.cond (acond_split (fun hc => ?_) (fun hc => ?_))
      · replace h := bif_t h hc
        refine AWP.seq ?_
        refine AWP.region rfl ?_; intro K hK
        (try simp (implicitDefEqProofs := false) (decide := true) only [go_sem, Nat.reduceAdd, Nat.reduceMul, Nat.reduceSub, Int.reduceToNat])
        refine hK _ _ ?_; clear hK K
        refine qthen_normal ?_
        refine AWP.ret ?_
        refine qblock_ret ?_
        refine qthen_ret ?_
        refine qthen_ret ?_
        obtain rfl := some_eq h
        obtain rfl := cont_ret hJ0
        replace h := on_ret hO0
        refine qblock_ret ?_
        refine qthen_ret ?_
        obtain rfl := some_eq h
        simp (implicitDefEqProofs := false) (decide := true) only [go_sem, Nat.reduceAdd, Nat.reduceMul, Nat.reduceSub, Int.reduceToNat, mpE_nil, Int.natCast_zero, List.replicate_zero, List.length_take, List.length_drop, AVal.own.injEq, reduceCtorEq, Int.reduceAdd, nle2, nle1, nle0, nleA, nleL, Try.results26]
      · replace h := bif_f h hc
        refine AWP.skip ?_
        refine qblock_normal ?_
        refine qthen_normal ?_
        refine AWP.region rfl ?_; intro K hK
        (try simp (implicitDefEqProofs := false) (decide := true) only [go_sem, Nat.reduceAdd, Nat.reduceMul, Nat.reduceSub, Int.reduceToNat])
        refine hK _ _ ?_; clear hK K
        refine qthen_normal ?_
        obtain rfl := some_eq h
        refine ⟨(k0 + 1, (), ()), ⟨by dsimp only; omega, cont_next hJ0⟩, by dsimp only; omega, ?_, ?_⟩
        · (simp (implicitDefEqProofs := false) (decide := true) only [go_sem, Nat.reduceAdd, Nat.reduceMul, Nat.reduceSub, Int.reduceToNat, mpE_nil, Int.natCast_zero, List.replicate_zero, List.length_take, List.length_drop, AVal.own.injEq, reduceCtorEq, Int.reduceAdd, hw] <;> omega)
        · (simp (implicitDefEqProofs := false) (decide := true) only [go_sem, Nat.reduceAdd, Nat.reduceMul, Nat.reduceSub, Int.reduceToNat, mpE_nil, Int.natCast_zero, List.replicate_zero, List.length_take, List.length_drop, AVal.own.injEq, reduceCtorEq, Int.reduceAdd, hw] <;> omega)
    · obtain rfl := for_nil hJ0 (fun hl => by have := of_decide_eq_false hc; omega)
      have h := on_next hO0; try dsimp only at h
      have hkl : k0 = a.length := by have := of_decide_eq_false hc; omega
      subst hkl
      refine AWP.exit ?_
      refine qthen_exit ?_
      refine qthen_exit ?_
      refine qblock_same ?_
      refine qthen_normal ?_
      refine AWP.seq ?_
      refine AWP.region rfl ?_; intro K hK
      (try simp (implicitDefEqProofs := false) (decide := true) only [go_sem, Nat.reduceAdd, Nat.reduceMul, Nat.reduceSub, Int.reduceToNat])
      refine hK _ _ ?_; clear hK K
      refine qthen_normal ?_
      refine AWP.ret ?_
      obtain rfl := some_eq h
      simp (implicitDefEqProofs := false) (decide := true) only [go_sem, Nat.reduceAdd, Nat.reduceMul, Nat.reduceSub, Int.reduceToNat, mpE_nil, Int.natCast_zero, List.replicate_zero, List.length_take, List.length_drop, AVal.own.injEq, reduceCtorEq, Int.reduceAdd, nle2, nle1, nle0, nleA, nleL, Try.results26]

def slices_Index_sint_int_b1 (v : Int) (k0 : Nat) (x_2 : Int) (sv : Unit) : Option (Out (Unit) (Int)) :=
  (bif (decide (v = x_2)) then some (Out.ret ((k0 : Nat) : Int)) else some (Out.next ()))

def slices_Index_sint_int (s_ : List Int) (v : Int) : Option (Int) :=
  (forIx (slices_Index_sint_int_b1 v) 0 s_ ()).bind fun o0 => o0.on fun s0 => some (-1 : Int)

theorem slices_Index_sint_int_spec (s_ : List Int) (v : Int) {r : Int} (h : slices_Index_sint_int s_ v = some r) : PureFn Try.prog 51 [.sl 1 (s_.map intC), .int .i64 v] (· = .int .i64 r) := by
  refine PureFn.nle (PureFn.intro Try.func51 rfl rfl (by show _ ≤ 19; simp) ?_)
  unfold slices_Index_sint_int at h
  (try simp (implicitDefEqProofs := false) (decide := true) only [go_sem, Nat.reduceAdd, Nat.reduceMul, Nat.reduceSub, Int.reduceToNat])
  refine AWP.seq ?_
  refine AWP.region rfl ?_; intro K hK
  (try simp (implicitDefEqProofs := false) (decide := true) only [go_sem, Nat.reduceAdd, Nat.reduceMul, Nat.reduceSub, Int.reduceToNat])
  refine hK _ _ ?_; clear hK K
  refine qthen_normal ?_
  refine AWP.seq ?_
  refine AWP.seq ?_
  refine AWP.region rfl ?_; intro K hK
  (try simp (implicitDefEqProofs := false) (decide := true) only [go_sem, Nat.reduceAdd, Nat.reduceMul, Nat.reduceSub, Int.reduceToNat])
  intro hm
  refine hK _ _ ?_; clear hK K
  refine qthen_normal ?_
  refine AWP.block ?_
  obtain ⟨o0, hJ0, hO0⟩ := bindE h
  clear h
  refine AWP.loopW (ι := Nat × (Unit) × (Unit)) (fun zz => [(0, .sl 1 (s_.map intC)), (1, .int .i64 v), (7, .int .i64 ((s_.length : Nat) : Int)), (8, .int .i64 ((zz.1 : Nat) : Int))]) (fun zz => []) (fun zz => zz.1 ≤ s_.length ∧ forIx (slices_Index_sint_int_b1 v) zz.1 ((s_).drop zz.1) zz.2.1 = some o0) (fun zz => s_.length - zz.1) (0, (), ()) ⟨Nat.zero_le _, hJ0⟩ (by (simp (implicitDefEqProofs := false) (decide := true) only [go_sem, Nat.reduceAdd, Nat.reduceMul, Nat.reduceSub, Int.reduceToNat, mpE_nil, Int.natCast_zero, List.replicate_zero, List.length_take, List.length_drop, AVal.own.injEq, reduceCtorEq, Int.reduceAdd] <;> omega)) (by (simp (implicitDefEqProofs := false) (decide := true) only [go_sem, Nat.reduceAdd, Nat.reduceMul, Nat.reduceSub, Int.reduceToNat, mpE_nil, Int.natCast_zero, List.replicate_zero, List.length_take, List.length_drop, AVal.own.injEq, reduceCtorEq, Int.reduceAdd] <;> omega)) (fun x => ⟨rfl, rfl, rfl⟩) ?_
  clear hJ0
  rintro ⟨k0, ⟨⟩, ⟨⟩⟩ ⟨hk0, hJ0⟩
  dsimp only at hk0 hJ0 ⊢
  refine AWP.seq ?_
  refine AWP.region rfl ?_; intro K hK
  (try simp (implicitDefEqProofs := false) (decide := true) only [go_sem, Nat.reduceAdd, Nat.reduceMul, Nat.reduceSub, Int.reduceToNat])
  refine hK _ _ ?_; clear hK K
  refine qthen_normal ?_
  refine AWP.seq ?_
  refine AWP.cond (acond_split (fun hc => ?_) (fun hc => ?_))
  · have hlt0 : k0 < s_.length := by have := of_decide_eq_true hc; omega
    obtain ⟨x_2, b0, hx0_, h, hJ0⟩ := for_cons hJ0 hlt0
    have hx0 := idxL_nat hx0_
    have hw : IntKind.i64.wrap (((k0 : Nat) : Int) + 1) = (((k0 : Nat) : Int) + (1 : Int)) := by rw [wrap_i64] <;> omega
    unfold slices_Index_sint_int_b1 at h; try dsimp only at h
    refine AWP.skip ?_
    refine qthen_normal ?_
    refine AWP.seq ?_
    refine AWP.block ?_
    refine AWP.seq ?_
    refine AWP.region rfl ?_; intro K hK
    (try simp (implicitDefEqProofs := false) (decide := true) only [go_sem, Nat.reduceAdd, Nat.reduceMul, Nat.reduceSub, Int.reduceToNat])
    refine hK _ _ ?_; clear hK K
    refine qthen_normal ?_
    refine AWP.seq ?_
    refine AWP.region rfl ?_; intro K hK
    (try simp (implicitDefEqProofs := false) (decide := true) only [go_sem, Nat.reduceAdd, Nat.reduceMul, Nat.reduceSub, Int.reduceToNat])
    refine AIdx.of (f := intC) (l := s_) hx0 ?_
    (try simp (implicitDefEqProofs := false) (decide := true) only [go_sem, Nat.reduceAdd, Nat.reduceMul, Nat.reduceSub, Int.reduceToNat])
    refine hK _ _ ?_; clear hK K
    refine qthen_normal ?_
    refine AWP.cond (acond_split (fun hc => ?_) (fun hc => ?_))
    · replace h := bif_t h hc
      refine AWP.seq ?_
      refine AWP.region rfl ?_; intro K hK
      (try simp (implicitDefEqProofs := false) (decide := true) only [go_sem, Nat.reduceAdd, Nat.reduceMul, Nat.reduceSub, Int.reduceToNat])
      refine hK _ _ ?_; clear hK K
      refine qthen_normal ?_
      refine AWP.ret ?_
      refine qblock_ret ?_
      refine qthen_ret ?_
      refine qthen_ret ?_
      obtain rfl := some_eq h
      obtain rfl := cont_ret hJ0
      replace h := on_ret hO0
      refine qblock_ret ?_
      refine qthen_ret ?_
      obtain rfl := some_eq h
      simp (implicitDefEqProofs := false) (decide := true) only [go_sem, Nat.reduceAdd, Nat.reduceMul, Nat.reduceSub, Int.reduceToNat, mpE_nil, Int.natCast_zero, List.replicate_zero, List.length_take, List.length_drop, AVal.own.injEq, reduceCtorEq, Int.reduceAdd, nle2, nle1, nle0, nleA, nleL, Try.results51]
    · replace h := bif_f h hc
      refine AWP.skip ?_
      refine qblock_normal ?_
      refine qthen_normal ?_
      refine AWP.region rfl ?_; intro K hK
      (try simp (implicitDefEqProofs := false) (decide := true) only [go_sem, Nat.reduceAdd, Nat.reduceMul, Nat.reduceSub, Int.reduceToNat])
      refine hK _ _ ?_; clear hK K
      refine qthen_normal ?_
      obtain rfl := some_eq h
      refine ⟨(k0 + 1, (), ()), ⟨by dsimp only; omega, cont_next hJ0⟩, by dsimp only; omega, ?_, ?_⟩
      · (simp (implicitDefEqProofs := false) (decide := true) only [go_sem, Nat.reduceAdd, Nat.reduceMul, Nat.reduceSub, Int.reduceToNat, mpE_nil, Int.natCast_zero, List.replicate_zero, List.length_take, List.length_drop, AVal.own.injEq, reduceCtorEq, Int.reduceAdd, hw] <;> omega)
      · (simp (implicitDefEqProofs := false) (decide := true) only [go_sem, Nat.reduceAdd, Nat.reduceMul, Nat.reduceSub, Int.reduceToNat, mpE_nil, Int.natCast_zero, List.replicate_zero, List.length_take, List.length_drop, AVal.own.injEq, reduceCtorEq, Int.reduceAdd, hw] <;> omega)
  · obtain rfl := for_nil hJ0 (fun hl => by have := of_decide_eq_false hc; omega)
    have h := on_next hO0; try dsimp only at h
    have hkl : k0 = s_.length := by have := of_decide_eq_false hc; omega
    subst hkl
    refine AWP.exit ?_
    refine qthen_exit ?_
    refine qthen_exit ?_
    refine qblock_same ?_
    refine qthen_normal ?_
    refine AWP.seq ?_
    refine AWP.region rfl ?_; intro K hK
    (try simp (implicitDefEqProofs := false) (decide := true) only [go_sem, Nat.reduceAdd, Nat.reduceMul, Nat.reduceSub, Int.reduceToNat])
    refine hK _ _ ?_; clear hK K
    refine qthen_normal ?_
    refine AWP.ret ?_
    obtain rfl := some_eq h
    simp (implicitDefEqProofs := false) (decide := true) only [go_sem, Nat.reduceAdd, Nat.reduceMul, Nat.reduceSub, Int.reduceToNat, mpE_nil, Int.natCast_zero, List.replicate_zero, List.length_take, List.length_drop, AVal.own.injEq, reduceCtorEq, Int.reduceAdd, nle2, nle1, nle0, nleA, nleL, Try.results51]

def slices_Contains_sint_int (s_ : List Int) (v : Int) : Option (Bool) :=
  (slices_Index_sint_int s_ v).bind fun y1 => some (decide ((0 : Int) ≤ y1))

theorem slices_Contains_sint_int_spec (s_ : List Int) (v : Int) {r : Bool} (h : slices_Contains_sint_int s_ v = some r) : PureFn Try.prog 43 [.sl 1 (s_.map intC), .int .i64 v] (· = .bool r) := by
  refine PureFn.nle (PureFn.intro Try.func43 rfl rfl (by show _ ≤ 9; simp) ?_)
  unfold slices_Contains_sint_int at h
  (try simp (implicitDefEqProofs := false) (decide := true) only [go_sem, Nat.reduceAdd, Nat.reduceMul, Nat.reduceSub, Int.reduceToNat])
  refine AWP.seq ?_
  refine AWP.region rfl ?_; intro K hK
  (try simp (implicitDefEqProofs := false) (decide := true) only [go_sem, Nat.reduceAdd, Nat.reduceMul, Nat.reduceSub, Int.reduceToNat])
  refine hK _ _ ?_; clear hK K
  refine qthen_normal ?_
  refine AWP.seq ?_
  refine AWP.region rfl ?_; intro K hK
  (try simp (implicitDefEqProofs := false) (decide := true) only [go_sem, Nat.reduceAdd, Nat.reduceMul, Nat.reduceSub, Int.reduceToNat])
  obtain ⟨y1, hy1, h⟩ := bindE h
  refine ACall.pure Try.call51 (slices_Index_sint_int_spec s_ v hy1) rfl fun _ hr => ?_
  subst hr
  (try simp (implicitDefEqProofs := false) (decide := true) only [go_sem, Nat.reduceAdd, Nat.reduceMul, Nat.reduceSub, Int.reduceToNat])
  refine hK _ _ ?_; clear hK K
  refine qthen_normal ?_
  refine AWP.ret ?_
  obtain rfl := some_eq h
  simp (implicitDefEqProofs := false) (decide := true) only [go_sem, Nat.reduceAdd, Nat.reduceMul, Nat.reduceSub, Int.reduceToNat, mpE_nil, Int.natCast_zero, List.replicate_zero, List.length_take, List.length_drop, AVal.own.injEq, reduceCtorEq, Int.reduceAdd, nle2, nle1, nle0, nleA, nleL, Try.results43]

def terrain_Down_b1 (runs : List Int) (k2 : Nat) (x_4 : ApiRun) (sv : (List ApiEdge)) : Option (Out ((List ApiEdge)) ((List ApiEdge))) :=
  (slices_Contains_sint_int runs x_4.ID).bind fun y5 => (bif y5 then chk (sv.length + 1) (some (Out.next (sv ++ [(ApiEdge.mk x_4.ID x_4.From x_4.To x_4.Length)]))) else some (Out.next sv))

def terrain_Down (m : ApiMap) (runs : List Int) : Option ((List ApiEdge)) :=
  (forIx (terrain_Down_b1 runs) 0 m.Runs []).bind fun o2 => o2.on fun s2 => some s2

theorem terrain_Down_spec (m : ApiMap) (runs : List Int) {r : (List ApiEdge)} (h : terrain_Down m runs = some r) : PureFn Try.prog 27 [.agg (encApiMap m), .sl 1 (runs.map intC)] (· = .sl 4 (r.map encApiEdge)) := by
  refine PureFn.nle (PureFn.intro Try.func27 rfl rfl (by show _ ≤ 33; simp) ?_)
  unfold terrain_Down at h
  (try simp (implicitDefEqProofs := false) (decide := true) only [go_sem, Nat.reduceAdd, Nat.reduceMul, Nat.reduceSub, Int.reduceToNat])
  refine AWP.seq ?_
  refine AWP.region rfl ?_; intro K hK
  (try simp (implicitDefEqProofs := false) (decide := true) only [go_sem, Nat.reduceAdd, Nat.reduceMul, Nat.reduceSub, Int.reduceToNat])
  refine hK _ _ ?_; clear hK K
  refine qthen_normal ?_
  refine AWP.seq ?_
  refine AWP.region rfl ?_; intro K hK
  (try simp (implicitDefEqProofs := false) (decide := true) only [go_sem, Nat.reduceAdd, Nat.reduceMul, Nat.reduceSub, Int.reduceToNat])
  refine hK _ _ ?_; clear hK K
  refine qthen_normal ?_
  refine AWP.seq ?_
  refine AWP.seq ?_
  refine AWP.region rfl ?_; intro K hK
  (try simp (implicitDefEqProofs := false) (decide := true) only [go_sem, Nat.reduceAdd, Nat.reduceMul, Nat.reduceSub, Int.reduceToNat])
  intro hm
  refine hK _ _ ?_; clear hK K
  refine qthen_normal ?_
  refine AWP.block ?_
  refine AWP.ghost 5 4 rfl (by decide) ?_
  obtain ⟨o2, hJ2, hO2⟩ := bindE h
  clear h
  refine AWP.loopW (ι := Nat × ((List ApiEdge)) × (Nat)) (fun zz => [(1, .sl 1 (runs.map intC)), (5, .own 1 zz.2.2 0 zz.2.1.length), (9, .sl 7 (m.Runs.map encApiRun)), (10, .int .i64 ((m.Runs.length : Nat) : Int)), (11, .int .i64 ((zz.1 : Nat) : Int))]) (fun zz => [.gone, .row zz.2.2 4 (zz.2.1.map encApiEdge)]) (fun zz => zz.1 ≤ m.Runs.length ∧ forIx (terrain_Down_b1 runs) zz.1 ((m.Runs).drop zz.1) zz.2.1 = some o2) (fun zz => m.Runs.length - zz.1) (0, [], 0) ⟨Nat.zero_le _, hJ2⟩ (by (simp (implicitDefEqProofs := false) (decide := true) only [go_sem, Nat.reduceAdd, Nat.reduceMul, Nat.reduceSub, Int.reduceToNat, mpE_nil, Int.natCast_zero, List.replicate_zero, List.length_take, List.length_drop, AVal.own.injEq, reduceCtorEq, Int.reduceAdd] <;> omega)) (by (simp (implicitDefEqProofs := false) (decide := true) only [go_sem, Nat.reduceAdd, Nat.reduceMul, Nat.reduceSub, Int.reduceToNat, mpE_nil, Int.natCast_zero, List.replicate_zero, List.length_take, List.length_drop, AVal.own.injEq, reduceCtorEq, Int.reduceAdd] <;> omega)) (fun x => ⟨rfl, rfl, rfl⟩) ?_
  clear hJ2
  rintro ⟨k2, out1, ver2⟩ ⟨hk2, hJ2⟩
  dsimp only at hk2 hJ2 ⊢
  refine AWP.seq ?_
  refine AWP.region rfl ?_; intro K hK
  (try simp (implicitDefEqProofs := false) (decide := true) only [go_sem, Nat.reduceAdd, Nat.reduceMul, Nat.reduceSub, Int.reduceToNat])
  refine hK _ _ ?_; clear hK K
  refine qthen_normal ?_
  refine AWP.seq ?_
  refine AWP.cond (acond_split (fun hc => ?_) (fun hc => ?_))
  · have hlt2 : k2 < m.Runs.length := by have := of_decide_eq_true hc; omega
    obtain ⟨x_4, b2, hx2_, h, hJ2⟩ := for_cons hJ2 hlt2
    have hx2 := idxL_nat hx2_
    have hw : IntKind.i64.wrap (((k2 : Nat) : Int) + 1) = (((k2 : Nat) : Int) + (1 : Int)) := by rw [wrap_i64] <;> omega
    unfold terrain_Down_b1 at h; try dsimp only at h
    refine AWP.skip ?_
    refine qthen_normal ?_
    refine AWP.seq ?_
    refine AWP.block ?_
    refine AWP.seq ?_
    refine AWP.region rfl ?_; intro K hK
    (try simp (implicitDefEqProofs := false) (decide := true) only [go_sem, Nat.reduceAdd, Nat.reduceMul, Nat.reduceSub, Int.reduceToNat])
    refine AIdx.of (f := encApiRun) (l := m.Runs) hx2 ?_
    (try simp (implicitDefEqProofs := false) (decide := true) only [go_sem, Nat.reduceAdd, Nat.reduceMul, Nat.reduceSub, Int.reduceToNat])
    refine hK _ _ ?_; clear hK K
    refine qthen_normal ?_
    refine AWP.seq ?_
    refine AWP.region rfl ?_; intro K hK
    (try simp (implicitDefEqProofs := false) (decide := true) only [go_sem, Nat.reduceAdd, Nat.reduceMul, Nat.reduceSub, Int.reduceToNat])
    obtain ⟨y5, hy5, h⟩ := bindE h
    refine ACall.pure Try.call43 (slices_Contains_sint_int_spec runs x_4.ID hy5) rfl fun _ hr => ?_
    subst hr
    (try simp (implicitDefEqProofs := false) (decide := true) only [go_sem, Nat.reduceAdd, Nat.reduceMul, Nat.reduceSub, Int.reduceToNat])
    refine hK _ _ ?_; clear hK K
    refine qthen_normal ?_
    refine AWP.cond (acond_split (fun hc => ?_) (fun hc => ?_))
    · replace h := bif_t h hc
      refine AWP.region rfl ?_; intro K hK
      (try simp (implicitDefEqProofs := false) (decide := true) only [go_sem, Nat.reduceAdd, Nat.reduceMul, Nat.reduceSub, Int.reduceToNat])
      obtain ⟨hk, h⟩ := chk_in h
      (repeat (refine ⟨by first | omega | (simp only [List.length_take, List.length_drop, List.length_append]; omega), ?_⟩)); try simp (implicitDefEqProofs := false) (decide := true) only [go_sem, Nat.reduceAdd, Nat.reduceMul, Nat.reduceSub, Int.reduceToNat]
      refine hK _ _ ?_; clear hK K
      refine qblock_normal ?_
      refine qthen_normal ?_
      refine AWP.region rfl ?_; intro K hK
      (try simp (implicitDefEqProofs := false) (decide := true) only [go_sem, Nat.reduceAdd, Nat.reduceMul, Nat.reduceSub, Int.reduceToNat])
      refine hK _ _ ?_; clear hK K
      refine qthen_normal ?_
      obtain rfl := some_eq h
      refine ⟨(k2 + 1, (out1 ++ [(ApiEdge.mk x_4.ID x_4.From x_4.To x_4.Length)]), (ver2 + 1)), ⟨by dsimp only; omega, cont_next hJ2⟩, by dsimp only; omega, ?_, ?_⟩
      · (simp (implicitDefEqProofs := false) (decide := true) only [go_sem, Nat.reduceAdd, Nat.reduceMul, Nat.reduceSub, Int.reduceToNat, mpE_nil, Int.natCast_zero, List.replicate_zero, List.length_take, List.length_drop, AVal.own.injEq, reduceCtorEq, Int.reduceAdd, hw] <;> omega)
      · (simp (implicitDefEqProofs := false) (decide := true) only [go_sem, Nat.reduceAdd, Nat.reduceMul, Nat.reduceSub, Int.reduceToNat, mpE_nil, Int.natCast_zero, List.replicate_zero, List.length_take, List.length_drop, AVal.own.injEq, reduceCtorEq, Int.reduceAdd, hw] <;> omega)
    · replace h := bif_f h hc
      refine AWP.skip ?_
      refine qblock_normal ?_
      refine qthen_normal ?_
      refine AWP.region rfl ?_; intro K hK
      (try simp (implicitDefEqProofs := false) (decide := true) only [go_sem, Nat.reduceAdd, Nat.reduceMul, Nat.reduceSub, Int.reduceToNat])
      refine hK _ _ ?_; clear hK K
      refine qthen_normal ?_
      obtain rfl := some_eq h
      refine ⟨(k2 + 1, out1, ver2), ⟨by dsimp only; omega, cont_next hJ2⟩, by dsimp only; omega, ?_, ?_⟩
      · (simp (implicitDefEqProofs := false) (decide := true) only [go_sem, Nat.reduceAdd, Nat.reduceMul, Nat.reduceSub, Int.reduceToNat, mpE_nil, Int.natCast_zero, List.replicate_zero, List.length_take, List.length_drop, AVal.own.injEq, reduceCtorEq, Int.reduceAdd, hw] <;> omega)
      · (simp (implicitDefEqProofs := false) (decide := true) only [go_sem, Nat.reduceAdd, Nat.reduceMul, Nat.reduceSub, Int.reduceToNat, mpE_nil, Int.natCast_zero, List.replicate_zero, List.length_take, List.length_drop, AVal.own.injEq, reduceCtorEq, Int.reduceAdd, hw] <;> omega)
  · obtain rfl := for_nil hJ2 (fun hl => by have := of_decide_eq_false hc; omega)
    have h := on_next hO2; try dsimp only at h
    have hkl : k2 = m.Runs.length := by have := of_decide_eq_false hc; omega
    subst hkl
    refine AWP.exit ?_
    refine qthen_exit ?_
    refine qthen_exit ?_
    refine qblock_same ?_
    refine qthen_normal ?_
    refine AWP.seq ?_
    refine AWP.region rfl ?_; intro K hK
    (try simp (implicitDefEqProofs := false) (decide := true) only [go_sem, Nat.reduceAdd, Nat.reduceMul, Nat.reduceSub, Int.reduceToNat])
    refine hK _ _ ?_; clear hK K
    refine qthen_normal ?_
    refine AWP.ret ?_
    obtain rfl := some_eq h
    simp (implicitDefEqProofs := false) (decide := true) only [go_sem, Nat.reduceAdd, Nat.reduceMul, Nat.reduceSub, Int.reduceToNat, mpE_nil, Int.natCast_zero, List.replicate_zero, List.length_take, List.length_drop, AVal.own.injEq, reduceCtorEq, Int.reduceAdd, nle2, nle1, nle0, nleA, nleL, Try.results27]

end
end Go.Proofs.Ytifkiiglkglhlaa
