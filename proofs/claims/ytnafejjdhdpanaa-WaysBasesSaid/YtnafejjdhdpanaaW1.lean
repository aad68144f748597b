/-
  What functions of the program compute, as plain Lean functions, and the walks that prove it; printed by a small program of our own (wip/walk.py).
-/
import Derived.Test.YtnafejjdhdpanaaData
import Derived.Test.YtnafejjdhdpanaaLib
namespace Go.Proofs.Ytnafejjdhdpanaa
open Go Go.Ab
attribute [local irreducible] AWP ACall DCall PureFn Go.Ab.Sub alist dlist AIdx AElem ALook ANext
set_option maxRecDepth 100000
set_option maxHeartbeats 4000000
set_option linter.unusedSimpArgs false
set_option linter.unusedVariables false
noncomputable section
def law11_lift (id_ : Int) (from_ : Int) (to_ : Int) : Option (ApiLift) :=
  some (ApiLift.mk id_ (1 : Int) from_ to_ (1000 : Int) (5000 : Int) (4 : Int) (20 : Int))

theorem law11_lift_spec (id_ : Int) (from_ : Int) (to_ : Int) {r : ApiLift} (h : law11_lift id_ from_ to_ = some r) : PureFn Try.prog 52 [.int .i64 id_, .int .i64 from_, .int .i64 to_] (· = .agg (encApiLift r)) := by
  refine PureFn.nle (PureFn.intro Try.func52 rfl rfl (by show _ ≤ 11; simp) ?_)
  unfold law11_lift at h
  (try simp +decide -implicitDefEqProofs only [go_sem])
  refine AWP.seq ?_
  refine AWP.region rfl ?_; intro K hK
  (try simp +decide -implicitDefEqProofs only [go_sem])
  refine hK _ _ ?_; clear hK K
  refine qthen_normal ?_
  refine AWP.seq ?_
  refine AWP.region rfl ?_; intro K hK
  (try simp +decide -implicitDefEqProofs only [go_sem])
  refine hK _ _ ?_; clear hK K
  refine qthen_normal ?_
  refine AWP.ret ?_
  obtain rfl := some_eq h
  simp +decide -implicitDefEqProofs only [go_sem, mpE_nil, Int.natCast_zero, List.replicate_zero, List.length_take, List.length_drop, AVal.own.injEq, reduceCtorEq, Int.reduceAdd, nle2, nle1, nle0, nleA, nleL, Try.results52]

def law11_run (id_ : Int) (from_ : Int) (to_ : Int) (length : Int) : Option (ApiRun) :=
  some (ApiRun.mk id_ (1 : Int) from_ to_ (1 : Int) (1 : Int) length)

theorem law11_run_spec (id_ : Int) (from_ : Int) (to_ : Int) (length : Int) {r : ApiRun} (h : law11_run id_ from_ to_ length = some r) : PureFn Try.prog 53 [.int .i64 id_, .int .i64 from_, .int .i64 to_, .int .i64 length] (· = .agg (encApiRun r)) := by
  refine PureFn.nle (PureFn.intro Try.func53 rfl rfl (by show _ ≤ 14; simp) ?_)
  unfold law11_run at h
  (try simp +decide -implicitDefEqProofs only [go_sem])
  refine AWP.seq ?_
  refine AWP.region rfl ?_; intro K hK
  (try simp +decide -implicitDefEqProofs only [go_sem])
  refine hK _ _ ?_; clear hK K
  refine qthen_normal ?_
  refine AWP.seq ?_
  refine AWP.region rfl ?_; intro K hK
  (try simp +decide -implicitDefEqProofs only [go_sem])
  refine hK _ _ ?_; clear hK K
  refine qthen_normal ?_
  refine AWP.ret ?_
  obtain rfl := some_eq h
  simp +decide -implicitDefEqProofs only [go_sem, mpE_nil, Int.natCast_zero, List.replicate_zero, List.length_take, List.length_drop, AVal.own.injEq, reduceCtorEq, Int.reduceAdd, nle2, nle1, nle0, nleA, nleL, Try.results53]

def law11_sample : Option (ApiMap) :=
  (law11_lift (1 : Int) (1 : Int) (2 : Int)).bind fun y1 => (law11_lift (2 : Int) (2 : Int) (3 : Int)).bind fun y2 => (law11_run (11 : Int) (3 : Int) (2 : Int) (900 : Int)).bind fun y3 => (law11_run (12 : Int) (2 : Int) (1 : Int) (800 : Int)).bind fun y4 => (law11_run (13 : Int) (3 : Int) (1 : Int) (1700 : Int)).bind fun y5 => (law11_run (14 : Int) (3 : Int) (4 : Int) (700 : Int)).bind fun y6 => some (ApiMap.mk [(ApiNode.mk (1 : Int) (1000 : Int)), (ApiNode.mk (2 : Int) (1500 : Int)), (ApiNode.mk (3 : Int) (2000 : Int)), (ApiNode.mk (4 : Int) (1400 : Int))] [y1, y2] [y3, y4, y5, y6] [(1 : Int)])

theorem law11_sample_spec {r : ApiMap} (h : law11_sample = some r) : PureFn Try.prog 30 [] (· = .agg (encApiMap r)) := by
  refine PureFn.nle (PureFn.intro Try.func30 rfl rfl (by show _ ≤ 16; simp) ?_)
  unfold law11_sample at h
  (try simp +decide -implicitDefEqProofs only [go_sem])
  refine AWP.seq ?_
  refine AWP.region rfl ?_; intro K hK
  (try simp +decide -implicitDefEqProofs only [go_sem])
  refine hK _ _ ?_; clear hK K
  refine qthen_normal ?_
  refine AWP.seq ?_
  refine AWP.region rfl ?_; intro K hK
  (try simp +decide -implicitDefEqProofs only [go_sem])
  obtain ⟨y1, hy1, h⟩ := bindE h
  refine ACall.pure Try.call52 (law11_lift_spec (1 : Int) (1 : Int) (2 : Int) hy1) rfl fun _ hr => ?_
  subst hr
  (try simp +decide -implicitDefEqProofs only [go_sem])
  obtain ⟨y2, hy2, h⟩ := bindE h
  refine ACall.pure Try.call52 (law11_lift_spec (2 : Int) (2 : Int) (3 : Int) hy2) rfl fun _ hr => ?_
  subst hr
  (try simp +decide -implicitDefEqProofs only [go_sem])
  obtain ⟨y3, hy3, h⟩ := bindE h
  refine ACall.pure Try.call53 (law11_run_spec (11 : Int) (3 : Int) (2 : Int) (900 : Int) hy3) rfl fun _ hr => ?_
  subst hr
  (try simp +decide -implicitDefEqProofs only [go_sem])
  obtain ⟨y4, hy4, h⟩ := bindE h
  refine ACall.pure Try.call53 (law11_run_spec (12 : Int) (2 : Int) (1 : Int) (800 : Int) hy4) rfl fun _ hr => ?_
  subst hr
  (try simp +decide -implicitDefEqProofs only [go_sem])
  obtain ⟨y5, hy5, h⟩ := bindE h
  refine ACall.pure Try.call53 (law11_run_spec (13 : Int) (3 : Int) (1 : Int) (1700 : Int) hy5) rfl fun _ hr => ?_
  subst hr
  (try simp +decide -implicitDefEqProofs only [go_sem])
  obtain ⟨y6, hy6, h⟩ := bindE h
  refine ACall.pure Try.call53 (law11_run_spec (14 : Int) (3 : Int) (4 : Int) (700 : Int) hy6) rfl fun _ hr => ?_
  subst hr
  (try simp +decide -implicitDefEqProofs only [go_sem])
  refine hK _ _ ?_; clear hK K
  refine qthen_normal ?_
  refine AWP.ret ?_
  obtain rfl := some_eq h
  simp +decide -implicitDefEqProofs only [go_sem, mpE_nil, Int.natCast_zero, List.replicate_zero, List.length_take, List.length_drop, AVal.own.injEq, reduceCtorEq, Int.reduceAdd, nle2, nle1, nle0, nleA, nleL, Try.results30]

def terrain_Node_b1 (id_ : Int) (k0 : Nat) (x_2 : ApiNode) (sv : Unit) : Option (Out (Unit) (ApiNode × Bool)) :=
  (bif (decide (x_2.ID = id_)) then some (Out.ret (x_2, true)) else some (Out.next ()))

def terrain_Node (m : ApiMap) (id_ : Int) : Option (ApiNode × Bool) :=
  (forIx (terrain_Node_b1 id_) 0 m.Nodes ()).bind fun o0 => o0.on fun s0 => some ((ApiNode.mk (0 : Int) (0 : Int)), false)

theorem terrain_Node_spec (m : ApiMap) (id_ : Int) {r : ApiNode × Bool} (h : terrain_Node m id_ = some r) : PureFn Try.prog 42 [.agg (encApiMap m), .int .i64 id_] (· = .tuple [.agg (encApiNode r.1), .bool r.2]) := by
  refine PureFn.nle (PureFn.intro Try.func42 rfl rfl (by show _ ≤ 22; simp) ?_)
  unfold terrain_Node at h
  (try simp +decide -implicitDefEqProofs only [go_sem])
  refine AWP.seq ?_
  refine AWP.region rfl ?_; intro K hK
  (try simp +decide -implicitDefEqProofs only [go_sem])
  refine hK _ _ ?_; clear hK K
  refine qthen_normal ?_
  refine AWP.seq ?_
  refine AWP.seq ?_
  refine AWP.region rfl ?_; intro K hK
  (try simp +decide -implicitDefEqProofs only [go_sem])
  intro hm
  refine hK _ _ ?_; clear hK K
  refine qthen_normal ?_
  refine AWP.block ?_
  obtain ⟨o0, hJ0, hO0⟩ := bindE h
  clear h
  refine AWP.loopW (ι := Nat × (Unit) × (Unit)) (fun zz => [(1, .int .i64 id_), (4, .ptr 1 0), (9, .sl 2 (m.Nodes.map encApiNode)), (10, .int .i64 ((m.Nodes.length : Nat) : Int)), (11, .int .i64 ((zz.1 : Nat) : Int))]) (fun zz => [.gone, .box [.int .i64 (0 : Int), .int .i64 (0 : Int)]]) (fun zz => zz.1 ≤ m.Nodes.length ∧ forIx (terrain_Node_b1 id_) zz.1 ((m.Nodes).drop zz.1) zz.2.1 = some o0) (fun zz => m.Nodes.length - zz.1) (0, (), ()) ⟨Nat.zero_le _, hJ0⟩ (by (simp +decide -implicitDefEqProofs only [go_sem, mpE_nil, Int.natCast_zero, List.replicate_zero, List.length_take, List.length_drop, AVal.own.injEq, reduceCtorEq, Int.reduceAdd] <;> omega)) (by (simp +decide -implicitDefEqProofs only [go_sem, mpE_nil, Int.natCast_zero, List.replicate_zero, List.length_take, List.length_drop, AVal.own.injEq, reduceCtorEq, Int.reduceAdd] <;> omega)) (fun x => ⟨rfl, rfl, rfl⟩) ?_
  clear hJ0
  rintro ⟨k0, ⟨⟩, ⟨⟩⟩ ⟨hk0, hJ0⟩
  dsimp only at hk0 hJ0 ⊢
  refine AWP.seq ?_
  refine AWP.region rfl ?_; intro K hK
  (try simp +decide -implicitDefEqProofs only [go_sem])
  refine hK _ _ ?_; clear hK K
  refine qthen_normal ?_
  refine AWP.seq ?_
  refine AWP.cond (acond_split (fun hc => ?_) (fun hc => ?_))
  · have hlt0 : k0 < m.Nodes.length := by have := of_decide_eq_true hc; omega
    obtain ⟨x_2, b0, hx0_, h, hJ0⟩ := for_cons hJ0 hlt0
    have hx0 := idxL_nat hx0_
    have hw0 : IntKind.i64.wrap (((k0 : Nat) : Int) + 1) = (((k0 : Nat) : Int) + (1 : Int)) := by rw [wrap_i64] <;> omega
    unfold terrain_Node_b1 at h; try dsimp only at h
    refine AWP.skip ?_
    refine qthen_normal ?_
    refine AWP.seq ?_
    refine AWP.block ?_
    refine AWP.seq ?_
    refine AWP.region rfl ?_; intro K hK
    (try simp +decide -implicitDefEqProofs only [go_sem])
    refine AIdx.of (f := encApiNode) (l := m.Nodes) hx0 ?_
    (try simp +decide -implicitDefEqProofs only [go_sem])
    refine hK _ _ ?_; clear hK K
    refine qthen_normal ?_
    refine AWP.seq ?_
    refine AWP.region rfl ?_; intro K hK
    (try simp +decide -implicitDefEqProofs only [go_sem])
    refine hK _ _ ?_; clear hK K
    refine qthen_normal ?_
    refine AWP.cond (acond_split (fun hc => ?_) (fun hc => ?_))
    · replace h := bif_t h hc
      refine AWP.seq ?_
      refine AWP.region rfl ?_; intro K hK
      (try simp +decide -implicitDefEqProofs only [go_sem])
      refine hK _ _ ?_; clear hK K
      refine qthen_normal ?_
      refine AWP.ret ?_
      refine qblock_ret ?_
      refine qthen_ret ?_
      refine qthen_ret ?_
      obtain rfl := some_eq h
      obtain rfl := cont_ret hJ0
      replace h := on_ret hO0
      refine qblock_ret ?_
      refine qthen_ret ?_
      obtain rfl := some_eq h
      simp +decide -implicitDefEqProofs only [go_sem, mpE_nil, Int.natCast_zero, List.replicate_zero, List.length_take, List.length_drop, AVal.own.injEq, reduceCtorEq, Int.reduceAdd, nle2, nle1, nle0, nleA, nleL, Try.results42]
    replace h := bif_f h hc
    refine AWP.skip ?_
    refine qblock_normal ?_
    refine qthen_normal ?_
    refine AWP.region rfl ?_; intro K hK
    (try simp +decide -implicitDefEqProofs only [go_sem])
    refine hK _ _ ?_; clear hK K
    refine qthen_normal ?_
    obtain rfl := some_eq h
    refine ⟨(k0 + 1, (), ()), ⟨by dsimp only; omega, cont_next hJ0⟩, by dsimp only; omega, ?_, ?_⟩
    · (simp +decide -implicitDefEqProofs only [go_sem, mpE_nil, Int.natCast_zero, List.replicate_zero, List.length_take, List.length_drop, AVal.own.injEq, reduceCtorEq, Int.reduceAdd, hw0] <;> omega)
    · (simp +decide -implicitDefEqProofs only [go_sem, mpE_nil, Int.natCast_zero, List.replicate_zero, List.length_take, List.length_drop, AVal.own.injEq, reduceCtorEq, Int.reduceAdd, hw0] <;> omega)
  · obtain rfl := for_nil hJ0 (fun hl => by have := of_decide_eq_false hc; omega)
    have h := on_next hO0; try dsimp only at h
    have hkl : m.Nodes.length = k0 := by have := of_decide_eq_false hc; omega
    subst hkl
    refine AWP.exit ?_
    refine qthen_exit ?_
    refine qthen_exit ?_
    refine qblock_same ?_
    refine qthen_normal ?_
    refine AWP.seq ?_
    refine AWP.region rfl ?_; intro K hK
    (try simp +decide -implicitDefEqProofs only [go_sem])
    refine hK _ _ ?_; clear hK K
    refine qthen_normal ?_
    refine AWP.ret ?_
    obtain rfl := some_eq h
    simp +decide -implicitDefEqProofs only [go_sem, mpE_nil, Int.natCast_zero, List.replicate_zero, List.length_take, List.length_drop, AVal.own.injEq, reduceCtorEq, Int.reduceAdd, nle2, nle1, nle0, nleA, nleL, Try.results42]

def slices_Index_sint_int_b1 (v : Int) (k0 : Nat) (x_2 : Int) (sv : Unit) : Option (Out (Unit) (Int)) :=
  (bif (decide (v = x_2)) then some (Out.ret ((k0 : Nat) : Int)) else some (Out.next ()))

def slices_Index_sint_int (s_ : List Int) (v : Int) : Option (Int) :=
  (forIx (slices_Index_sint_int_b1 v) 0 s_ ()).bind fun o0 => o0.on fun s0 => some (-1 : Int)

theorem slices_Index_sint_int_spec (s_ : List Int) (v : Int) {r : Int} (h : slices_Index_sint_int s_ v = some r) : PureFn Try.prog 71 [.sl 1 (s_.map intC), .int .i64 v] (· = .int .i64 r) := by
  refine PureFn.nle (PureFn.intro Try.func71 rfl rfl (by show _ ≤ 19; simp) ?_)
  unfold slices_Index_sint_int at h
  (try simp +decide -implicitDefEqProofs only [go_sem])
  refine AWP.seq ?_
  refine AWP.region rfl ?_; intro K hK
  (try simp +decide -implicitDefEqProofs only [go_sem])
  refine hK _ _ ?_; clear hK K
  refine qthen_normal ?_
  refine AWP.seq ?_
  refine AWP.seq ?_
  refine AWP.region rfl ?_; intro K hK
  (try simp +decide -implicitDefEqProofs only [go_sem])
  intro hm
  refine hK _ _ ?_; clear hK K
  refine qthen_normal ?_
  refine AWP.block ?_
  obtain ⟨o0, hJ0, hO0⟩ := bindE h
  clear h
  refine AWP.loopW (ι := Nat × (Unit) × (Unit)) (fun zz => [(0, .sl 1 (s_.map intC)), (1, .int .i64 v), (7, .int .i64 ((s_.length : Nat) : Int)), (8, .int .i64 ((zz.1 : Nat) : Int))]) (fun zz => []) (fun zz => zz.1 ≤ s_.length ∧ forIx (slices_Index_sint_int_b1 v) zz.1 ((s_).drop zz.1) zz.2.1 = some o0) (fun zz => s_.length - zz.1) (0, (), ()) ⟨Nat.zero_le _, hJ0⟩ (by (simp +decide -implicitDefEqProofs only [go_sem, mpE_nil, Int.natCast_zero, List.replicate_zero, List.length_take, List.length_drop, AVal.own.injEq, reduceCtorEq, Int.reduceAdd] <;> omega)) (by (simp +decide -implicitDefEqProofs only [go_sem, mpE_nil, Int.natCast_zero, List.replicate_zero, List.length_take, List.length_drop, AVal.own.injEq, reduceCtorEq, Int.reduceAdd] <;> omega)) (fun x => ⟨rfl, rfl, rfl⟩) ?_
  clear hJ0
  rintro ⟨k0, ⟨⟩, ⟨⟩⟩ ⟨hk0, hJ0⟩
  dsimp only at hk0 hJ0 ⊢
  refine AWP.seq ?_
  refine AWP.region rfl ?_; intro K hK
  (try simp +decide -implicitDefEqProofs only [go_sem])
  refine hK _ _ ?_; clear hK K
  refine qthen_normal ?_
  refine AWP.seq ?_
  refine AWP.cond (acond_split (fun hc => ?_) (fun hc => ?_))
  · have hlt0 : k0 < s_.length := by have := of_decide_eq_true hc; omega
    obtain ⟨x_2, b0, hx0_, h, hJ0⟩ := for_cons hJ0 hlt0
    have hx0 := idxL_nat hx0_
    have hw0 : IntKind.i64.wrap (((k0 : Nat) : Int) + 1) = (((k0 : Nat) : Int) + (1 : Int)) := by rw [wrap_i64] <;> omega
    unfold slices_Index_sint_int_b1 at h; try dsimp only at h
    refine AWP.skip ?_
    refine qthen_normal ?_
    refine AWP.seq ?_
    refine AWP.block ?_
    refine AWP.seq ?_
    refine AWP.region rfl ?_; intro K hK
    (try simp +decide -implicitDefEqProofs only [go_sem])
    refine hK _ _ ?_; clear hK K
    refine qthen_normal ?_
    refine AWP.seq ?_
    refine AWP.region rfl ?_; intro K hK
    (try simp +decide -implicitDefEqProofs only [go_sem])
    refine AIdx.of (f := intC) (l := s_) hx0 ?_
    (try simp +decide -implicitDefEqProofs only [go_sem])
    refine hK _ _ ?_; clear hK K
    refine qthen_normal ?_
    refine AWP.cond (acond_split (fun hc => ?_) (fun hc => ?_))
    · replace h := bif_t h hc
      refine AWP.seq ?_
      refine AWP.region rfl ?_; intro K hK
      (try simp +decide -implicitDefEqProofs only [go_sem])
      refine hK _ _ ?_; clear hK K
      refine qthen_normal ?_
      refine AWP.ret ?_
      refine qblock_ret ?_
      refine qthen_ret ?_
      refine qthen_ret ?_
      obtain rfl := some_eq h
      obtain rfl := cont_ret hJ0
      replace h := on_ret hO0
      refine qblock_ret ?_
      refine qthen_ret ?_
      obtain rfl := some_eq h
      simp +decide -implicitDefEqProofs only [go_sem, mpE_nil, Int.natCast_zero, List.replicate_zero, List.length_take, List.length_drop, AVal.own.injEq, reduceCtorEq, Int.reduceAdd, nle2, nle1, nle0, nleA, nleL, Try.results71]
    replace h := bif_f h hc
    refine AWP.skip ?_
    refine qblock_normal ?_
    refine qthen_normal ?_
    refine AWP.region rfl ?_; intro K hK
    (try simp +decide -implicitDefEqProofs only [go_sem])
    refine hK _ _ ?_; clear hK K
    refine qthen_normal ?_
    obtain rfl := some_eq h
    refine ⟨(k0 + 1, (), ()), ⟨by dsimp only; omega, cont_next hJ0⟩, by dsimp only; omega, ?_, ?_⟩
    · (simp +decide -implicitDefEqProofs only [go_sem, mpE_nil, Int.natCast_zero, List.replicate_zero, List.length_take, List.length_drop, AVal.own.injEq, reduceCtorEq, Int.reduceAdd, hw0] <;> omega)
    · (simp +decide -implicitDefEqProofs only [go_sem, mpE_nil, Int.natCast_zero, List.replicate_zero, List.length_take, List.length_drop, AVal.own.injEq, reduceCtorEq, Int.reduceAdd, hw0] <;> omega)
  · obtain rfl := for_nil hJ0 (fun hl => by have := of_decide_eq_false hc; omega)
    have h := on_next hO0; try dsimp only at h
    have hkl : s_.length = k0 := by have := of_decide_eq_false hc; omega
    subst hkl
    refine AWP.exit ?_
    refine qthen_exit ?_
    refine qthen_exit ?_
    refine qblock_same ?_
    refine qthen_normal ?_
    refine AWP.seq ?_
    refine AWP.region rfl ?_; intro K hK
    (try simp +decide -implicitDefEqProofs only [go_sem])
    refine hK _ _ ?_; clear hK K
    refine qthen_normal ?_
    refine AWP.ret ?_
    obtain rfl := some_eq h
    simp +decide -implicitDefEqProofs only [go_sem, mpE_nil, Int.natCast_zero, List.replicate_zero, List.length_take, List.length_drop, AVal.own.injEq, reduceCtorEq, Int.reduceAdd, nle2, nle1, nle0, nleA, nleL, Try.results71]

def slices_Contains_sint_int (s_ : List Int) (v : Int) : Option (Bool) :=
  (slices_Index_sint_int s_ v).bind fun y1 => some (decide ((0 : Int) ≤ y1))

theorem slices_Contains_sint_int_spec (s_ : List Int) (v : Int) {r : Bool} (h : slices_Contains_sint_int s_ v = some r) : PureFn Try.prog 50 [.sl 1 (s_.map intC), .int .i64 v] (· = .bool r) := by
  refine PureFn.nle (PureFn.intro Try.func50 rfl rfl (by show _ ≤ 9; simp) ?_)
  unfold slices_Contains_sint_int at h
  (try simp +decide -implicitDefEqProofs only [go_sem])
  refine AWP.seq ?_
  refine AWP.region rfl ?_; intro K hK
  (try simp +decide -implicitDefEqProofs only [go_sem])
  refine hK _ _ ?_; clear hK K
  refine qthen_normal ?_
  refine AWP.seq ?_
  refine AWP.region rfl ?_; intro K hK
  (try simp +decide -implicitDefEqProofs only [go_sem])
  obtain ⟨y1, hy1, h⟩ := bindE h
  refine ACall.pure Try.call71 (slices_Index_sint_int_spec s_ v hy1) rfl fun _ hr => ?_
  subst hr
  (try simp +decide -implicitDefEqProofs only [go_sem])
  refine hK _ _ ?_; clear hK K
  refine qthen_normal ?_
  refine AWP.ret ?_
  obtain rfl := some_eq h
  simp +decide -implicitDefEqProofs only [go_sem, mpE_nil, Int.natCast_zero, List.replicate_zero, List.length_take, List.length_drop, AVal.own.injEq, reduceCtorEq, Int.reduceAdd, nle2, nle1, nle0, nleA, nleL, Try.results50]

def terrain_Down_b1 (runs : List Int) (k2 : Nat) (x_4 : ApiRun) (sv : (List ApiEdge)) : Option (Out ((List ApiEdge)) ((List ApiEdge))) :=
  (slices_Contains_sint_int runs x_4.ID).bind fun y5 => (bif y5 then chk (sv.length + 1) (some (Out.next (sv ++ [(ApiEdge.mk x_4.ID x_4.From x_4.To x_4.Length)]))) else some (Out.next sv))

def terrain_Down (m : ApiMap) (runs : List Int) : Option ((List ApiEdge)) :=
  (forIx (terrain_Down_b1 runs) 0 m.Runs []).bind fun o2 => o2.on fun s2 => some s2

theorem terrain_Down_fresh (m : ApiMap) (runs : List Int) {r : (List ApiEdge)} (h : terrain_Down m runs = some r) : FreshFn Try.prog 35 [.agg (encApiMap m), .sl 1 (runs.map intC)] (· = .sl 4 (r.map encApiEdge)) := by
  refine FreshFn.nle (FreshFn.intro Try.func35 rfl rfl (by show _ ≤ 33; simp) ?_)
  unfold terrain_Down at h
  (try simp +decide -implicitDefEqProofs only [go_sem])
  refine AWP.seq ?_
  refine AWP.region rfl ?_; intro K hK
  (try simp +decide -implicitDefEqProofs only [go_sem])
  refine hK _ _ ?_; clear hK K
  refine qthen_normal ?_
  refine AWP.seq ?_
  refine AWP.region rfl ?_; intro K hK
  (try simp +decide -implicitDefEqProofs only [go_sem])
  refine hK _ _ ?_; clear hK K
  refine qthen_normal ?_
  refine AWP.seq ?_
  refine AWP.seq ?_
  refine AWP.region rfl ?_; intro K hK
  (try simp +decide -implicitDefEqProofs only [go_sem])
  intro hm
  refine hK _ _ ?_; clear hK K
  refine qthen_normal ?_
  refine AWP.block ?_
  refine AWP.ghost 5 4 rfl (by decide) ?_
  obtain ⟨o2, hJ2, hO2⟩ := bindE h
  clear h
  refine AWP.loopW (ι := Nat × ((List ApiEdge)) × (Nat)) (fun zz => [(1, .sl 1 (runs.map intC)), (5, .own 1 zz.2.2 0 zz.2.1.length), (9, .sl 7 (m.Runs.map encApiRun)), (10, .int .i64 ((m.Runs.length : Nat) : Int)), (11, .int .i64 ((zz.1 : Nat) : Int))]) (fun zz => [.gone, .row zz.2.2 4 (zz.2.1.map encApiEdge)]) (fun zz => zz.1 ≤ m.Runs.length ∧ forIx (terrain_Down_b1 runs) zz.1 ((m.Runs).drop zz.1) zz.2.1 = some o2) (fun zz => m.Runs.length - zz.1) (0, [], 0) ⟨Nat.zero_le _, hJ2⟩ (by (simp +decide -implicitDefEqProofs only [go_sem, mpE_nil, Int.natCast_zero, List.replicate_zero, List.length_take, List.length_drop, AVal.own.injEq, reduceCtorEq, Int.reduceAdd] <;> omega)) (by (simp +decide -implicitDefEqProofs only [go_sem, mpE_nil, Int.natCast_zero, List.replicate_zero, List.length_take, List.length_drop, AVal.own.injEq, reduceCtorEq, Int.reduceAdd] <;> omega)) (fun x => ⟨rfl, rfl, rfl⟩) ?_
  clear hJ2
  rintro ⟨k2, out1, ver2⟩ ⟨hk2, hJ2⟩
  dsimp only at hk2 hJ2 ⊢
  refine AWP.seq ?_
  refine AWP.region rfl ?_; intro K hK
  (try simp +decide -implicitDefEqProofs only [go_sem])
  refine hK _ _ ?_; clear hK K
  refine qthen_normal ?_
  refine AWP.seq ?_
  refine AWP.cond (acond_split (fun hc => ?_) (fun hc => ?_))
  · have hlt2 : k2 < m.Runs.length := by have := of_decide_eq_true hc; omega
    obtain ⟨x_4, b2, hx2_, h, hJ2⟩ := for_cons hJ2 hlt2
    have hx2 := idxL_nat hx2_
    have hw2 : IntKind.i64.wrap (((k2 : Nat) : Int) + 1) = (((k2 : Nat) : Int) + (1 : Int)) := by rw [wrap_i64] <;> omega
    unfold terrain_Down_b1 at h; try dsimp only at h
    refine AWP.skip ?_
    refine qthen_normal ?_
    refine AWP.seq ?_
    refine AWP.block ?_
    refine AWP.seq ?_
    refine AWP.region rfl ?_; intro K hK
    (try simp +decide -implicitDefEqProofs only [go_sem])
    refine AIdx.of (f := encApiRun) (l := m.Runs) hx2 ?_
    (try simp +decide -implicitDefEqProofs only [go_sem])
    refine hK _ _ ?_; clear hK K
    refine qthen_normal ?_
    refine AWP.seq ?_
    refine AWP.region rfl ?_; intro K hK
    (try simp +decide -implicitDefEqProofs only [go_sem])
    obtain ⟨y5, hy5, h⟩ := bindE h
    refine ACall.pure Try.call50 (slices_Contains_sint_int_spec runs x_4.ID hy5) rfl fun _ hr => ?_
    subst hr
    (try simp +decide -implicitDefEqProofs only [go_sem])
    refine hK _ _ ?_; clear hK K
    refine qthen_normal ?_
    refine AWP.cond (acond_split (fun hc => ?_) (fun hc => ?_))
    · replace h := bif_t h hc
      refine AWP.region rfl ?_; intro K hK
      (try simp +decide -implicitDefEqProofs only [go_sem])
      obtain ⟨hk, h⟩ := chk_in h
      (repeat (refine ⟨by first | omega | (simp only [List.length_take, List.length_drop, List.length_append]; omega), ?_⟩)); try simp +decide -implicitDefEqProofs only [go_sem]
      refine hK _ _ ?_; clear hK K
      refine qblock_normal ?_
      refine qthen_normal ?_
      refine AWP.region rfl ?_; intro K hK
      (try simp +decide -implicitDefEqProofs only [go_sem])
      refine hK _ _ ?_; clear hK K
      refine qthen_normal ?_
      obtain rfl := some_eq h
      refine ⟨(k2 + 1, (out1 ++ [(ApiEdge.mk x_4.ID x_4.From x_4.To x_4.Length)]), (ver2 + 1)), ⟨by dsimp only; omega, cont_next hJ2⟩, by dsimp only; omega, ?_, ?_⟩
      · (simp +decide -implicitDefEqProofs only [go_sem, mpE_nil, Int.natCast_zero, List.replicate_zero, List.length_take, List.length_drop, AVal.own.injEq, reduceCtorEq, Int.reduceAdd, hw2] <;> omega)
      · (simp +decide -implicitDefEqProofs only [go_sem, mpE_nil, Int.natCast_zero, List.replicate_zero, List.length_take, List.length_drop, AVal.own.injEq, reduceCtorEq, Int.reduceAdd, hw2] <;> omega)
    replace h := bif_f h hc
    refine AWP.skip ?_
    refine qblock_normal ?_
    refine qthen_normal ?_
    refine AWP.region rfl ?_; intro K hK
    (try simp +decide -implicitDefEqProofs only [go_sem])
    refine hK _ _ ?_; clear hK K
    refine qthen_normal ?_
    obtain rfl := some_eq h
    refine ⟨(k2 + 1, out1, ver2), ⟨by dsimp only; omega, cont_next hJ2⟩, by dsimp only; omega, ?_, ?_⟩
    · (simp +decide -implicitDefEqProofs only [go_sem, mpE_nil, Int.natCast_zero, List.replicate_zero, List.length_take, List.length_drop, AVal.own.injEq, reduceCtorEq, Int.reduceAdd, hw2] <;> omega)
    · (simp +decide -implicitDefEqProofs only [go_sem, mpE_nil, Int.natCast_zero, List.replicate_zero, List.length_take, List.length_drop, AVal.own.injEq, reduceCtorEq, Int.reduceAdd, hw2] <;> omega)
  · obtain rfl := for_nil hJ2 (fun hl => by have := of_decide_eq_false hc; omega)
    have h := on_next hO2; try dsimp only at h
    have hkl : m.Runs.length = k2 := by have := of_decide_eq_false hc; omega
    subst hkl
    refine AWP.exit ?_
    refine qthen_exit ?_
    refine qthen_exit ?_
    refine qblock_same ?_
    refine qthen_normal ?_
    refine AWP.seq ?_
    refine AWP.region rfl ?_; intro K hK
    (try simp +decide -implicitDefEqProofs only [go_sem])
    refine hK _ _ ?_; clear hK K
    refine qthen_normal ?_
    refine AWP.ret ?_
    obtain rfl := some_eq h
    simp +decide -implicitDefEqProofs only [go_sem, mpE_nil, Int.natCast_zero, List.replicate_zero, List.length_take, List.length_drop, AVal.own.injEq, reduceCtorEq, Int.reduceAdd, nle2, nle1, nle0, nleA, nleL, Try.results35]
theorem terrain_Down_spec (m : ApiMap) (runs : List Int) {r : (List ApiEdge)} (h : terrain_Down m runs = some r) : PureFn Try.prog 35 [.agg (encApiMap m), .sl 1 (runs.map intC)] (· = .sl 4 (r.map encApiEdge)) := (terrain_Down_fresh m runs h).pure

def graph_less (a : GraphLength) (b : GraphLength) : Option (Bool) :=
  (bif (decide (a.cost < b.cost)) then some true else (bif (decide (a.cost = b.cost)) then some (decide (a.edges < b.edges)) else some false))

theorem graph_less_spec (a : GraphLength) (b : GraphLength) {r : Bool} (h : graph_less a b = some r) : PureFn Try.prog 78 [.agg (encGraphLength a), .agg (encGraphLength b)] (· = .bool r) := by
  refine PureFn.nle (PureFn.intro Try.func78 rfl rfl (by show _ ≤ 24; simp) ?_)
  unfold graph_less at h
  (try simp +decide -implicitDefEqProofs only [go_sem])
  refine AWP.seq ?_
  refine AWP.region rfl ?_; intro K hK
  (try simp +decide -implicitDefEqProofs only [go_sem])
  refine hK _ _ ?_; clear hK K
  refine qthen_normal ?_
  refine AWP.seq ?_
  refine AWP.region rfl ?_; intro K hK
  (try simp +decide -implicitDefEqProofs only [go_sem])
  refine aguardK_split (fun hc => ?_) (fun hc => ?_)
  · replace h := bif_f h hc
    (try simp +decide -implicitDefEqProofs only [go_sem, hc])
    refine aguardK_split (fun hc => ?_) (fun hc => ?_)
    · replace h := bif_t h hc
      (try simp +decide -implicitDefEqProofs only [go_sem, hc])
      refine hK _ _ ?_; clear hK K
      refine qthen_normal ?_
      refine AWP.ret ?_
      obtain rfl := some_eq h
      simp +decide -implicitDefEqProofs only [go_sem, mpE_nil, Int.natCast_zero, List.replicate_zero, List.length_take, List.length_drop, AVal.own.injEq, reduceCtorEq, Int.reduceAdd, nle2, nle1, nle0, nleA, nleL, Try.results78]
    · replace h := bif_f h hc
      (try simp +decide -implicitDefEqProofs only [go_sem, hc, Bool.not_true])
      refine hK _ _ ?_; clear hK K
      refine qthen_normal ?_
      refine AWP.ret ?_
      obtain rfl := some_eq h
      simp +decide -implicitDefEqProofs only [go_sem, mpE_nil, Int.natCast_zero, List.replicate_zero, List.length_take, List.length_drop, AVal.own.injEq, reduceCtorEq, Int.reduceAdd, nle2, nle1, nle0, nleA, nleL, Try.results78]
  · replace h := bif_t h hc
    (try simp +decide -implicitDefEqProofs only [go_sem, hc, Bool.not_false])
    refine hK _ _ ?_; clear hK K
    refine qthen_normal ?_
    refine AWP.ret ?_
    obtain rfl := some_eq h
    simp +decide -implicitDefEqProofs only [go_sem, mpE_nil, Int.natCast_zero, List.replicate_zero, List.length_take, List.length_drop, AVal.own.injEq, reduceCtorEq, Int.reduceAdd, nle2, nle1, nle0, nleA, nleL, Try.results78]

end
end Go.Proofs.Ytnafejjdhdpanaa
