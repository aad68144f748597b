/-
  What functions of the program compute, as plain Lean functions, and the walks that prove it; printed by a small program of our own (wip/walk.py).
-/
import Derived.Test.YtmfjcimogpmheaaData
import Derived.Test.YtmfjcimogpmheaaLib
import Derived.Test.YtmfjcimogpmheaaSkZF
namespace Go.Proofs.Ytmfjcimogpmheaa
open Go Go.Ab
attribute [local irreducible] AWP ACall DCall PureFn Go.Ab.Sub alist dlist AIdx AElem ALook ANext
set_option maxRecDepth 100000
set_option maxHeartbeats 4000000
set_option linter.unusedSimpArgs false
set_option linter.unusedVariables false
noncomputable section
def law10_Small : Option (ApiMap) :=
  some (ApiMap.mk [(ApiNode.mk (1 : Int) (1000 : Int)), (ApiNode.mk (2 : Int) (1500 : Int)), (ApiNode.mk (3 : Int) (2000 : Int))] [(ApiLift.mk (1 : Int) (1 : Int) (1 : Int) (3 : Int) (2000 : Int) (5000 : Int) (4 : Int) (20 : Int))] [(ApiRun.mk (11 : Int) (1 : Int) (3 : Int) (2 : Int) (2 : Int) (1 : Int) (900 : Int)), (ApiRun.mk (12 : Int) (1 : Int) (2 : Int) (1 : Int) (1 : Int) (2 : Int) (1200 : Int))] [(1 : Int)])

theorem law10_Small_spec {r : ApiMap} (h : law10_Small = some r) : PureFn Try.prog 24 [] (· = .agg (encApiMap r)) := by
  refine PureFn.nle (PureFn.intro Try.func24 rfl rfl (by show _ ≤ 12; simp) ?_)
  unfold law10_Small at h
  (try simp +decide -implicitDefEqProofs only [go_sem])
  refine AWP.seq ?_
  refine AWP.region rfl ?_; intro K hK
  (try simp +decide -implicitDefEqProofs only [go_sem])
  refine hK _ _ ?_; clear hK K
  refine qthen_normal ?_
  refine AWP.seq ?_
  refine AWP.region rfl ?_; intro K hK
  (try simp +decide -implicitDefEqProofs only [go_sem])
  refine hK _ _ ?_; clear hK K
  refine qthen_normal ?_
  refine AWP.ret ?_
  obtain rfl := some_eq h
  simp +decide -implicitDefEqProofs only [go_sem, mpE_nil, AVal.int.injEq, Int.natCast_zero, List.replicate_zero, List.length_take, List.length_drop, AVal.own.injEq, reduceCtorEq, Int.reduceAdd, nle2, nle1, nle0, nleA, nleL, Try.results24]

def terrain_Lift_b1 (id_ : Int) (k0 : Nat) (x_2 : ApiLift) (sv : Unit) : Option (Out (Unit) (ApiLift × Bool)) :=
  (bif (decide (x_2.ID = id_)) then some (Out.ret (x_2, true)) else some (Out.next ()))

def terrain_Lift (m : ApiMap) (id_ : Int) : Option (ApiLift × Bool) :=
  (forIx (terrain_Lift_b1 id_) 0 m.Lifts ()).bind fun o0 => o0.on fun s0 => some ((ApiLift.mk (0 : Int) (0 : Int) (0 : Int) (0 : Int) (0 : Int) (0 : Int) (0 : Int) (0 : Int)), false)

theorem terrain_Lift_spec (m : ApiMap) (id_ : Int) {r : ApiLift × Bool} (h : terrain_Lift m id_ = some r) : PureFn Try.prog 29 [.agg (encApiMap m), .int .i64 id_] (· = .tuple [.agg (encApiLift r.1), .bool r.2]) := by
  refine PureFn.nle (PureFn.intro Try.func29 rfl rfl (by show _ ≤ 22; simp) ?_)
  unfold terrain_Lift at h
  (try simp +decide -implicitDefEqProofs only [go_sem])
  refine AWP.seq ?_
  refine AWP.region rfl ?_; intro K hK
  (try simp +decide -implicitDefEqProofs only [go_sem])
  refine hK _ _ ?_; clear hK K
  refine qthen_normal ?_
  refine AWP.seq ?_
  refine AWP.seq ?_
  refine AWP.region rfl ?_; intro K hK
  (try simp +decide -implicitDefEqProofs only [go_sem])
  intro hm
  refine hK _ _ ?_; clear hK K
  refine qthen_normal ?_
  refine AWP.block ?_
  obtain ⟨o0, hJ0, hO0⟩ := bindE h
  clear h
  refine AWP.loopW (ι := Nat × (Unit) × (Unit)) (fun zz => [(1, .int .i64 id_), (4, .ptr 1 0), (9, .sl 8 (m.Lifts.map encApiLift)), (10, .int .i64 ((m.Lifts.length : Nat) : Int)), (11, .int .i64 ((zz.1 : Nat) : Int))]) (fun zz => [.gone, .box [.int .i64 (0 : Int), .int .i64 (0 : Int), .int .i64 (0 : Int), .int .i64 (0 : Int), .int .i64 (0 : Int), .int .i64 (0 : Int), .int .i64 (0 : Int), .int .i64 (0 : Int)]]) (fun zz => zz.1 ≤ m.Lifts.length ∧ forIx (terrain_Lift_b1 id_) zz.1 ((m.Lifts).drop zz.1) zz.2.1 = some o0) (fun zz => m.Lifts.length - zz.1) (0, (), ()) ⟨Nat.zero_le _, hJ0⟩ (by (simp +decide -implicitDefEqProofs only [go_sem, mpE_nil, AVal.int.injEq, Int.natCast_zero, List.replicate_zero, List.length_take, List.length_drop, AVal.own.injEq, reduceCtorEq, Int.reduceAdd] <;> omega)) (by (simp +decide -implicitDefEqProofs only [go_sem, mpE_nil, AVal.int.injEq, Int.natCast_zero, List.replicate_zero, List.length_take, List.length_drop, AVal.own.injEq, reduceCtorEq, Int.reduceAdd] <;> omega)) (fun x => ⟨rfl, rfl, rfl⟩) ?_
  clear hJ0
  rintro ⟨k0, ⟨⟩, ⟨⟩⟩ ⟨hk0, hJ0⟩
  dsimp only at hk0 hJ0 ⊢
  refine AWP.seq ?_
  refine AWP.region rfl ?_; intro K hK
  (try simp +decide -implicitDefEqProofs only [go_sem])
  refine hK _ _ ?_; clear hK K
  refine qthen_normal ?_
  refine AWP.seq ?_
  refine AWP.cond (acond_split (fun hc => ?_) (fun hc => ?_))
  · have hlt0 : k0 < m.Lifts.length := by have := of_decide_eq_true hc; omega
    obtain ⟨x_2, b0, hx0_, h, hJ0⟩ := for_cons hJ0 hlt0
    have hx0 := idxL_nat hx0_
    have hw0 : IntKind.i64.wrap (((k0 : Nat) : Int) + 1) = (((k0 : Nat) : Int) + (1 : Int)) := by rw [wrap_i64] <;> omega
    unfold terrain_Lift_b1 at h; try dsimp only at h
    refine AWP.skip ?_
    refine qthen_normal ?_
    refine AWP.seq ?_
    refine AWP.block ?_
    refine AWP.seq ?_
    refine AWP.region rfl ?_; intro K hK
    (try simp +decide -implicitDefEqProofs only [go_sem])
    refine AIdx.of (f := encApiLift) (l := m.Lifts) hx0 ?_
    (try simp +decide -implicitDefEqProofs only [go_sem])
    refine hK _ _ ?_; clear hK K
    refine qthen_normal ?_
    refine AWP.seq ?_
    refine AWP.region rfl ?_; intro K hK
    (try simp +decide -implicitDefEqProofs only [go_sem])
    refine hK _ _ ?_; clear hK K
    refine qthen_normal ?_
    refine AWP.cond (acond_split (fun hc => ?_) (fun hc => ?_))
    · replace h := bif_t h hc
      refine AWP.seq ?_
      refine AWP.region rfl ?_; intro K hK
      (try simp +decide -implicitDefEqProofs only [go_sem])
      refine hK _ _ ?_; clear hK K
      refine qthen_normal ?_
      refine AWP.ret ?_
      refine qblock_ret ?_
      refine qthen_ret ?_
      refine qthen_ret ?_
      obtain rfl := some_eq h
      obtain rfl := cont_ret hJ0
      replace h := on_ret hO0
      refine qblock_ret ?_
      refine qthen_ret ?_
      obtain rfl := some_eq h
      simp +decide -implicitDefEqProofs only [go_sem, mpE_nil, AVal.int.injEq, Int.natCast_zero, List.replicate_zero, List.length_take, List.length_drop, AVal.own.injEq, reduceCtorEq, Int.reduceAdd, nle2, nle1, nle0, nleA, nleL, Try.results29]
    replace h := bif_f h hc
    refine AWP.skip ?_
    refine qblock_normal ?_
    refine qthen_normal ?_
    refine AWP.region rfl ?_; intro K hK
    (try simp +decide -implicitDefEqProofs only [go_sem])
    refine hK _ _ ?_; clear hK K
    refine qthen_normal ?_
    obtain rfl := some_eq h
    refine ⟨(k0 + 1, (), ()), ⟨by dsimp only; omega, cont_next hJ0⟩, by dsimp only; omega, ?_, ?_⟩
    · (simp +decide -implicitDefEqProofs only [go_sem, mpE_nil, AVal.int.injEq, Int.natCast_zero, List.replicate_zero, List.length_take, List.length_drop, AVal.own.injEq, reduceCtorEq, Int.reduceAdd, hw0] <;> omega)
    · (simp +decide -implicitDefEqProofs only [go_sem, mpE_nil, AVal.int.injEq, Int.natCast_zero, List.replicate_zero, List.length_take, List.length_drop, AVal.own.injEq, reduceCtorEq, Int.reduceAdd, hw0] <;> omega)
  · obtain rfl := for_nil hJ0 (fun hl => by have := of_decide_eq_false hc; omega)
    have h := on_next hO0; try dsimp only at h
    have hkl : m.Lifts.length = k0 := by have := of_decide_eq_false hc; omega
    subst hkl
    refine AWP.exit ?_
    refine qthen_exit ?_
    refine qthen_exit ?_
    refine qblock_same ?_
    refine qthen_normal ?_
    refine AWP.seq ?_
    refine AWP.region rfl ?_; intro K hK
    (try simp +decide -implicitDefEqProofs only [go_sem])
    refine hK _ _ ?_; clear hK K
    refine qthen_normal ?_
    refine AWP.ret ?_
    obtain rfl := some_eq h
    simp +decide -implicitDefEqProofs only [go_sem, mpE_nil, AVal.int.injEq, Int.natCast_zero, List.replicate_zero, List.length_take, List.length_drop, AVal.own.injEq, reduceCtorEq, Int.reduceAdd, nle2, nle1, nle0, nleA, nleL, Try.results29]

def fraud_seconds (l : ApiLift) : Option (Int) :=
  nz l.Speed (some (IntKind.i64.wrap (Int.tdiv (IntKind.i64.wrap (l.Length * (1000 : Int))) l.Speed)))

theorem fraud_seconds_spec (l : ApiLift) {r : Int} (h : fraud_seconds l = some r) : PureFn Try.prog 30 [.agg (encApiLift l)] (· = .int .i64 r) := by
  refine PureFn.nle (PureFn.intro Try.func30 rfl rfl (by show _ ≤ 9; simp) ?_)
  unfold fraud_seconds at h
  (try simp +decide -implicitDefEqProofs only [go_sem])
  refine AWP.seq ?_
  refine AWP.region rfl ?_; intro K hK
  (try simp +decide -implicitDefEqProofs only [go_sem])
  refine hK _ _ ?_; clear hK K
  refine qthen_normal ?_
  refine AWP.seq ?_
  refine AWP.region rfl ?_; intro K hK
  (try simp +decide -implicitDefEqProofs only [go_sem])
  obtain ⟨hk, h⟩ := nz_in h
  refine ⟨hk, ?_⟩
  refine hK _ _ ?_; clear hK K
  refine qthen_normal ?_
  refine AWP.ret ?_
  obtain rfl := some_eq h
  simp +decide -implicitDefEqProofs only [go_sem, mpE_nil, AVal.int.injEq, Int.natCast_zero, List.replicate_zero, List.length_take, List.length_drop, AVal.own.injEq, reduceCtorEq, Int.reduceAdd, nle2, nle1, nle0, nleA, nleL, Try.results30]

def graph_less (a : GraphLength) (b : GraphLength) : Option (Bool) :=
  (bif (decide (a.cost < b.cost)) then some true else (bif (decide (a.cost = b.cost)) then some (decide (a.edges < b.edges)) else some false))

theorem graph_less_spec (a : GraphLength) (b : GraphLength) {r : Bool} (h : graph_less a b = some r) : PureFn Try.prog 54 [.agg (encGraphLength a), .agg (encGraphLength b)] (· = .bool r) := by
  refine PureFn.nle (PureFn.intro Try.func54 rfl rfl (by show _ ≤ 24; simp) ?_)
  unfold graph_less at h
  (try simp +decide -implicitDefEqProofs only [go_sem])
  refine AWP.seq ?_
  refine AWP.region rfl ?_; intro K hK
  (try simp +decide -implicitDefEqProofs only [go_sem])
  refine hK _ _ ?_; clear hK K
  refine qthen_normal ?_
  refine AWP.seq ?_
  refine AWP.region rfl ?_; intro K hK
  (try simp +decide -implicitDefEqProofs only [go_sem])
  refine aguardK_split (fun hc => ?_) (fun hc => ?_)
  · replace h := bif_f h hc
    (try simp +decide -implicitDefEqProofs only [go_sem, hc])
    refine aguardK_split (fun hc => ?_) (fun hc => ?_)
    · replace h := bif_t h hc
      (try simp +decide -implicitDefEqProofs only [go_sem, hc])
      refine hK _ _ ?_; clear hK K
      refine qthen_normal ?_
      refine AWP.ret ?_
      obtain rfl := some_eq h
      simp +decide -implicitDefEqProofs only [go_sem, mpE_nil, AVal.int.injEq, Int.natCast_zero, List.replicate_zero, List.length_take, List.length_drop, AVal.own.injEq, reduceCtorEq, Int.reduceAdd, nle2, nle1, nle0, nleA, nleL, Try.results54]
    · replace h := bif_f h hc
      (try simp +decide -implicitDefEqProofs only [go_sem, hc, Bool.not_true])
      refine hK _ _ ?_; clear hK K
      refine qthen_normal ?_
      refine AWP.ret ?_
      obtain rfl := some_eq h
      simp +decide -implicitDefEqProofs only [go_sem, mpE_nil, AVal.int.injEq, Int.natCast_zero, List.replicate_zero, List.length_take, List.length_drop, AVal.own.injEq, reduceCtorEq, Int.reduceAdd, nle2, nle1, nle0, nleA, nleL, Try.results54]
  · replace h := bif_t h hc
    (try simp +decide -implicitDefEqProofs only [go_sem, hc, Bool.not_false])
    refine hK _ _ ?_; clear hK K
    refine qthen_normal ?_
    refine AWP.ret ?_
    obtain rfl := some_eq h
    simp +decide -implicitDefEqProofs only [go_sem, mpE_nil, AVal.int.injEq, Int.natCast_zero, List.replicate_zero, List.length_take, List.length_drop, AVal.own.injEq, reduceCtorEq, Int.reduceAdd, nle2, nle1, nle0, nleA, nleL, Try.results54]

def graph_lengths_b2 (k5 : Nat) (x_7 : ApiEdge) (sv : Bool × (List (Int × GraphLength))) : Option (Out (Bool × (List (Int × GraphLength))) (Out ((List (Int × GraphLength))) ((List (Int × GraphLength))))) :=
  (bif (!(mhas sv.2 x_7.To)) then some (Out.next (sv.1, sv.2)) else (bif (!(mhas sv.2 x_7.From)) then some (Out.next (true, (mset sv.2 x_7.From (GraphLength.mk (IntKind.i64.wrap ((mget (GraphLength.mk (0 : Int) (0 : Int)) sv.2 x_7.To).cost + x_7.Cost)) (IntKind.i64.wrap ((mget (GraphLength.mk (0 : Int) (0 : Int)) sv.2 x_7.To).edges + (1 : Int))))))) else (graph_less (GraphLength.mk (IntKind.i64.wrap ((mget (GraphLength.mk (0 : Int) (0 : Int)) sv.2 x_7.To).cost + x_7.Cost)) (IntKind.i64.wrap ((mget (GraphLength.mk (0 : Int) (0 : Int)) sv.2 x_7.To).edges + (1 : Int)))) (mget (GraphLength.mk (0 : Int) (0 : Int)) sv.2 x_7.From)).bind fun y8 => (bif y8 then some (Out.next (true, (mset sv.2 x_7.From (GraphLength.mk (IntKind.i64.wrap ((mget (GraphLength.mk (0 : Int) (0 : Int)) sv.2 x_7.To).cost + x_7.Cost)) (IntKind.i64.wrap ((mget (GraphLength.mk (0 : Int) (0 : Int)) sv.2 x_7.To).edges + (1 : Int))))))) else some (Out.next (sv.1, sv.2)))))

def graph_lengths_b1 (l : List ApiEdge) (k1 : Nat) (x_3 : ApiEdge) (sv : (List (Int × GraphLength))) : Option (Out ((List (Int × GraphLength))) ((List (Int × GraphLength)))) :=
  (forIx graph_lengths_b2 0 l (false, sv)).bind fun o5 => o5.on fun s5 => (bif (!s5.1) then some (Out.ret s5.2) else some (Out.next s5.2))

def graph_lengths (l : List ApiEdge) (to_ : Int) : Option ((List (Int × GraphLength))) :=
  (forIx (graph_lengths_b1 l) 0 l (mset [] to_ (GraphLength.mk (0 : Int) (0 : Int)))).bind fun o1 => o1.on fun s1 => some s1

theorem graph_lengths_spec (l : List ApiEdge) (to_ : Int) {r : (List (Int × GraphLength))} (h : graph_lengths l to_ = some r) : PureFn Try.prog 46 [.sl 4 (l.map encApiEdge), .int .i64 to_] (· = .vmap (mpE encGraphLengthV r)) := by
  refine PureFn.nle (PureFn.intro Try.func46 rfl rfl (by show _ ≤ 68; simp) ?_)
  unfold graph_lengths at h
  (try simp +decide -implicitDefEqProofs only [go_sem, encGraphLengthV_set0])
  refine AWP.seq ?_
  refine AWP.region rfl ?_; intro K hK
  (try simp +decide -implicitDefEqProofs only [go_sem, encGraphLengthV_set0])
  refine hK _ _ ?_; clear hK K
  refine qthen_normal ?_
  refine AWP.seq ?_
  refine AWP.region rfl ?_; intro K hK
  (try simp +decide -implicitDefEqProofs only [go_sem, encGraphLengthV_set0])
  refine hK _ _ ?_; clear hK K
  refine qthen_normal ?_
  refine AWP.seq ?_
  refine AWP.seq ?_
  refine AWP.region rfl ?_; intro K hK
  (try simp +decide -implicitDefEqProofs only [go_sem, encGraphLengthV_set0])
  intro hm
  refine hK _ _ ?_; clear hK K
  refine qthen_normal ?_
  refine AWP.block ?_
  obtain ⟨o1, hJ1, hO1⟩ := bindE h
  clear h
  refine AWP.loopW (ι := Nat × ((List (Int × GraphLength))) × (Unit)) (fun zz => [(0, .sl 4 (l.map encApiEdge)), (5, .map 0), (18, .int .i64 ((l.length : Nat) : Int)), (19, .int .i64 ((zz.1 : Nat) : Int))]) (fun zz => [.mp (mpE encGraphLengthV zz.2.1)]) (fun zz => zz.1 ≤ l.length ∧ forIx (graph_lengths_b1 l) zz.1 ((l).drop zz.1) zz.2.1 = some o1) (fun zz => l.length - zz.1) (0, (mset [] to_ (GraphLength.mk (0 : Int) (0 : Int))), ()) ⟨Nat.zero_le _, hJ1⟩ (by (simp +decide -implicitDefEqProofs only [go_sem, mpE_nil, AVal.int.injEq, Int.natCast_zero, List.replicate_zero, List.length_take, List.length_drop, AVal.own.injEq, reduceCtorEq, Int.reduceAdd, encGraphLengthV_set0] <;> omega)) (by (simp +decide -implicitDefEqProofs only [go_sem, mpE_nil, AVal.int.injEq, Int.natCast_zero, List.replicate_zero, List.length_take, List.length_drop, AVal.own.injEq, reduceCtorEq, Int.reduceAdd, encGraphLengthV_set0] <;> omega)) (fun x => ⟨rfl, rfl, rfl⟩) ?_
  clear hJ1
  rintro ⟨k1, out1, ⟨⟩⟩ ⟨hk1, hJ1⟩
  dsimp only at hk1 hJ1 ⊢
  refine AWP.seq ?_
  refine AWP.region rfl ?_; intro K hK
  (try simp +decide -implicitDefEqProofs only [go_sem, encGraphLengthV_set0])
  refine hK _ _ ?_; clear hK K
  refine qthen_normal ?_
  refine AWP.seq ?_
  refine AWP.cond (acond_split (fun hc => ?_) (fun hc => ?_))
  · have hlt1 : k1 < l.length := by have := of_decide_eq_true hc; omega
    obtain ⟨x_3, b1, hx1_, h, hJ1⟩ := for_cons hJ1 hlt1
    have hx1 := idxL_nat hx1_
    have hw1 : IntKind.i64.wrap (((k1 : Nat) : Int) + 1) = (((k1 : Nat) : Int) + (1 : Int)) := by rw [wrap_i64] <;> omega
    unfold graph_lengths_b1 at h; try dsimp only at h
    refine AWP.skip ?_
    refine qthen_normal ?_
    refine AWP.seq ?_
    refine AWP.block ?_
    refine AWP.seq ?_
    refine AWP.region rfl ?_; intro K hK
    (try simp +decide -implicitDefEqProofs only [go_sem, encGraphLengthV_set0])
    refine hK _ _ ?_; clear hK K
    refine qthen_normal ?_
    refine AWP.seq ?_
    refine AWP.seq ?_
    refine AWP.region rfl ?_; intro K hK
    (try simp +decide -implicitDefEqProofs only [go_sem, encGraphLengthV_set0])
    intro hm
    refine hK _ _ ?_; clear hK K
    refine qthen_normal ?_
    refine AWP.block ?_
    obtain ⟨o5, hJ5, hO5⟩ := bindE h
    clear h
    refine AWP.loopW (ι := Nat × (Bool × (List (Int × GraphLength))) × (Unit)) (fun zz => [(0, .sl 4 (l.map encApiEdge)), (5, .map 0), (6, .bool zz.2.1.1), (18, .int .i64 ((l.length : Nat) : Int)), (19, .int .i64 ((k1 : Nat) : Int)), (21, .sl 4 (l.map encApiEdge)), (22, .int .i64 ((l.length : Nat) : Int)), (23, .int .i64 ((zz.1 : Nat) : Int))]) (fun zz => [.mp (mpE encGraphLengthV zz.2.1.2)]) (fun zz => zz.1 ≤ l.length ∧ forIx graph_lengths_b2 zz.1 ((l).drop zz.1) zz.2.1 = some o5) (fun zz => l.length - zz.1) (0, (false, out1), ()) ⟨Nat.zero_le _, hJ5⟩ (by (simp +decide -implicitDefEqProofs only [go_sem, mpE_nil, AVal.int.injEq, Int.natCast_zero, List.replicate_zero, List.length_take, List.length_drop, AVal.own.injEq, reduceCtorEq, Int.reduceAdd, encGraphLengthV_set0] <;> omega)) (by (simp +decide -implicitDefEqProofs only [go_sem, mpE_nil, AVal.int.injEq, Int.natCast_zero, List.replicate_zero, List.length_take, List.length_drop, AVal.own.injEq, reduceCtorEq, Int.reduceAdd, encGraphLengthV_set0] <;> omega)) (fun x => ⟨rfl, rfl, rfl⟩) ?_
    clear hJ5
    rintro ⟨k5, ⟨changed4, out5⟩, ⟨⟩⟩ ⟨hk5, hJ5⟩
    dsimp only at hk5 hJ5 ⊢
    refine AWP.seq ?_
    refine AWP.region rfl ?_; intro K hK
    (try simp +decide -implicitDefEqProofs only [go_sem, encGraphLengthV_set0])
    refine hK _ _ ?_; clear hK K
    refine qthen_normal ?_
    refine AWP.seq ?_
    refine AWP.cond (acond_split (fun hc => ?_) (fun hc => ?_))
    · have hlt5 : k5 < l.length := by have := of_decide_eq_true hc; omega
      obtain ⟨x_7, b5, hx5_, h, hJ5⟩ := for_cons hJ5 hlt5
      have hx5 := idxL_nat hx5_
      have hw5 : IntKind.i64.wrap (((k5 : Nat) : Int) + 1) = (((k5 : Nat) : Int) + (1 : Int)) := by rw [wrap_i64] <;> omega
      unfold graph_lengths_b2 at h; try dsimp only at h
      refine AWP.skip ?_
      refine qthen_normal ?_
      refine AWP.seq ?_
      refine AWP.block ?_
      refine AWP.seq ?_
      refine AWP.region rfl ?_; intro K hK
      (try simp +decide -implicitDefEqProofs only [go_sem, encGraphLengthV_set0])
      refine AIdx.of (f := encApiEdge) (l := l) hx5 ?_
      (try simp +decide -implicitDefEqProofs only [go_sem, encGraphLengthV_set0])
      refine hK _ _ ?_; clear hK K
      refine qthen_normal ?_
      refine AWP.seq ?_
      refine AWP.region rfl ?_; intro K hK
      (try simp +decide -implicitDefEqProofs only [go_sem, encGraphLengthV_set0])
      refine ALook.of (f := encGraphLengthV) (m := out5) (d := (GraphLength.mk (0 : Int) (0 : Int))) rfl ?_
      (try simp +decide -implicitDefEqProofs only [go_sem, encGraphLengthV_set0])
      refine hK _ _ ?_; clear hK K
      refine qthen_normal ?_
      refine AWP.seq ?_
      refine AWP.seq ?_
      refine AWP.region rfl ?_; intro K hK
      (try simp +decide -implicitDefEqProofs only [go_sem, encGraphLengthV_set0])
      refine hK _ _ ?_; clear hK K
      refine qthen_normal ?_
      refine AWP.cond (acond_split (fun hc => ?_) (fun hc => ?_))
      · replace h := bif_t h hc
        refine AWP.exit ?_
        refine qthen_exit ?_
        refine qblock_same ?_
        refine qthen_normal ?_
        refine AWP.region rfl ?_; intro K hK
        (try simp +decide -implicitDefEqProofs only [go_sem, encGraphLengthV_set0])
        refine hK _ _ ?_; clear hK K
        refine qthen_normal ?_
        obtain rfl := some_eq h
        refine ⟨(k5 + 1, (changed4, out5), ()), ⟨by dsimp only; omega, cont_next hJ5⟩, by dsimp only; omega, ?_, ?_⟩
        · (simp +decide -implicitDefEqProofs only [go_sem, mpE_nil, AVal.int.injEq, Int.natCast_zero, List.replicate_zero, List.length_take, List.length_drop, AVal.own.injEq, reduceCtorEq, Int.reduceAdd, hw5, encGraphLengthV_set0] <;> omega)
        · (simp +decide -implicitDefEqProofs only [go_sem, mpE_nil, AVal.int.injEq, Int.natCast_zero, List.replicate_zero, List.length_take, List.length_drop, AVal.own.injEq, reduceCtorEq, Int.reduceAdd, hw5, encGraphLengthV_set0] <;> omega)
      replace h := bif_f h hc
      refine AWP.skip ?_
      refine qthen_normal ?_
      refine AWP.seq ?_
      refine AWP.region rfl ?_; intro K hK
      (try simp +decide -implicitDefEqProofs only [go_sem, encGraphLengthV_set0])
      refine hK _ _ ?_; clear hK K
      refine qthen_normal ?_
      refine AWP.seq ?_
      refine AWP.region rfl ?_; intro K hK
      (try simp +decide -implicitDefEqProofs only [go_sem, encGraphLengthV_set0])
      refine ALook.of (f := encGraphLengthV) (m := out5) (d := (GraphLength.mk (0 : Int) (0 : Int))) rfl ?_
      (try simp +decide -implicitDefEqProofs only [go_sem, encGraphLengthV_set0])
      refine hK _ _ ?_; clear hK K
      refine qthen_normal ?_
      refine AWP.seq ?_
      refine AWP.region rfl ?_; intro K hK
      (try simp +decide -implicitDefEqProofs only [go_sem, encGraphLengthV_set0])
      refine aguardK_split (fun hc => ?_) (fun hc => ?_)
      · replace h := bif_f h hc
        (try simp +decide -implicitDefEqProofs only [go_sem, hc, encGraphLengthV_set0])
        obtain ⟨y8, hy8, h⟩ := bindE h
        refine ACall.pure Try.call54 (graph_less_spec (GraphLength.mk (IntKind.i64.wrap ((mget (GraphLength.mk (0 : Int) (0 : Int)) out5 x_7.To).cost + x_7.Cost)) (IntKind.i64.wrap ((mget (GraphLength.mk (0 : Int) (0 : Int)) out5 x_7.To).edges + (1 : Int)))) (mget (GraphLength.mk (0 : Int) (0 : Int)) out5 x_7.From) hy8) rfl fun _ hr => ?_
        subst hr
        (try simp +decide -implicitDefEqProofs only [go_sem, encGraphLengthV_set0])
        refine hK _ _ ?_; clear hK K
        refine qthen_normal ?_
        refine AWP.cond (acond_split (fun hc => ?_) (fun hc => ?_))
        · replace h := bif_t h hc
          refine AWP.seq ?_
          refine AWP.region rfl ?_; intro K hK
          (try simp +decide -implicitDefEqProofs only [go_sem, encGraphLengthV_set0])
          refine hK _ _ ?_; clear hK K
          refine qthen_normal ?_
          refine AWP.region rfl ?_; intro K hK
          (try simp +decide -implicitDefEqProofs only [go_sem, encGraphLengthV_set0])
          refine hK _ _ ?_; clear hK K
          refine qblock_normal ?_
          refine qthen_normal ?_
          refine AWP.region rfl ?_; intro K hK
          (try simp +decide -implicitDefEqProofs only [go_sem, encGraphLengthV_set0])
          refine hK _ _ ?_; clear hK K
          refine qthen_normal ?_
          obtain rfl := some_eq h
          refine ⟨(k5 + 1, (true, (mset out5 x_7.From (GraphLength.mk (IntKind.i64.wrap ((mget (GraphLength.mk (0 : Int) (0 : Int)) out5 x_7.To).cost + x_7.Cost)) (IntKind.i64.wrap ((mget (GraphLength.mk (0 : Int) (0 : Int)) out5 x_7.To).edges + (1 : Int)))))), ()), ⟨by dsimp only; omega, cont_next hJ5⟩, by dsimp only; omega, ?_, ?_⟩
          · (simp +decide -implicitDefEqProofs only [go_sem, mpE_nil, AVal.int.injEq, Int.natCast_zero, List.replicate_zero, List.length_take, List.length_drop, AVal.own.injEq, reduceCtorEq, Int.reduceAdd, hw5, encGraphLengthV_set0] <;> omega)
          · (simp +decide -implicitDefEqProofs only [go_sem, mpE_nil, AVal.int.injEq, Int.natCast_zero, List.replicate_zero, List.length_take, List.length_drop, AVal.own.injEq, reduceCtorEq, Int.reduceAdd, hw5, encGraphLengthV_set0] <;> omega)
        replace h := bif_f h hc
        refine AWP.skip ?_
        refine qblock_normal ?_
        refine qthen_normal ?_
        refine AWP.region rfl ?_; intro K hK
        (try simp +decide -implicitDefEqProofs only [go_sem, encGraphLengthV_set0])
        refine hK _ _ ?_; clear hK K
        refine qthen_normal ?_
        obtain rfl := some_eq h
        refine ⟨(k5 + 1, (changed4, out5), ()), ⟨by dsimp only; omega, cont_next hJ5⟩, by dsimp only; omega, ?_, ?_⟩
        · (simp +decide -implicitDefEqProofs only [go_sem, mpE_nil, AVal.int.injEq, Int.natCast_zero, List.replicate_zero, List.length_take, List.length_drop, AVal.own.injEq, reduceCtorEq, Int.reduceAdd, hw5, encGraphLengthV_set0] <;> omega)
        · (simp +decide -implicitDefEqProofs only [go_sem, mpE_nil, AVal.int.injEq, Int.natCast_zero, List.replicate_zero, List.length_take, List.length_drop, AVal.own.injEq, reduceCtorEq, Int.reduceAdd, hw5, encGraphLengthV_set0] <;> omega)
      · replace h := bif_t h hc
        (try simp +decide -implicitDefEqProofs only [go_sem, hc, Bool.not_false, encGraphLengthV_set0])
        refine hK _ _ ?_; clear hK K
        refine qthen_normal ?_
        refine AWP.cond (acond_true ?_)
        refine AWP.seq ?_
        refine AWP.region rfl ?_; intro K hK
        (try simp +decide -implicitDefEqProofs only [go_sem, encGraphLengthV_set0])
        refine hK _ _ ?_; clear hK K
        refine qthen_normal ?_
        refine AWP.region rfl ?_; intro K hK
        (try simp +decide -implicitDefEqProofs only [go_sem, encGraphLengthV_set0])
        refine hK _ _ ?_; clear hK K
        refine qblock_normal ?_
        refine qthen_normal ?_
        refine AWP.region rfl ?_; intro K hK
        (try simp +decide -implicitDefEqProofs only [go_sem, encGraphLengthV_set0])
        refine hK _ _ ?_; clear hK K
        refine qthen_normal ?_
        obtain rfl := some_eq h
        refine ⟨(k5 + 1, (true, (mset out5 x_7.From (GraphLength.mk (IntKind.i64.wrap ((mget (GraphLength.mk (0 : Int) (0 : Int)) out5 x_7.To).cost + x_7.Cost)) (IntKind.i64.wrap ((mget (GraphLength.mk (0 : Int) (0 : Int)) out5 x_7.To).edges + (1 : Int)))))), ()), ⟨by dsimp only; omega, cont_next hJ5⟩, by dsimp only; omega, ?_, ?_⟩
        · (simp +decide -implicitDefEqProofs only [go_sem, mpE_nil, AVal.int.injEq, Int.natCast_zero, List.replicate_zero, List.length_take, List.length_drop, AVal.own.injEq, reduceCtorEq, Int.reduceAdd, hw5, encGraphLengthV_set0] <;> omega)
        · (simp +decide -implicitDefEqProofs only [go_sem, mpE_nil, AVal.int.injEq, Int.natCast_zero, List.replicate_zero, List.length_take, List.length_drop, AVal.own.injEq, reduceCtorEq, Int.reduceAdd, hw5, encGraphLengthV_set0] <;> omega)
    · obtain rfl := for_nil hJ5 (fun hl => by have := of_decide_eq_false hc; omega)
      have h := on_next hO5; try dsimp only at h
      have hkl : l.length = k5 := by have := of_decide_eq_false hc; omega
      subst hkl
      refine AWP.exit ?_
      refine qthen_exit ?_
      refine qthen_exit ?_
      refine qblock_same ?_
      refine qthen_normal ?_
      refine AWP.seq ?_
      refine AWP.region rfl ?_; intro K hK
      (try simp +decide -implicitDefEqProofs only [go_sem, encGraphLengthV_set0])
      refine hK _ _ ?_; clear hK K
      refine qthen_normal ?_
      refine AWP.cond (acond_split (fun hc => ?_) (fun hc => ?_))
      · replace h := bif_t h hc
        refine AWP.exit ?_
        refine qblock_other (by decide) ?_
        refine qthen_exit ?_
        refine qthen_exit ?_
        obtain rfl := some_eq h
        obtain rfl := cont_ret hJ1
        replace h := on_ret hO1
        refine qblock_same ?_
        refine qthen_normal ?_
        refine AWP.seq ?_
        refine AWP.region rfl ?_; intro K hK
        (try simp +decide -implicitDefEqProofs only [go_sem, encGraphLengthV_set0])
        refine hK _ _ ?_; clear hK K
        refine qthen_normal ?_
        refine AWP.ret ?_
        obtain rfl := some_eq h
        simp +decide -implicitDefEqProofs only [go_sem, mpE_nil, AVal.int.injEq, Int.natCast_zero, List.replicate_zero, List.length_take, List.length_drop, AVal.own.injEq, reduceCtorEq, Int.reduceAdd, nle2, nle1, nle0, nleA, nleL, Try.results46, encGraphLengthV_set0]
      replace h := bif_f h hc
      refine AWP.skip ?_
      refine qblock_normal ?_
      refine qthen_normal ?_
      refine AWP.region rfl ?_; intro K hK
      (try simp +decide -implicitDefEqProofs only [go_sem, encGraphLengthV_set0])
      refine hK _ _ ?_; clear hK K
      refine qthen_normal ?_
      obtain rfl := some_eq h
      refine ⟨(k1 + 1, out5, ()), ⟨by dsimp only; omega, cont_next hJ1⟩, by dsimp only; omega, ?_, ?_⟩
      · (simp +decide -implicitDefEqProofs only [go_sem, mpE_nil, AVal.int.injEq, Int.natCast_zero, List.replicate_zero, List.length_take, List.length_drop, AVal.own.injEq, reduceCtorEq, Int.reduceAdd, hw1, encGraphLengthV_set0] <;> omega)
      · (simp +decide -implicitDefEqProofs only [go_sem, mpE_nil, AVal.int.injEq, Int.natCast_zero, List.replicate_zero, List.length_take, List.length_drop, AVal.own.injEq, reduceCtorEq, Int.reduceAdd, hw1, encGraphLengthV_set0] <;> omega)
  · obtain rfl := for_nil hJ1 (fun hl => by have := of_decide_eq_false hc; omega)
    have h := on_next hO1; try dsimp only at h
    have hkl : l.length = k1 := by have := of_decide_eq_false hc; omega
    subst hkl
    refine AWP.exit ?_
    refine qthen_exit ?_
    refine qthen_exit ?_
    refine qblock_same ?_
    refine qthen_normal ?_
    refine AWP.seq ?_
    refine AWP.region rfl ?_; intro K hK
    (try simp +decide -implicitDefEqProofs only [go_sem, encGraphLengthV_set0])
    refine hK _ _ ?_; clear hK K
    refine qthen_normal ?_
    refine AWP.ret ?_
    obtain rfl := some_eq h
    simp +decide -implicitDefEqProofs only [go_sem, mpE_nil, AVal.int.injEq, Int.natCast_zero, List.replicate_zero, List.length_take, List.length_drop, AVal.own.injEq, reduceCtorEq, Int.reduceAdd, nle2, nle1, nle0, nleA, nleL, Try.results46, encGraphLengthV_set0]

def graph_Shortest_b2 (y1 : (List (Int × GraphLength))) (n_2 : Int) (ids3 : List Int) (k5 : Nat) (x_7 : ApiEdge) (sv : Unit) : Option (Out (Unit) (Out (Int × (List Int)) ((List Int) × Int × Bool))) :=
  (bif (mhas y1 x_7.To) then (bif (decide (x_7.From = n_2)) then (bif ((decide ((mget (GraphLength.mk (0 : Int) (0 : Int)) y1 n_2).cost = (IntKind.i64.wrap ((mget (GraphLength.mk (0 : Int) (0 : Int)) y1 x_7.To).cost + x_7.Cost)))) && (decide ((mget (GraphLength.mk (0 : Int) (0 : Int)) y1 n_2).edges = (IntKind.i64.wrap ((mget (GraphLength.mk (0 : Int) (0 : Int)) y1 x_7.To).edges + (1 : Int)))))) then ((bif (decide (((k5 : Nat) : Int) < (0 : Int))) then some (Out.ret ([], ((0 : Int), false))) else chk (ids3.length + 1) (some (Out.next (x_7.To, (ids3 ++ [x_7.ID])))))).bind fun q7 => some (Out.ret q7) else some (Out.next ())) else some (Out.next ())) else some (Out.next ()))

def graph_Shortest_b1 (l : List ApiEdge) (from_ : Int) (to_ : Int) (y1 : (List (Int × GraphLength))) (sv : Int × (List Int)) : Option (Out (Int × (List Int)) ((List Int) × Int × Bool)) :=
  (bif (decide (sv.1 ≠ to_)) then (forIx (graph_Shortest_b2 y1 sv.1 sv.2) 0 l ()).bind fun o5 => o5.on fun s5 => some (Out.ret ([], ((0 : Int), false))) else some (Out.ret (sv.2, ((mget (GraphLength.mk (0 : Int) (0 : Int)) y1 from_).cost, true))))

def graph_Shortest (l : List ApiEdge) (from_ : Int) (to_ : Int) : Option ((List Int) × Int × Bool) :=
  (graph_lengths l to_).bind fun y1 => (bif (!(mhas y1 from_)) then some ([], ((0 : Int), false)) else (whileN (graph_Shortest_b1 l from_ to_ y1) fuel (from_, [])).bind fun o4 => o4.on fun _ => none)

theorem graph_Shortest_fresh (l : List ApiEdge) (from_ : Int) (to_ : Int) {r : (List Int) × Int × Bool} (h : graph_Shortest l from_ to_ = some r) : FreshFn Try.prog 31 [.sl 4 (l.map encApiEdge), .int .i64 from_, .int .i64 to_] (· = .tuple [.sl 1 (r.1.map intC), .int .i64 r.2.1, .bool r.2.2]) := by
  refine FreshFn.nle (FreshFn.intro Try.func31 rfl rfl (by show _ ≤ 52; simp) ?_)
  unfold graph_Shortest at h
  (try simp +decide -implicitDefEqProofs only [go_sem])
  refine AWP.seq ?_
  refine AWP.region rfl ?_; intro K hK
  (try simp +decide -implicitDefEqProofs only [go_sem])
  refine hK _ _ ?_; clear hK K
  refine qthen_normal ?_
  refine AWP.seq ?_
  refine AWP.region rfl ?_; intro K hK
  (try simp +decide -implicitDefEqProofs only [go_sem])
  obtain ⟨y1, hy1, h⟩ := bindE h
  refine ACall.pure Try.call46 (graph_lengths_spec l to_ hy1) rfl fun _ hr => ?_
  subst hr
  (try simp +decide -implicitDefEqProofs only [go_sem])
  refine hK _ _ ?_; clear hK K
  refine qthen_normal ?_
  refine AWP.seq ?_
  refine AWP.region rfl ?_; intro K hK
  (try simp +decide -implicitDefEqProofs only [go_sem])
  refine ALook.of (f := encGraphLengthV) (m := y1) (d := (GraphLength.mk (0 : Int) (0 : Int))) rfl ?_
  (try simp +decide -implicitDefEqProofs only [go_sem])
  refine hK _ _ ?_; clear hK K
  refine qthen_normal ?_
  refine AWP.seq ?_
  refine AWP.seq ?_
  refine AWP.region rfl ?_; intro K hK
  (try simp +decide -implicitDefEqProofs only [go_sem])
  refine hK _ _ ?_; clear hK K
  refine qthen_normal ?_
  refine AWP.cond (acond_split (fun hc => ?_) (fun hc => ?_))
  · replace h := bif_t h hc
    refine AWP.seq ?_
    refine AWP.region rfl ?_; intro K hK
    (try simp +decide -implicitDefEqProofs only [go_sem])
    refine hK _ _ ?_; clear hK K
    refine qthen_normal ?_
    refine AWP.ret ?_
    refine qthen_ret ?_
    obtain rfl := some_eq h
    simp +decide -implicitDefEqProofs only [go_sem, mpE_nil, AVal.int.injEq, Int.natCast_zero, List.replicate_zero, List.length_take, List.length_drop, AVal.own.injEq, reduceCtorEq, Int.reduceAdd, nle2, nle1, nle0, nleA, nleL, Try.results31]
  replace h := bif_f h hc
  refine AWP.skip ?_
  refine qthen_normal ?_
  refine AWP.seq ?_
  refine AWP.region rfl ?_; intro K hK
  (try simp +decide -implicitDefEqProofs only [go_sem])
  refine hK _ _ ?_; clear hK K
  refine qthen_normal ?_
  refine AWP.seq ?_
  refine AWP.seq ?_
  refine AWP.region rfl ?_; intro K hK
  (try simp +decide -implicitDefEqProofs only [go_sem])
  refine hK _ _ ?_; clear hK K
  refine qthen_normal ?_
  refine AWP.block ?_
  refine AWP.ghost 12 1 rfl (by decide) ?_
  obtain ⟨o4, hJ4, hO4⟩ := bindE h
  clear h
  refine AWP.loopS (ι := Nat × (Int × (List Int)) × (Nat)) (fun zz => [(0, .sl 4 (l.map encApiEdge)), (2, .int .i64 to_), (9, .ptr 0 0), (10, .ptr 1 0), (12, .own 3 zz.2.2 0 zz.2.1.2.length), (13, .ptr 2 0)]) (fun zz => [.box [.vmap (mpE encGraphLengthV y1)], .box [.int .i64 (mget (GraphLength.mk (0 : Int) (0 : Int)) y1 from_).cost, .int .i64 (mget (GraphLength.mk (0 : Int) (0 : Int)) y1 from_).edges], .box [.int .i64 zz.2.1.1], .row zz.2.2 1 (zz.2.1.2.map intC)]) (fun zz => whileN (graph_Shortest_b1 l from_ to_ y1) zz.1 zz.2.1 = some o4) (fun zz => zz.1) (fuel, (from_, []), 0) hJ4 (by (simp +decide -implicitDefEqProofs only [go_sem, mpE_nil, AVal.int.injEq, Int.natCast_zero, List.replicate_zero, List.length_take, List.length_drop, AVal.own.injEq, reduceCtorEq, Int.reduceAdd] <;> omega)) (by (simp +decide -implicitDefEqProofs only [go_sem, mpE_nil, AVal.int.injEq, Int.natCast_zero, List.replicate_zero, List.length_take, List.length_drop, AVal.own.injEq, reduceCtorEq, Int.reduceAdd] <;> omega)) (fun x => ⟨rfl, rfl, rfl⟩) ?_
  clear hJ4
  rintro ⟨n4, ⟨n_2, ids3⟩, ver4⟩ hJ4
  dsimp only at hJ4 ⊢
  obtain ⟨m4, b4, rfl, h, hJ4⟩ := while_step hJ4
  unfold graph_Shortest_b1 at h; try dsimp only at h
  refine AWP.seq ?_
  refine AWP.seq ?_
  refine AWP.region rfl ?_; intro K hK
  (try simp +decide -implicitDefEqProofs only [go_sem])
  refine hK _ _ ?_; clear hK K
  refine qthen_normal ?_
  refine AWP.cond (acond_split (fun hc => ?_) (fun hc => ?_))
  · replace h := bif_t h hc
    refine AWP.skip ?_
    refine qthen_normal ?_
    refine AWP.seq ?_
    refine AWP.block ?_
    refine AWP.seq ?_
    refine AWP.region rfl ?_; intro K hK
    (try simp +decide -implicitDefEqProofs only [go_sem])
    refine ACall.inline Try.call47 Try.func47 rfl rfl (by show _ ≤ 19; simp) ?_
    (try simp +decide -implicitDefEqProofs only [go_sem])
    refine AWP.seq ?_
    refine AWP.region rfl ?_; intro K hK
    (try simp +decide -implicitDefEqProofs only [go_sem])
    refine hK _ _ ?_; clear hK K
    refine qthen_normal ?_
    refine AWP.seq ?_
    refine AWP.seq ?_
    refine AWP.region rfl ?_; intro K hK
    (try simp +decide -implicitDefEqProofs only [go_sem])
    intro hm
    refine hK _ _ ?_; clear hK K
    refine qthen_normal ?_
    refine AWP.block ?_
    obtain ⟨o5, hJ5, hO5⟩ := bindE h
    clear h
    refine AWP.loopW (ι := Nat × (Unit) × (Unit)) (fun zz => [(0, .sl 4 (l.map encApiEdge)), (1, .func 48 [.ptr 0 0, .ptr 2 0]), (7, .int .i64 ((l.length : Nat) : Int)), (8, .int .i64 ((zz.1 : Nat) : Int))]) (fun zz => [.box [.vmap (mpE encGraphLengthV y1)], .box [.int .i64 (mget (GraphLength.mk (0 : Int) (0 : Int)) y1 from_).cost, .int .i64 (mget (GraphLength.mk (0 : Int) (0 : Int)) y1 from_).edges], .box [.int .i64 n_2], .row ver4 1 (ids3.map intC)]) (fun zz => zz.1 ≤ l.length ∧ forIx (graph_Shortest_b2 y1 n_2 ids3) zz.1 ((l).drop zz.1) zz.2.1 = some o5) (fun zz => l.length - zz.1) (0, (), ()) ⟨Nat.zero_le _, hJ5⟩ (by (simp +decide -implicitDefEqProofs only [go_sem, mpE_nil, AVal.int.injEq, Int.natCast_zero, List.replicate_zero, List.length_take, List.length_drop, AVal.own.injEq, reduceCtorEq, Int.reduceAdd] <;> omega)) (by (simp +decide -implicitDefEqProofs only [go_sem, mpE_nil, AVal.int.injEq, Int.natCast_zero, List.replicate_zero, List.length_take, List.length_drop, AVal.own.injEq, reduceCtorEq, Int.reduceAdd] <;> omega)) (fun x => ⟨rfl, rfl, rfl⟩) ?_
    clear hJ5
    rintro ⟨k5, ⟨⟩, ⟨⟩⟩ ⟨hk5, hJ5⟩
    dsimp only at hk5 hJ5 ⊢
    refine AWP.seq ?_
    refine AWP.region rfl ?_; intro K hK
    (try simp +decide -implicitDefEqProofs only [go_sem])
    refine hK _ _ ?_; clear hK K
    refine qthen_normal ?_
    refine AWP.seq ?_
    refine AWP.cond (acond_split (fun hc => ?_) (fun hc => ?_))
    · have hlt5 : k5 < l.length := by have := of_decide_eq_true hc; omega
      obtain ⟨x_7, b5, hx5_, h, hJ5⟩ := for_cons hJ5 hlt5
      have hx5 := idxL_nat hx5_
      have hw5 : IntKind.i64.wrap (((k5 : Nat) : Int) + 1) = (((k5 : Nat) : Int) + (1 : Int)) := by rw [wrap_i64] <;> omega
      unfold graph_Shortest_b2 at h; try dsimp only at h
      refine AWP.skip ?_
      refine qthen_normal ?_
      refine AWP.seq ?_
      refine AWP.block ?_
      refine AWP.seq ?_
      refine AWP.region rfl ?_; intro K hK
      (try simp +decide -implicitDefEqProofs only [go_sem])
      refine hK _ _ ?_; clear hK K
      refine qthen_normal ?_
      refine AWP.seq ?_
      refine AWP.region rfl ?_; intro K hK
      (try simp +decide -implicitDefEqProofs only [go_sem])
      refine AIdx.of (f := encApiEdge) (l := l) hx5 ?_
      (try simp +decide -implicitDefEqProofs only [go_sem])
      refine ACall.inline Try.call48 Try.func48 rfl rfl (by show _ ≤ 36; simp) ?_
      (try simp +decide -implicitDefEqProofs only [go_sem])
      refine AWP.seq ?_
      refine AWP.region rfl ?_; intro K hK
      (try simp +decide -implicitDefEqProofs only [go_sem])
      refine hK _ _ ?_; clear hK K
      refine qthen_normal ?_
      refine AWP.seq ?_
      refine AWP.region rfl ?_; intro K hK
      (try simp +decide -implicitDefEqProofs only [go_sem])
      refine ALook.of (f := encGraphLengthV) (m := y1) (d := (GraphLength.mk (0 : Int) (0 : Int))) rfl ?_
      (try simp +decide -implicitDefEqProofs only [go_sem])
      refine hK _ _ ?_; clear hK K
      refine qthen_normal ?_
      refine AWP.seq ?_
      refine AWP.region rfl ?_; intro K hK
      (try simp +decide -implicitDefEqProofs only [go_sem])
      refine aguardK_split (fun hc => ?_) (fun hc => ?_)
      · replace h := bif_t h hc
        (try simp +decide -implicitDefEqProofs only [go_sem, hc])
        refine aguardK_split (fun hc => ?_) (fun hc => ?_)
        · replace h := bif_t h hc
          (try simp +decide -implicitDefEqProofs only [go_sem, hc])
          refine ALook.of (f := encGraphLengthV) (m := y1) (d := (GraphLength.mk (0 : Int) (0 : Int))) rfl ?_
          (try simp +decide -implicitDefEqProofs only [go_sem])
          refine hK _ _ ?_; clear hK K
          refine qthen_normal ?_
          refine AWP.ret ?_
          (try simp +decide -implicitDefEqProofs only [go_sem, Try.results48])
          refine hK _ _ ?_; clear hK K
          refine qthen_normal ?_
          refine AWP.cond (acond_split (fun hc => ?_) (fun hc => ?_))
          · replace h := bif_t h hc
            refine AWP.seq ?_
            refine AWP.region rfl ?_; intro K hK
            (try simp +decide -implicitDefEqProofs only [go_sem])
            refine hK _ _ ?_; clear hK K
            refine qthen_normal ?_
            refine AWP.ret ?_
            refine qblock_ret ?_
            refine qthen_ret ?_
            refine qthen_ret ?_
            obtain ⟨q7, hq, h⟩ := bindE h
            obtain rfl := some_eq h
            obtain rfl := cont_ret hJ5
            replace h := hq.trans (on_ret hO5)
            refine qblock_ret ?_
            refine qthen_ret ?_
            (try simp +decide -implicitDefEqProofs only [go_sem, Try.results47])
            refine hK _ _ ?_; clear hK K
            refine qthen_normal ?_
            refine AWP.seq ?_
            refine AWP.seq ?_
            refine AWP.region rfl ?_; intro K hK
            (try simp +decide -implicitDefEqProofs only [go_sem])
            refine hK _ _ ?_; clear hK K
            refine qthen_normal ?_
            refine AWP.cond (acond_split (fun hc => ?_) (fun hc => ?_))
            · replace h := bif_t h hc
              refine AWP.seq ?_
              refine AWP.region rfl ?_; intro K hK
              (try simp +decide -implicitDefEqProofs only [go_sem])
              refine hK _ _ ?_; clear hK K
              refine qthen_normal ?_
              refine AWP.ret ?_
              refine qthen_ret ?_
              refine qblock_ret ?_
              refine qthen_ret ?_
              refine qthen_ret ?_
              obtain rfl := some_eq h
              obtain rfl := cont_ret hJ4
              replace h := on_ret hO4
              refine qblock_ret ?_
              refine qthen_ret ?_
              obtain rfl := some_eq h
              simp +decide -implicitDefEqProofs only [go_sem, mpE_nil, AVal.int.injEq, Int.natCast_zero, List.replicate_zero, List.length_take, List.length_drop, AVal.own.injEq, reduceCtorEq, Int.reduceAdd, nle2, nle1, nle0, nleA, nleL, Try.results31]
            replace h := bif_f h hc
            refine AWP.skip ?_
            refine qthen_normal ?_
            refine AWP.seq ?_
            refine AWP.region rfl ?_; intro K hK
            (try simp +decide -implicitDefEqProofs only [go_sem])
            refine AIdx.of (f := encApiEdge) (l := l) hx5 ?_
            (try simp +decide -implicitDefEqProofs only [go_sem])
            obtain ⟨hk, h⟩ := chk_in h
            (repeat (refine ⟨by first | omega | (simp only [List.length_take, List.length_drop, List.length_append]; omega), ?_⟩)); try simp +decide -implicitDefEqProofs only [go_sem]
            refine hK _ _ ?_; clear hK K
            refine qthen_normal ?_
            refine AWP.region rfl ?_; intro K hK
            (try simp +decide -implicitDefEqProofs only [go_sem])
            refine AIdx.of (f := encApiEdge) (l := l) hx5 ?_
            (try simp +decide -implicitDefEqProofs only [go_sem])
            refine hK _ _ ?_; clear hK K
            refine qblock_normal ?_
            refine qthen_normal ?_
            refine AWP.seq ?_
            refine AWP.region rfl ?_; intro K hK
            (try simp +decide -implicitDefEqProofs only [go_sem])
            refine hK _ _ ?_; clear hK K
            refine qthen_normal ?_
            refine AWP.region rfl ?_; intro K hK
            (try simp +decide -implicitDefEqProofs only [go_sem])
            refine hK _ _ ?_; clear hK K
            refine qthen_normal ?_
            obtain rfl := some_eq h
            refine ⟨(m4, (x_7.To, (ids3 ++ [x_7.ID])), (ver4 + 1)), cont_next hJ4, by dsimp only; omega, _, _, Sub.swap 7 2 rfl rfl rfl, ?_, ?_⟩
            · (simp +decide -implicitDefEqProofs only [go_sem, mpE_nil, AVal.int.injEq, Int.natCast_zero, List.replicate_zero, List.length_take, List.length_drop, AVal.own.injEq, reduceCtorEq, Int.reduceAdd] <;> omega)
            · (simp +decide -implicitDefEqProofs only [go_sem, mpE_nil, AVal.int.injEq, Int.natCast_zero, List.replicate_zero, List.length_take, List.length_drop, AVal.own.injEq, reduceCtorEq, Int.reduceAdd] <;> omega)
          replace h := bif_f h hc
          refine AWP.skip ?_
          refine qblock_normal ?_
          refine qthen_normal ?_
          refine AWP.region rfl ?_; intro K hK
          (try simp +decide -implicitDefEqProofs only [go_sem])
          refine hK _ _ ?_; clear hK K
          refine qthen_normal ?_
          obtain rfl := some_eq h
          refine ⟨(k5 + 1, (), ()), ⟨by dsimp only; omega, cont_next hJ5⟩, by dsimp only; omega, ?_, ?_⟩
          · (simp +decide -implicitDefEqProofs only [go_sem, mpE_nil, AVal.int.injEq, Int.natCast_zero, List.replicate_zero, List.length_take, List.length_drop, AVal.own.injEq, reduceCtorEq, Int.reduceAdd, hw5] <;> omega)
          · (simp +decide -implicitDefEqProofs only [go_sem, mpE_nil, AVal.int.injEq, Int.natCast_zero, List.replicate_zero, List.length_take, List.length_drop, AVal.own.injEq, reduceCtorEq, Int.reduceAdd, hw5] <;> omega)
        · replace h := bif_f h hc
          (try simp +decide -implicitDefEqProofs only [go_sem, hc, Bool.not_true])
          refine hK _ _ ?_; clear hK K
          refine qthen_normal ?_
          refine AWP.ret ?_
          (try simp +decide -implicitDefEqProofs only [go_sem, Try.results48])
          refine hK _ _ ?_; clear hK K
          refine qthen_normal ?_
          refine AWP.cond (acond_false ?_)
          refine AWP.skip ?_
          refine qblock_normal ?_
          refine qthen_normal ?_
          refine AWP.region rfl ?_; intro K hK
          (try simp +decide -implicitDefEqProofs only [go_sem])
          refine hK _ _ ?_; clear hK K
          refine qthen_normal ?_
          obtain rfl := some_eq h
          refine ⟨(k5 + 1, (), ()), ⟨by dsimp only; omega, cont_next hJ5⟩, by dsimp only; omega, ?_, ?_⟩
          · (simp +decide -implicitDefEqProofs only [go_sem, mpE_nil, AVal.int.injEq, Int.natCast_zero, List.replicate_zero, List.length_take, List.length_drop, AVal.own.injEq, reduceCtorEq, Int.reduceAdd, hw5] <;> omega)
          · (simp +decide -implicitDefEqProofs only [go_sem, mpE_nil, AVal.int.injEq, Int.natCast_zero, List.replicate_zero, List.length_take, List.length_drop, AVal.own.injEq, reduceCtorEq, Int.reduceAdd, hw5] <;> omega)
      · replace h := bif_f h hc
        (try simp +decide -implicitDefEqProofs only [go_sem, hc, Bool.not_true])
        refine hK _ _ ?_; clear hK K
        refine qthen_normal ?_
        refine AWP.ret ?_
        (try simp +decide -implicitDefEqProofs only [go_sem, Try.results48])
        refine hK _ _ ?_; clear hK K
        refine qthen_normal ?_
        refine AWP.cond (acond_false ?_)
        refine AWP.skip ?_
        refine qblock_normal ?_
        refine qthen_normal ?_
        refine AWP.region rfl ?_; intro K hK
        (try simp +decide -implicitDefEqProofs only [go_sem])
        refine hK _ _ ?_; clear hK K
        refine qthen_normal ?_
        obtain rfl := some_eq h
        refine ⟨(k5 + 1, (), ()), ⟨by dsimp only; omega, cont_next hJ5⟩, by dsimp only; omega, ?_, ?_⟩
        · (simp +decide -implicitDefEqProofs only [go_sem, mpE_nil, AVal.int.injEq, Int.natCast_zero, List.replicate_zero, List.length_take, List.length_drop, AVal.own.injEq, reduceCtorEq, Int.reduceAdd, hw5] <;> omega)
        · (simp +decide -implicitDefEqProofs only [go_sem, mpE_nil, AVal.int.injEq, Int.natCast_zero, List.replicate_zero, List.length_take, List.length_drop, AVal.own.injEq, reduceCtorEq, Int.reduceAdd, hw5] <;> omega)
    · obtain rfl := for_nil hJ5 (fun hl => by have := of_decide_eq_false hc; omega)
      have h := on_next hO5; try dsimp only at h
      have hkl : l.length = k5 := by have := of_decide_eq_false hc; omega
      subst hkl
      refine AWP.exit ?_
      refine qthen_exit ?_
      refine qthen_exit ?_
      refine qblock_same ?_
      refine qthen_normal ?_
      refine AWP.seq ?_
      refine AWP.region rfl ?_; intro K hK
      (try simp +decide -implicitDefEqProofs only [go_sem])
      refine hK _ _ ?_; clear hK K
      refine qthen_normal ?_
      refine AWP.ret ?_
      (try simp +decide -implicitDefEqProofs only [go_sem, Try.results47])
      refine hK _ _ ?_; clear hK K
      refine qthen_normal ?_
      refine AWP.seq ?_
      refine AWP.seq ?_
      refine AWP.region rfl ?_; intro K hK
      (try simp +decide -implicitDefEqProofs only [go_sem])
      refine hK _ _ ?_; clear hK K
      refine qthen_normal ?_
      refine AWP.cond (acond_true ?_)
      refine AWP.seq ?_
      refine AWP.region rfl ?_; intro K hK
      (try simp +decide -implicitDefEqProofs only [go_sem])
      refine hK _ _ ?_; clear hK K
      refine qthen_normal ?_
      refine AWP.ret ?_
      refine qthen_ret ?_
      refine qblock_ret ?_
      refine qthen_ret ?_
      refine qthen_ret ?_
      obtain rfl := some_eq h
      obtain rfl := cont_ret hJ4
      replace h := on_ret hO4
      refine qblock_ret ?_
      refine qthen_ret ?_
      obtain rfl := some_eq h
      simp +decide -implicitDefEqProofs only [go_sem, mpE_nil, AVal.int.injEq, Int.natCast_zero, List.replicate_zero, List.length_take, List.length_drop, AVal.own.injEq, reduceCtorEq, Int.reduceAdd, nle2, nle1, nle0, nleA, nleL, Try.results31]
  replace h := bif_f h hc
  refine AWP.exit ?_
  refine qthen_exit ?_
  refine qthen_exit ?_
  obtain rfl := some_eq h
  obtain rfl := cont_ret hJ4
  replace h := on_ret hO4
  refine qblock_same ?_
  refine qthen_normal ?_
  refine AWP.seq ?_
  refine AWP.draw Try.mixed (by kernel_rfl) ?_; intro K hK
  (try simp +decide -implicitDefEqProofs only [go_sem])
  refine hK _ _ _ (by kernel_rfl) ?_; clear hK K
  refine qthen_normal ?_
  refine AWP.ret ?_
  obtain rfl := some_eq h
  simp +decide -implicitDefEqProofs only [go_sem, mpE_nil, AVal.int.injEq, Int.natCast_zero, List.replicate_zero, List.length_take, List.length_drop, AVal.own.injEq, reduceCtorEq, Int.reduceAdd, nle2, nle1, nle0, nleA, nleL, Try.results31]
theorem graph_Shortest_spec (l : List ApiEdge) (from_ : Int) (to_ : Int) {r : (List Int) × Int × Bool} (h : graph_Shortest l from_ to_ = some r) : PureFn Try.prog 31 [.sl 4 (l.map encApiEdge), .int .i64 from_, .int .i64 to_] (· = .tuple [.sl 1 (r.1.map intC), .int .i64 r.2.1, .bool r.2.2]) := (graph_Shortest_fresh l from_ to_ h).pure

def fraud_Time_b2 (k7 : Nat) (x_9 : ApiLift) (sv : (List ApiEdge)) : Option (Out ((List ApiEdge)) (Int × Bool)) :=
  (fraud_seconds x_9).bind fun y10 => chk (sv.length + 1) (some (Out.next (sv ++ [(ApiEdge.mk ((sv.length : Nat) : Int) x_9.From x_9.To y10)])))

def fraud_Time_j1 (m : ApiMap) (y1 : ApiLift × Bool) (y2 : ApiLift × Bool) (edges3 : List ApiEdge) : Option (Int × Bool) :=
  (forIx fraud_Time_b2 0 m.Lifts edges3).bind fun o7 => o7.on fun s7 => (graph_Shortest s7 y1.1.To y2.1.From).bind fun y11 => (bif (!y11.2.2) then some ((0 : Int), false) else (fraud_seconds y1.1).bind fun y12 => some ((IntKind.i64.wrap (y12 + y11.2.1)), true))

def fraud_Time_b3 (k14 : Nat) (x_16 : ApiRun) (sv : (List ApiEdge)) : Option (Out ((List ApiEdge)) (Int × Bool)) :=
  chk (sv.length + 1) (some (Out.next (sv ++ [(ApiEdge.mk ((sv.length : Nat) : Int) x_16.From x_16.To (IntKind.i64.wrap (Int.tdiv x_16.Length (20 : Int))))])))

def fraud_Time (m : ApiMap) (a : Int) (b : Int) : Option (Int × Bool) :=
  (terrain_Lift m a).bind fun y1 => (bif (!y1.2) then some ((0 : Int), false) else (terrain_Lift m b).bind fun y2 => (bif (!y2.2) then some ((0 : Int), false) else (forIx fraud_Time_b3 0 m.Runs []).bind fun o14 => o14.on fun s14 => fraud_Time_j1 m y1 y2 s14))

theorem fraud_Time_spec (m : ApiMap) (a : Int) (b : Int) {r : Int × Bool} (h : fraud_Time m a b = some r) : PureFn Try.prog 12 [.agg (encApiMap m), .int .i64 a, .int .i64 b] (· = .tuple [.int .i64 r.1, .bool r.2]) := by
  refine PureFn.nle (PureFn.intro Try.func12 rfl rfl (by show _ ≤ 91; simp) ?_)
  unfold fraud_Time at h
  (try simp +decide -implicitDefEqProofs only [go_sem])
  refine AWP.seq ?_
  refine AWP.region rfl ?_; intro K hK
  (try simp +decide -implicitDefEqProofs only [go_sem])
  refine hK _ _ ?_; clear hK K
  refine qthen_normal ?_
  refine AWP.seq ?_
  refine AWP.region rfl ?_; intro K hK
  (try simp +decide -implicitDefEqProofs only [go_sem])
  obtain ⟨y1, hy1, h⟩ := bindE h
  refine ACall.pure Try.call29 (terrain_Lift_spec m a hy1) rfl fun _ hr => ?_
  subst hr
  (try simp +decide -implicitDefEqProofs only [go_sem])
  refine hK _ _ ?_; clear hK K
  refine qthen_normal ?_
  refine AWP.seq ?_
  refine AWP.seq ?_
  refine AWP.region rfl ?_; intro K hK
  (try simp +decide -implicitDefEqProofs only [go_sem])
  refine hK _ _ ?_; clear hK K
  refine qthen_normal ?_
  refine AWP.cond (acond_split (fun hc => ?_) (fun hc => ?_))
  · replace h := bif_t h hc
    refine AWP.seq ?_
    refine AWP.region rfl ?_; intro K hK
    (try simp +decide -implicitDefEqProofs only [go_sem])
    refine hK _ _ ?_; clear hK K
    refine qthen_normal ?_
    refine AWP.ret ?_
    refine qthen_ret ?_
    obtain rfl := some_eq h
    simp +decide -implicitDefEqProofs only [go_sem, mpE_nil, AVal.int.injEq, Int.natCast_zero, List.replicate_zero, List.length_take, List.length_drop, AVal.own.injEq, reduceCtorEq, Int.reduceAdd, nle2, nle1, nle0, nleA, nleL, Try.results12]
  replace h := bif_f h hc
  refine AWP.skip ?_
  refine qthen_normal ?_
  refine AWP.seq ?_
  refine AWP.region rfl ?_; intro K hK
  (try simp +decide -implicitDefEqProofs only [go_sem])
  obtain ⟨y2, hy2, h⟩ := bindE h
  refine ACall.pure Try.call29 (terrain_Lift_spec m b hy2) rfl fun _ hr => ?_
  subst hr
  (try simp +decide -implicitDefEqProofs only [go_sem])
  refine hK _ _ ?_; clear hK K
  refine qthen_normal ?_
  refine AWP.seq ?_
  refine AWP.seq ?_
  refine AWP.region rfl ?_; intro K hK
  (try simp +decide -implicitDefEqProofs only [go_sem])
  refine hK _ _ ?_; clear hK K
  refine qthen_normal ?_
  refine AWP.cond (acond_split (fun hc => ?_) (fun hc => ?_))
  · replace h := bif_t h hc
    refine AWP.seq ?_
    refine AWP.region rfl ?_; intro K hK
    (try simp +decide -implicitDefEqProofs only [go_sem])
    refine hK _ _ ?_; clear hK K
    refine qthen_normal ?_
    refine AWP.ret ?_
    refine qthen_ret ?_
    obtain rfl := some_eq h
    simp +decide -implicitDefEqProofs only [go_sem, mpE_nil, AVal.int.injEq, Int.natCast_zero, List.replicate_zero, List.length_take, List.length_drop, AVal.own.injEq, reduceCtorEq, Int.reduceAdd, nle2, nle1, nle0, nleA, nleL, Try.results12]
  replace h := bif_f h hc
  refine AWP.skip ?_
  refine qthen_normal ?_
  refine AWP.seq ?_
  refine AWP.region rfl ?_; intro K hK
  (try simp +decide -implicitDefEqProofs only [go_sem])
  refine hK _ _ ?_; clear hK K
  refine qthen_normal ?_
  refine AWP.seqJoin (ι := ((List ApiEdge)) × (Nat)) (fun zz => [(3, .ptr 0 0), (8, .ptr 1 0), (10, .ptr 2 0), (11, .own 3 zz.2 0 zz.1.length)]) (fun zz => [.box [.sl 2 (m.Nodes.map encApiNode), .sl 8 (m.Lifts.map encApiLift), .sl 7 (m.Runs.map encApiRun), .sl 1 (m.Bases.map intC)], .box [.int .i64 y1.1.ID, .int .i64 y1.1.Operator, .int .i64 y1.1.From, .int .i64 y1.1.To, .int .i64 y1.1.Length, .int .i64 y1.1.Speed, .int .i64 y1.1.Seats, .int .i64 y1.1.Spacing], .box [.int .i64 y2.1.ID, .int .i64 y2.1.Operator, .int .i64 y2.1.From, .int .i64 y2.1.To, .int .i64 y2.1.Length, .int .i64 y2.1.Speed, .int .i64 y2.1.Seats, .int .i64 y2.1.Spacing], .row zz.2 4 (zz.1.map encApiEdge)]) (fun zz => fraud_Time_j1 m y1 y2 zz.1 = some r) (fun zz => ⟨rfl, rfl, rfl⟩) ?_ ?_
  · refine AWP.seq ?_
    refine AWP.region rfl ?_; intro K hK
    (try simp +decide -implicitDefEqProofs only [go_sem])
    intro hm
    refine hK _ _ ?_; clear hK K
    refine qthen_normal ?_
    refine AWP.block ?_
    refine AWP.ghost 11 4 rfl (by decide) ?_
    obtain ⟨o14, hJ14, hO14⟩ := bindE h
    clear h
    refine AWP.loopW (ι := Nat × ((List ApiEdge)) × (Nat)) (fun zz => [(3, .ptr 0 0), (8, .ptr 1 0), (10, .ptr 2 0), (11, .own 3 zz.2.2 0 zz.2.1.length), (35, .sl 7 (m.Runs.map encApiRun)), (36, .int .i64 ((m.Runs.length : Nat) : Int)), (37, .int .i64 ((zz.1 : Nat) : Int))]) (fun zz => [.box [.sl 2 (m.Nodes.map encApiNode), .sl 8 (m.Lifts.map encApiLift), .sl 7 (m.Runs.map encApiRun), .sl 1 (m.Bases.map intC)], .box [.int .i64 y1.1.ID, .int .i64 y1.1.Operator, .int .i64 y1.1.From, .int .i64 y1.1.To, .int .i64 y1.1.Length, .int .i64 y1.1.Speed, .int .i64 y1.1.Seats, .int .i64 y1.1.Spacing], .box [.int .i64 y2.1.ID, .int .i64 y2.1.Operator, .int .i64 y2.1.From, .int .i64 y2.1.To, .int .i64 y2.1.Length, .int .i64 y2.1.Speed, .int .i64 y2.1.Seats, .int .i64 y2.1.Spacing], .row zz.2.2 4 (zz.2.1.map encApiEdge)]) (fun zz => zz.1 ≤ m.Runs.length ∧ forIx fraud_Time_b3 zz.1 ((m.Runs).drop zz.1) zz.2.1 = some o14) (fun zz => m.Runs.length - zz.1) (0, [], 0) ⟨Nat.zero_le _, hJ14⟩ (by (simp +decide -implicitDefEqProofs only [go_sem, mpE_nil, AVal.int.injEq, Int.natCast_zero, List.replicate_zero, List.length_take, List.length_drop, AVal.own.injEq, reduceCtorEq, Int.reduceAdd] <;> omega)) (by (simp +decide -implicitDefEqProofs only [go_sem, mpE_nil, AVal.int.injEq, Int.natCast_zero, List.replicate_zero, List.length_take, List.length_drop, AVal.own.injEq, reduceCtorEq, Int.reduceAdd] <;> omega)) (fun x => ⟨rfl, rfl, rfl⟩) ?_
    clear hJ14
    rintro ⟨k14, edges13, ver14⟩ ⟨hk14, hJ14⟩
    dsimp only at hk14 hJ14 ⊢
    refine AWP.seq ?_
    refine AWP.region rfl ?_; intro K hK
    (try simp +decide -implicitDefEqProofs only [go_sem])
    refine hK _ _ ?_; clear hK K
    refine qthen_normal ?_
    refine AWP.seq ?_
    refine AWP.cond (acond_split (fun hc => ?_) (fun hc => ?_))
    · have hlt14 : k14 < m.Runs.length := by have := of_decide_eq_true hc; omega
      obtain ⟨x_16, b14, hx14_, h, hJ14⟩ := for_cons hJ14 hlt14
      have hx14 := idxL_nat hx14_
      have hw14 : IntKind.i64.wrap (((k14 : Nat) : Int) + 1) = (((k14 : Nat) : Int) + (1 : Int)) := by rw [wrap_i64] <;> omega
      unfold fraud_Time_b3 at h; try dsimp only at h
      refine AWP.skip ?_
      refine qthen_normal ?_
      refine AWP.seq ?_
      refine AWP.block ?_
      refine AWP.seq ?_
      refine AWP.region rfl ?_; intro K hK
      (try simp +decide -implicitDefEqProofs only [go_sem])
      refine AIdx.of (f := encApiRun) (l := m.Runs) hx14 ?_
      (try simp +decide -implicitDefEqProofs only [go_sem])
      refine hK _ _ ?_; clear hK K
      refine qthen_normal ?_
      refine AWP.region rfl ?_; intro K hK
      (try simp +decide -implicitDefEqProofs only [go_sem])
      intro hm
      obtain ⟨hk, h⟩ := chk_in h
      (repeat (refine ⟨by first | omega | (simp only [List.length_take, List.length_drop, List.length_append]; omega), ?_⟩)); try simp +decide -implicitDefEqProofs only [go_sem]
      refine hK _ _ ?_; clear hK K
      refine qblock_normal ?_
      refine qthen_normal ?_
      refine AWP.region rfl ?_; intro K hK
      (try simp +decide -implicitDefEqProofs only [go_sem])
      refine hK _ _ ?_; clear hK K
      refine qthen_normal ?_
      obtain rfl := some_eq h
      refine ⟨(k14 + 1, (edges13 ++ [(ApiEdge.mk ((edges13.length : Nat) : Int) x_16.From x_16.To (IntKind.i64.wrap (Int.tdiv x_16.Length (20 : Int))))]), (ver14 + 1)), ⟨by dsimp only; omega, cont_next hJ14⟩, by dsimp only; omega, ?_, ?_⟩
      · (simp +decide -implicitDefEqProofs only [go_sem, mpE_nil, AVal.int.injEq, Int.natCast_zero, List.replicate_zero, List.length_take, List.length_drop, AVal.own.injEq, reduceCtorEq, Int.reduceAdd, hw14] <;> omega)
      · (simp +decide -implicitDefEqProofs only [go_sem, mpE_nil, AVal.int.injEq, Int.natCast_zero, List.replicate_zero, List.length_take, List.length_drop, AVal.own.injEq, reduceCtorEq, Int.reduceAdd, hw14] <;> omega)
    · obtain rfl := for_nil hJ14 (fun hl => by have := of_decide_eq_false hc; omega)
      have h := on_next hO14; try dsimp only at h
      have hkl : m.Runs.length = k14 := by have := of_decide_eq_false hc; omega
      subst hkl
      refine AWP.exit ?_
      refine qthen_exit ?_
      refine qthen_exit ?_
      refine qblock_same ?_
      refine qthen_normal ?_
      exact ⟨(edges13, ver14), h, by (simp +decide -implicitDefEqProofs only [go_sem, mpE_nil, AVal.int.injEq, Int.natCast_zero, List.replicate_zero, List.length_take, List.length_drop, AVal.own.injEq, reduceCtorEq, Int.reduceAdd] <;> omega), by (simp +decide -implicitDefEqProofs only [go_sem, mpE_nil, AVal.int.injEq, Int.natCast_zero, List.replicate_zero, List.length_take, List.length_drop, AVal.own.injEq, reduceCtorEq, Int.reduceAdd] <;> omega)⟩
  · rintro ⟨edges3, ver4⟩ h
    try dsimp only at h ⊢
    unfold fraud_Time_j1 at h; try dsimp only at h
    refine AWP.seq ?_
    refine AWP.seq ?_
    refine AWP.region rfl ?_; intro K hK
    (try simp +decide -implicitDefEqProofs only [go_sem])
    intro hm
    refine hK _ _ ?_; clear hK K
    refine qthen_normal ?_
    refine AWP.block ?_
    obtain ⟨o7, hJ7, hO7⟩ := bindE h
    clear h
    refine AWP.loopW (ι := Nat × ((List ApiEdge)) × (Nat)) (fun zz => [(8, .ptr 1 0), (10, .ptr 2 0), (11, .own 3 zz.2.2 0 zz.2.1.length), (56, .sl 8 (m.Lifts.map encApiLift)), (57, .int .i64 ((m.Lifts.length : Nat) : Int)), (58, .int .i64 ((zz.1 : Nat) : Int))]) (fun zz => [.gone, .box [.int .i64 y1.1.ID, .int .i64 y1.1.Operator, .int .i64 y1.1.From, .int .i64 y1.1.To, .int .i64 y1.1.Length, .int .i64 y1.1.Speed, .int .i64 y1.1.Seats, .int .i64 y1.1.Spacing], .box [.int .i64 y2.1.ID, .int .i64 y2.1.Operator, .int .i64 y2.1.From, .int .i64 y2.1.To, .int .i64 y2.1.Length, .int .i64 y2.1.Speed, .int .i64 y2.1.Seats, .int .i64 y2.1.Spacing], .row zz.2.2 4 (zz.2.1.map encApiEdge)]) (fun zz => zz.1 ≤ m.Lifts.length ∧ forIx fraud_Time_b2 zz.1 ((m.Lifts).drop zz.1) zz.2.1 = some o7) (fun zz => m.Lifts.length - zz.1) (0, edges3, ver4) ⟨Nat.zero_le _, hJ7⟩ (by (simp +decide -implicitDefEqProofs only [go_sem, mpE_nil, AVal.int.injEq, Int.natCast_zero, List.replicate_zero, List.length_take, List.length_drop, AVal.own.injEq, reduceCtorEq, Int.reduceAdd] <;> omega)) (by (simp +decide -implicitDefEqProofs only [go_sem, mpE_nil, AVal.int.injEq, Int.natCast_zero, List.replicate_zero, List.length_take, List.length_drop, AVal.own.injEq, reduceCtorEq, Int.reduceAdd] <;> omega)) (fun x => ⟨rfl, rfl, rfl⟩) ?_
    clear hJ7
    rintro ⟨k7, edges6, ver7⟩ ⟨hk7, hJ7⟩
    dsimp only at hk7 hJ7 ⊢
    refine AWP.seq ?_
    refine AWP.region rfl ?_; intro K hK
    (try simp +decide -implicitDefEqProofs only [go_sem])
    refine hK _ _ ?_; clear hK K
    refine qthen_normal ?_
    refine AWP.seq ?_
    refine AWP.cond (acond_split (fun hc => ?_) (fun hc => ?_))
    · have hlt7 : k7 < m.Lifts.length := by have := of_decide_eq_true hc; omega
      obtain ⟨x_9, b7, hx7_, h, hJ7⟩ := for_cons hJ7 hlt7
      have hx7 := idxL_nat hx7_
      have hw7 : IntKind.i64.wrap (((k7 : Nat) : Int) + 1) = (((k7 : Nat) : Int) + (1 : Int)) := by rw [wrap_i64] <;> omega
      unfold fraud_Time_b2 at h; try dsimp only at h
      refine AWP.skip ?_
      refine qthen_normal ?_
      refine AWP.seq ?_
      refine AWP.block ?_
      refine AWP.seq ?_
      refine AWP.region rfl ?_; intro K hK
      (try simp +decide -implicitDefEqProofs only [go_sem])
      refine AIdx.of (f := encApiLift) (l := m.Lifts) hx7 ?_
      (try simp +decide -implicitDefEqProofs only [go_sem])
      refine hK _ _ ?_; clear hK K
      refine qthen_normal ?_
      refine AWP.draw Try.mixed (by kernel_rfl) ?_; intro K hK
      (try simp +decide -implicitDefEqProofs only [go_sem])
      intro hm
      obtain ⟨y10, hy10, h⟩ := bindE h
      refine DCall.pure Try.call30 (fraud_seconds_spec x_9 hy10) rfl ?_
      (try simp +decide -implicitDefEqProofs only [go_sem])
      obtain ⟨hk, h⟩ := chk_in h
      (repeat (refine ⟨by first | omega | (simp only [List.length_take, List.length_drop, List.length_append]; omega), ?_⟩)); try simp +decide -implicitDefEqProofs only [go_sem]
      refine hK _ _ _ (by kernel_rfl) ?_; clear hK K
      refine qblock_normal ?_
      refine qthen_normal ?_
      refine AWP.region rfl ?_; intro K hK
      (try simp +decide -implicitDefEqProofs only [go_sem])
      refine hK _ _ ?_; clear hK K
      refine qthen_normal ?_
      obtain rfl := some_eq h
      refine ⟨(k7 + 1, (edges6 ++ [(ApiEdge.mk ((edges6.length : Nat) : Int) x_9.From x_9.To y10)]), (ver7 + 1)), ⟨by dsimp only; omega, cont_next hJ7⟩, by dsimp only; omega, ?_, ?_⟩
      · (simp +decide -implicitDefEqProofs only [go_sem, mpE_nil, AVal.int.injEq, Int.natCast_zero, List.replicate_zero, List.length_take, List.length_drop, AVal.own.injEq, reduceCtorEq, Int.reduceAdd, hw7] <;> omega)
      · (simp +decide -implicitDefEqProofs only [go_sem, mpE_nil, AVal.int.injEq, Int.natCast_zero, List.replicate_zero, List.length_take, List.length_drop, AVal.own.injEq, reduceCtorEq, Int.reduceAdd, hw7] <;> omega)
    · obtain rfl := for_nil hJ7 (fun hl => by have := of_decide_eq_false hc; omega)
      have h := on_next hO7; try dsimp only at h
      have hkl : m.Lifts.length = k7 := by have := of_decide_eq_false hc; omega
      subst hkl
      refine AWP.exit ?_
      refine qthen_exit ?_
      refine qthen_exit ?_
      refine qblock_same ?_
      refine qthen_normal ?_
      refine AWP.seq ?_
      refine AWP.region rfl ?_; intro K hK
      (try simp +decide -implicitDefEqProofs only [go_sem])
      obtain ⟨y11, hy11, h⟩ := bindE h
      refine ACall.snapF Try.call31 (graph_Shortest_fresh edges6 y1.1.To y2.1.From hy11) (by simp +decide -implicitDefEqProofs only [go_sem]) fun _ hr => ?_
      subst hr
      (try simp +decide -implicitDefEqProofs only [go_sem])
      refine hK _ _ ?_; clear hK K
      refine qthen_normal ?_
      refine AWP.seq ?_
      refine AWP.seq ?_
      refine AWP.region rfl ?_; intro K hK
      (try simp +decide -implicitDefEqProofs only [go_sem])
      refine hK _ _ ?_; clear hK K
      refine qthen_normal ?_
      refine AWP.cond (acond_split (fun hc => ?_) (fun hc => ?_))
      · replace h := bif_t h hc
        refine AWP.seq ?_
        refine AWP.region rfl ?_; intro K hK
        (try simp +decide -implicitDefEqProofs only [go_sem])
        refine hK _ _ ?_; clear hK K
        refine qthen_normal ?_
        refine AWP.ret ?_
        refine qthen_ret ?_
        obtain rfl := some_eq h
        simp +decide -implicitDefEqProofs only [go_sem, mpE_nil, AVal.int.injEq, Int.natCast_zero, List.replicate_zero, List.length_take, List.length_drop, AVal.own.injEq, reduceCtorEq, Int.reduceAdd, nle2, nle1, nle0, nleA, nleL, Try.results12]
      replace h := bif_f h hc
      refine AWP.skip ?_
      refine qthen_normal ?_
      refine AWP.seq ?_
      refine AWP.region rfl ?_; intro K hK
      (try simp +decide -implicitDefEqProofs only [go_sem])
      obtain ⟨y12, hy12, h⟩ := bindE h
      refine ACall.pure Try.call30 (fraud_seconds_spec y1.1 hy12) rfl fun _ hr => ?_
      subst hr
      (try simp +decide -implicitDefEqProofs only [go_sem])
      refine hK _ _ ?_; clear hK K
      refine qthen_normal ?_
      refine AWP.ret ?_
      obtain rfl := some_eq h
      simp +decide -implicitDefEqProofs only [go_sem, mpE_nil, AVal.int.injEq, Int.natCast_zero, List.replicate_zero, List.length_take, List.length_drop, AVal.own.injEq, reduceCtorEq, Int.reduceAdd, nle2, nle1, nle0, nleA, nleL, Try.results12]

def fraud_successors_b1 (l : List ApiRide) (sv : Int × (List Int) × (List (Int × Int))) : Option (Out (Int × (List Int) × (List (Int × Int))) ((List Int))) :=
  (bif (decide ((0 : Int) ≤ sv.1)) then (idxL l sv.1).bind fun x_6 => (idxL sv.2.1 sv.1).bind fun x_7 => some (Out.next ((IntKind.i64.wrap (sv.1 - (1 : Int))), (sv.2.1.set sv.1.toNat (mget (0 : Int) sv.2.2 x_6.Serial)), (mset sv.2.2 x_6.Serial sv.1))) else some (Out.ret sv.2.1))

def fraud_successors (l : List ApiRide) : Option ((List Int)) :=
  chk l.length ((whileN (fraud_successors_b1 l) fuel ((IntKind.i64.wrap (((l.length : Nat) : Int) - (1 : Int))), (List.replicate l.length (0 : Int)), [])).bind fun o4 => o4.on fun _ => none)

theorem fraud_successors_spec (l : List ApiRide) {r : (List Int)} (h : fraud_successors l = some r) : PureFn Try.prog 35 [.sl 7 (l.map encApiRide)] (· = .sl 1 (r.map intC)) := by
  refine PureFn.nle (PureFn.introM Try.func35 rfl rfl (by show _ ≤ 27; simp) ?_)
  unfold fraud_successors at h
  (try simp +decide -implicitDefEqProofs only [go_sem])
  refine AWPm.pre ?_
  refine AWP.region rfl ?_; intro K hK
  (try simp +decide -implicitDefEqProofs only [go_sem])
  refine hK _ _ ?_; clear hK K
  refine qthen_normal ?_
  refine AWPm.pre ?_
  refine AWP.region rfl ?_; intro K hK
  (try simp +decide -implicitDefEqProofs only [go_sem])
  intro hm
  obtain ⟨hk, h⟩ := chk_in h
  (repeat (refine ⟨by first | omega | (simp only [List.length_take, List.length_drop, List.length_append]; omega), ?_⟩)); try simp +decide -implicitDefEqProofs only [go_sem]
  refine hK _ _ ?_; clear hK K
  refine qthen_normal ?_
  refine AWPm.pre ?_
  refine AWP.region rfl ?_; intro K hK
  (try simp +decide -implicitDefEqProofs only [go_sem])
  refine hK _ _ ?_; clear hK K
  refine qthen_normal ?_
  refine AWPm.seqq ?_
  refine AWPq.seq ?_
  refine AWP.region rfl ?_; intro K hK
  (try simp +decide -implicitDefEqProofs only [go_sem])
  refine ACall.inline Try.call51 Try.func51 rfl rfl (by show _ ≤ 4; simp) ?_
  (try simp +decide -implicitDefEqProofs only [go_sem])
  refine AWP.seq ?_
  refine AWP.region rfl ?_; intro K hK
  (try simp +decide -implicitDefEqProofs only [go_sem])
  refine hK _ _ ?_; clear hK K
  refine qthen_normal ?_
  refine AWP.seq ?_
  refine AWP.region rfl ?_; intro K hK
  (try simp +decide -implicitDefEqProofs only [go_sem])
  refine hK _ _ ?_; clear hK K
  refine qthen_normal ?_
  refine AWP.ret ?_
  (try simp +decide -implicitDefEqProofs only [go_sem, Try.results51])
  refine hK _ _ ?_; clear hK K
  refine qthen_normal ?_
  refine AWPq.range [(2, .nils), (3, .ptr 1 0), (4, .ptr 3 0), (12, .func 55 [.ptr 4 0])] (by (simp +decide -implicitDefEqProofs only [go_sem, mpE_nil, AVal.int.injEq, Int.natCast_zero, List.replicate_zero, List.length_take, List.length_drop, AVal.own.injEq, reduceCtorEq, Int.reduceAdd] <;> omega)) (by (simp +decide -implicitDefEqProofs only [go_sem, mpE_nil, AVal.int.injEq, Int.natCast_zero, List.replicate_zero, List.length_take, List.length_drop, AVal.own.injEq, reduceCtorEq, Int.reduceAdd] <;> omega)) rfl fun D A0 B0 hA0 hB0 => ?_
  (try simp +decide -implicitDefEqProofs only [go_sem])
  refine ACall.inline Try.call55 Try.func55 rfl rfl (by show _ ≤ 19; simp) ?_
  (try simp +decide -implicitDefEqProofs only [go_sem])
  refine AWP.seq ?_
  refine AWP.region rfl ?_; intro K hK
  (try simp +decide -implicitDefEqProofs only [go_sem])
  intro hm
  refine hK _ _ ?_; clear hK K
  refine qthen_normal ?_
  refine AWP.block ?_
  obtain ⟨o4, hJ4, hO4⟩ := bindE h
  clear h
  refine AWP.loopW (ι := Nat × (Int × (List Int) × (List (Int × Int))) × (Nat)) (fun zz => [(0, .yld 5), (1, .ptr 4 0), (3, .int .i64 zz.2.1.1)]) (fun zz => [.row zz.2.2 1 (zz.2.1.2.1.map intC), .box [.own 0 zz.2.2 0 zz.2.1.2.1.length], .mp (mpE intV zz.2.1.2.2), .box [.map 2], .box [.sl 7 (l.map encApiRide)], .lp D 27 [(2, .nils), (3, .ptr 1 0), (4, .ptr 3 0), (12, .func 55 [.ptr 4 0])] #[13, 14] A0 B0 .ready none]) (fun zz => whileN (fraud_successors_b1 l) zz.1 zz.2.1 = some o4) (fun zz => zz.1) (fuel, ((IntKind.i64.wrap (((l.length : Nat) : Int) - (1 : Int))), (List.replicate l.length (0 : Int)), []), 0) hJ4 (by (simp +decide -implicitDefEqProofs only [go_sem, mpE_nil, AVal.int.injEq, Int.natCast_zero, List.replicate_zero, List.length_take, List.length_drop, AVal.own.injEq, reduceCtorEq, Int.reduceAdd] <;> omega)) (by (simp +decide -implicitDefEqProofs only [go_sem, mpE_nil, AVal.int.injEq, Int.natCast_zero, List.replicate_zero, List.length_take, List.length_drop, AVal.own.injEq, reduceCtorEq, Int.reduceAdd] <;> omega)) (fun x => ⟨rfl, rfl, rfl⟩) ?_
  clear hJ4
  rintro ⟨n4, ⟨i1, o0_2, o2_4⟩, ver3⟩ hJ4
  dsimp only at hJ4 ⊢
  obtain ⟨m4, b4, rfl, h, hJ4⟩ := while_step hJ4
  unfold fraud_successors_b1 at h; try dsimp only at h
  refine AWP.seq ?_
  refine AWP.seq ?_
  refine AWP.region rfl ?_; intro K hK
  (try simp +decide -implicitDefEqProofs only [go_sem])
  refine hK _ _ ?_; clear hK K
  refine qthen_normal ?_
  refine AWP.cond (acond_split (fun hc => ?_) (fun hc => ?_))
  · replace h := bif_t h hc
    refine AWP.skip ?_
    refine qthen_normal ?_
    refine AWP.seq ?_
    refine AWP.block ?_
    refine AWP.seq ?_
    refine AWP.region rfl ?_; intro K hK
    (try simp +decide -implicitDefEqProofs only [go_sem])
    obtain ⟨x_6, hx_6, h⟩ := bindE h
    refine AIdx.of (f := encApiRide) (l := l) hx_6 ?_
    (try simp +decide -implicitDefEqProofs only [go_sem])
    refine ACall.yield rfl rfl rfl hA0 hB0 rfl fun md => ?_
    (try simp +decide -implicitDefEqProofs only [go_sem, putAll])
    refine AWP.seq ?_
    refine AWP.region rfl ?_; intro K hK
    (try simp +decide -implicitDefEqProofs only [go_sem])
    refine hK _ _ ?_; clear hK K
    refine qthen_normal ?_
    refine AWP.region rfl ?_; intro K hK
    (try simp +decide -implicitDefEqProofs only [go_sem])
    refine hK _ _ ?_; clear hK K
    refine qyA.mk rfl ?_
    (try simp +decide -implicitDefEqProofs only [go_sem])
    refine AWP.block ?_
    refine AWP.seq ?_
    refine AWP.region rfl ?_; intro K hK
    (try simp +decide -implicitDefEqProofs only [go_sem])
    refine ALook.of (f := intV) (m := o2_4) (d := (0 : Int)) rfl ?_
    (try simp +decide -implicitDefEqProofs only [go_sem])
    obtain ⟨x_7, hx_7, h⟩ := bindE h
    refine own_in hx_7 (by first | rfl | exact (sortI_len _).symm | (simp only [List.length_append, List.length_cons, List.length_nil, List.length_set, List.length_replicate] <;> omega)) ?_
    (try simp +decide -implicitDefEqProofs only [go_sem])
    refine AElem.of (f := intC) (l := o0_2) (n := i1) hx_7 ?_
    have hs8 := idxL_set (y := (mget (0 : Int) o2_4 x_6.Serial)) hx_7
    (try simp +decide -implicitDefEqProofs only [go_sem])
    refine hK _ _ ?_; clear hK K
    refine qthen_normal ?_
    refine AWP.region rfl ?_; intro K hK
    (try simp +decide -implicitDefEqProofs only [go_sem])
    refine hK _ _ ?_; clear hK K
    refine qblock_normal ?_
    refine qyB.next rfl ?_
    (try simp +decide -implicitDefEqProofs only [go_sem])
    refine hK _ _ ?_; clear hK K
    refine qthen_normal ?_
    refine AWP.cond (acond_false ?_)
    refine AWP.skip ?_
    refine qblock_normal ?_
    refine qthen_normal ?_
    refine AWP.region rfl ?_; intro K hK
    (try simp +decide -implicitDefEqProofs only [go_sem])
    refine hK _ _ ?_; clear hK K
    refine qthen_normal ?_
    obtain rfl := some_eq h
    refine ⟨(m4, ((IntKind.i64.wrap (i1 - (1 : Int))), (o0_2.set i1.toNat (mget (0 : Int) o2_4 x_6.Serial)), (mset o2_4 x_6.Serial i1)), ver3), cont_next hJ4, by dsimp only; omega, ?_, ?_⟩
    · (simp +decide -implicitDefEqProofs only [go_sem, mpE_nil, AVal.int.injEq, Int.natCast_zero, List.replicate_zero, List.length_take, List.length_drop, AVal.own.injEq, reduceCtorEq, Int.reduceAdd] <;> omega)
    · (simp +decide -implicitDefEqProofs only [go_sem, mpE_nil, AVal.int.injEq, Int.natCast_zero, List.replicate_zero, List.length_take, List.length_drop, AVal.own.injEq, reduceCtorEq, Int.reduceAdd] <;> omega)
  replace h := bif_f h hc
  refine AWP.exit ?_
  refine qthen_exit ?_
  refine qthen_exit ?_
  obtain rfl := some_eq h
  obtain rfl := cont_ret hJ4
  replace h := on_ret hO4
  refine qblock_same ?_
  (try simp +decide -implicitDefEqProofs only [go_sem, Try.results55])
  refine qrange.all rfl ?_
  (try simp +decide -implicitDefEqProofs only [go_sem])
  refine AWP.seq ?_
  refine AWP.region rfl ?_; intro K hK
  (try simp +decide -implicitDefEqProofs only [go_sem])
  refine hK _ _ ?_; clear hK K
  refine qthen_normal ?_
  refine AWP.ret ?_
  refine qmD.mk (r := 5) rfl ?_
  obtain rfl := some_eq h
  simp +decide -implicitDefEqProofs only [go_sem, mpE_nil, AVal.int.injEq, Int.natCast_zero, List.replicate_zero, List.length_take, List.length_drop, AVal.own.injEq, reduceCtorEq, Int.reduceAdd, nle2, nle1, nle0, nleA, nleL, Try.results35]

end
end Go.Proofs.Ytmfjcimogpmheaa
