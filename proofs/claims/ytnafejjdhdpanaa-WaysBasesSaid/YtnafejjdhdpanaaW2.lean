/-
  What functions of the program compute, as plain Lean functions, and the walks that prove it; printed by a small program of our own (wip/walk.py).
-/
import Derived.Test.YtnafejjdhdpanaaW1
namespace Go.Proofs.Ytnafejjdhdpanaa
open Go Go.Ab
attribute [local irreducible] AWP ACall DCall PureFn Go.Ab.Sub alist dlist AIdx AElem ALook ANext
set_option maxRecDepth 100000
set_option maxHeartbeats 4000000
set_option linter.unusedSimpArgs false
set_option linter.unusedVariables false
noncomputable section
def graph_lengths_b2 (k5 : Nat) (x_7 : ApiEdge) (sv : Bool × (List (Int × GraphLength))) : Option (Out (Bool × (List (Int × GraphLength))) (Out ((List (Int × GraphLength))) ((List (Int × GraphLength))))) :=
  (bif (!(mhas sv.2 x_7.To)) then some (Out.next (sv.1, sv.2)) else (bif (!(mhas sv.2 x_7.From)) then some (Out.next (true, (mset sv.2 x_7.From (GraphLength.mk (IntKind.i64.wrap ((mget (GraphLength.mk (0 : Int) (0 : Int)) sv.2 x_7.To).cost + x_7.Cost)) (IntKind.i64.wrap ((mget (GraphLength.mk (0 : Int) (0 : Int)) sv.2 x_7.To).edges + (1 : Int))))))) else (graph_less (GraphLength.mk (IntKind.i64.wrap ((mget (GraphLength.mk (0 : Int) (0 : Int)) sv.2 x_7.To).cost + x_7.Cost)) (IntKind.i64.wrap ((mget (GraphLength.mk (0 : Int) (0 : Int)) sv.2 x_7.To).edges + (1 : Int)))) (mget (GraphLength.mk (0 : Int) (0 : Int)) sv.2 x_7.From)).bind fun y8 => (bif y8 then some (Out.next (true, (mset sv.2 x_7.From (GraphLength.mk (IntKind.i64.wrap ((mget (GraphLength.mk (0 : Int) (0 : Int)) sv.2 x_7.To).cost + x_7.Cost)) (IntKind.i64.wrap ((mget (GraphLength.mk (0 : Int) (0 : Int)) sv.2 x_7.To).edges + (1 : Int))))))) else some (Out.next (sv.1, sv.2)))))

def graph_lengths_b1 (l : List ApiEdge) (k1 : Nat) (x_3 : ApiEdge) (sv : (List (Int × GraphLength))) : Option (Out ((List (Int × GraphLength))) ((List (Int × GraphLength)))) :=
  (forIx graph_lengths_b2 0 l (false, sv)).bind fun o5 => o5.on fun s5 => (bif (!s5.1) then some (Out.ret s5.2) else some (Out.next s5.2))

def graph_lengths (l : List ApiEdge) (to_ : Int) : Option ((List (Int × GraphLength))) :=
  (forIx (graph_lengths_b1 l) 0 l (mset [] to_ (GraphLength.mk (0 : Int) (0 : Int)))).bind fun o1 => o1.on fun s1 => some s1

theorem graph_lengths_spec (l : List ApiEdge) (to_ : Int) {r : (List (Int × GraphLength))} (h : graph_lengths l to_ = some r) : PureFn Try.prog 64 [.sl 4 (l.map encApiEdge), .int .i64 to_] (· = .vmap (mpE encGraphLengthV r)) := by
  refine PureFn.nle (PureFn.intro Try.func64 rfl rfl (by show _ ≤ 68; simp) ?_)
  unfold graph_lengths at h
  (try simp +decide -implicitDefEqProofs only [go_sem, encGraphLengthV_set0])
  refine AWP.seq ?_
  refine AWP.region rfl ?_; intro K hK
  (try simp +decide -implicitDefEqProofs only [go_sem, encGraphLengthV_set0])
  refine hK _ _ ?_; clear hK K
  refine qthen_normal ?_
  refine AWP.seq ?_
  refine AWP.region rfl ?_; intro K hK
  (try simp +decide -implicitDefEqProofs only [go_sem, encGraphLengthV_set0])
  refine hK _ _ ?_; clear hK K
  refine qthen_normal ?_
  refine AWP.seq ?_
  refine AWP.seq ?_
  refine AWP.region rfl ?_; intro K hK
  (try simp +decide -implicitDefEqProofs only [go_sem, encGraphLengthV_set0])
  intro hm
  refine hK _ _ ?_; clear hK K
  refine qthen_normal ?_
  refine AWP.block ?_
  obtain ⟨o1, hJ1, hO1⟩ := bindE h
  clear h
  refine AWP.loopW (ι := Nat × ((List (Int × GraphLength))) × (Unit)) (fun zz => [(0, .sl 4 (l.map encApiEdge)), (5, .map 0), (18, .int .i64 ((l.length : Nat) : Int)), (19, .int .i64 ((zz.1 : Nat) : Int))]) (fun zz => [.mp (mpE encGraphLengthV zz.2.1)]) (fun zz => zz.1 ≤ l.length ∧ forIx (graph_lengths_b1 l) zz.1 ((l).drop zz.1) zz.2.1 = some o1) (fun zz => l.length - zz.1) (0, (mset [] to_ (GraphLength.mk (0 : Int) (0 : Int))), ()) ⟨Nat.zero_le _, hJ1⟩ (by (simp +decide -implicitDefEqProofs only [go_sem, mpE_nil, Int.natCast_zero, List.replicate_zero, List.length_take, List.length_drop, AVal.own.injEq, reduceCtorEq, Int.reduceAdd, encGraphLengthV_set0] <;> omega)) (by (simp +decide -implicitDefEqProofs only [go_sem, mpE_nil, Int.natCast_zero, List.replicate_zero, List.length_take, List.length_drop, AVal.own.injEq, reduceCtorEq, Int.reduceAdd, encGraphLengthV_set0] <;> omega)) (fun x => ⟨rfl, rfl, rfl⟩) ?_
  clear hJ1
  rintro ⟨k1, out1, ⟨⟩⟩ ⟨hk1, hJ1⟩
  dsimp only at hk1 hJ1 ⊢
  refine AWP.seq ?_
  refine AWP.region rfl ?_; intro K hK
  (try simp +decide -implicitDefEqProofs only [go_sem, encGraphLengthV_set0])
  refine hK _ _ ?_; clear hK K
  refine qthen_normal ?_
  refine AWP.seq ?_
  refine AWP.cond (acond_split (fun hc => ?_) (fun hc => ?_))
  · have hlt1 : k1 < l.length := by have := of_decide_eq_true hc; omega
    obtain ⟨x_3, b1, hx1_, h, hJ1⟩ := for_cons hJ1 hlt1
    have hx1 := idxL_nat hx1_
    have hw1 : IntKind.i64.wrap (((k1 : Nat) : Int) + 1) = (((k1 : Nat) : Int) + (1 : Int)) := by rw [wrap_i64] <;> omega
    unfold graph_lengths_b1 at h; try dsimp only at h
    refine AWP.skip ?_
    refine qthen_normal ?_
    refine AWP.seq ?_
    refine AWP.block ?_
    refine AWP.seq ?_
    refine AWP.region rfl ?_; intro K hK
    (try simp +decide -implicitDefEqProofs only [go_sem, encGraphLengthV_set0])
    refine hK _ _ ?_; clear hK K
    refine qthen_normal ?_
    refine AWP.seq ?_
    refine AWP.seq ?_
    refine AWP.region rfl ?_; intro K hK
    (try simp +decide -implicitDefEqProofs only [go_sem, encGraphLengthV_set0])
    intro hm
    refine hK _ _ ?_; clear hK K
    refine qthen_normal ?_
    refine AWP.block ?_
    obtain ⟨o5, hJ5, hO5⟩ := bindE h
    clear h
    refine AWP.loopW (ι := Nat × (Bool × (List (Int × GraphLength))) × (Unit)) (fun zz => [(0, .sl 4 (l.map encApiEdge)), (5, .map 0), (6, .bool zz.2.1.1), (18, .int .i64 ((l.length : Nat) : Int)), (19, .int .i64 ((k1 : Nat) : Int)), (21, .sl 4 (l.map encApiEdge)), (22, .int .i64 ((l.length : Nat) : Int)), (23, .int .i64 ((zz.1 : Nat) : Int))]) (fun zz => [.mp (mpE encGraphLengthV zz.2.1.2)]) (fun zz => zz.1 ≤ l.length ∧ forIx graph_lengths_b2 zz.1 ((l).drop zz.1) zz.2.1 = some o5) (fun zz => l.length - zz.1) (0, (false, out1), ()) ⟨Nat.zero_le _, hJ5⟩ (by (simp +decide -implicitDefEqProofs only [go_sem, mpE_nil, Int.natCast_zero, List.replicate_zero, List.length_take, List.length_drop, AVal.own.injEq, reduceCtorEq, Int.reduceAdd, encGraphLengthV_set0] <;> omega)) (by (simp +decide -implicitDefEqProofs only [go_sem, mpE_nil, Int.natCast_zero, List.replicate_zero, List.length_take, List.length_drop, AVal.own.injEq, reduceCtorEq, Int.reduceAdd, encGraphLengthV_set0] <;> omega)) (fun x => ⟨rfl, rfl, rfl⟩) ?_
    clear hJ5
    rintro ⟨k5, ⟨changed4, out5⟩, ⟨⟩⟩ ⟨hk5, hJ5⟩
    dsimp only at hk5 hJ5 ⊢
    refine AWP.seq ?_
    refine AWP.region rfl ?_; intro K hK
    (try simp +decide -implicitDefEqProofs only [go_sem, encGraphLengthV_set0])
    refine hK _ _ ?_; clear hK K
    refine qthen_normal ?_
    refine AWP.seq ?_
    refine AWP.cond (acond_split (fun hc => ?_) (fun hc => ?_))
    · have hlt5 : k5 < l.length := by have := of_decide_eq_true hc; omega
      obtain ⟨x_7, b5, hx5_, h, hJ5⟩ := for_cons hJ5 hlt5
      have hx5 := idxL_nat hx5_
      have hw5 : IntKind.i64.wrap (((k5 : Nat) : Int) + 1) = (((k5 : Nat) : Int) + (1 : Int)) := by rw [wrap_i64] <;> omega
      unfold graph_lengths_b2 at h; try dsimp only at h
      refine AWP.skip ?_
      refine qthen_normal ?_
      refine AWP.seq ?_
      refine AWP.block ?_
      refine AWP.seq ?_
      refine AWP.region rfl ?_; intro K hK
      (try simp +decide -implicitDefEqProofs only [go_sem, encGraphLengthV_set0])
      refine AIdx.of (f := encApiEdge) (l := l) hx5 ?_
      (try simp +decide -implicitDefEqProofs only [go_sem, encGraphLengthV_set0])
      refine hK _ _ ?_; clear hK K
      refine qthen_normal ?_
      refine AWP.seq ?_
      refine AWP.region rfl ?_; intro K hK
      (try simp +decide -implicitDefEqProofs only [go_sem, encGraphLengthV_set0])
      refine ALook.of (f := encGraphLengthV) (m := out5) (d := (GraphLength.mk (0 : Int) (0 : Int))) rfl ?_
      (try simp +decide -implicitDefEqProofs only [go_sem, encGraphLengthV_set0])
      refine hK _ _ ?_; clear hK K
      refine qthen_normal ?_
      refine AWP.seq ?_
      refine AWP.seq ?_
      refine AWP.region rfl ?_; intro K hK
      (try simp +decide -implicitDefEqProofs only [go_sem, encGraphLengthV_set0])
      refine hK _ _ ?_; clear hK K
      refine qthen_normal ?_
      refine AWP.cond (acond_split (fun hc => ?_) (fun hc => ?_))
      · replace h := bif_t h hc
        refine AWP.exit ?_
        refine qthen_exit ?_
        refine qblock_same ?_
        refine qthen_normal ?_
        refine AWP.region rfl ?_; intro K hK
        (try simp +decide -implicitDefEqProofs only [go_sem, encGraphLengthV_set0])
        refine hK _ _ ?_; clear hK K
        refine qthen_normal ?_
        obtain rfl := some_eq h
        refine ⟨(k5 + 1, (changed4, out5), ()), ⟨by dsimp only; omega, cont_next hJ5⟩, by dsimp only; omega, ?_, ?_⟩
        · (simp +decide -implicitDefEqProofs only [go_sem, mpE_nil, Int.natCast_zero, List.replicate_zero, List.length_take, List.length_drop, AVal.own.injEq, reduceCtorEq, Int.reduceAdd, hw5, encGraphLengthV_set0] <;> omega)
        · (simp +decide -implicitDefEqProofs only [go_sem, mpE_nil, Int.natCast_zero, List.replicate_zero, List.length_take, List.length_drop, AVal.own.injEq, reduceCtorEq, Int.reduceAdd, hw5, encGraphLengthV_set0] <;> omega)
      replace h := bif_f h hc
      refine AWP.skip ?_
      refine qthen_normal ?_
      refine AWP.seq ?_
      refine AWP.region rfl ?_; intro K hK
      (try simp +decide -implicitDefEqProofs only [go_sem, encGraphLengthV_set0])
      refine hK _ _ ?_; clear hK K
      refine qthen_normal ?_
      refine AWP.seq ?_
      refine AWP.region rfl ?_; intro K hK
      (try simp +decide -implicitDefEqProofs only [go_sem, encGraphLengthV_set0])
      refine ALook.of (f := encGraphLengthV) (m := out5) (d := (GraphLength.mk (0 : Int) (0 : Int))) rfl ?_
      (try simp +decide -implicitDefEqProofs only [go_sem, encGraphLengthV_set0])
      refine hK _ _ ?_; clear hK K
      refine qthen_normal ?_
      refine AWP.seq ?_
      refine AWP.region rfl ?_; intro K hK
      (try simp +decide -implicitDefEqProofs only [go_sem, encGraphLengthV_set0])
      refine aguardK_split (fun hc => ?_) (fun hc => ?_)
      · replace h := bif_f h hc
        (try simp +decide -implicitDefEqProofs only [go_sem, hc, encGraphLengthV_set0])
        obtain ⟨y8, hy8, h⟩ := bindE h
        refine ACall.pure Try.call78 (graph_less_spec (GraphLength.mk (IntKind.i64.wrap ((mget (GraphLength.mk (0 : Int) (0 : Int)) out5 x_7.To).cost + x_7.Cost)) (IntKind.i64.wrap ((mget (GraphLength.mk (0 : Int) (0 : Int)) out5 x_7.To).edges + (1 : Int)))) (mget (GraphLength.mk (0 : Int) (0 : Int)) out5 x_7.From) hy8) rfl fun _ hr => ?_
        subst hr
        (try simp +decide -implicitDefEqProofs only [go_sem, encGraphLengthV_set0])
        refine hK _ _ ?_; clear hK K
        refine qthen_normal ?_
        refine AWP.cond (acond_split (fun hc => ?_) (fun hc => ?_))
        · replace h := bif_t h hc
          refine AWP.seq ?_
          refine AWP.region rfl ?_; intro K hK
          (try simp +decide -implicitDefEqProofs only [go_sem, encGraphLengthV_set0])
          refine hK _ _ ?_; clear hK K
          refine qthen_normal ?_
          refine AWP.region rfl ?_; intro K hK
          (try simp +decide -implicitDefEqProofs only [go_sem, encGraphLengthV_set0])
          refine hK _ _ ?_; clear hK K
          refine qblock_normal ?_
          refine qthen_normal ?_
          refine AWP.region rfl ?_; intro K hK
          (try simp +decide -implicitDefEqProofs only [go_sem, encGraphLengthV_set0])
          refine hK _ _ ?_; clear hK K
          refine qthen_normal ?_
          obtain rfl := some_eq h
          refine ⟨(k5 + 1, (true, (mset out5 x_7.From (GraphLength.mk (IntKind.i64.wrap ((mget (GraphLength.mk (0 : Int) (0 : Int)) out5 x_7.To).cost + x_7.Cost)) (IntKind.i64.wrap ((mget (GraphLength.mk (0 : Int) (0 : Int)) out5 x_7.To).edges + (1 : Int)))))), ()), ⟨by dsimp only; omega, cont_next hJ5⟩, by dsimp only; omega, ?_, ?_⟩
          · (simp +decide -implicitDefEqProofs only [go_sem, mpE_nil, Int.natCast_zero, List.replicate_zero, List.length_take, List.length_drop, AVal.own.injEq, reduceCtorEq, Int.reduceAdd, hw5, encGraphLengthV_set0] <;> omega)
          · (simp +decide -implicitDefEqProofs only [go_sem, mpE_nil, Int.natCast_zero, List.replicate_zero, List.length_take, List.length_drop, AVal.own.injEq, reduceCtorEq, Int.reduceAdd, hw5, encGraphLengthV_set0] <;> omega)
        replace h := bif_f h hc
        refine AWP.skip ?_
        refine qblock_normal ?_
        refine qthen_normal ?_
        refine AWP.region rfl ?_; intro K hK
        (try simp +decide -implicitDefEqProofs only [go_sem, encGraphLengthV_set0])
        refine hK _ _ ?_; clear hK K
        refine qthen_normal ?_
        obtain rfl := some_eq h
        refine ⟨(k5 + 1, (changed4, out5), ()), ⟨by dsimp only; omega, cont_next hJ5⟩, by dsimp only; omega, ?_, ?_⟩
        · (simp +decide -implicitDefEqProofs only [go_sem, mpE_nil, Int.natCast_zero, List.replicate_zero, List.length_take, List.length_drop, AVal.own.injEq, reduceCtorEq, Int.reduceAdd, hw5, encGraphLengthV_set0] <;> omega)
        · (simp +decide -implicitDefEqProofs only [go_sem, mpE_nil, Int.natCast_zero, List.replicate_zero, List.length_take, List.length_drop, AVal.own.injEq, reduceCtorEq, Int.reduceAdd, hw5, encGraphLengthV_set0] <;> omega)
      · replace h := bif_t h hc
        (try simp +decide -implicitDefEqProofs only [go_sem, hc, Bool.not_false, encGraphLengthV_set0])
        refine hK _ _ ?_; clear hK K
        refine qthen_normal ?_
        refine AWP.cond (acond_true ?_)
        refine AWP.seq ?_
        refine AWP.region rfl ?_; intro K hK
        (try simp +decide -implicitDefEqProofs only [go_sem, encGraphLengthV_set0])
        refine hK _ _ ?_; clear hK K
        refine qthen_normal ?_
        refine AWP.region rfl ?_; intro K hK
        (try simp +decide -implicitDefEqProofs only [go_sem, encGraphLengthV_set0])
        refine hK _ _ ?_; clear hK K
        refine qblock_normal ?_
        refine qthen_normal ?_
        refine AWP.region rfl ?_; intro K hK
        (try simp +decide -implicitDefEqProofs only [go_sem, encGraphLengthV_set0])
        refine hK _ _ ?_; clear hK K
        refine qthen_normal ?_
        obtain rfl := some_eq h
        refine ⟨(k5 + 1, (true, (mset out5 x_7.From (GraphLength.mk (IntKind.i64.wrap ((mget (GraphLength.mk (0 : Int) (0 : Int)) out5 x_7.To).cost + x_7.Cost)) (IntKind.i64.wrap ((mget (GraphLength.mk (0 : Int) (0 : Int)) out5 x_7.To).edges + (1 : Int)))))), ()), ⟨by dsimp only; omega, cont_next hJ5⟩, by dsimp only; omega, ?_, ?_⟩
        · (simp +decide -implicitDefEqProofs only [go_sem, mpE_nil, Int.natCast_zero, List.replicate_zero, List.length_take, List.length_drop, AVal.own.injEq, reduceCtorEq, Int.reduceAdd, hw5, encGraphLengthV_set0] <;> omega)
        · (simp +decide -implicitDefEqProofs only [go_sem, mpE_nil, Int.natCast_zero, List.replicate_zero, List.length_take, List.length_drop, AVal.own.injEq, reduceCtorEq, Int.reduceAdd, hw5, encGraphLengthV_set0] <;> omega)
    · obtain rfl := for_nil hJ5 (fun hl => by have := of_decide_eq_false hc; omega)
      have h := on_next hO5; try dsimp only at h
      have hkl : l.length = k5 := by have := of_decide_eq_false hc; omega
      subst hkl
      refine AWP.exit ?_
      refine qthen_exit ?_
      refine qthen_exit ?_
      refine qblock_same ?_
      refine qthen_normal ?_
      refine AWP.seq ?_
      refine AWP.region rfl ?_; intro K hK
      (try simp +decide -implicitDefEqProofs only [go_sem, encGraphLengthV_set0])
      refine hK _ _ ?_; clear hK K
      refine qthen_normal ?_
      refine AWP.cond (acond_split (fun hc => ?_) (fun hc => ?_))
      · replace h := bif_t h hc
        refine AWP.exit ?_
        refine qblock_other (by decide) ?_
        refine qthen_exit ?_
        refine qthen_exit ?_
        obtain rfl := some_eq h
        obtain rfl := cont_ret hJ1
        replace h := on_ret hO1
        refine qblock_same ?_
        refine qthen_normal ?_
        refine AWP.seq ?_
        refine AWP.region rfl ?_; intro K hK
        (try simp +decide -implicitDefEqProofs only [go_sem, encGraphLengthV_set0])
        refine hK _ _ ?_; clear hK K
        refine qthen_normal ?_
        refine AWP.ret ?_
        obtain rfl := some_eq h
        simp +decide -implicitDefEqProofs only [go_sem, mpE_nil, Int.natCast_zero, List.replicate_zero, List.length_take, List.length_drop, AVal.own.injEq, reduceCtorEq, Int.reduceAdd, nle2, nle1, nle0, nleA, nleL, Try.results64, encGraphLengthV_set0]
      replace h := bif_f h hc
      refine AWP.skip ?_
      refine qblock_normal ?_
      refine qthen_normal ?_
      refine AWP.region rfl ?_; intro K hK
      (try simp +decide -implicitDefEqProofs only [go_sem, encGraphLengthV_set0])
      refine hK _ _ ?_; clear hK K
      refine qthen_normal ?_
      obtain rfl := some_eq h
      refine ⟨(k1 + 1, out5, ()), ⟨by dsimp only; omega, cont_next hJ1⟩, by dsimp only; omega, ?_, ?_⟩
      · (simp +decide -implicitDefEqProofs only [go_sem, mpE_nil, Int.natCast_zero, List.replicate_zero, List.length_take, List.length_drop, AVal.own.injEq, reduceCtorEq, Int.reduceAdd, hw1, encGraphLengthV_set0] <;> omega)
      · (simp +decide -implicitDefEqProofs only [go_sem, mpE_nil, Int.natCast_zero, List.replicate_zero, List.length_take, List.length_drop, AVal.own.injEq, reduceCtorEq, Int.reduceAdd, hw1, encGraphLengthV_set0] <;> omega)
  · obtain rfl := for_nil hJ1 (fun hl => by have := of_decide_eq_false hc; omega)
    have h := on_next hO1; try dsimp only at h
    have hkl : l.length = k1 := by have := of_decide_eq_false hc; omega
    subst hkl
    refine AWP.exit ?_
    refine qthen_exit ?_
    refine qthen_exit ?_
    refine qblock_same ?_
    refine qthen_normal ?_
    refine AWP.seq ?_
    refine AWP.region rfl ?_; intro K hK
    (try simp +decide -implicitDefEqProofs only [go_sem, encGraphLengthV_set0])
    refine hK _ _ ?_; clear hK K
    refine qthen_normal ?_
    refine AWP.ret ?_
    obtain rfl := some_eq h
    simp +decide -implicitDefEqProofs only [go_sem, mpE_nil, Int.natCast_zero, List.replicate_zero, List.length_take, List.length_drop, AVal.own.injEq, reduceCtorEq, Int.reduceAdd, nle2, nle1, nle0, nleA, nleL, Try.results64, encGraphLengthV_set0]

def graph_Shortest_b2 (y1 : (List (Int × GraphLength))) (n_2 : Int) (ids3 : List Int) (k5 : Nat) (x_7 : ApiEdge) (sv : Unit) : Option (Out (Unit) (Out (Int × (List Int)) ((List Int) × Int × Bool))) :=
  (bif (mhas y1 x_7.To) then (bif (decide (x_7.From = n_2)) then (bif ((decide ((mget (GraphLength.mk (0 : Int) (0 : Int)) y1 n_2).cost = (IntKind.i64.wrap ((mget (GraphLength.mk (0 : Int) (0 : Int)) y1 x_7.To).cost + x_7.Cost)))) && (decide ((mget (GraphLength.mk (0 : Int) (0 : Int)) y1 n_2).edges = (IntKind.i64.wrap ((mget (GraphLength.mk (0 : Int) (0 : Int)) y1 x_7.To).edges + (1 : Int)))))) then ((bif (decide (((k5 : Nat) : Int) < (0 : Int))) then some (Out.ret ([], ((0 : Int), false))) else chk (ids3.length + 1) (some (Out.next (x_7.To, (ids3 ++ [x_7.ID])))))).bind fun q7 => some (Out.ret q7) else some (Out.next ())) else some (Out.next ())) else some (Out.next ()))

def graph_Shortest_b1 (l : List ApiEdge) (from_ : Int) (to_ : Int) (y1 : (List (Int × GraphLength))) (sv : Int × (List Int)) : Option (Out (Int × (List Int)) ((List Int) × Int × Bool)) :=
  (bif (decide (sv.1 ≠ to_)) then (forIx (graph_Shortest_b2 y1 sv.1 sv.2) 0 l ()).bind fun o5 => o5.on fun s5 => some (Out.ret ([], ((0 : Int), false))) else some (Out.ret (sv.2, ((mget (GraphLength.mk (0 : Int) (0 : Int)) y1 from_).cost, true))))

def graph_Shortest (l : List ApiEdge) (from_ : Int) (to_ : Int) : Option ((List Int) × Int × Bool) :=
  (graph_lengths l to_).bind fun y1 => (bif (!(mhas y1 from_)) then some ([], ((0 : Int), false)) else (whileN (graph_Shortest_b1 l from_ to_ y1) fuel (from_, [])).bind fun o4 => o4.on fun _ => none)

theorem graph_Shortest_fresh (l : List ApiEdge) (from_ : Int) (to_ : Int) {r : (List Int) × Int × Bool} (h : graph_Shortest l from_ to_ = some r) : FreshFn Try.prog 43 [.sl 4 (l.map encApiEdge), .int .i64 from_, .int .i64 to_] (· = .tuple [.sl 1 (r.1.map intC), .int .i64 r.2.1, .bool r.2.2]) := by
  refine FreshFn.nle (FreshFn.intro Try.func43 rfl rfl (by show _ ≤ 52; simp) ?_)
  unfold graph_Shortest at h
  (try simp +decide -implicitDefEqProofs only [go_sem])
  refine AWP.seq ?_
  refine AWP.region rfl ?_; intro K hK
  (try simp +decide -implicitDefEqProofs only [go_sem])
  refine hK _ _ ?_; clear hK K
  refine qthen_normal ?_
  refine AWP.seq ?_
  refine AWP.region rfl ?_; intro K hK
  (try simp +decide -implicitDefEqProofs only [go_sem])
  obtain ⟨y1, hy1, h⟩ := bindE h
  refine ACall.pure Try.call64 (graph_lengths_spec l to_ hy1) rfl fun _ hr => ?_
  subst hr
  (try simp +decide -implicitDefEqProofs only [go_sem])
  refine hK _ _ ?_; clear hK K
  refine qthen_normal ?_
  refine AWP.seq ?_
  refine AWP.region rfl ?_; intro K hK
  (try simp +decide -implicitDefEqProofs only [go_sem])
  refine ALook.of (f := encGraphLengthV) (m := y1) (d := (GraphLength.mk (0 : Int) (0 : Int))) rfl ?_
  (try simp +decide -implicitDefEqProofs only [go_sem])
  refine hK _ _ ?_; clear hK K
  refine qthen_normal ?_
  refine AWP.seq ?_
  refine AWP.seq ?_
  refine AWP.region rfl ?_; intro K hK
  (try simp +decide -implicitDefEqProofs only [go_sem])
  refine hK _ _ ?_; clear hK K
  refine qthen_normal ?_
  refine AWP.cond (acond_split (fun hc => ?_) (fun hc => ?_))
  · replace h := bif_t h hc
    refine AWP.seq ?_
    refine AWP.region rfl ?_; intro K hK
    (try simp +decide -implicitDefEqProofs only [go_sem])
    refine hK _ _ ?_; clear hK K
    refine qthen_normal ?_
    refine AWP.ret ?_
    refine qthen_ret ?_
    obtain rfl := some_eq h
    simp +decide -implicitDefEqProofs only [go_sem, mpE_nil, Int.natCast_zero, List.replicate_zero, List.length_take, List.length_drop, AVal.own.injEq, reduceCtorEq, Int.reduceAdd, nle2, nle1, nle0, nleA, nleL, Try.results43]
  replace h := bif_f h hc
  refine AWP.skip ?_
  refine qthen_normal ?_
  refine AWP.seq ?_
  refine AWP.region rfl ?_; intro K hK
  (try simp +decide -implicitDefEqProofs only [go_sem])
  refine hK _ _ ?_; clear hK K
  refine qthen_normal ?_
  refine AWP.seq ?_
  refine AWP.seq ?_
  refine AWP.region rfl ?_; intro K hK
  (try simp +decide -implicitDefEqProofs only [go_sem])
  refine hK _ _ ?_; clear hK K
  refine qthen_normal ?_
  refine AWP.block ?_
  refine AWP.ghost 12 1 rfl (by decide) ?_
  obtain ⟨o4, hJ4, hO4⟩ := bindE h
  clear h
  refine AWP.loopS (ι := Nat × (Int × (List Int)) × (Nat)) (fun zz => [(0, .sl 4 (l.map encApiEdge)), (2, .int .i64 to_), (9, .ptr 0 0), (10, .ptr 1 0), (12, .own 3 zz.2.2 0 zz.2.1.2.length), (13, .ptr 2 0)]) (fun zz => [.box [.vmap (mpE encGraphLengthV y1)], .box [.int .i64 (mget (GraphLength.mk (0 : Int) (0 : Int)) y1 from_).cost, .int .i64 (mget (GraphLength.mk (0 : Int) (0 : Int)) y1 from_).edges], .box [.int .i64 zz.2.1.1], .row zz.2.2 1 (zz.2.1.2.map intC)]) (fun zz => whileN (graph_Shortest_b1 l from_ to_ y1) zz.1 zz.2.1 = some o4) (fun zz => zz.1) (fuel, (from_, []), 0) hJ4 (by (simp +decide -implicitDefEqProofs only [go_sem, mpE_nil, Int.natCast_zero, List.replicate_zero, List.length_take, List.length_drop, AVal.own.injEq, reduceCtorEq, Int.reduceAdd] <;> omega)) (by (simp +decide -implicitDefEqProofs only [go_sem, mpE_nil, Int.natCast_zero, List.replicate_zero, List.length_take, List.length_drop, AVal.own.injEq, reduceCtorEq, Int.reduceAdd] <;> omega)) (fun x => ⟨rfl, rfl, rfl⟩) ?_
  clear hJ4
  rintro ⟨n4, ⟨n_2, ids3⟩, ver4⟩ hJ4
  dsimp only at hJ4 ⊢
  obtain ⟨m4, b4, rfl, h, hJ4⟩ := while_step hJ4
  unfold graph_Shortest_b1 at h; try dsimp only at h
  refine AWP.seq ?_
  refine AWP.seq ?_
  refine AWP.region rfl ?_; intro K hK
  (try simp +decide -implicitDefEqProofs only [go_sem])
  refine hK _ _ ?_; clear hK K
  refine qthen_normal ?_
  refine AWP.cond (acond_split (fun hc => ?_) (fun hc => ?_))
  · replace h := bif_t h hc
    refine AWP.skip ?_
    refine qthen_normal ?_
    refine AWP.seq ?_
    refine AWP.block ?_
    refine AWP.seq ?_
    refine AWP.region rfl ?_; intro K hK
    (try simp +decide -implicitDefEqProofs only [go_sem])
    refine ACall.inline Try.call65 Try.func65 rfl rfl (by show _ ≤ 19; simp) ?_
    (try simp +decide -implicitDefEqProofs only [go_sem])
    refine AWP.seq ?_
    refine AWP.region rfl ?_; intro K hK
    (try simp +decide -implicitDefEqProofs only [go_sem])
    refine hK _ _ ?_; clear hK K
    refine qthen_normal ?_
    refine AWP.seq ?_
    refine AWP.seq ?_
    refine AWP.region rfl ?_; intro K hK
    (try simp +decide -implicitDefEqProofs only [go_sem])
    intro hm
    refine hK _ _ ?_; clear hK K
    refine qthen_normal ?_
    refine AWP.block ?_
    obtain ⟨o5, hJ5, hO5⟩ := bindE h
    clear h
    refine AWP.loopW (ι := Nat × (Unit) × (Unit)) (fun zz => [(0, .sl 4 (l.map encApiEdge)), (1, .func 66 [.ptr 0 0, .ptr 2 0]), (7, .int .i64 ((l.length : Nat) : Int)), (8, .int .i64 ((zz.1 : Nat) : Int))]) (fun zz => [.box [.vmap (mpE encGraphLengthV y1)], .box [.int .i64 (mget (GraphLength.mk (0 : Int) (0 : Int)) y1 from_).cost, .int .i64 (mget (GraphLength.mk (0 : Int) (0 : Int)) y1 from_).edges], .box [.int .i64 n_2], .row ver4 1 (ids3.map intC)]) (fun zz => zz.1 ≤ l.length ∧ forIx (graph_Shortest_b2 y1 n_2 ids3) zz.1 ((l).drop zz.1) zz.2.1 = some o5) (fun zz => l.length - zz.1) (0, (), ()) ⟨Nat.zero_le _, hJ5⟩ (by (simp +decide -implicitDefEqProofs only [go_sem, mpE_nil, Int.natCast_zero, List.replicate_zero, List.length_take, List.length_drop, AVal.own.injEq, reduceCtorEq, Int.reduceAdd] <;> omega)) (by (simp +decide -implicitDefEqProofs only [go_sem, mpE_nil, Int.natCast_zero, List.replicate_zero, List.length_take, List.length_drop, AVal.own.injEq, reduceCtorEq, Int.reduceAdd] <;> omega)) (fun x => ⟨rfl, rfl, rfl⟩) ?_
    clear hJ5
    rintro ⟨k5, ⟨⟩, ⟨⟩⟩ ⟨hk5, hJ5⟩
    dsimp only at hk5 hJ5 ⊢
    refine AWP.seq ?_
    refine AWP.region rfl ?_; intro K hK
    (try simp +decide -implicitDefEqProofs only [go_sem])
    refine hK _ _ ?_; clear hK K
    refine qthen_normal ?_
    refine AWP.seq ?_
    refine AWP.cond (acond_split (fun hc => ?_) (fun hc => ?_))
    · have hlt5 : k5 < l.length := by have := of_decide_eq_true hc; omega
      obtain ⟨x_7, b5, hx5_, h, hJ5⟩ := for_cons hJ5 hlt5
      have hx5 := idxL_nat hx5_
      have hw5 : IntKind.i64.wrap (((k5 : Nat) : Int) + 1) = (((k5 : Nat) : Int) + (1 : Int)) := by rw [wrap_i64] <;> omega
      unfold graph_Shortest_b2 at h; try dsimp only at h
      refine AWP.skip ?_
      refine qthen_normal ?_
      refine AWP.seq ?_
      refine AWP.block ?_
      refine AWP.seq ?_
      refine AWP.region rfl ?_; intro K hK
      (try simp +decide -implicitDefEqProofs only [go_sem])
      refine hK _ _ ?_; clear hK K
      refine qthen_normal ?_
      refine AWP.seq ?_
      refine AWP.region rfl ?_; intro K hK
      (try simp +decide -implicitDefEqProofs only [go_sem])
      refine AIdx.of (f := encApiEdge) (l := l) hx5 ?_
      (try simp +decide -implicitDefEqProofs only [go_sem])
      refine ACall.inline Try.call66 Try.func66 rfl rfl (by show _ ≤ 36; simp) ?_
      (try simp +decide -implicitDefEqProofs only [go_sem])
      refine AWP.seq ?_
      refine AWP.region rfl ?_; intro K hK
      (try simp +decide -implicitDefEqProofs only [go_sem])
      refine hK _ _ ?_; clear hK K
      refine qthen_normal ?_
      refine AWP.seq ?_
      refine AWP.region rfl ?_; intro K hK
      (try simp +decide -implicitDefEqProofs only [go_sem])
      refine ALook.of (f := encGraphLengthV) (m := y1) (d := (GraphLength.mk (0 : Int) (0 : Int))) rfl ?_
      (try simp +decide -implicitDefEqProofs only [go_sem])
      refine hK _ _ ?_; clear hK K
      refine qthen_normal ?_
      refine AWP.seq ?_
      refine AWP.region rfl ?_; intro K hK
      (try simp +decide -implicitDefEqProofs only [go_sem])
      refine aguardK_split (fun hc => ?_) (fun hc => ?_)
      · replace h := bif_t h hc
        (try simp +decide -implicitDefEqProofs only [go_sem, hc])
        refine aguardK_split (fun hc => ?_) (fun hc => ?_)
        · replace h := bif_t h hc
          (try simp +decide -implicitDefEqProofs only [go_sem, hc])
          refine ALook.of (f := encGraphLengthV) (m := y1) (d := (GraphLength.mk (0 : Int) (0 : Int))) rfl ?_
          (try simp +decide -implicitDefEqProofs only [go_sem])
          refine hK _ _ ?_; clear hK K
          refine qthen_normal ?_
          refine AWP.ret ?_
          (try simp +decide -implicitDefEqProofs only [go_sem, Try.results66])
          refine hK _ _ ?_; clear hK K
          refine qthen_normal ?_
          refine AWP.cond (acond_split (fun hc => ?_) (fun hc => ?_))
          · replace h := bif_t h hc
            refine AWP.seq ?_
            refine AWP.region rfl ?_; intro K hK
            (try simp +decide -implicitDefEqProofs only [go_sem])
            refine hK _ _ ?_; clear hK K
            refine qthen_normal ?_
            refine AWP.ret ?_
            refine qblock_ret ?_
            refine qthen_ret ?_
            refine qthen_ret ?_
            obtain ⟨q7, hq, h⟩ := bindE h
            obtain rfl := some_eq h
            obtain rfl := cont_ret hJ5
            replace h := hq.trans (on_ret hO5)
            refine qblock_ret ?_
            refine qthen_ret ?_
            (try simp +decide -implicitDefEqProofs only [go_sem, Try.results65])
            refine hK _ _ ?_; clear hK K
            refine qthen_normal ?_
            refine AWP.seq ?_
            refine AWP.seq ?_
            refine AWP.region rfl ?_; intro K hK
            (try simp +decide -implicitDefEqProofs only [go_sem])
            refine hK _ _ ?_; clear hK K
            refine qthen_normal ?_
            refine AWP.cond (acond_split (fun hc => ?_) (fun hc => ?_))
            · replace h := bif_t h hc
              refine AWP.seq ?_
              refine AWP.region rfl ?_; intro K hK
              (try simp +decide -implicitDefEqProofs only [go_sem])
              refine hK _ _ ?_; clear hK K
              refine qthen_normal ?_
              refine AWP.ret ?_
              refine qthen_ret ?_
              refine qblock_ret ?_
              refine qthen_ret ?_
              refine qthen_ret ?_
              obtain rfl := some_eq h
              obtain rfl := cont_ret hJ4
              replace h := on_ret hO4
              refine qblock_ret ?_
              refine qthen_ret ?_
              obtain rfl := some_eq h
              simp +decide -implicitDefEqProofs only [go_sem, mpE_nil, Int.natCast_zero, List.replicate_zero, List.length_take, List.length_drop, AVal.own.injEq, reduceCtorEq, Int.reduceAdd, nle2, nle1, nle0, nleA, nleL, Try.results43]
            replace h := bif_f h hc
            refine AWP.skip ?_
            refine qthen_normal ?_
            refine AWP.seq ?_
            refine AWP.region rfl ?_; intro K hK
            (try simp +decide -implicitDefEqProofs only [go_sem])
            refine AIdx.of (f := encApiEdge) (l := l) hx5 ?_
            (try simp +decide -implicitDefEqProofs only [go_sem])
            obtain ⟨hk, h⟩ := chk_in h
            (repeat (refine ⟨by first | omega | (simp only [List.length_take, List.length_drop, List.length_append]; omega), ?_⟩)); try simp +decide -implicitDefEqProofs only [go_sem]
            refine hK _ _ ?_; clear hK K
            refine qthen_normal ?_
            refine AWP.region rfl ?_; intro K hK
            (try simp +decide -implicitDefEqProofs only [go_sem])
            refine AIdx.of (f := encApiEdge) (l := l) hx5 ?_
            (try simp +decide -implicitDefEqProofs only [go_sem])
            refine hK _ _ ?_; clear hK K
            refine qblock_normal ?_
            refine qthen_normal ?_
            refine AWP.seq ?_
            refine AWP.region rfl ?_; intro K hK
            (try simp +decide -implicitDefEqProofs only [go_sem])
            refine hK _ _ ?_; clear hK K
            refine qthen_normal ?_
            refine AWP.region rfl ?_; intro K hK
            (try simp +decide -implicitDefEqProofs only [go_sem])
            refine hK _ _ ?_; clear hK K
            refine qthen_normal ?_
            obtain rfl := some_eq h
            refine ⟨(m4, (x_7.To, (ids3 ++ [x_7.ID])), (ver4 + 1)), cont_next hJ4, by dsimp only; omega, _, _, Sub.swap 7 2 rfl rfl rfl, ?_, ?_⟩
            · (simp +decide -implicitDefEqProofs only [go_sem, mpE_nil, Int.natCast_zero, List.replicate_zero, List.length_take, List.length_drop, AVal.own.injEq, reduceCtorEq, Int.reduceAdd] <;> omega)
            · (simp +decide -implicitDefEqProofs only [go_sem, mpE_nil, Int.natCast_zero, List.replicate_zero, List.length_take, List.length_drop, AVal.own.injEq, reduceCtorEq, Int.reduceAdd] <;> omega)
          replace h := bif_f h hc
          refine AWP.skip ?_
          refine qblock_normal ?_
          refine qthen_normal ?_
          refine AWP.region rfl ?_; intro K hK
          (try simp +decide -implicitDefEqProofs only [go_sem])
          refine hK _ _ ?_; clear hK K
          refine qthen_normal ?_
          obtain rfl := some_eq h
          refine ⟨(k5 + 1, (), ()), ⟨by dsimp only; omega, cont_next hJ5⟩, by dsimp only; omega, ?_, ?_⟩
          · (simp +decide -implicitDefEqProofs only [go_sem, mpE_nil, Int.natCast_zero, List.replicate_zero, List.length_take, List.length_drop, AVal.own.injEq, reduceCtorEq, Int.reduceAdd, hw5] <;> omega)
          · (simp +decide -implicitDefEqProofs only [go_sem, mpE_nil, Int.natCast_zero, List.replicate_zero, List.length_take, List.length_drop, AVal.own.injEq, reduceCtorEq, Int.reduceAdd, hw5] <;> omega)
        · replace h := bif_f h hc
          (try simp +decide -implicitDefEqProofs only [go_sem, hc, Bool.not_true])
          refine hK _ _ ?_; clear hK K
          refine qthen_normal ?_
          refine AWP.ret ?_
          (try simp +decide -implicitDefEqProofs only [go_sem, Try.results66])
          refine hK _ _ ?_; clear hK K
          refine qthen_normal ?_
          refine AWP.cond (acond_false ?_)
          refine AWP.skip ?_
          refine qblock_normal ?_
          refine qthen_normal ?_
          refine AWP.region rfl ?_; intro K hK
          (try simp +decide -implicitDefEqProofs only [go_sem])
          refine hK _ _ ?_; clear hK K
          refine qthen_normal ?_
          obtain rfl := some_eq h
          refine ⟨(k5 + 1, (), ()), ⟨by dsimp only; omega, cont_next hJ5⟩, by dsimp only; omega, ?_, ?_⟩
          · (simp +decide -implicitDefEqProofs only [go_sem, mpE_nil, Int.natCast_zero, List.replicate_zero, List.length_take, List.length_drop, AVal.own.injEq, reduceCtorEq, Int.reduceAdd, hw5] <;> omega)
          · (simp +decide -implicitDefEqProofs only [go_sem, mpE_nil, Int.natCast_zero, List.replicate_zero, List.length_take, List.length_drop, AVal.own.injEq, reduceCtorEq, Int.reduceAdd, hw5] <;> omega)
      · replace h := bif_f h hc
        (try simp +decide -implicitDefEqProofs only [go_sem, hc, Bool.not_true])
        refine hK _ _ ?_; clear hK K
        refine qthen_normal ?_
        refine AWP.ret ?_
        (try simp +decide -implicitDefEqProofs only [go_sem, Try.results66])
        refine hK _ _ ?_; clear hK K
        refine qthen_normal ?_
        refine AWP.cond (acond_false ?_)
        refine AWP.skip ?_
        refine qblock_normal ?_
        refine qthen_normal ?_
        refine AWP.region rfl ?_; intro K hK
        (try simp +decide -implicitDefEqProofs only [go_sem])
        refine hK _ _ ?_; clear hK K
        refine qthen_normal ?_
        obtain rfl := some_eq h
        refine ⟨(k5 + 1, (), ()), ⟨by dsimp only; omega, cont_next hJ5⟩, by dsimp only; omega, ?_, ?_⟩
        · (simp +decide -implicitDefEqProofs only [go_sem, mpE_nil, Int.natCast_zero, List.replicate_zero, List.length_take, List.length_drop, AVal.own.injEq, reduceCtorEq, Int.reduceAdd, hw5] <;> omega)
        · (simp +decide -implicitDefEqProofs only [go_sem, mpE_nil, Int.natCast_zero, List.replicate_zero, List.length_take, List.length_drop, AVal.own.injEq, reduceCtorEq, Int.reduceAdd, hw5] <;> omega)
    · obtain rfl := for_nil hJ5 (fun hl => by have := of_decide_eq_false hc; omega)
      have h := on_next hO5; try dsimp only at h
      have hkl : l.length = k5 := by have := of_decide_eq_false hc; omega
      subst hkl
      refine AWP.exit ?_
      refine qthen_exit ?_
      refine qthen_exit ?_
      refine qblock_same ?_
      refine qthen_normal ?_
      refine AWP.seq ?_
      refine AWP.region rfl ?_; intro K hK
      (try simp +decide -implicitDefEqProofs only [go_sem])
      refine hK _ _ ?_; clear hK K
      refine qthen_normal ?_
      refine AWP.ret ?_
      (try simp +decide -implicitDefEqProofs only [go_sem, Try.results65])
      refine hK _ _ ?_; clear hK K
      refine qthen_normal ?_
      refine AWP.seq ?_
      refine AWP.seq ?_
      refine AWP.region rfl ?_; intro K hK
      (try simp +decide -implicitDefEqProofs only [go_sem])
      refine hK _ _ ?_; clear hK K
      refine qthen_normal ?_
      refine AWP.cond (acond_true ?_)
      refine AWP.seq ?_
      refine AWP.region rfl ?_; intro K hK
      (try simp +decide -implicitDefEqProofs only [go_sem])
      refine hK _ _ ?_; clear hK K
      refine qthen_normal ?_
      refine AWP.ret ?_
      refine qthen_ret ?_
      refine qblock_ret ?_
      refine qthen_ret ?_
      refine qthen_ret ?_
      obtain rfl := some_eq h
      obtain rfl := cont_ret hJ4
      replace h := on_ret hO4
      refine qblock_ret ?_
      refine qthen_ret ?_
      obtain rfl := some_eq h
      simp +decide -implicitDefEqProofs only [go_sem, mpE_nil, Int.natCast_zero, List.replicate_zero, List.length_take, List.length_drop, AVal.own.injEq, reduceCtorEq, Int.reduceAdd, nle2, nle1, nle0, nleA, nleL, Try.results43]
  replace h := bif_f h hc
  refine AWP.exit ?_
  refine qthen_exit ?_
  refine qthen_exit ?_
  obtain rfl := some_eq h
  obtain rfl := cont_ret hJ4
  replace h := on_ret hO4
  refine qblock_same ?_
  refine qthen_normal ?_
  refine AWP.seq ?_
  refine AWP.draw Try.mixed (by kernel_rfl) ?_; intro K hK
  (try simp +decide -implicitDefEqProofs only [go_sem])
  refine hK _ _ _ (by kernel_rfl) ?_; clear hK K
  refine qthen_normal ?_
  refine AWP.ret ?_
  obtain rfl := some_eq h
  simp +decide -implicitDefEqProofs only [go_sem, mpE_nil, Int.natCast_zero, List.replicate_zero, List.length_take, List.length_drop, AVal.own.injEq, reduceCtorEq, Int.reduceAdd, nle2, nle1, nle0, nleA, nleL, Try.results43]
theorem graph_Shortest_spec (l : List ApiEdge) (from_ : Int) (to_ : Int) {r : (List Int) × Int × Bool} (h : graph_Shortest l from_ to_ = some r) : PureFn Try.prog 43 [.sl 4 (l.map encApiEdge), .int .i64 from_, .int .i64 to_] (· = .tuple [.sl 1 (r.1.map intC), .int .i64 r.2.1, .bool r.2.2]) := (graph_Shortest_fresh l from_ to_ h).pure

def cmp_isNaN_int (x_ : Int) : Option (Bool) :=
  some false

theorem cmp_isNaN_int_spec (x_ : Int) {r : Bool} (h : cmp_isNaN_int x_ = some r) : PureFn Try.prog 67 [.int .i64 x_] (· = .bool r) := by
  refine PureFn.nle (PureFn.intro Try.func67 rfl rfl (by show _ ≤ 6; simp) ?_)
  unfold cmp_isNaN_int at h
  (try simp +decide -implicitDefEqProofs only [go_sem])
  refine AWP.seq ?_
  refine AWP.region rfl ?_; intro K hK
  (try simp +decide -implicitDefEqProofs only [go_sem])
  refine hK _ _ ?_; clear hK K
  refine qthen_normal ?_
  refine AWP.seq ?_
  refine AWP.region rfl ?_; intro K hK
  (try simp +decide -implicitDefEqProofs only [go_sem])
  refine hK _ _ ?_; clear hK K
  refine qthen_normal ?_
  refine AWP.ret ?_
  obtain rfl := some_eq h
  simp +decide -implicitDefEqProofs only [go_sem, mpE_nil, Int.natCast_zero, List.replicate_zero, List.length_take, List.length_drop, AVal.own.injEq, reduceCtorEq, Int.reduceAdd, nle2, nle1, nle0, nleA, nleL, Try.results67]

def cmp_Compare_int (x_ : Int) (y : Int) : Option (Int) :=
  (cmp_isNaN_int x_).bind fun y1 => (cmp_isNaN_int y).bind fun y2 => (bif y1 then (bif y2 then some (0 : Int) else some (-1 : Int)) else (bif y2 then some (1 : Int) else (bif (decide (x_ < y)) then some (-1 : Int) else (bif (decide (y < x_)) then some (1 : Int) else some (0 : Int)))))

theorem cmp_Compare_int_spec (x_ : Int) (y : Int) {r : Int} (h : cmp_Compare_int x_ y = some r) : PureFn Try.prog 45 [.int .i64 x_, .int .i64 y] (· = .int .i64 r) := by
  refine PureFn.nle (PureFn.intro Try.func45 rfl rfl (by show _ ≤ 20; simp) ?_)
  unfold cmp_Compare_int at h
  (try simp +decide -implicitDefEqProofs only [go_sem])
  refine AWP.seq ?_
  refine AWP.region rfl ?_; intro K hK
  (try simp +decide -implicitDefEqProofs only [go_sem])
  refine hK _ _ ?_; clear hK K
  refine qthen_normal ?_
  refine AWP.seq ?_
  refine AWP.region rfl ?_; intro K hK
  (try simp +decide -implicitDefEqProofs only [go_sem])
  obtain ⟨y1, hy1, h⟩ := bindE h
  refine ACall.pure Try.call67 (cmp_isNaN_int_spec x_ hy1) rfl fun _ hr => ?_
  subst hr
  (try simp +decide -implicitDefEqProofs only [go_sem])
  refine hK _ _ ?_; clear hK K
  refine qthen_normal ?_
  refine AWP.seq ?_
  refine AWP.region rfl ?_; intro K hK
  (try simp +decide -implicitDefEqProofs only [go_sem])
  obtain ⟨y2, hy2, h⟩ := bindE h
  refine ACall.pure Try.call67 (cmp_isNaN_int_spec y hy2) rfl fun _ hr => ?_
  subst hr
  (try simp +decide -implicitDefEqProofs only [go_sem])
  refine hK _ _ ?_; clear hK K
  refine qthen_normal ?_
  refine AWP.seq ?_
  refine AWP.seq ?_
  refine AWP.region rfl ?_; intro K hK
  (try simp +decide -implicitDefEqProofs only [go_sem])
  refine hK _ _ ?_; clear hK K
  refine qthen_normal ?_
  refine AWP.cond (acond_split (fun hc => ?_) (fun hc => ?_))
  · replace h := bif_t h hc
    refine AWP.seq ?_
    refine AWP.seq ?_
    refine AWP.region rfl ?_; intro K hK
    (try simp +decide -implicitDefEqProofs only [go_sem])
    refine hK _ _ ?_; clear hK K
    refine qthen_normal ?_
    refine AWP.cond (acond_split (fun hc => ?_) (fun hc => ?_))
    · replace h := bif_t h hc
      refine AWP.seq ?_
      refine AWP.region rfl ?_; intro K hK
      (try simp +decide -implicitDefEqProofs only [go_sem])
      refine hK _ _ ?_; clear hK K
      refine qthen_normal ?_
      refine AWP.ret ?_
      refine qthen_ret ?_
      refine qthen_ret ?_
      obtain rfl := some_eq h
      simp +decide -implicitDefEqProofs only [go_sem, mpE_nil, Int.natCast_zero, List.replicate_zero, List.length_take, List.length_drop, AVal.own.injEq, reduceCtorEq, Int.reduceAdd, nle2, nle1, nle0, nleA, nleL, Try.results45]
    replace h := bif_f h hc
    refine AWP.skip ?_
    refine qthen_normal ?_
    refine AWP.seq ?_
    refine AWP.region rfl ?_; intro K hK
    (try simp +decide -implicitDefEqProofs only [go_sem])
    refine hK _ _ ?_; clear hK K
    refine qthen_normal ?_
    refine AWP.ret ?_
    refine qthen_ret ?_
    obtain rfl := some_eq h
    simp +decide -implicitDefEqProofs only [go_sem, mpE_nil, Int.natCast_zero, List.replicate_zero, List.length_take, List.length_drop, AVal.own.injEq, reduceCtorEq, Int.reduceAdd, nle2, nle1, nle0, nleA, nleL, Try.results45]
  replace h := bif_f h hc
  refine AWP.skip ?_
  refine qthen_normal ?_
  refine AWP.seq ?_
  refine AWP.seq ?_
  refine AWP.region rfl ?_; intro K hK
  (try simp +decide -implicitDefEqProofs only [go_sem])
  refine hK _ _ ?_; clear hK K
  refine qthen_normal ?_
  refine AWP.cond (acond_split (fun hc => ?_) (fun hc => ?_))
  · replace h := bif_t h hc
    refine AWP.seq ?_
    refine AWP.region rfl ?_; intro K hK
    (try simp +decide -implicitDefEqProofs only [go_sem])
    refine hK _ _ ?_; clear hK K
    refine qthen_normal ?_
    refine AWP.ret ?_
    refine qthen_ret ?_
    obtain rfl := some_eq h
    simp +decide -implicitDefEqProofs only [go_sem, mpE_nil, Int.natCast_zero, List.replicate_zero, List.length_take, List.length_drop, AVal.own.injEq, reduceCtorEq, Int.reduceAdd, nle2, nle1, nle0, nleA, nleL, Try.results45]
  replace h := bif_f h hc
  refine AWP.skip ?_
  refine qthen_normal ?_
  refine AWP.seq ?_
  refine AWP.seq ?_
  refine AWP.region rfl ?_; intro K hK
  (try simp +decide -implicitDefEqProofs only [go_sem])
  refine hK _ _ ?_; clear hK K
  refine qthen_normal ?_
  refine AWP.cond (acond_split (fun hc => ?_) (fun hc => ?_))
  · replace h := bif_t h hc
    refine AWP.seq ?_
    refine AWP.region rfl ?_; intro K hK
    (try simp +decide -implicitDefEqProofs only [go_sem])
    refine hK _ _ ?_; clear hK K
    refine qthen_normal ?_
    refine AWP.ret ?_
    refine qthen_ret ?_
    obtain rfl := some_eq h
    simp +decide -implicitDefEqProofs only [go_sem, mpE_nil, Int.natCast_zero, List.replicate_zero, List.length_take, List.length_drop, AVal.own.injEq, reduceCtorEq, Int.reduceAdd, nle2, nle1, nle0, nleA, nleL, Try.results45]
  replace h := bif_f h hc
  refine AWP.skip ?_
  refine qthen_normal ?_
  refine AWP.seq ?_
  refine AWP.seq ?_
  refine AWP.region rfl ?_; intro K hK
  (try simp +decide -implicitDefEqProofs only [go_sem])
  refine hK _ _ ?_; clear hK K
  refine qthen_normal ?_
  refine AWP.cond (acond_split (fun hc => ?_) (fun hc => ?_))
  · replace h := bif_t h hc
    refine AWP.seq ?_
    refine AWP.region rfl ?_; intro K hK
    (try simp +decide -implicitDefEqProofs only [go_sem])
    refine hK _ _ ?_; clear hK K
    refine qthen_normal ?_
    refine AWP.ret ?_
    refine qthen_ret ?_
    obtain rfl := some_eq h
    simp +decide -implicitDefEqProofs only [go_sem, mpE_nil, Int.natCast_zero, List.replicate_zero, List.length_take, List.length_drop, AVal.own.injEq, reduceCtorEq, Int.reduceAdd, nle2, nle1, nle0, nleA, nleL, Try.results45]
  replace h := bif_f h hc
  refine AWP.skip ?_
  refine qthen_normal ?_
  refine AWP.seq ?_
  refine AWP.region rfl ?_; intro K hK
  (try simp +decide -implicitDefEqProofs only [go_sem])
  refine hK _ _ ?_; clear hK K
  refine qthen_normal ?_
  refine AWP.ret ?_
  obtain rfl := some_eq h
  simp +decide -implicitDefEqProofs only [go_sem, mpE_nil, Int.natCast_zero, List.replicate_zero, List.length_take, List.length_drop, AVal.own.injEq, reduceCtorEq, Int.reduceAdd, nle2, nle1, nle0, nleA, nleL, Try.results45]

def slices_Compare_sint_int_b1 (s2_ : List Int) (k0 : Nat) (x_2 : Int) (sv : Unit) : Option (Out (Unit) (Int)) :=
  (bif (decide (((s2_.length : Nat) : Int) ≤ ((k0 : Nat) : Int))) then some (Out.ret (1 : Int)) else (idxL s2_ ((k0 : Nat) : Int)).bind fun x_3 => (cmp_Compare_int x_2 x_3).bind fun y4 => (bif (decide (y4 ≠ (0 : Int))) then some (Out.ret y4) else some (Out.next ())))

def slices_Compare_sint_int (s1_ : List Int) (s2_ : List Int) : Option (Int) :=
  (forIx (slices_Compare_sint_int_b1 s2_) 0 s1_ ()).bind fun o0 => o0.on fun s0 => (bif (decide (((s1_.length : Nat) : Int) < ((s2_.length : Nat) : Int))) then some (-1 : Int) else some (0 : Int))

theorem slices_Compare_sint_int_spec (s1_ : List Int) (s2_ : List Int) {r : Int} (h : slices_Compare_sint_int s1_ s2_ = some r) : PureFn Try.prog 46 [.sl 1 (s1_.map intC), .sl 1 (s2_.map intC)] (· = .int .i64 r) := by
  refine PureFn.nle (PureFn.intro Try.func46 rfl rfl (by show _ ≤ 36; simp) ?_)
  unfold slices_Compare_sint_int at h
  (try simp +decide -implicitDefEqProofs only [go_sem])
  refine AWP.seq ?_
  refine AWP.region rfl ?_; intro K hK
  (try simp +decide -implicitDefEqProofs only [go_sem])
  refine hK _ _ ?_; clear hK K
  refine qthen_normal ?_
  refine AWP.seq ?_
  refine AWP.seq ?_
  refine AWP.region rfl ?_; intro K hK
  (try simp +decide -implicitDefEqProofs only [go_sem])
  intro hm
  refine hK _ _ ?_; clear hK K
  refine qthen_normal ?_
  refine AWP.block ?_
  obtain ⟨o0, hJ0, hO0⟩ := bindE h
  clear h
  refine AWP.loopW (ι := Nat × (Unit) × (Unit)) (fun zz => [(0, .sl 1 (s1_.map intC)), (1, .sl 1 (s2_.map intC)), (9, .sl 1 (s1_.map intC)), (10, .int .i64 ((s1_.length : Nat) : Int)), (11, .int .i64 ((zz.1 : Nat) : Int))]) (fun zz => []) (fun zz => zz.1 ≤ s1_.length ∧ forIx (slices_Compare_sint_int_b1 s2_) zz.1 ((s1_).drop zz.1) zz.2.1 = some o0) (fun zz => s1_.length - zz.1) (0, (), ()) ⟨Nat.zero_le _, hJ0⟩ (by (simp +decide -implicitDefEqProofs only [go_sem, mpE_nil, Int.natCast_zero, List.replicate_zero, List.length_take, List.length_drop, AVal.own.injEq, reduceCtorEq, Int.reduceAdd] <;> omega)) (by (simp +decide -implicitDefEqProofs only [go_sem, mpE_nil, Int.natCast_zero, List.replicate_zero, List.length_take, List.length_drop, AVal.own.injEq, reduceCtorEq, Int.reduceAdd] <;> omega)) (fun x => ⟨rfl, rfl, rfl⟩) ?_
  clear hJ0
  rintro ⟨k0, ⟨⟩, ⟨⟩⟩ ⟨hk0, hJ0⟩
  dsimp only at hk0 hJ0 ⊢
  refine AWP.seq ?_
  refine AWP.region rfl ?_; intro K hK
  (try simp +decide -implicitDefEqProofs only [go_sem])
  refine hK _ _ ?_; clear hK K
  refine qthen_normal ?_
  refine AWP.seq ?_
  refine AWP.cond (acond_split (fun hc => ?_) (fun hc => ?_))
  · have hlt0 : k0 < s1_.length := by have := of_decide_eq_true hc; omega
    obtain ⟨x_2, b0, hx0_, h, hJ0⟩ := for_cons hJ0 hlt0
    have hx0 := idxL_nat hx0_
    have hw0 : IntKind.i64.wrap (((k0 : Nat) : Int) + 1) = (((k0 : Nat) : Int) + (1 : Int)) := by rw [wrap_i64] <;> omega
    unfold slices_Compare_sint_int_b1 at h; try dsimp only at h
    refine AWP.skip ?_
    refine qthen_normal ?_
    refine AWP.seq ?_
    refine AWP.block ?_
    refine AWP.seq ?_
    refine AWP.region rfl ?_; intro K hK
    (try simp +decide -implicitDefEqProofs only [go_sem])
    refine AIdx.of (f := intC) (l := s1_) hx0 ?_
    (try simp +decide -implicitDefEqProofs only [go_sem])
    refine hK _ _ ?_; clear hK K
    refine qthen_normal ?_
    refine AWP.seq ?_
    refine AWP.seq ?_
    refine AWP.region rfl ?_; intro K hK
    (try simp +decide -implicitDefEqProofs only [go_sem])
    intro hm
    refine hK _ _ ?_; clear hK K
    refine qthen_normal ?_
    refine AWP.cond (acond_split (fun hc => ?_) (fun hc => ?_))
    · replace h := bif_t h hc
      refine AWP.seq ?_
      refine AWP.region rfl ?_; intro K hK
      (try simp +decide -implicitDefEqProofs only [go_sem])
      refine hK _ _ ?_; clear hK K
      refine qthen_normal ?_
      refine AWP.ret ?_
      refine qthen_ret ?_
      refine qblock_ret ?_
      refine qthen_ret ?_
      refine qthen_ret ?_
      obtain rfl := some_eq h
      obtain rfl := cont_ret hJ0
      replace h := on_ret hO0
      refine qblock_ret ?_
      refine qthen_ret ?_
      obtain rfl := some_eq h
      simp +decide -implicitDefEqProofs only [go_sem, mpE_nil, Int.natCast_zero, List.replicate_zero, List.length_take, List.length_drop, AVal.own.injEq, reduceCtorEq, Int.reduceAdd, nle2, nle1, nle0, nleA, nleL, Try.results46]
    replace h := bif_f h hc
    refine AWP.skip ?_
    refine qthen_normal ?_
    refine AWP.seq ?_
    refine AWP.region rfl ?_; intro K hK
    (try simp +decide -implicitDefEqProofs only [go_sem])
    obtain ⟨x_3, hx_3, h⟩ := bindE h
    refine AIdx.of (f := intC) (l := s2_) hx_3 ?_
    (try simp +decide -implicitDefEqProofs only [go_sem])
    refine hK _ _ ?_; clear hK K
    refine qthen_normal ?_
    refine AWP.seq ?_
    refine AWP.region rfl ?_; intro K hK
    (try simp +decide -implicitDefEqProofs only [go_sem])
    obtain ⟨y4, hy4, h⟩ := bindE h
    refine ACall.pure Try.call45 (cmp_Compare_int_spec x_2 x_3 hy4) rfl fun _ hr => ?_
    subst hr
    (try simp +decide -implicitDefEqProofs only [go_sem])
    refine hK _ _ ?_; clear hK K
    refine qthen_normal ?_
    refine AWP.seq ?_
    refine AWP.region rfl ?_; intro K hK
    (try simp +decide -implicitDefEqProofs only [go_sem])
    refine hK _ _ ?_; clear hK K
    refine qthen_normal ?_
    refine AWP.cond (acond_split (fun hc => ?_) (fun hc => ?_))
    · replace h := bif_t h hc
      refine AWP.seq ?_
      refine AWP.region rfl ?_; intro K hK
      (try simp +decide -implicitDefEqProofs only [go_sem])
      refine hK _ _ ?_; clear hK K
      refine qthen_normal ?_
      refine AWP.ret ?_
      refine qblock_ret ?_
      refine qthen_ret ?_
      refine qthen_ret ?_
      obtain rfl := some_eq h
      obtain rfl := cont_ret hJ0
      replace h := on_ret hO0
      refine qblock_ret ?_
      refine qthen_ret ?_
      obtain rfl := some_eq h
      simp +decide -implicitDefEqProofs only [go_sem, mpE_nil, Int.natCast_zero, List.replicate_zero, List.length_take, List.length_drop, AVal.own.injEq, reduceCtorEq, Int.reduceAdd, nle2, nle1, nle0, nleA, nleL, Try.results46]
    replace h := bif_f h hc
    refine AWP.skip ?_
    refine qblock_normal ?_
    refine qthen_normal ?_
    refine AWP.region rfl ?_; intro K hK
    (try simp +decide -implicitDefEqProofs only [go_sem])
    refine hK _ _ ?_; clear hK K
    refine qthen_normal ?_
    obtain rfl := some_eq h
    refine ⟨(k0 + 1, (), ()), ⟨by dsimp only; omega, cont_next hJ0⟩, by dsimp only; omega, ?_, ?_⟩
    · (simp +decide -implicitDefEqProofs only [go_sem, mpE_nil, Int.natCast_zero, List.replicate_zero, List.length_take, List.length_drop, AVal.own.injEq, reduceCtorEq, Int.reduceAdd, hw0] <;> omega)
    · (simp +decide -implicitDefEqProofs only [go_sem, mpE_nil, Int.natCast_zero, List.replicate_zero, List.length_take, List.length_drop, AVal.own.injEq, reduceCtorEq, Int.reduceAdd, hw0] <;> omega)
  · obtain rfl := for_nil hJ0 (fun hl => by have := of_decide_eq_false hc; omega)
    have h := on_next hO0; try dsimp only at h
    have hkl : s1_.length = k0 := by have := of_decide_eq_false hc; omega
    subst hkl
    refine AWP.exit ?_
    refine qthen_exit ?_
    refine qthen_exit ?_
    refine qblock_same ?_
    refine qthen_normal ?_
    refine AWP.seq ?_
    refine AWP.seq ?_
    refine AWP.region rfl ?_; intro K hK
    (try simp +decide -implicitDefEqProofs only [go_sem])
    intro hm
    intro hm
    refine hK _ _ ?_; clear hK K
    refine qthen_normal ?_
    refine AWP.cond (acond_split (fun hc => ?_) (fun hc => ?_))
    · replace h := bif_t h hc
      refine AWP.seq ?_
      refine AWP.region rfl ?_; intro K hK
      (try simp +decide -implicitDefEqProofs only [go_sem])
      refine hK _ _ ?_; clear hK K
      refine qthen_normal ?_
      refine AWP.ret ?_
      refine qthen_ret ?_
      obtain rfl := some_eq h
      simp +decide -implicitDefEqProofs only [go_sem, mpE_nil, Int.natCast_zero, List.replicate_zero, List.length_take, List.length_drop, AVal.own.injEq, reduceCtorEq, Int.reduceAdd, nle2, nle1, nle0, nleA, nleL, Try.results46]
    replace h := bif_f h hc
    refine AWP.skip ?_
    refine qthen_normal ?_
    refine AWP.seq ?_
    refine AWP.region rfl ?_; intro K hK
    (try simp +decide -implicitDefEqProofs only [go_sem])
    refine hK _ _ ?_; clear hK K
    refine qthen_normal ?_
    refine AWP.ret ?_
    obtain rfl := some_eq h
    simp +decide -implicitDefEqProofs only [go_sem, mpE_nil, Int.natCast_zero, List.replicate_zero, List.length_take, List.length_drop, AVal.own.injEq, reduceCtorEq, Int.reduceAdd, nle2, nle1, nle0, nleA, nleL, Try.results46]

def cmp_Or_int_b1 (k0 : Nat) (x_2 : Int) (sv : Unit) : Option (Out (Unit) (Int)) :=
  (bif (decide (x_2 ≠ (0 : Int))) then some (Out.ret x_2) else some (Out.next ()))

def cmp_Or_int (vals : List Int) : Option (Int) :=
  (forIx cmp_Or_int_b1 0 vals ()).bind fun o0 => o0.on fun s0 => some (0 : Int)

theorem cmp_Or_int_spec (vals : List Int) {r : Int} (h : cmp_Or_int vals = some r) : PureFn Try.prog 44 [.sl 1 (vals.map intC)] (· = .int .i64 r) := by
  refine PureFn.nle (PureFn.intro Try.func44 rfl rfl (by show _ ≤ 18; simp) ?_)
  unfold cmp_Or_int at h
  (try simp +decide -implicitDefEqProofs only [go_sem])
  refine AWP.seq ?_
  refine AWP.region rfl ?_; intro K hK
  (try simp +decide -implicitDefEqProofs only [go_sem])
  refine hK _ _ ?_; clear hK K
  refine qthen_normal ?_
  refine AWP.seq ?_
  refine AWP.region rfl ?_; intro K hK
  (try simp +decide -implicitDefEqProofs only [go_sem])
  refine hK _ _ ?_; clear hK K
  refine qthen_normal ?_
  refine AWP.seq ?_
  refine AWP.seq ?_
  refine AWP.region rfl ?_; intro K hK
  (try simp +decide -implicitDefEqProofs only [go_sem])
  intro hm
  refine hK _ _ ?_; clear hK K
  refine qthen_normal ?_
  refine AWP.block ?_
  obtain ⟨o0, hJ0, hO0⟩ := bindE h
  clear h
  refine AWP.loopW (ι := Nat × (Unit) × (Unit)) (fun zz => [(3, .int .i64 (0 : Int)), (6, .sl 1 (vals.map intC)), (7, .int .i64 ((vals.length : Nat) : Int)), (8, .int .i64 ((zz.1 : Nat) : Int))]) (fun zz => []) (fun zz => zz.1 ≤ vals.length ∧ forIx cmp_Or_int_b1 zz.1 ((vals).drop zz.1) zz.2.1 = some o0) (fun zz => vals.length - zz.1) (0, (), ()) ⟨Nat.zero_le _, hJ0⟩ (by (simp +decide -implicitDefEqProofs only [go_sem, mpE_nil, Int.natCast_zero, List.replicate_zero, List.length_take, List.length_drop, AVal.own.injEq, reduceCtorEq, Int.reduceAdd] <;> omega)) (by (simp +decide -implicitDefEqProofs only [go_sem, mpE_nil, Int.natCast_zero, List.replicate_zero, List.length_take, List.length_drop, AVal.own.injEq, reduceCtorEq, Int.reduceAdd] <;> omega)) (fun x => ⟨rfl, rfl, rfl⟩) ?_
  clear hJ0
  rintro ⟨k0, ⟨⟩, ⟨⟩⟩ ⟨hk0, hJ0⟩
  dsimp only at hk0 hJ0 ⊢
  refine AWP.seq ?_
  refine AWP.region rfl ?_; intro K hK
  (try simp +decide -implicitDefEqProofs only [go_sem])
  refine hK _ _ ?_; clear hK K
  refine qthen_normal ?_
  refine AWP.seq ?_
  refine AWP.cond (acond_split (fun hc => ?_) (fun hc => ?_))
  · have hlt0 : k0 < vals.length := by have := of_decide_eq_true hc; omega
    obtain ⟨x_2, b0, hx0_, h, hJ0⟩ := for_cons hJ0 hlt0
    have hx0 := idxL_nat hx0_
    have hw0 : IntKind.i64.wrap (((k0 : Nat) : Int) + 1) = (((k0 : Nat) : Int) + (1 : Int)) := by rw [wrap_i64] <;> omega
    unfold cmp_Or_int_b1 at h; try dsimp only at h
    refine AWP.skip ?_
    refine qthen_normal ?_
    refine AWP.seq ?_
    refine AWP.block ?_
    refine AWP.seq ?_
    refine AWP.region rfl ?_; intro K hK
    (try simp +decide -implicitDefEqProofs only [go_sem])
    refine AIdx.of (f := intC) (l := vals) hx0 ?_
    (try simp +decide -implicitDefEqProofs only [go_sem])
    refine hK _ _ ?_; clear hK K
    refine qthen_normal ?_
    refine AWP.seq ?_
    refine AWP.region rfl ?_; intro K hK
    (try simp +decide -implicitDefEqProofs only [go_sem])
    refine hK _ _ ?_; clear hK K
    refine qthen_normal ?_
    refine AWP.cond (acond_split (fun hc => ?_) (fun hc => ?_))
    · replace h := bif_t h hc
      refine AWP.seq ?_
      refine AWP.region rfl ?_; intro K hK
      (try simp +decide -implicitDefEqProofs only [go_sem])
      refine hK _ _ ?_; clear hK K
      refine qthen_normal ?_
      refine AWP.ret ?_
      refine qblock_ret ?_
      refine qthen_ret ?_
      refine qthen_ret ?_
      obtain rfl := some_eq h
      obtain rfl := cont_ret hJ0
      replace h := on_ret hO0
      refine qblock_ret ?_
      refine qthen_ret ?_
      obtain rfl := some_eq h
      simp +decide -implicitDefEqProofs only [go_sem, mpE_nil, Int.natCast_zero, List.replicate_zero, List.length_take, List.length_drop, AVal.own.injEq, reduceCtorEq, Int.reduceAdd, nle2, nle1, nle0, nleA, nleL, Try.results44]
    replace h := bif_f h hc
    refine AWP.skip ?_
    refine qblock_normal ?_
    refine qthen_normal ?_
    refine AWP.region rfl ?_; intro K hK
    (try simp +decide -implicitDefEqProofs only [go_sem])
    refine hK _ _ ?_; clear hK K
    refine qthen_normal ?_
    obtain rfl := some_eq h
    refine ⟨(k0 + 1, (), ()), ⟨by dsimp only; omega, cont_next hJ0⟩, by dsimp only; omega, ?_, ?_⟩
    · (simp +decide -implicitDefEqProofs only [go_sem, mpE_nil, Int.natCast_zero, List.replicate_zero, List.length_take, List.length_drop, AVal.own.injEq, reduceCtorEq, Int.reduceAdd, hw0] <;> omega)
    · (simp +decide -implicitDefEqProofs only [go_sem, mpE_nil, Int.natCast_zero, List.replicate_zero, List.length_take, List.length_drop, AVal.own.injEq, reduceCtorEq, Int.reduceAdd, hw0] <;> omega)
  · obtain rfl := for_nil hJ0 (fun hl => by have := of_decide_eq_false hc; omega)
    have h := on_next hO0; try dsimp only at h
    have hkl : vals.length = k0 := by have := of_decide_eq_false hc; omega
    subst hkl
    refine AWP.exit ?_
    refine qthen_exit ?_
    refine qthen_exit ?_
    refine qblock_same ?_
    refine qthen_normal ?_
    refine AWP.seq ?_
    refine AWP.region rfl ?_; intro K hK
    (try simp +decide -implicitDefEqProofs only [go_sem])
    refine hK _ _ ?_; clear hK K
    refine qthen_normal ?_
    refine AWP.ret ?_
    obtain rfl := some_eq h
    simp +decide -implicitDefEqProofs only [go_sem, mpE_nil, Int.natCast_zero, List.replicate_zero, List.length_take, List.length_drop, AVal.own.injEq, reduceCtorEq, Int.reduceAdd, nle2, nle1, nle0, nleA, nleL, Try.results44]

def ways_Way_b1 (node : Int) (y2 : (List ApiEdge)) (k5 : Nat) (x_7 : Int) (sv : (List Int) × Int × Bool) : Option (Out ((List Int) × Int × Bool) ((List Int) × Int × Bool)) :=
  (graph_Shortest y2 node x_7).bind fun y8 => (bif y8.2.2 then (bif (!sv.2.2) then some (Out.next (y8.1, y8.2.1, true)) else (cmp_Compare_int y8.2.1 sv.2.1).bind fun y9 => (cmp_Compare_int ((y8.1.length : Nat) : Int) ((sv.1.length : Nat) : Int)).bind fun y10 => (slices_Compare_sint_int y8.1 sv.1).bind fun y11 => (cmp_Or_int [y9, y10, y11]).bind fun y12 => (bif (decide (y12 < (0 : Int))) then some (Out.next (y8.1, y8.2.1, true)) else some (Out.next (sv.1, sv.2.1, sv.2.2)))) else some (Out.next (sv.1, sv.2.1, sv.2.2)))

def ways_Way (m : ApiMap) (runs : List Int) (node : Int) : Option ((List Int) × Int × Bool) :=
  (terrain_Node m node).bind fun y1 => (bif (!y1.2) then some ([], ((0 : Int), false)) else (terrain_Down m runs).bind fun y2 => (forIx (ways_Way_b1 node y2) 0 m.Bases ([], (0 : Int), false)).bind fun o5 => o5.on fun s5 => some (s5.1, (s5.2.1, s5.2.2)))

theorem ways_Way_spec (m : ApiMap) (runs : List Int) (node : Int) {r : (List Int) × Int × Bool} (h : ways_Way m runs node = some r) : PureFn Try.prog 19 [.agg (encApiMap m), .sl 1 (runs.map intC), .int .i64 node] (· = .tuple [.sl 1 (r.1.map intC), .int .i64 r.2.1, .bool r.2.2]) := by
  refine PureFn.nle (PureFn.intro Try.func19 rfl rfl (by show _ ≤ 73; simp) ?_)
  unfold ways_Way at h
  (try simp +decide -implicitDefEqProofs only [go_sem])
  refine AWP.seq ?_
  refine AWP.region rfl ?_; intro K hK
  (try simp +decide -implicitDefEqProofs only [go_sem])
  refine hK _ _ ?_; clear hK K
  refine qthen_normal ?_
  refine AWP.seq ?_
  refine AWP.seq ?_
  refine AWP.region rfl ?_; intro K hK
  (try simp +decide -implicitDefEqProofs only [go_sem])
  obtain ⟨y1, hy1, h⟩ := bindE h
  refine ACall.pure Try.call42 (terrain_Node_spec m node hy1) rfl fun _ hr => ?_
  subst hr
  (try simp +decide -implicitDefEqProofs only [go_sem])
  refine hK _ _ ?_; clear hK K
  refine qthen_normal ?_
  refine AWP.seq ?_
  refine AWP.region rfl ?_; intro K hK
  (try simp +decide -implicitDefEqProofs only [go_sem])
  refine hK _ _ ?_; clear hK K
  refine qthen_normal ?_
  refine AWP.cond (acond_split (fun hc => ?_) (fun hc => ?_))
  · replace h := bif_t h hc
    refine AWP.seq ?_
    refine AWP.region rfl ?_; intro K hK
    (try simp +decide -implicitDefEqProofs only [go_sem])
    refine hK _ _ ?_; clear hK K
    refine qthen_normal ?_
    refine AWP.ret ?_
    refine qthen_ret ?_
    obtain rfl := some_eq h
    simp +decide -implicitDefEqProofs only [go_sem, mpE_nil, Int.natCast_zero, List.replicate_zero, List.length_take, List.length_drop, AVal.own.injEq, reduceCtorEq, Int.reduceAdd, nle2, nle1, nle0, nleA, nleL, Try.results19]
  replace h := bif_f h hc
  refine AWP.skip ?_
  refine qthen_normal ?_
  refine AWP.seq ?_
  refine AWP.region rfl ?_; intro K hK
  (try simp +decide -implicitDefEqProofs only [go_sem])
  obtain ⟨y2, hy2, h⟩ := bindE h
  refine ACall.pure Try.call35 (terrain_Down_spec m runs hy2) rfl fun _ hr => ?_
  subst hr
  (try simp +decide -implicitDefEqProofs only [go_sem])
  refine hK _ _ ?_; clear hK K
  refine qthen_normal ?_
  refine AWP.seq ?_
  refine AWP.region rfl ?_; intro K hK
  (try simp +decide -implicitDefEqProofs only [go_sem])
  refine hK _ _ ?_; clear hK K
  refine qthen_normal ?_
  refine AWP.seq ?_
  refine AWP.region rfl ?_; intro K hK
  (try simp +decide -implicitDefEqProofs only [go_sem])
  refine hK _ _ ?_; clear hK K
  refine qthen_normal ?_
  refine AWP.seq ?_
  refine AWP.seq ?_
  refine AWP.region rfl ?_; intro K hK
  (try simp +decide -implicitDefEqProofs only [go_sem])
  intro hm
  refine hK _ _ ?_; clear hK K
  refine qthen_normal ?_
  refine AWP.block ?_
  obtain ⟨o5, hJ5, hO5⟩ := bindE h
  clear h
  refine AWP.loopW (ι := Nat × ((List Int) × Int × Bool) × (Unit)) (fun zz => [(2, .int .i64 node), (11, .sl 4 (y2.map encApiEdge)), (12, .sl 1 (zz.2.1.1.map intC)), (13, .int .i64 zz.2.1.2.1), (14, .bool zz.2.1.2.2), (32, .sl 1 (m.Bases.map intC)), (33, .int .i64 ((m.Bases.length : Nat) : Int)), (34, .int .i64 ((zz.1 : Nat) : Int))]) (fun zz => []) (fun zz => zz.1 ≤ m.Bases.length ∧ forIx (ways_Way_b1 node y2) zz.1 ((m.Bases).drop zz.1) zz.2.1 = some o5) (fun zz => m.Bases.length - zz.1) (0, ([], (0 : Int), false), ()) ⟨Nat.zero_le _, hJ5⟩ (by (simp +decide -implicitDefEqProofs only [go_sem, mpE_nil, Int.natCast_zero, List.replicate_zero, List.length_take, List.length_drop, AVal.own.injEq, reduceCtorEq, Int.reduceAdd] <;> omega)) (by (simp +decide -implicitDefEqProofs only [go_sem, mpE_nil, Int.natCast_zero, List.replicate_zero, List.length_take, List.length_drop, AVal.own.injEq, reduceCtorEq, Int.reduceAdd] <;> omega)) (fun x => ⟨rfl, rfl, rfl⟩) ?_
  clear hJ5
  rintro ⟨k5, ⟨way3, length4, found5⟩, ⟨⟩⟩ ⟨hk5, hJ5⟩
  dsimp only at hk5 hJ5 ⊢
  refine AWP.seq ?_
  refine AWP.region rfl ?_; intro K hK
  (try simp +decide -implicitDefEqProofs only [go_sem])
  refine hK _ _ ?_; clear hK K
  refine qthen_normal ?_
  refine AWP.seq ?_
  refine AWP.cond (acond_split (fun hc => ?_) (fun hc => ?_))
  · have hlt5 : k5 < m.Bases.length := by have := of_decide_eq_true hc; omega
    obtain ⟨x_7, b5, hx5_, h, hJ5⟩ := for_cons hJ5 hlt5
    have hx5 := idxL_nat hx5_
    have hw5 : IntKind.i64.wrap (((k5 : Nat) : Int) + 1) = (((k5 : Nat) : Int) + (1 : Int)) := by rw [wrap_i64] <;> omega
    unfold ways_Way_b1 at h; try dsimp only at h
    refine AWP.skip ?_
    refine qthen_normal ?_
    refine AWP.seq ?_
    refine AWP.block ?_
    refine AWP.seq ?_
    refine AWP.region rfl ?_; intro K hK
    (try simp +decide -implicitDefEqProofs only [go_sem])
    refine AIdx.of (f := intC) (l := m.Bases) hx5 ?_
    (try simp +decide -implicitDefEqProofs only [go_sem])
    refine hK _ _ ?_; clear hK K
    refine qthen_normal ?_
    refine AWP.seq ?_
    refine AWP.region rfl ?_; intro K hK
    (try simp +decide -implicitDefEqProofs only [go_sem])
    obtain ⟨y8, hy8, h⟩ := bindE h
    refine ACall.pure Try.call43 (graph_Shortest_spec y2 node x_7 hy8) rfl fun _ hr => ?_
    subst hr
    (try simp +decide -implicitDefEqProofs only [go_sem])
    refine hK _ _ ?_; clear hK K
    refine qthen_normal ?_
    refine AWP.seq ?_
    refine AWP.region rfl ?_; intro K hK
    (try simp +decide -implicitDefEqProofs only [go_sem])
    refine aguardK_split (fun hc => ?_) (fun hc => ?_)
    · replace h := bif_t h hc
      (try simp +decide -implicitDefEqProofs only [go_sem, hc])
      refine aguardK_split (fun hc => ?_) (fun hc => ?_)
      · replace h := bif_f h hc
        (try simp +decide -implicitDefEqProofs only [go_sem, hc])
        obtain ⟨y9, hy9, h⟩ := bindE h
        refine ACall.pure Try.call45 (cmp_Compare_int_spec y8.2.1 length4 hy9) rfl fun _ hr => ?_
        subst hr
        (try simp +decide -implicitDefEqProofs only [go_sem])
        intro hm
        intro hm
        obtain ⟨y10, hy10, h⟩ := bindE h
        refine ACall.pure Try.call45 (cmp_Compare_int_spec ((y8.1.length : Nat) : Int) ((way3.length : Nat) : Int) hy10) rfl fun _ hr => ?_
        subst hr
        (try simp +decide -implicitDefEqProofs only [go_sem])
        obtain ⟨y11, hy11, h⟩ := bindE h
        refine ACall.pure Try.call46 (slices_Compare_sint_int_spec y8.1 way3 hy11) rfl fun _ hr => ?_
        subst hr
        (try simp +decide -implicitDefEqProofs only [go_sem])
        obtain ⟨y12, hy12, h⟩ := bindE h
        refine ACall.snap Try.call44 (cmp_Or_int_spec [y9, y10, y11] hy12) (by simp +decide -implicitDefEqProofs only [go_sem]) (by rintro _ rfl; rfl) fun _ hr => ?_
        subst hr
        (try simp +decide -implicitDefEqProofs only [go_sem])
        refine hK _ _ ?_; clear hK K
        refine qthen_normal ?_
        refine AWP.cond (acond_split (fun hc => ?_) (fun hc => ?_))
        · replace h := bif_t h hc
          refine AWP.region rfl ?_; intro K hK
          (try simp +decide -implicitDefEqProofs only [go_sem])
          refine hK _ _ ?_; clear hK K
          refine qblock_normal ?_
          refine qthen_normal ?_
          refine AWP.region rfl ?_; intro K hK
          (try simp +decide -implicitDefEqProofs only [go_sem])
          refine hK _ _ ?_; clear hK K
          refine qthen_normal ?_
          obtain rfl := some_eq h
          refine ⟨(k5 + 1, (y8.1, y8.2.1, true), ()), ⟨by dsimp only; omega, cont_next hJ5⟩, by dsimp only; omega, ?_, ?_⟩
          · (simp +decide -implicitDefEqProofs only [go_sem, mpE_nil, Int.natCast_zero, List.replicate_zero, List.length_take, List.length_drop, AVal.own.injEq, reduceCtorEq, Int.reduceAdd, hw5] <;> omega)
          · (simp +decide -implicitDefEqProofs only [go_sem, mpE_nil, Int.natCast_zero, List.replicate_zero, List.length_take, List.length_drop, AVal.own.injEq, reduceCtorEq, Int.reduceAdd, hw5] <;> omega)
        replace h := bif_f h hc
        refine AWP.skip ?_
        refine qblock_normal ?_
        refine qthen_normal ?_
        refine AWP.region rfl ?_; intro K hK
        (try simp +decide -implicitDefEqProofs only [go_sem])
        refine hK _ _ ?_; clear hK K
        refine qthen_normal ?_
        obtain rfl := some_eq h
        refine ⟨(k5 + 1, (way3, length4, found5), ()), ⟨by dsimp only; omega, cont_next hJ5⟩, by dsimp only; omega, ?_, ?_⟩
        · (simp +decide -implicitDefEqProofs only [go_sem, mpE_nil, Int.natCast_zero, List.replicate_zero, List.length_take, List.length_drop, AVal.own.injEq, reduceCtorEq, Int.reduceAdd, hw5] <;> omega)
        · (simp +decide -implicitDefEqProofs only [go_sem, mpE_nil, Int.natCast_zero, List.replicate_zero, List.length_take, List.length_drop, AVal.own.injEq, reduceCtorEq, Int.reduceAdd, hw5] <;> omega)
      · replace h := bif_t h hc
        (try simp +decide -implicitDefEqProofs only [go_sem, hc, Bool.not_false])
        refine hK _ _ ?_; clear hK K
        refine qthen_normal ?_
        refine AWP.cond (acond_true ?_)
        refine AWP.region rfl ?_; intro K hK
        (try simp +decide -implicitDefEqProofs only [go_sem])
        refine hK _ _ ?_; clear hK K
        refine qblock_normal ?_
        refine qthen_normal ?_
        refine AWP.region rfl ?_; intro K hK
        (try simp +decide -implicitDefEqProofs only [go_sem])
        refine hK _ _ ?_; clear hK K
        refine qthen_normal ?_
        obtain rfl := some_eq h
        refine ⟨(k5 + 1, (y8.1, y8.2.1, true), ()), ⟨by dsimp only; omega, cont_next hJ5⟩, by dsimp only; omega, ?_, ?_⟩
        · (simp +decide -implicitDefEqProofs only [go_sem, mpE_nil, Int.natCast_zero, List.replicate_zero, List.length_take, List.length_drop, AVal.own.injEq, reduceCtorEq, Int.reduceAdd, hw5] <;> omega)
        · (simp +decide -implicitDefEqProofs only [go_sem, mpE_nil, Int.natCast_zero, List.replicate_zero, List.length_take, List.length_drop, AVal.own.injEq, reduceCtorEq, Int.reduceAdd, hw5] <;> omega)
    · replace h := bif_f h hc
      (try simp +decide -implicitDefEqProofs only [go_sem, hc, Bool.not_true])
      refine hK _ _ ?_; clear hK K
      refine qthen_normal ?_
      refine AWP.cond (acond_false ?_)
      refine AWP.skip ?_
      refine qblock_normal ?_
      refine qthen_normal ?_
      refine AWP.region rfl ?_; intro K hK
      (try simp +decide -implicitDefEqProofs only [go_sem])
      refine hK _ _ ?_; clear hK K
      refine qthen_normal ?_
      obtain rfl := some_eq h
      refine ⟨(k5 + 1, (way3, length4, found5), ()), ⟨by dsimp only; omega, cont_next hJ5⟩, by dsimp only; omega, ?_, ?_⟩
      · (simp +decide -implicitDefEqProofs only [go_sem, mpE_nil, Int.natCast_zero, List.replicate_zero, List.length_take, List.length_drop, AVal.own.injEq, reduceCtorEq, Int.reduceAdd, hw5] <;> omega)
      · (simp +decide -implicitDefEqProofs only [go_sem, mpE_nil, Int.natCast_zero, List.replicate_zero, List.length_take, List.length_drop, AVal.own.injEq, reduceCtorEq, Int.reduceAdd, hw5] <;> omega)
  · obtain rfl := for_nil hJ5 (fun hl => by have := of_decide_eq_false hc; omega)
    have h := on_next hO5; try dsimp only at h
    have hkl : m.Bases.length = k5 := by have := of_decide_eq_false hc; omega
    subst hkl
    refine AWP.exit ?_
    refine qthen_exit ?_
    refine qthen_exit ?_
    refine qblock_same ?_
    refine qthen_normal ?_
    refine AWP.seq ?_
    refine AWP.region rfl ?_; intro K hK
    (try simp +decide -implicitDefEqProofs only [go_sem])
    refine hK _ _ ?_; clear hK K
    refine qthen_normal ?_
    refine AWP.ret ?_
    obtain rfl := some_eq h
    simp +decide -implicitDefEqProofs only [go_sem, mpE_nil, Int.natCast_zero, List.replicate_zero, List.length_take, List.length_drop, AVal.own.injEq, reduceCtorEq, Int.reduceAdd, nle2, nle1, nle0, nleA, nleL, Try.results19]

def ref05_Same_b1 (b : List Int) (k0 : Nat) (x_2 : Int) (sv : Unit) : Option (Out (Unit) (Bool)) :=
  (idxL b ((k0 : Nat) : Int)).bind fun x_3 => (bif (decide (x_2 ≠ x_3)) then some (Out.ret false) else some (Out.next ()))

def ref05_Same (a : List Int) (b : List Int) : Option (Bool) :=
  (bif (decide (((a.length : Nat) : Int) ≠ ((b.length : Nat) : Int))) then some false else (forIx (ref05_Same_b1 b) 0 a ()).bind fun o0 => o0.on fun s0 => some true)

theorem ref05_Same_spec (a : List Int) (b : List Int) {r : Bool} (h : ref05_Same a b = some r) : PureFn Try.prog 12 [.sl 1 (a.map intC), .sl 1 (b.map intC)] (· = .bool r) := by
  refine PureFn.nle (PureFn.intro Try.func12 rfl rfl (by show _ ≤ 26; simp) ?_)
  unfold ref05_Same at h
  (try simp +decide -implicitDefEqProofs only [go_sem])
  refine AWP.seq ?_
  refine AWP.region rfl ?_; intro K hK
  (try simp +decide -implicitDefEqProofs only [go_sem])
  refine hK _ _ ?_; clear hK K
  refine qthen_normal ?_
  refine AWP.seq ?_
  refine AWP.seq ?_
  refine AWP.region rfl ?_; intro K hK
  (try simp +decide -implicitDefEqProofs only [go_sem])
  intro hm
  intro hm
  refine hK _ _ ?_; clear hK K
  refine qthen_normal ?_
  refine AWP.cond (acond_split (fun hc => ?_) (fun hc => ?_))
  · replace h := bif_t h hc
    refine AWP.seq ?_
    refine AWP.region rfl ?_; intro K hK
    (try simp +decide -implicitDefEqProofs only [go_sem])
    refine hK _ _ ?_; clear hK K
    refine qthen_normal ?_
    refine AWP.ret ?_
    refine qthen_ret ?_
    obtain rfl := some_eq h
    simp +decide -implicitDefEqProofs only [go_sem, mpE_nil, Int.natCast_zero, List.replicate_zero, List.length_take, List.length_drop, AVal.own.injEq, reduceCtorEq, Int.reduceAdd, nle2, nle1, nle0, nleA, nleL, Try.results12]
  replace h := bif_f h hc
  refine AWP.skip ?_
  refine qthen_normal ?_
  refine AWP.seq ?_
  refine AWP.seq ?_
  refine AWP.region rfl ?_; intro K hK
  (try simp +decide -implicitDefEqProofs only [go_sem])
  refine hK _ _ ?_; clear hK K
  refine qthen_normal ?_
  refine AWP.block ?_
  obtain ⟨o0, hJ0, hO0⟩ := bindE h
  clear h
  refine AWP.loopW (ι := Nat × (Unit) × (Unit)) (fun zz => [(0, .sl 1 (a.map intC)), (1, .sl 1 (b.map intC)), (5, .int .i64 ((zz.1 : Nat) : Int))]) (fun zz => []) (fun zz => zz.1 ≤ a.length ∧ forIx (ref05_Same_b1 b) zz.1 ((a).drop zz.1) zz.2.1 = some o0) (fun zz => a.length - zz.1) (0, (), ()) ⟨Nat.zero_le _, hJ0⟩ (by (simp +decide -implicitDefEqProofs only [go_sem, mpE_nil, Int.natCast_zero, List.replicate_zero, List.length_take, List.length_drop, AVal.own.injEq, reduceCtorEq, Int.reduceAdd] <;> omega)) (by (simp +decide -implicitDefEqProofs only [go_sem, mpE_nil, Int.natCast_zero, List.replicate_zero, List.length_take, List.length_drop, AVal.own.injEq, reduceCtorEq, Int.reduceAdd] <;> omega)) (fun x => ⟨rfl, rfl, rfl⟩) ?_
  clear hJ0
  rintro ⟨k0, ⟨⟩, ⟨⟩⟩ ⟨hk0, hJ0⟩
  dsimp only at hk0 hJ0 ⊢
  refine AWP.seq ?_
  refine AWP.seq ?_
  refine AWP.region rfl ?_; intro K hK
  (try simp +decide -implicitDefEqProofs only [go_sem])
  intro hm
  refine hK _ _ ?_; clear hK K
  refine qthen_normal ?_
  refine AWP.cond (acond_split (fun hc => ?_) (fun hc => ?_))
  · have hlt0 : k0 < a.length := by have := of_decide_eq_true hc; omega
    obtain ⟨x_2, b0, hx0_, h, hJ0⟩ := for_cons hJ0 hlt0
    have hx0 := idxL_nat hx0_
    have hw0 : IntKind.i64.wrap (((k0 : Nat) : Int) + 1) = (((k0 : Nat) : Int) + (1 : Int)) := by rw [wrap_i64] <;> omega
    unfold ref05_Same_b1 at h; try dsimp only at h
    refine AWP.skip ?_
    refine qthen_normal ?_
    refine AWP.seq ?_
    refine AWP.block ?_
    refine AWP.seq ?_
    refine AWP.draw Try.mixed (by kernel_rfl) ?_; intro K hK
    (try simp +decide -implicitDefEqProofs only [go_sem])
    refine AIdx.of (f := intC) (l := a) hx0 ?_
    (try simp +decide -implicitDefEqProofs only [go_sem])
    obtain ⟨x_3, hx_3, h⟩ := bindE h
    refine AIdx.of (f := intC) (l := b) hx_3 ?_
    (try simp +decide -implicitDefEqProofs only [go_sem])
    refine hK _ _ _ (by kernel_rfl) ?_; clear hK K
    refine qthen_normal ?_
    refine AWP.cond (acond_split (fun hc => ?_) (fun hc => ?_))
    · replace h := bif_t h hc
      refine AWP.seq ?_
      refine AWP.region rfl ?_; intro K hK
      (try simp +decide -implicitDefEqProofs only [go_sem])
      refine hK _ _ ?_; clear hK K
      refine qthen_normal ?_
      refine AWP.ret ?_
      refine qblock_ret ?_
      refine qthen_ret ?_
      refine qthen_ret ?_
      obtain rfl := some_eq h
      obtain rfl := cont_ret hJ0
      replace h := on_ret hO0
      refine qblock_ret ?_
      refine qthen_ret ?_
      obtain rfl := some_eq h
      simp +decide -implicitDefEqProofs only [go_sem, mpE_nil, Int.natCast_zero, List.replicate_zero, List.length_take, List.length_drop, AVal.own.injEq, reduceCtorEq, Int.reduceAdd, nle2, nle1, nle0, nleA, nleL, Try.results12]
    replace h := bif_f h hc
    refine AWP.skip ?_
    refine qblock_normal ?_
    refine qthen_normal ?_
    refine AWP.region rfl ?_; intro K hK
    (try simp +decide -implicitDefEqProofs only [go_sem])
    refine hK _ _ ?_; clear hK K
    refine qthen_normal ?_
    obtain rfl := some_eq h
    refine ⟨(k0 + 1, (), ()), ⟨by dsimp only; omega, cont_next hJ0⟩, by dsimp only; omega, ?_, ?_⟩
    · (simp +decide -implicitDefEqProofs only [go_sem, mpE_nil, Int.natCast_zero, List.replicate_zero, List.length_take, List.length_drop, AVal.own.injEq, reduceCtorEq, Int.reduceAdd, hw0] <;> omega)
    · (simp +decide -implicitDefEqProofs only [go_sem, mpE_nil, Int.natCast_zero, List.replicate_zero, List.length_take, List.length_drop, AVal.own.injEq, reduceCtorEq, Int.reduceAdd, hw0] <;> omega)
  · obtain rfl := for_nil hJ0 (fun hl => by have := of_decide_eq_false hc; omega)
    have h := on_next hO0; try dsimp only at h
    have hkl : a.length = k0 := by have := of_decide_eq_false hc; omega
    subst hkl
    refine AWP.exit ?_
    refine qthen_exit ?_
    refine qthen_exit ?_
    refine qblock_same ?_
    refine qthen_normal ?_
    refine AWP.seq ?_
    refine AWP.region rfl ?_; intro K hK
    (try simp +decide -implicitDefEqProofs only [go_sem])
    refine hK _ _ ?_; clear hK K
    refine qthen_normal ?_
    refine AWP.ret ?_
    obtain rfl := some_eq h
    simp +decide -implicitDefEqProofs only [go_sem, mpE_nil, Int.natCast_zero, List.replicate_zero, List.length_take, List.length_drop, AVal.own.injEq, reduceCtorEq, Int.reduceAdd, nle2, nle1, nle0, nleA, nleL, Try.results12]

end
end Go.Proofs.Ytnafejjdhdpanaa
