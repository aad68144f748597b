/-
  What functions of the program compute, as plain Lean functions, and the walks that prove it; printed by a small program of our own (wip/walk.py).
-/
import Derived.Test.YtacfmeobdobhhaaData
import Derived.Test.YtacfmeobdobhhaaLib
namespace Go.Proofs.Ytacfmeobdobhhaa
open Go Go.Ab
attribute [local irreducible] AWP ACall DCall PureFn Go.Ab.Sub alist dlist AIdx AElem ALook ANext
set_option maxRecDepth 100000
set_option maxHeartbeats 4000000
set_option linter.unusedSimpArgs false
set_option linter.unusedVariables false
noncomputable section
def law06_edges : Option ((List ApiEdge)) :=
  some [(ApiEdge.mk (1 : Int) (1 : Int) (2 : Int) (3 : Int)), (ApiEdge.mk (2 : Int) (1 : Int) (3 : Int) (2 : Int)), (ApiEdge.mk (3 : Int) (2 : Int) (3 : Int) (2 : Int)), (ApiEdge.mk (4 : Int) (2 : Int) (4 : Int) (1 : Int)), (ApiEdge.mk (5 : Int) (3 : Int) (4 : Int) (5 : Int))]

theorem law06_edges_fresh {r : (List ApiEdge)} (h : law06_edges = some r) : FreshFn Try.prog 27 [] (· = .sl 4 (r.map encApiEdge)) := by
  refine FreshFn.nle (FreshFn.intro Try.func27 rfl rfl (by show _ ≤ 7; simp) ?_)
  unfold law06_edges at h
  (try simp (implicitDefEqProofs := false) (decide := true) only [go_sem, Nat.reduceAdd, Nat.reduceMul, Nat.reduceSub, Int.reduceToNat])
  refine AWP.seq ?_
  refine AWP.region rfl ?_; intro K hK
  (try simp (implicitDefEqProofs := false) (decide := true) only [go_sem, Nat.reduceAdd, Nat.reduceMul, Nat.reduceSub, Int.reduceToNat])
  refine hK _ _ ?_; clear hK K
  refine qthen_normal ?_
  refine AWP.seq ?_
  refine AWP.region rfl ?_; intro K hK
  (try simp (implicitDefEqProofs := false) (decide := true) only [go_sem, Nat.reduceAdd, Nat.reduceMul, Nat.reduceSub, Int.reduceToNat])
  refine hK _ _ ?_; clear hK K
  refine qthen_normal ?_
  refine AWP.ret ?_
  obtain rfl := some_eq h
  simp (implicitDefEqProofs := false) (decide := true) only [go_sem, Nat.reduceAdd, Nat.reduceMul, Nat.reduceSub, Int.reduceToNat, mpE_nil, Int.natCast_zero, List.replicate_zero, List.length_take, List.length_drop, AVal.own.injEq, reduceCtorEq, Int.reduceAdd, nle2, nle1, nle0, nleA, nleL, Try.results27]
theorem law06_edges_spec {r : (List ApiEdge)} (h : law06_edges = some r) : PureFn Try.prog 27 [] (· = .sl 4 (r.map encApiEdge)) := (law06_edges_fresh h).pure

def flow_room (l : List ApiEdge) (f_ : List Int) (m : FlowMove) : Option (Int) :=
  (bif m.forward then (idxL l m.edge).bind fun x_1 => (idxL f_ m.edge).bind fun x_2 => some (IntKind.i64.wrap (x_1.Cost - x_2)) else (idxL f_ m.edge).bind fun x_3 => some x_3)

theorem flow_room_spec (l : List ApiEdge) (f_ : List Int) (m : FlowMove) {r : Int} (h : flow_room l f_ m = some r) : PureFn Try.prog 31 [.sl 4 (l.map encApiEdge), .sl 1 (f_.map intC), .agg (encFlowMove m)] (· = .int .i64 r) := by
  refine PureFn.nle (PureFn.intro Try.func31 rfl rfl (by show _ ≤ 26; simp) ?_)
  unfold flow_room at h
  (try simp (implicitDefEqProofs := false) (decide := true) only [go_sem, Nat.reduceAdd, Nat.reduceMul, Nat.reduceSub, Int.reduceToNat])
  refine AWP.seq ?_
  refine AWP.region rfl ?_; intro K hK
  (try simp (implicitDefEqProofs := false) (decide := true) only [go_sem, Nat.reduceAdd, Nat.reduceMul, Nat.reduceSub, Int.reduceToNat])
  refine hK _ _ ?_; clear hK K
  refine qthen_normal ?_
  refine AWP.seq ?_
  refine AWP.seq ?_
  refine AWP.region rfl ?_; intro K hK
  (try simp (implicitDefEqProofs := false) (decide := true) only [go_sem, Nat.reduceAdd, Nat.reduceMul, Nat.reduceSub, Int.reduceToNat])
  refine hK _ _ ?_; clear hK K
  refine qthen_normal ?_
  refine AWP.cond (acond_split (fun hc => ?_) (fun hc => ?_))
  · replace h := bif_t h hc
    refine AWP.seq ?_
    refine AWP.draw Try.mixed (by kernel_rfl) ?_; intro K hK
    (try simp (implicitDefEqProofs := false) (decide := true) only [go_sem, Nat.reduceAdd, Nat.reduceMul, Nat.reduceSub, Int.reduceToNat])
    obtain ⟨x_1, hx_1, h⟩ := bindE h
    refine AIdx.of (f := encApiEdge) (l := l) hx_1 ?_
    (try simp (implicitDefEqProofs := false) (decide := true) only [go_sem, Nat.reduceAdd, Nat.reduceMul, Nat.reduceSub, Int.reduceToNat])
    obtain ⟨x_2, hx_2, h⟩ := bindE h
    refine AIdx.of (f := intC) (l := f_) hx_2 ?_
    (try simp (implicitDefEqProofs := false) (decide := true) only [go_sem, Nat.reduceAdd, Nat.reduceMul, Nat.reduceSub, Int.reduceToNat])
    refine hK _ _ _ (by kernel_rfl) ?_; clear hK K
    refine qthen_normal ?_
    refine AWP.ret ?_
    refine qthen_ret ?_
    obtain rfl := some_eq h
    simp (implicitDefEqProofs := false) (decide := true) only [go_sem, Nat.reduceAdd, Nat.reduceMul, Nat.reduceSub, Int.reduceToNat, mpE_nil, Int.natCast_zero, List.replicate_zero, List.length_take, List.length_drop, AVal.own.injEq, reduceCtorEq, Int.reduceAdd, nle2, nle1, nle0, nleA, nleL, Try.results31]
  · replace h := bif_f h hc
    refine AWP.skip ?_
    refine qthen_normal ?_
    refine AWP.seq ?_
    refine AWP.region rfl ?_; intro K hK
    (try simp (implicitDefEqProofs := false) (decide := true) only [go_sem, Nat.reduceAdd, Nat.reduceMul, Nat.reduceSub, Int.reduceToNat])
    obtain ⟨x_3, hx_3, h⟩ := bindE h
    refine AIdx.of (f := intC) (l := f_) hx_3 ?_
    (try simp (implicitDefEqProofs := false) (decide := true) only [go_sem, Nat.reduceAdd, Nat.reduceMul, Nat.reduceSub, Int.reduceToNat])
    refine hK _ _ ?_; clear hK K
    refine qthen_normal ?_
    refine AWP.ret ?_
    obtain rfl := some_eq h
    simp (implicitDefEqProofs := false) (decide := true) only [go_sem, Nat.reduceAdd, Nat.reduceMul, Nat.reduceSub, Int.reduceToNat, mpE_nil, Int.natCast_zero, List.replicate_zero, List.length_take, List.length_drop, AVal.own.injEq, reduceCtorEq, Int.reduceAdd, nle2, nle1, nle0, nleA, nleL, Try.results31]

def flow_Find_j4 (l : List ApiEdge) (o1_1 : List Int) (x_8 : Int) (k11 : Nat) (x_13 : ApiEdge) (o5_14 : List (Int × FlowMove)) (o7_15 : List Int) : Option (Out ((List (Int × FlowMove)) × (List Int)) (Out ((List (Int × FlowMove)) × (List Int)) (Out ((List Int)) ((List Int))))) :=
  (bif (decide (x_13.To = x_8)) then (bif (!(mhas o5_14 x_13.From)) then (flow_room l o1_1 (FlowMove.mk ((k11 : Nat) : Int) false)).bind fun y18 => (bif (decide ((0 : Int) < y18)) then chk (o7_15.length + 1) (some (Out.next ((mset o5_14 x_13.From (FlowMove.mk ((k11 : Nat) : Int) false)), (o7_15 ++ [x_13.From])))) else some (Out.next (o5_14, o7_15))) else some (Out.next (o5_14, o7_15))) else some (Out.next (o5_14, o7_15)))

def flow_Find_b3 (l : List ApiEdge) (o1_1 : List Int) (x_8 : Int) (k11 : Nat) (x_13 : ApiEdge) (sv : (List (Int × FlowMove)) × (List Int)) : Option (Out ((List (Int × FlowMove)) × (List Int)) (Out ((List (Int × FlowMove)) × (List Int)) (Out ((List Int)) ((List Int))))) :=
  (bif (decide (x_13.From = x_8)) then (bif (!(mhas sv.1 x_13.To)) then (flow_room l o1_1 (FlowMove.mk ((k11 : Nat) : Int) true)).bind fun y19 => (bif (decide ((0 : Int) < y19)) then chk (sv.2.length + 1) (flow_Find_j4 l o1_1 x_8 k11 x_13 (mset sv.1 x_13.To (FlowMove.mk ((k11 : Nat) : Int) true)) (sv.2 ++ [x_13.To])) else flow_Find_j4 l o1_1 x_8 k11 x_13 sv.1 sv.2) else flow_Find_j4 l o1_1 x_8 k11 x_13 sv.1 sv.2) else flow_Find_j4 l o1_1 x_8 k11 x_13 sv.1 sv.2)

def flow_Find_b6 (l : List ApiEdge) (s_ : Int) (o5_4 : List (Int × FlowMove)) (o10_22 : Int) (sv : Int × (List Int)) : Option (Out (Int × (List Int)) (Out ((List Int)) ((List Int)))) :=
  (bif (decide (sv.1 ≠ s_)) then (bif (mget (FlowMove.mk (0 : Int) false) o5_4 sv.1).forward then (idxL sv.2 (mget (FlowMove.mk (0 : Int) false) o5_4 sv.1).edge).bind fun x_31 => (bif (mget (FlowMove.mk (0 : Int) false) o5_4 sv.1).forward then (idxL l (mget (FlowMove.mk (0 : Int) false) o5_4 sv.1).edge).bind fun x_33 => some (Out.next (x_33.From, (sv.2.set (mget (FlowMove.mk (0 : Int) false) o5_4 sv.1).edge.toNat (IntKind.i64.wrap (x_31 + o10_22))))) else (idxL l (mget (FlowMove.mk (0 : Int) false) o5_4 sv.1).edge).bind fun x_34 => some (Out.next (x_34.To, (sv.2.set (mget (FlowMove.mk (0 : Int) false) o5_4 sv.1).edge.toNat (IntKind.i64.wrap (x_31 + o10_22)))))) else (idxL sv.2 (mget (FlowMove.mk (0 : Int) false) o5_4 sv.1).edge).bind fun x_35 => (bif (mget (FlowMove.mk (0 : Int) false) o5_4 sv.1).forward then (idxL l (mget (FlowMove.mk (0 : Int) false) o5_4 sv.1).edge).bind fun x_37 => some (Out.next (x_37.From, (sv.2.set (mget (FlowMove.mk (0 : Int) false) o5_4 sv.1).edge.toNat (IntKind.i64.wrap (x_35 - o10_22))))) else (idxL l (mget (FlowMove.mk (0 : Int) false) o5_4 sv.1).edge).bind fun x_38 => some (Out.next (x_38.To, (sv.2.set (mget (FlowMove.mk (0 : Int) false) o5_4 sv.1).edge.toNat (IntKind.i64.wrap (x_35 - o10_22))))))) else some (Out.ret (Out.next sv.2)))

def flow_Find_b5 (l : List ApiEdge) (s_ : Int) (t : Int) (o1_1 : List Int) (o5_4 : List (Int × FlowMove)) (sv : Int × Int) : Option (Out (Int × Int) (Out ((List Int)) ((List Int)))) :=
  (bif (decide (sv.1 ≠ s_)) then (flow_room l o1_1 (mget (FlowMove.mk (0 : Int) false) o5_4 sv.1)).bind fun y24 => (bif (mget (FlowMove.mk (0 : Int) false) o5_4 sv.1).forward then (idxL l (mget (FlowMove.mk (0 : Int) false) o5_4 sv.1).edge).bind fun x_25 => some (Out.next (x_25.From, (if y24 < sv.2 then y24 else sv.2))) else (idxL l (mget (FlowMove.mk (0 : Int) false) o5_4 sv.1).edge).bind fun x_26 => some (Out.next (x_26.To, (if y24 < sv.2 then y24 else sv.2)))) else ((whileN (flow_Find_b6 l s_ o5_4 sv.2) fuel (t, o1_1)).bind fun o29 => o29.on fun _ => none).bind fun q38 => some (Out.ret q38))

def flow_Find_b2 (l : List ApiEdge) (s_ : Int) (t : Int) (o1_1 : List Int) (sv : (List (Int × FlowMove)) × (List Int)) : Option (Out ((List (Int × FlowMove)) × (List Int)) (Out ((List Int)) ((List Int)))) :=
  (bif (decide ((0 : Int) < ((sv.2.length : Nat) : Int))) then (idxL sv.2 (0 : Int)).bind fun x_8 => okB (decide ((1 : Int) ≤ ((sv.2.length : Nat) : Int))) ((forIx (flow_Find_b3 l o1_1 x_8) 0 l (sv.1, (sv.2.drop 1))).bind fun o11 => o11.on fun s11 => some (Out.next (s11.1, s11.2))) else ((bif (!(mhas sv.1 t)) then some (Out.ret o1_1) else (flow_room l o1_1 (mget (FlowMove.mk (0 : Int) false) sv.1 t)).bind fun y20 => (whileN (flow_Find_b5 l s_ t o1_1 sv.1) fuel (t, y20)).bind fun o22 => o22.on fun _ => none)).bind fun q39 => some (Out.ret q39))

def flow_Find_b1 (l : List ApiEdge) (s_ : Int) (t : Int) (sv : (List Int)) : Option (Out ((List Int)) ((List Int))) :=
  (whileN (flow_Find_b2 l s_ t sv) fuel ((mset [] s_ (FlowMove.mk (0 : Int) false)), [s_])).bind fun o6 => o6.on fun _ => none

def flow_Find (l : List ApiEdge) (s_ : Int) (t : Int) : Option ((List Int)) :=
  chk l.length ((bif (decide (s_ = t)) then some (List.replicate l.length (0 : Int)) else (whileN (flow_Find_b1 l s_ t) fuel (List.replicate l.length (0 : Int))).bind fun o2 => o2.on fun _ => none))

theorem flow_Find_fresh (l : List ApiEdge) (s_ : Int) (t : Int) {r : (List Int)} (h : flow_Find l s_ t = some r) : FreshFn Try.prog 19 [.sl 4 (l.map encApiEdge), .int .i64 s_, .int .i64 t] (· = .sl 1 (r.map intC)) := by
  refine FreshFn.nle (FreshFn.intro Try.func19 rfl rfl (by show _ ≤ 50; simp) ?_)
  unfold flow_Find at h
  (try simp (implicitDefEqProofs := false) (decide := true) only [go_sem, Nat.reduceAdd, Nat.reduceMul, Nat.reduceSub, Int.reduceToNat, encFlowMoveV_set0])
  refine AWP.seq ?_
  refine AWP.region rfl ?_; intro K hK
  (try simp (implicitDefEqProofs := false) (decide := true) only [go_sem, Nat.reduceAdd, Nat.reduceMul, Nat.reduceSub, Int.reduceToNat, encFlowMoveV_set0])
  refine hK _ _ ?_; clear hK K
  refine qthen_normal ?_
  refine AWP.seq ?_
  refine AWP.region rfl ?_; intro K hK
  (try simp (implicitDefEqProofs := false) (decide := true) only [go_sem, Nat.reduceAdd, Nat.reduceMul, Nat.reduceSub, Int.reduceToNat, encFlowMoveV_set0])
  intro hm
  obtain ⟨hk, h⟩ := chk_in h
  (repeat (refine ⟨by first | omega | (simp only [List.length_take, List.length_drop, List.length_append]; omega), ?_⟩)); try simp (implicitDefEqProofs := false) (decide := true) only [go_sem, Nat.reduceAdd, Nat.reduceMul, Nat.reduceSub, Int.reduceToNat]
  refine hK _ _ ?_; clear hK K
  refine qthen_normal ?_
  refine AWP.seq ?_
  refine AWP.seq ?_
  refine AWP.region rfl ?_; intro K hK
  (try simp (implicitDefEqProofs := false) (decide := true) only [go_sem, Nat.reduceAdd, Nat.reduceMul, Nat.reduceSub, Int.reduceToNat, encFlowMoveV_set0])
  refine hK _ _ ?_; clear hK K
  refine qthen_normal ?_
  refine AWP.cond (acond_split (fun hc => ?_) (fun hc => ?_))
  · replace h := bif_t h hc
    refine AWP.seq ?_
    refine AWP.region rfl ?_; intro K hK
    (try simp (implicitDefEqProofs := false) (decide := true) only [go_sem, Nat.reduceAdd, Nat.reduceMul, Nat.reduceSub, Int.reduceToNat, encFlowMoveV_set0])
    refine hK _ _ ?_; clear hK K
    refine qthen_normal ?_
    refine AWP.ret ?_
    refine qthen_ret ?_
    obtain rfl := some_eq h
    simp (implicitDefEqProofs := false) (decide := true) only [go_sem, Nat.reduceAdd, Nat.reduceMul, Nat.reduceSub, Int.reduceToNat, mpE_nil, Int.natCast_zero, List.replicate_zero, List.length_take, List.length_drop, AVal.own.injEq, reduceCtorEq, Int.reduceAdd, nle2, nle1, nle0, nleA, nleL, Try.results19, encFlowMoveV_set0]
  · replace h := bif_f h hc
    refine AWP.skip ?_
    refine qthen_normal ?_
    refine AWP.block ?_
    obtain ⟨o2, hJ2, hO2⟩ := bindE h
    clear h
    refine AWP.loopW (ι := Nat × ((List Int)) × (Nat)) (fun zz => [(1, .int .i64 s_), (2, .int .i64 t), (3, .ptr 0 0), (7, .ptr 2 0)]) (fun zz => [.box [.sl 4 (l.map encApiEdge)], .row zz.2.2 1 (zz.2.1.map intC), .box [.own 1 zz.2.2 0 zz.2.1.length]]) (fun zz => whileN (flow_Find_b1 l s_ t) zz.1 zz.2.1 = some o2) (fun zz => zz.1) (fuel, (List.replicate l.length (0 : Int)), 0) hJ2 (by (simp (implicitDefEqProofs := false) (decide := true) only [go_sem, Nat.reduceAdd, Nat.reduceMul, Nat.reduceSub, Int.reduceToNat, mpE_nil, Int.natCast_zero, List.replicate_zero, List.length_take, List.length_drop, AVal.own.injEq, reduceCtorEq, Int.reduceAdd, encFlowMoveV_set0] <;> omega)) (by (simp (implicitDefEqProofs := false) (decide := true) only [go_sem, Nat.reduceAdd, Nat.reduceMul, Nat.reduceSub, Int.reduceToNat, mpE_nil, Int.natCast_zero, List.replicate_zero, List.length_take, List.length_drop, AVal.own.injEq, reduceCtorEq, Int.reduceAdd, encFlowMoveV_set0] <;> omega)) (fun x => ⟨rfl, rfl, rfl⟩) ?_
    clear hJ2
    rintro ⟨n2, o1_1, ver2⟩ hJ2
    dsimp only at hJ2 ⊢
    obtain ⟨m2, b2, rfl, h, hJ2⟩ := while_step hJ2
    unfold flow_Find_b1 at h; try dsimp only at h
    refine AWP.block ?_
    refine AWP.seq ?_
    refine AWP.region rfl ?_; intro K hK
    (try simp (implicitDefEqProofs := false) (decide := true) only [go_sem, Nat.reduceAdd, Nat.reduceMul, Nat.reduceSub, Int.reduceToNat, encFlowMoveV_set0])
    refine ACall.inline Try.call30 Try.func30 rfl rfl (by show _ ≤ 57; simp) ?_
    (try simp (implicitDefEqProofs := false) (decide := true) only [go_sem, Nat.reduceAdd, Nat.reduceMul, Nat.reduceSub, Int.reduceToNat, encFlowMoveV_set0])
    refine AWP.seq ?_
    refine AWP.region rfl ?_; intro K hK
    (try simp (implicitDefEqProofs := false) (decide := true) only [go_sem, Nat.reduceAdd, Nat.reduceMul, Nat.reduceSub, Int.reduceToNat, encFlowMoveV_set0])
    refine hK _ _ ?_; clear hK K
    refine qthen_normal ?_
    refine AWP.seq ?_
    refine AWP.region rfl ?_; intro K hK
    (try simp (implicitDefEqProofs := false) (decide := true) only [go_sem, Nat.reduceAdd, Nat.reduceMul, Nat.reduceSub, Int.reduceToNat, encFlowMoveV_set0])
    refine hK _ _ ?_; clear hK K
    refine qthen_normal ?_
    refine AWP.seq ?_
    refine AWP.region rfl ?_; intro K hK
    (try simp (implicitDefEqProofs := false) (decide := true) only [go_sem, Nat.reduceAdd, Nat.reduceMul, Nat.reduceSub, Int.reduceToNat, encFlowMoveV_set0])
    refine hK _ _ ?_; clear hK K
    refine qthen_normal ?_
    refine AWP.seq ?_
    refine AWP.region rfl ?_; intro K hK
    (try simp (implicitDefEqProofs := false) (decide := true) only [go_sem, Nat.reduceAdd, Nat.reduceMul, Nat.reduceSub, Int.reduceToNat, encFlowMoveV_set0])
    refine hK _ _ ?_; clear hK K
    refine qthen_normal ?_
    refine AWP.seq ?_
    refine AWP.block ?_
    obtain ⟨o6, hJ6, hO6⟩ := bindE h
    clear h
    refine AWP.loopW (ι := Nat × ((List (Int × FlowMove)) × (List Int)) × (Nat)) (fun zz => [(3, .ptr 3 0), (7, .ptr 6 0), (8, .ptr 8 0), (9, .func 41 [.ptr 6 0, .ptr 3 0, .ptr 4 0, .ptr 8 0])]) (fun zz => [.box [.sl 4 (l.map encApiEdge)], .row ver2 1 (o1_1.map intC), .box [.own 1 ver2 0 o1_1.length], .box [.sl 4 (l.map encApiEdge)], .box [.own 1 ver2 0 o1_1.length], .mp (mpE encFlowMoveV zz.2.1.1), .box [.map 5], .row zz.2.2 1 (zz.2.1.2.map intC), .box [.own 7 zz.2.2 0 zz.2.1.2.length]]) (fun zz => whileN (flow_Find_b2 l s_ t o1_1) zz.1 zz.2.1 = some o6) (fun zz => zz.1) (fuel, ((mset [] s_ (FlowMove.mk (0 : Int) false)), [s_]), 0) hJ6 (by (simp (implicitDefEqProofs := false) (decide := true) only [go_sem, Nat.reduceAdd, Nat.reduceMul, Nat.reduceSub, Int.reduceToNat, mpE_nil, Int.natCast_zero, List.replicate_zero, List.length_take, List.length_drop, AVal.own.injEq, reduceCtorEq, Int.reduceAdd, encFlowMoveV_set0] <;> omega)) (by (simp (implicitDefEqProofs := false) (decide := true) only [go_sem, Nat.reduceAdd, Nat.reduceMul, Nat.reduceSub, Int.reduceToNat, mpE_nil, Int.natCast_zero, List.replicate_zero, List.length_take, List.length_drop, AVal.own.injEq, reduceCtorEq, Int.reduceAdd, encFlowMoveV_set0] <;> omega)) (fun x => ⟨rfl, rfl, rfl⟩) ?_
    clear hJ6
    rintro ⟨n6, ⟨o5_4, o7_5⟩, ver6⟩ hJ6
    dsimp only at hJ6 ⊢
    obtain ⟨m6, b6, rfl, h, hJ6⟩ := while_step hJ6
    unfold flow_Find_b2 at h; try dsimp only at h
    refine AWP.seq ?_
    refine AWP.seq ?_
    refine AWP.region rfl ?_; intro K hK
    (try simp (implicitDefEqProofs := false) (decide := true) only [go_sem, Nat.reduceAdd, Nat.reduceMul, Nat.reduceSub, Int.reduceToNat, encFlowMoveV_set0])
    intro hm
    refine hK _ _ ?_; clear hK K
    refine qthen_normal ?_
    refine AWP.cond (acond_split (fun hc => ?_) (fun hc => ?_))
    · replace h := bif_t h hc
      refine AWP.skip ?_
      refine qthen_normal ?_
      refine AWP.block ?_
      refine AWP.seq ?_
      refine AWP.region rfl ?_; intro K hK
      (try simp (implicitDefEqProofs := false) (decide := true) only [go_sem, Nat.reduceAdd, Nat.reduceMul, Nat.reduceSub, Int.reduceToNat, encFlowMoveV_set0])
      obtain ⟨x_8, hx_8, h⟩ := bindE h
      refine own_in0 hx_8 (by first | rfl | exact (sortI_len _).symm | (simp only [List.length_append, List.length_cons, List.length_nil, List.length_set, List.length_replicate] <;> omega)) ?_
      (try simp (implicitDefEqProofs := false) (decide := true) only [go_sem, Nat.reduceAdd, Nat.reduceMul, Nat.reduceSub, Int.reduceToNat, encFlowMoveV_set0])
      refine AElem.ofNat (f := intC) (l := o7_5) (n := 0) hx_8 ?_
      (try simp (implicitDefEqProofs := false) (decide := true) only [go_sem, Nat.reduceAdd, Nat.reduceMul, Nat.reduceSub, Int.reduceToNat, encFlowMoveV_set0])
      refine hK _ _ ?_; clear hK K
      refine qthen_normal ?_
      refine AWP.seq ?_
      refine AWP.region rfl ?_; intro K hK
      (try simp (implicitDefEqProofs := false) (decide := true) only [go_sem, Nat.reduceAdd, Nat.reduceMul, Nat.reduceSub, Int.reduceToNat, encFlowMoveV_set0])
      obtain ⟨hk, h⟩ := okB_in h
      (repeat (refine ⟨by omega, ?_⟩))
      refine hK _ _ ?_; clear hK K
      refine qthen_normal ?_
      refine AWP.sub (Sub.windowB 8 0 rfl rfl rfl) ?_
      (try simp (implicitDefEqProofs := false) (decide := true) only [go_sem, Nat.reduceAdd, Nat.reduceMul, Nat.reduceSub, Int.reduceToNat, encFlowMoveV_set0])
      refine AWP.seq ?_
      refine AWP.region rfl ?_; intro K hK
      (try simp (implicitDefEqProofs := false) (decide := true) only [go_sem, Nat.reduceAdd, Nat.reduceMul, Nat.reduceSub, Int.reduceToNat, encFlowMoveV_set0])
      intro hm
      refine hK _ _ ?_; clear hK K
      refine qthen_normal ?_
      refine AWP.block ?_
      obtain ⟨o11, hJ11, hO11⟩ := bindE h
      clear h
      refine AWP.loopW (ι := Nat × ((List (Int × FlowMove)) × (List Int)) × (Nat)) (fun zz => [(3, .ptr 3 0), (7, .ptr 6 0), (8, .ptr 8 0), (9, .func 41 [.ptr 6 0, .ptr 3 0, .ptr 4 0, .ptr 8 0]), (10, .int .i64 x_8), (28, .sl 4 (l.map encApiEdge)), (29, .int .i64 ((l.length : Nat) : Int)), (30, .int .i64 ((zz.1 : Nat) : Int))]) (fun zz => [.box [.sl 4 (l.map encApiEdge)], .row ver2 1 (o1_1.map intC), .box [.own 1 ver2 0 o1_1.length], .box [.sl 4 (l.map encApiEdge)], .box [.own 1 ver2 0 o1_1.length], .mp (mpE encFlowMoveV zz.2.1.1), .box [.map 5], .row zz.2.2 1 (zz.2.1.2.map intC), .box [.own 7 zz.2.2 0 zz.2.1.2.length]]) (fun zz => zz.1 ≤ l.length ∧ forIx (flow_Find_b3 l o1_1 x_8) zz.1 ((l).drop zz.1) zz.2.1 = some o11) (fun zz => l.length - zz.1) (0, (o5_4, (o7_5.drop 1)), (ver6 + 1)) ⟨Nat.zero_le _, hJ11⟩ (by (simp (implicitDefEqProofs := false) (decide := true) only [go_sem, Nat.reduceAdd, Nat.reduceMul, Nat.reduceSub, Int.reduceToNat, mpE_nil, Int.natCast_zero, List.replicate_zero, List.length_take, List.length_drop, AVal.own.injEq, reduceCtorEq, Int.reduceAdd, encFlowMoveV_set0] <;> omega)) (by (simp (implicitDefEqProofs := false) (decide := true) only [go_sem, Nat.reduceAdd, Nat.reduceMul, Nat.reduceSub, Int.reduceToNat, mpE_nil, Int.natCast_zero, List.replicate_zero, List.length_take, List.length_drop, AVal.own.injEq, reduceCtorEq, Int.reduceAdd, encFlowMoveV_set0] <;> omega)) (fun x => ⟨rfl, rfl, rfl⟩) ?_
      clear hJ11
      rintro ⟨k11, ⟨o5_9, o7_10⟩, ver11⟩ ⟨hk11, hJ11⟩
      dsimp only at hk11 hJ11 ⊢
      refine AWP.seq ?_
      refine AWP.region rfl ?_; intro K hK
      (try simp (implicitDefEqProofs := false) (decide := true) only [go_sem, Nat.reduceAdd, Nat.reduceMul, Nat.reduceSub, Int.reduceToNat, encFlowMoveV_set0])
      refine hK _ _ ?_; clear hK K
      refine qthen_normal ?_
      refine AWP.seq ?_
      refine AWP.cond (acond_split (fun hc => ?_) (fun hc => ?_))
      · have hlt11 : k11 < l.length := by have := of_decide_eq_true hc; omega
        obtain ⟨x_13, b11, hx11_, h, hJ11⟩ := for_cons hJ11 hlt11
        have hx11 := idxL_nat hx11_
        have hw11 : IntKind.i64.wrap (((k11 : Nat) : Int) + 1) = (((k11 : Nat) : Int) + (1 : Int)) := by rw [wrap_i64] <;> omega
        unfold flow_Find_b3 at h; try dsimp only at h
        refine AWP.skip ?_
        refine qthen_normal ?_
        refine AWP.seq ?_
        refine AWP.block ?_
        refine AWP.seq ?_
        refine AWP.region rfl ?_; intro K hK
        (try simp (implicitDefEqProofs := false) (decide := true) only [go_sem, Nat.reduceAdd, Nat.reduceMul, Nat.reduceSub, Int.reduceToNat, encFlowMoveV_set0])
        refine AIdx.of (f := encApiEdge) (l := l) hx11 ?_
        (try simp (implicitDefEqProofs := false) (decide := true) only [go_sem, Nat.reduceAdd, Nat.reduceMul, Nat.reduceSub, Int.reduceToNat, encFlowMoveV_set0])
        refine hK _ _ ?_; clear hK K
        refine qthen_normal ?_
        refine AWP.seqJoin (ι := ((List (Int × FlowMove)) × (List Int)) × (Nat)) (fun zz => [(3, .ptr 3 0), (7, .ptr 6 0), (8, .ptr 8 0), (9, .func 41 [.ptr 6 0, .ptr 3 0, .ptr 4 0, .ptr 8 0]), (10, .int .i64 x_8), (11, .int .i64 ((k11 : Nat) : Int)), (12, .ptr 9 0), (28, .sl 4 (l.map encApiEdge)), (29, .int .i64 ((l.length : Nat) : Int)), (30, .int .i64 ((k11 : Nat) : Int))]) (fun zz => [.box [.sl 4 (l.map encApiEdge)], .row ver2 1 (o1_1.map intC), .box [.own 1 ver2 0 o1_1.length], .box [.sl 4 (l.map encApiEdge)], .box [.own 1 ver2 0 o1_1.length], .mp (mpE encFlowMoveV zz.1.1), .box [.map 5], .row zz.2 1 (zz.1.2.map intC), .box [.own 7 zz.2 0 zz.1.2.length], .box [.int .i64 x_13.ID, .int .i64 x_13.From, .int .i64 x_13.To, .int .i64 x_13.Cost]]) (fun zz => flow_Find_j4 l o1_1 x_8 k11 x_13 zz.1.1 zz.1.2 = some b11) (fun zz => ⟨rfl, rfl, rfl⟩) ?_ ?_
        · refine AWP.seq ?_
          refine AWP.region rfl ?_; intro K hK
          (try simp (implicitDefEqProofs := false) (decide := true) only [go_sem, Nat.reduceAdd, Nat.reduceMul, Nat.reduceSub, Int.reduceToNat, encFlowMoveV_set0])
          refine hK _ _ ?_; clear hK K
          refine qthen_normal ?_
          refine AWP.cond (acond_split (fun hc => ?_) (fun hc => ?_))
          · replace h := bif_t h hc
            refine AWP.region rfl ?_; intro K hK
            (try simp (implicitDefEqProofs := false) (decide := true) only [go_sem, Nat.reduceAdd, Nat.reduceMul, Nat.reduceSub, Int.reduceToNat, encFlowMoveV_set0])
            refine ACall.inline Try.call41 Try.func41 rfl rfl (by show _ ≤ 32; simp) ?_
            (try simp (implicitDefEqProofs := false) (decide := true) only [go_sem, Nat.reduceAdd, Nat.reduceMul, Nat.reduceSub, Int.reduceToNat, encFlowMoveV_set0])
            refine AWP.seq ?_
            refine AWP.region rfl ?_; intro K hK
            (try simp (implicitDefEqProofs := false) (decide := true) only [go_sem, Nat.reduceAdd, Nat.reduceMul, Nat.reduceSub, Int.reduceToNat, encFlowMoveV_set0])
            refine hK _ _ ?_; clear hK K
            refine qthen_normal ?_
            refine AWP.seq ?_
            refine AWP.region rfl ?_; intro K hK
            (try simp (implicitDefEqProofs := false) (decide := true) only [go_sem, Nat.reduceAdd, Nat.reduceMul, Nat.reduceSub, Int.reduceToNat, encFlowMoveV_set0])
            refine ALook.of (f := encFlowMoveV) (m := o5_9) (d := (FlowMove.mk (0 : Int) false)) rfl ?_
            (try simp (implicitDefEqProofs := false) (decide := true) only [go_sem, Nat.reduceAdd, Nat.reduceMul, Nat.reduceSub, Int.reduceToNat, encFlowMoveV_set0])
            refine hK _ _ ?_; clear hK K
            refine qthen_normal ?_
            refine AWP.seq ?_
            refine AWP.region rfl ?_; intro K hK
            (try simp (implicitDefEqProofs := false) (decide := true) only [go_sem, Nat.reduceAdd, Nat.reduceMul, Nat.reduceSub, Int.reduceToNat, encFlowMoveV_set0])
            refine aguardK_split (fun hc => ?_) (fun hc => ?_)
            · replace h := bif_t h hc
              (try simp (implicitDefEqProofs := false) (decide := true) only [go_sem, Nat.reduceAdd, Nat.reduceMul, Nat.reduceSub, Int.reduceToNat, hc, encFlowMoveV_set0])
              obtain ⟨y19, hy19, h⟩ := bindE h
              refine ACall.snap Try.call31 (flow_room_spec l o1_1 (FlowMove.mk ((k11 : Nat) : Int) true) hy19) (by simp (implicitDefEqProofs := false) (decide := true) only [go_sem, Nat.reduceAdd, Nat.reduceMul, Nat.reduceSub, Int.reduceToNat]) (by rintro _ rfl; rfl) fun _ hr => ?_
              subst hr
              (try simp (implicitDefEqProofs := false) (decide := true) only [go_sem, Nat.reduceAdd, Nat.reduceMul, Nat.reduceSub, Int.reduceToNat, encFlowMoveV_set0])
              refine hK _ _ ?_; clear hK K
              refine qthen_normal ?_
              refine AWP.cond (acond_split (fun hc => ?_) (fun hc => ?_))
              · replace h := bif_t h hc
                refine AWP.seq ?_
                refine AWP.region rfl ?_; intro K hK
                (try simp (implicitDefEqProofs := false) (decide := true) only [go_sem, Nat.reduceAdd, Nat.reduceMul, Nat.reduceSub, Int.reduceToNat, encFlowMoveV_set0])
                refine hK _ _ ?_; clear hK K
                refine qthen_normal ?_
                refine AWP.region rfl ?_; intro K hK
                (try simp (implicitDefEqProofs := false) (decide := true) only [go_sem, Nat.reduceAdd, Nat.reduceMul, Nat.reduceSub, Int.reduceToNat, encFlowMoveV_set0])
                obtain ⟨hk, h⟩ := chk_in h
                (repeat (refine ⟨by first | omega | (simp only [List.length_take, List.length_drop, List.length_append]; omega), ?_⟩)); try simp (implicitDefEqProofs := false) (decide := true) only [go_sem, Nat.reduceAdd, Nat.reduceMul, Nat.reduceSub, Int.reduceToNat]
                refine hK _ _ ?_; clear hK K
                (try simp (implicitDefEqProofs := false) (decide := true) only [go_sem, Nat.reduceAdd, Nat.reduceMul, Nat.reduceSub, Int.reduceToNat, Try.results41, encFlowMoveV_set0])
                refine hK _ _ ?_; clear hK K
                refine qthen_normal ?_
                exact ⟨(((mset o5_9 x_13.To (FlowMove.mk ((k11 : Nat) : Int) true)), (o7_10 ++ [x_13.To])), (ver11 + 1)), h, by (simp (implicitDefEqProofs := false) (decide := true) only [go_sem, Nat.reduceAdd, Nat.reduceMul, Nat.reduceSub, Int.reduceToNat, mpE_nil, Int.natCast_zero, List.replicate_zero, List.length_take, List.length_drop, AVal.own.injEq, reduceCtorEq, Int.reduceAdd, encFlowMoveV_set0] <;> omega), by (simp (implicitDefEqProofs := false) (decide := true) only [go_sem, Nat.reduceAdd, Nat.reduceMul, Nat.reduceSub, Int.reduceToNat, mpE_nil, Int.natCast_zero, List.replicate_zero, List.length_take, List.length_drop, AVal.own.injEq, reduceCtorEq, Int.reduceAdd, encFlowMoveV_set0] <;> omega)⟩
              · replace h := bif_f h hc
                refine AWP.skip ?_
                (try simp (implicitDefEqProofs := false) (decide := true) only [go_sem, Nat.reduceAdd, Nat.reduceMul, Nat.reduceSub, Int.reduceToNat, Try.results41, encFlowMoveV_set0])
                refine hK _ _ ?_; clear hK K
                refine qthen_normal ?_
                exact ⟨((o5_9, o7_10), ver11), h, by (simp (implicitDefEqProofs := false) (decide := true) only [go_sem, Nat.reduceAdd, Nat.reduceMul, Nat.reduceSub, Int.reduceToNat, mpE_nil, Int.natCast_zero, List.replicate_zero, List.length_take, List.length_drop, AVal.own.injEq, reduceCtorEq, Int.reduceAdd, encFlowMoveV_set0] <;> omega), by (simp (implicitDefEqProofs := false) (decide := true) only [go_sem, Nat.reduceAdd, Nat.reduceMul, Nat.reduceSub, Int.reduceToNat, mpE_nil, Int.natCast_zero, List.replicate_zero, List.length_take, List.length_drop, AVal.own.injEq, reduceCtorEq, Int.reduceAdd, encFlowMoveV_set0] <;> omega)⟩
            · replace h := bif_f h hc
              (try simp (implicitDefEqProofs := false) (decide := true) only [go_sem, Nat.reduceAdd, Nat.reduceMul, Nat.reduceSub, Int.reduceToNat, hc, Bool.not_true, encFlowMoveV_set0])
              refine hK _ _ ?_; clear hK K
              refine qthen_normal ?_
              refine AWP.cond (acond_false ?_)
              refine AWP.skip ?_
              (try simp (implicitDefEqProofs := false) (decide := true) only [go_sem, Nat.reduceAdd, Nat.reduceMul, Nat.reduceSub, Int.reduceToNat, Try.results41, encFlowMoveV_set0])
              refine hK _ _ ?_; clear hK K
              refine qthen_normal ?_
              exact ⟨((o5_9, o7_10), ver11), h, by (simp (implicitDefEqProofs := false) (decide := true) only [go_sem, Nat.reduceAdd, Nat.reduceMul, Nat.reduceSub, Int.reduceToNat, mpE_nil, Int.natCast_zero, List.replicate_zero, List.length_take, List.length_drop, AVal.own.injEq, reduceCtorEq, Int.reduceAdd, encFlowMoveV_set0] <;> omega), by (simp (implicitDefEqProofs := false) (decide := true) only [go_sem, Nat.reduceAdd, Nat.reduceMul, Nat.reduceSub, Int.reduceToNat, mpE_nil, Int.natCast_zero, List.replicate_zero, List.length_take, List.length_drop, AVal.own.injEq, reduceCtorEq, Int.reduceAdd, encFlowMoveV_set0] <;> omega)⟩
          · replace h := bif_f h hc
            refine AWP.skip ?_
            refine qthen_normal ?_
            exact ⟨((o5_9, o7_10), ver11), h, by (simp (implicitDefEqProofs := false) (decide := true) only [go_sem, Nat.reduceAdd, Nat.reduceMul, Nat.reduceSub, Int.reduceToNat, mpE_nil, Int.natCast_zero, List.replicate_zero, List.length_take, List.length_drop, AVal.own.injEq, reduceCtorEq, Int.reduceAdd, encFlowMoveV_set0] <;> omega), by (simp (implicitDefEqProofs := false) (decide := true) only [go_sem, Nat.reduceAdd, Nat.reduceMul, Nat.reduceSub, Int.reduceToNat, mpE_nil, Int.natCast_zero, List.replicate_zero, List.length_take, List.length_drop, AVal.own.injEq, reduceCtorEq, Int.reduceAdd, encFlowMoveV_set0] <;> omega)⟩
        · rintro ⟨⟨o5_14, o7_15⟩, ver16⟩ h
          try dsimp only at h ⊢
          unfold flow_Find_j4 at h; try dsimp only at h
          refine AWP.seq ?_
          refine AWP.region rfl ?_; intro K hK
          (try simp (implicitDefEqProofs := false) (decide := true) only [go_sem, Nat.reduceAdd, Nat.reduceMul, Nat.reduceSub, Int.reduceToNat, encFlowMoveV_set0])
          refine hK _ _ ?_; clear hK K
          refine qthen_normal ?_
          refine AWP.cond (acond_split (fun hc => ?_) (fun hc => ?_))
          · replace h := bif_t h hc
            refine AWP.region rfl ?_; intro K hK
            (try simp (implicitDefEqProofs := false) (decide := true) only [go_sem, Nat.reduceAdd, Nat.reduceMul, Nat.reduceSub, Int.reduceToNat, encFlowMoveV_set0])
            refine ACall.inline Try.call41 Try.func41 rfl rfl (by show _ ≤ 32; simp) ?_
            (try simp (implicitDefEqProofs := false) (decide := true) only [go_sem, Nat.reduceAdd, Nat.reduceMul, Nat.reduceSub, Int.reduceToNat, encFlowMoveV_set0])
            refine AWP.seq ?_
            refine AWP.region rfl ?_; intro K hK
            (try simp (implicitDefEqProofs := false) (decide := true) only [go_sem, Nat.reduceAdd, Nat.reduceMul, Nat.reduceSub, Int.reduceToNat, encFlowMoveV_set0])
            refine hK _ _ ?_; clear hK K
            refine qthen_normal ?_
            refine AWP.seq ?_
            refine AWP.region rfl ?_; intro K hK
            (try simp (implicitDefEqProofs := false) (decide := true) only [go_sem, Nat.reduceAdd, Nat.reduceMul, Nat.reduceSub, Int.reduceToNat, encFlowMoveV_set0])
            refine ALook.of (f := encFlowMoveV) (m := o5_14) (d := (FlowMove.mk (0 : Int) false)) rfl ?_
            (try simp (implicitDefEqProofs := false) (decide := true) only [go_sem, Nat.reduceAdd, Nat.reduceMul, Nat.reduceSub, Int.reduceToNat, encFlowMoveV_set0])
            refine hK _ _ ?_; clear hK K
            refine qthen_normal ?_
            refine AWP.seq ?_
            refine AWP.region rfl ?_; intro K hK
            (try simp (implicitDefEqProofs := false) (decide := true) only [go_sem, Nat.reduceAdd, Nat.reduceMul, Nat.reduceSub, Int.reduceToNat, encFlowMoveV_set0])
            refine aguardK_split (fun hc => ?_) (fun hc => ?_)
            · replace h := bif_t h hc
              (try simp (implicitDefEqProofs := false) (decide := true) only [go_sem, Nat.reduceAdd, Nat.reduceMul, Nat.reduceSub, Int.reduceToNat, hc, encFlowMoveV_set0])
              obtain ⟨y18, hy18, h⟩ := bindE h
              refine ACall.snap Try.call31 (flow_room_spec l o1_1 (FlowMove.mk ((k11 : Nat) : Int) false) hy18) (by simp (implicitDefEqProofs := false) (decide := true) only [go_sem, Nat.reduceAdd, Nat.reduceMul, Nat.reduceSub, Int.reduceToNat]) (by rintro _ rfl; rfl) fun _ hr => ?_
              subst hr
              (try simp (implicitDefEqProofs := false) (decide := true) only [go_sem, Nat.reduceAdd, Nat.reduceMul, Nat.reduceSub, Int.reduceToNat, encFlowMoveV_set0])
              refine hK _ _ ?_; clear hK K
              refine qthen_normal ?_
              refine AWP.cond (acond_split (fun hc => ?_) (fun hc => ?_))
              · replace h := bif_t h hc
                refine AWP.seq ?_
                refine AWP.region rfl ?_; intro K hK
                (try simp (implicitDefEqProofs := false) (decide := true) only [go_sem, Nat.reduceAdd, Nat.reduceMul, Nat.reduceSub, Int.reduceToNat, encFlowMoveV_set0])
                refine hK _ _ ?_; clear hK K
                refine qthen_normal ?_
                refine AWP.region rfl ?_; intro K hK
                (try simp (implicitDefEqProofs := false) (decide := true) only [go_sem, Nat.reduceAdd, Nat.reduceMul, Nat.reduceSub, Int.reduceToNat, encFlowMoveV_set0])
                obtain ⟨hk, h⟩ := chk_in h
                (repeat (refine ⟨by first | omega | (simp only [List.length_take, List.length_drop, List.length_append]; omega), ?_⟩)); try simp (implicitDefEqProofs := false) (decide := true) only [go_sem, Nat.reduceAdd, Nat.reduceMul, Nat.reduceSub, Int.reduceToNat]
                refine hK _ _ ?_; clear hK K
                (try simp (implicitDefEqProofs := false) (decide := true) only [go_sem, Nat.reduceAdd, Nat.reduceMul, Nat.reduceSub, Int.reduceToNat, Try.results41, encFlowMoveV_set0])
                refine hK _ _ ?_; clear hK K
                refine qblock_normal ?_
                refine qthen_normal ?_
                refine AWP.region rfl ?_; intro K hK
                (try simp (implicitDefEqProofs := false) (decide := true) only [go_sem, Nat.reduceAdd, Nat.reduceMul, Nat.reduceSub, Int.reduceToNat, encFlowMoveV_set0])
                refine hK _ _ ?_; clear hK K
                refine qthen_normal ?_
                obtain rfl := some_eq h
                refine ⟨(k11 + 1, ((mset o5_14 x_13.From (FlowMove.mk ((k11 : Nat) : Int) false)), (o7_15 ++ [x_13.From])), (ver16 + 1)), ⟨by dsimp only; omega, cont_next hJ11⟩, by dsimp only; omega, ?_, ?_⟩
                · (simp (implicitDefEqProofs := false) (decide := true) only [go_sem, Nat.reduceAdd, Nat.reduceMul, Nat.reduceSub, Int.reduceToNat, mpE_nil, Int.natCast_zero, List.replicate_zero, List.length_take, List.length_drop, AVal.own.injEq, reduceCtorEq, Int.reduceAdd, hw11, encFlowMoveV_set0] <;> omega)
                · (simp (implicitDefEqProofs := false) (decide := true) only [go_sem, Nat.reduceAdd, Nat.reduceMul, Nat.reduceSub, Int.reduceToNat, mpE_nil, Int.natCast_zero, List.replicate_zero, List.length_take, List.length_drop, AVal.own.injEq, reduceCtorEq, Int.reduceAdd, hw11, encFlowMoveV_set0] <;> omega)
              · replace h := bif_f h hc
                refine AWP.skip ?_
                (try simp (implicitDefEqProofs := false) (decide := true) only [go_sem, Nat.reduceAdd, Nat.reduceMul, Nat.reduceSub, Int.reduceToNat, Try.results41, encFlowMoveV_set0])
                refine hK _ _ ?_; clear hK K
                refine qblock_normal ?_
                refine qthen_normal ?_
                refine AWP.region rfl ?_; intro K hK
                (try simp (implicitDefEqProofs := false) (decide := true) only [go_sem, Nat.reduceAdd, Nat.reduceMul, Nat.reduceSub, Int.reduceToNat, encFlowMoveV_set0])
                refine hK _ _ ?_; clear hK K
                refine qthen_normal ?_
                obtain rfl := some_eq h
                refine ⟨(k11 + 1, (o5_14, o7_15), ver16), ⟨by dsimp only; omega, cont_next hJ11⟩, by dsimp only; omega, ?_, ?_⟩
                · (simp (implicitDefEqProofs := false) (decide := true) only [go_sem, Nat.reduceAdd, Nat.reduceMul, Nat.reduceSub, Int.reduceToNat, mpE_nil, Int.natCast_zero, List.replicate_zero, List.length_take, List.length_drop, AVal.own.injEq, reduceCtorEq, Int.reduceAdd, hw11, encFlowMoveV_set0] <;> omega)
                · (simp (implicitDefEqProofs := false) (decide := true) only [go_sem, Nat.reduceAdd, Nat.reduceMul, Nat.reduceSub, Int.reduceToNat, mpE_nil, Int.natCast_zero, List.replicate_zero, List.length_take, List.length_drop, AVal.own.injEq, reduceCtorEq, Int.reduceAdd, hw11, encFlowMoveV_set0] <;> omega)
            · replace h := bif_f h hc
              (try simp (implicitDefEqProofs := false) (decide := true) only [go_sem, Nat.reduceAdd, Nat.reduceMul, Nat.reduceSub, Int.reduceToNat, hc, Bool.not_true, encFlowMoveV_set0])
              refine hK _ _ ?_; clear hK K
              refine qthen_normal ?_
              refine AWP.cond (acond_false ?_)
              refine AWP.skip ?_
              (try simp (implicitDefEqProofs := false) (decide := true) only [go_sem, Nat.reduceAdd, Nat.reduceMul, Nat.reduceSub, Int.reduceToNat, Try.results41, encFlowMoveV_set0])
              refine hK _ _ ?_; clear hK K
              refine qblock_normal ?_
              refine qthen_normal ?_
              refine AWP.region rfl ?_; intro K hK
              (try simp (implicitDefEqProofs := false) (decide := true) only [go_sem, Nat.reduceAdd, Nat.reduceMul, Nat.reduceSub, Int.reduceToNat, encFlowMoveV_set0])
              refine hK _ _ ?_; clear hK K
              refine qthen_normal ?_
              obtain rfl := some_eq h
              refine ⟨(k11 + 1, (o5_14, o7_15), ver16), ⟨by dsimp only; omega, cont_next hJ11⟩, by dsimp only; omega, ?_, ?_⟩
              · (simp (implicitDefEqProofs := false) (decide := true) only [go_sem, Nat.reduceAdd, Nat.reduceMul, Nat.reduceSub, Int.reduceToNat, mpE_nil, Int.natCast_zero, List.replicate_zero, List.length_take, List.length_drop, AVal.own.injEq, reduceCtorEq, Int.reduceAdd, hw11, encFlowMoveV_set0] <;> omega)
              · (simp (implicitDefEqProofs := false) (decide := true) only [go_sem, Nat.reduceAdd, Nat.reduceMul, Nat.reduceSub, Int.reduceToNat, mpE_nil, Int.natCast_zero, List.replicate_zero, List.length_take, List.length_drop, AVal.own.injEq, reduceCtorEq, Int.reduceAdd, hw11, encFlowMoveV_set0] <;> omega)
          · replace h := bif_f h hc
            refine AWP.skip ?_
            refine qblock_normal ?_
            refine qthen_normal ?_
            refine AWP.region rfl ?_; intro K hK
            (try simp (implicitDefEqProofs := false) (decide := true) only [go_sem, Nat.reduceAdd, Nat.reduceMul, Nat.reduceSub, Int.reduceToNat, encFlowMoveV_set0])
            refine hK _ _ ?_; clear hK K
            refine qthen_normal ?_
            obtain rfl := some_eq h
            refine ⟨(k11 + 1, (o5_14, o7_15), ver16), ⟨by dsimp only; omega, cont_next hJ11⟩, by dsimp only; omega, ?_, ?_⟩
            · (simp (implicitDefEqProofs := false) (decide := true) only [go_sem, Nat.reduceAdd, Nat.reduceMul, Nat.reduceSub, Int.reduceToNat, mpE_nil, Int.natCast_zero, List.replicate_zero, List.length_take, List.length_drop, AVal.own.injEq, reduceCtorEq, Int.reduceAdd, hw11, encFlowMoveV_set0] <;> omega)
            · (simp (implicitDefEqProofs := false) (decide := true) only [go_sem, Nat.reduceAdd, Nat.reduceMul, Nat.reduceSub, Int.reduceToNat, mpE_nil, Int.natCast_zero, List.replicate_zero, List.length_take, List.length_drop, AVal.own.injEq, reduceCtorEq, Int.reduceAdd, hw11, encFlowMoveV_set0] <;> omega)
      · obtain rfl := for_nil hJ11 (fun hl => by have := of_decide_eq_false hc; omega)
        have h := on_next hO11; try dsimp only at h
        have hkl : l.length = k11 := by have := of_decide_eq_false hc; omega
        subst hkl
        refine AWP.exit ?_
        refine qthen_exit ?_
        refine qthen_exit ?_
        refine qblock_same ?_
        refine qblock_normal ?_
        refine qthen_normal ?_
        obtain rfl := some_eq h
        refine ⟨(m6, (o5_9, o7_10), ver11), cont_next hJ6, by dsimp only; omega, ?_, ?_⟩
        · (simp (implicitDefEqProofs := false) (decide := true) only [go_sem, Nat.reduceAdd, Nat.reduceMul, Nat.reduceSub, Int.reduceToNat, mpE_nil, Int.natCast_zero, List.replicate_zero, List.length_take, List.length_drop, AVal.own.injEq, reduceCtorEq, Int.reduceAdd, encFlowMoveV_set0] <;> omega)
        · (simp (implicitDefEqProofs := false) (decide := true) only [go_sem, Nat.reduceAdd, Nat.reduceMul, Nat.reduceSub, Int.reduceToNat, mpE_nil, Int.natCast_zero, List.replicate_zero, List.length_take, List.length_drop, AVal.own.injEq, reduceCtorEq, Int.reduceAdd, encFlowMoveV_set0] <;> omega)
    · replace h := bif_f h hc
      refine AWP.exit ?_
      refine qthen_exit ?_
      refine qthen_exit ?_
      obtain ⟨q39, hq, h⟩ := bindE h
      obtain rfl := some_eq h
      obtain rfl := cont_ret hJ6
      replace h := hq.trans (on_ret hO6)
      refine qblock_same ?_
      refine qthen_normal ?_
      refine AWP.seq ?_
      refine AWP.region rfl ?_; intro K hK
      (try simp (implicitDefEqProofs := false) (decide := true) only [go_sem, Nat.reduceAdd, Nat.reduceMul, Nat.reduceSub, Int.reduceToNat, encFlowMoveV_set0])
      refine hK _ _ ?_; clear hK K
      refine qthen_normal ?_
      refine AWP.ret ?_
      (try simp (implicitDefEqProofs := false) (decide := true) only [go_sem, Nat.reduceAdd, Nat.reduceMul, Nat.reduceSub, Int.reduceToNat, Try.results30, encFlowMoveV_set0])
      refine hK _ _ ?_; clear hK K
      refine qthen_normal ?_
      refine AWP.seq ?_
      refine AWP.seq ?_
      refine AWP.region rfl ?_; intro K hK
      (try simp (implicitDefEqProofs := false) (decide := true) only [go_sem, Nat.reduceAdd, Nat.reduceMul, Nat.reduceSub, Int.reduceToNat, encFlowMoveV_set0])
      refine ALook.of (f := encFlowMoveV) (m := o5_4) (d := (FlowMove.mk (0 : Int) false)) rfl ?_
      (try simp (implicitDefEqProofs := false) (decide := true) only [go_sem, Nat.reduceAdd, Nat.reduceMul, Nat.reduceSub, Int.reduceToNat, encFlowMoveV_set0])
      refine hK _ _ ?_; clear hK K
      refine qthen_normal ?_
      refine AWP.seq ?_
      refine AWP.region rfl ?_; intro K hK
      (try simp (implicitDefEqProofs := false) (decide := true) only [go_sem, Nat.reduceAdd, Nat.reduceMul, Nat.reduceSub, Int.reduceToNat, encFlowMoveV_set0])
      refine hK _ _ ?_; clear hK K
      refine qthen_normal ?_
      refine AWP.cond (acond_split (fun hc => ?_) (fun hc => ?_))
      · replace h := bif_t h hc
        refine AWP.seq ?_
        refine AWP.region rfl ?_; intro K hK
        (try simp (implicitDefEqProofs := false) (decide := true) only [go_sem, Nat.reduceAdd, Nat.reduceMul, Nat.reduceSub, Int.reduceToNat, encFlowMoveV_set0])
        refine hK _ _ ?_; clear hK K
        refine qthen_normal ?_
        refine AWP.ret ?_
        refine qthen_ret ?_
        refine qblock_ret ?_
        refine qthen_ret ?_
        obtain rfl := some_eq h
        obtain rfl := cont_ret hJ2
        replace h := on_ret hO2
        refine qblock_ret ?_
        obtain rfl := some_eq h
        simp (implicitDefEqProofs := false) (decide := true) only [go_sem, Nat.reduceAdd, Nat.reduceMul, Nat.reduceSub, Int.reduceToNat, mpE_nil, Int.natCast_zero, List.replicate_zero, List.length_take, List.length_drop, AVal.own.injEq, reduceCtorEq, Int.reduceAdd, nle2, nle1, nle0, nleA, nleL, Try.results19, encFlowMoveV_set0]
      · replace h := bif_f h hc
        refine AWP.skip ?_
        refine qthen_normal ?_
        refine AWP.seq ?_
        refine AWP.region rfl ?_; intro K hK
        (try simp (implicitDefEqProofs := false) (decide := true) only [go_sem, Nat.reduceAdd, Nat.reduceMul, Nat.reduceSub, Int.reduceToNat, encFlowMoveV_set0])
        refine ALook.of (f := encFlowMoveV) (m := o5_4) (d := (FlowMove.mk (0 : Int) false)) rfl ?_
        (try simp (implicitDefEqProofs := false) (decide := true) only [go_sem, Nat.reduceAdd, Nat.reduceMul, Nat.reduceSub, Int.reduceToNat, encFlowMoveV_set0])
        obtain ⟨y20, hy20, h⟩ := bindE h
        refine ACall.snap Try.call31 (flow_room_spec l o1_1 (mget (FlowMove.mk (0 : Int) false) o5_4 t) hy20) (by simp (implicitDefEqProofs := false) (decide := true) only [go_sem, Nat.reduceAdd, Nat.reduceMul, Nat.reduceSub, Int.reduceToNat]) (by rintro _ rfl; rfl) fun _ hr => ?_
        subst hr
        (try simp (implicitDefEqProofs := false) (decide := true) only [go_sem, Nat.reduceAdd, Nat.reduceMul, Nat.reduceSub, Int.reduceToNat, encFlowMoveV_set0])
        refine hK _ _ ?_; clear hK K
        refine qthen_normal ?_
        refine AWP.seq ?_
        refine AWP.region rfl ?_; intro K hK
        (try simp (implicitDefEqProofs := false) (decide := true) only [go_sem, Nat.reduceAdd, Nat.reduceMul, Nat.reduceSub, Int.reduceToNat, encFlowMoveV_set0])
        refine ACall.inline Try.call32 Try.func32 rfl rfl (by show _ ≤ 36; simp) ?_
        (try simp (implicitDefEqProofs := false) (decide := true) only [go_sem, Nat.reduceAdd, Nat.reduceMul, Nat.reduceSub, Int.reduceToNat, encFlowMoveV_set0])
        refine AWP.seq ?_
        refine AWP.region rfl ?_; intro K hK
        (try simp (implicitDefEqProofs := false) (decide := true) only [go_sem, Nat.reduceAdd, Nat.reduceMul, Nat.reduceSub, Int.reduceToNat, encFlowMoveV_set0])
        refine hK _ _ ?_; clear hK K
        refine qthen_normal ?_
        refine AWP.block ?_
        obtain ⟨o22, hJ22, hO22⟩ := bindE h
        clear h
        refine AWP.loopW (ι := Nat × (Int × Int) × (Unit)) (fun zz => [(0, .sl 4 (l.map encApiEdge)), (1, .map 5), (2, .int .i64 s_), (4, .func 33 [.ptr 10 0, .ptr 0 0, .ptr 2 0]), (10, .int .i64 zz.2.1.1)]) (fun zz => [.box [.sl 4 (l.map encApiEdge)], .row ver2 1 (o1_1.map intC), .box [.own 1 ver2 0 o1_1.length], .gone, .gone, .mp (mpE encFlowMoveV o5_4), .gone, .gone, .gone, .box [.int .i64 (mget (FlowMove.mk (0 : Int) false) o5_4 t).edge, .bool (mget (FlowMove.mk (0 : Int) false) o5_4 t).forward], .box [.int .i64 zz.2.1.2]]) (fun zz => whileN (flow_Find_b5 l s_ t o1_1 o5_4) zz.1 zz.2.1 = some o22) (fun zz => zz.1) (fuel, (t, y20), ()) hJ22 (by (simp (implicitDefEqProofs := false) (decide := true) only [go_sem, Nat.reduceAdd, Nat.reduceMul, Nat.reduceSub, Int.reduceToNat, mpE_nil, Int.natCast_zero, List.replicate_zero, List.length_take, List.length_drop, AVal.own.injEq, reduceCtorEq, Int.reduceAdd, encFlowMoveV_set0] <;> omega)) (by (simp (implicitDefEqProofs := false) (decide := true) only [go_sem, Nat.reduceAdd, Nat.reduceMul, Nat.reduceSub, Int.reduceToNat, mpE_nil, Int.natCast_zero, List.replicate_zero, List.length_take, List.length_drop, AVal.own.injEq, reduceCtorEq, Int.reduceAdd, encFlowMoveV_set0] <;> omega)) (fun x => ⟨rfl, rfl, rfl⟩) ?_
        clear hJ22
        rintro ⟨n22, ⟨n_21, o10_22⟩, ⟨⟩⟩ hJ22
        dsimp only at hJ22 ⊢
        obtain ⟨m22, b22, rfl, h, hJ22⟩ := while_step hJ22
        unfold flow_Find_b5 at h; try dsimp only at h
        refine AWP.seq ?_
        refine AWP.seq ?_
        refine AWP.region rfl ?_; intro K hK
        (try simp (implicitDefEqProofs := false) (decide := true) only [go_sem, Nat.reduceAdd, Nat.reduceMul, Nat.reduceSub, Int.reduceToNat, encFlowMoveV_set0])
        refine hK _ _ ?_; clear hK K
        refine qthen_normal ?_
        refine AWP.cond (acond_split (fun hc => ?_) (fun hc => ?_))
        · replace h := bif_t h hc
          refine AWP.skip ?_
          refine qthen_normal ?_
          refine AWP.block ?_
          refine AWP.seq ?_
          refine AWP.region rfl ?_; intro K hK
          (try simp (implicitDefEqProofs := false) (decide := true) only [go_sem, Nat.reduceAdd, Nat.reduceMul, Nat.reduceSub, Int.reduceToNat, encFlowMoveV_set0])
          refine ALook.of (f := encFlowMoveV) (m := o5_4) (d := (FlowMove.mk (0 : Int) false)) rfl ?_
          (try simp (implicitDefEqProofs := false) (decide := true) only [go_sem, Nat.reduceAdd, Nat.reduceMul, Nat.reduceSub, Int.reduceToNat, encFlowMoveV_set0])
          refine hK _ _ ?_; clear hK K
          refine qthen_normal ?_
          refine AWP.seq ?_
          refine AWP.region rfl ?_; intro K hK
          (try simp (implicitDefEqProofs := false) (decide := true) only [go_sem, Nat.reduceAdd, Nat.reduceMul, Nat.reduceSub, Int.reduceToNat, encFlowMoveV_set0])
          refine ACall.inline Try.call33 Try.func33 rfl rfl (by show _ ≤ 11; simp) ?_
          (try simp (implicitDefEqProofs := false) (decide := true) only [go_sem, Nat.reduceAdd, Nat.reduceMul, Nat.reduceSub, Int.reduceToNat, encFlowMoveV_set0])
          refine AWP.seq ?_
          refine AWP.region rfl ?_; intro K hK
          (try simp (implicitDefEqProofs := false) (decide := true) only [go_sem, Nat.reduceAdd, Nat.reduceMul, Nat.reduceSub, Int.reduceToNat, encFlowMoveV_set0])
          refine hK _ _ ?_; clear hK K
          refine qthen_normal ?_
          refine AWP.draw Try.mixed (by kernel_rfl) ?_; intro K hK
          (try simp (implicitDefEqProofs := false) (decide := true) only [go_sem, Nat.reduceAdd, Nat.reduceMul, Nat.reduceSub, Int.reduceToNat, encFlowMoveV_set0])
          obtain ⟨y24, hy24, h⟩ := bindE h
          refine DCall.snap Try.call31 (flow_room_spec l o1_1 (mget (FlowMove.mk (0 : Int) false) o5_4 n_21) hy24) (by simp (implicitDefEqProofs := false) (decide := true) only [go_sem, Nat.reduceAdd, Nat.reduceMul, Nat.reduceSub, Int.reduceToNat]) rfl ?_
          (try simp (implicitDefEqProofs := false) (decide := true) only [go_sem, Nat.reduceAdd, Nat.reduceMul, Nat.reduceSub, Int.reduceToNat, encFlowMoveV_set0])
          refine hK _ _ _ (by kernel_rfl) ?_; clear hK K
          (try simp (implicitDefEqProofs := false) (decide := true) only [go_sem, Nat.reduceAdd, Nat.reduceMul, Nat.reduceSub, Int.reduceToNat, Try.results33, encFlowMoveV_set0])
          refine hK _ _ ?_; clear hK K
          refine qthen_normal ?_
          refine AWP.seq ?_
          refine AWP.region rfl ?_; intro K hK
          (try simp (implicitDefEqProofs := false) (decide := true) only [go_sem, Nat.reduceAdd, Nat.reduceMul, Nat.reduceSub, Int.reduceToNat, encFlowMoveV_set0])
          refine hK _ _ ?_; clear hK K
          refine qthen_normal ?_
          refine AWP.cond (acond_split (fun hc => ?_) (fun hc => ?_))
          · replace h := bif_t h hc
            refine AWP.region rfl ?_; intro K hK
            (try simp (implicitDefEqProofs := false) (decide := true) only [go_sem, Nat.reduceAdd, Nat.reduceMul, Nat.reduceSub, Int.reduceToNat, encFlowMoveV_set0])
            obtain ⟨x_25, hx_25, h⟩ := bindE h
            refine AIdx.of (f := encApiEdge) (l := l) hx_25 ?_
            (try simp (implicitDefEqProofs := false) (decide := true) only [go_sem, Nat.reduceAdd, Nat.reduceMul, Nat.reduceSub, Int.reduceToNat, encFlowMoveV_set0])
            refine hK _ _ ?_; clear hK K
            refine qblock_normal ?_
            refine qthen_normal ?_
            obtain rfl := some_eq h
            refine ⟨(m22, (x_25.From, (if y24 < o10_22 then y24 else o10_22)), ()), cont_next hJ22, by dsimp only; omega, ?_, ?_⟩
            · (simp (implicitDefEqProofs := false) (decide := true) only [go_sem, Nat.reduceAdd, Nat.reduceMul, Nat.reduceSub, Int.reduceToNat, mpE_nil, Int.natCast_zero, List.replicate_zero, List.length_take, List.length_drop, AVal.own.injEq, reduceCtorEq, Int.reduceAdd, encFlowMoveV_set0] <;> omega)
            · (simp (implicitDefEqProofs := false) (decide := true) only [go_sem, Nat.reduceAdd, Nat.reduceMul, Nat.reduceSub, Int.reduceToNat, mpE_nil, Int.natCast_zero, List.replicate_zero, List.length_take, List.length_drop, AVal.own.injEq, reduceCtorEq, Int.reduceAdd, encFlowMoveV_set0] <;> omega)
          · replace h := bif_f h hc
            refine AWP.region rfl ?_; intro K hK
            (try simp (implicitDefEqProofs := false) (decide := true) only [go_sem, Nat.reduceAdd, Nat.reduceMul, Nat.reduceSub, Int.reduceToNat, encFlowMoveV_set0])
            obtain ⟨x_26, hx_26, h⟩ := bindE h
            refine AIdx.of (f := encApiEdge) (l := l) hx_26 ?_
            (try simp (implicitDefEqProofs := false) (decide := true) only [go_sem, Nat.reduceAdd, Nat.reduceMul, Nat.reduceSub, Int.reduceToNat, encFlowMoveV_set0])
            refine hK _ _ ?_; clear hK K
            refine qblock_normal ?_
            refine qthen_normal ?_
            obtain rfl := some_eq h
            refine ⟨(m22, (x_26.To, (if y24 < o10_22 then y24 else o10_22)), ()), cont_next hJ22, by dsimp only; omega, ?_, ?_⟩
            · (simp (implicitDefEqProofs := false) (decide := true) only [go_sem, Nat.reduceAdd, Nat.reduceMul, Nat.reduceSub, Int.reduceToNat, mpE_nil, Int.natCast_zero, List.replicate_zero, List.length_take, List.length_drop, AVal.own.injEq, reduceCtorEq, Int.reduceAdd, encFlowMoveV_set0] <;> omega)
            · (simp (implicitDefEqProofs := false) (decide := true) only [go_sem, Nat.reduceAdd, Nat.reduceMul, Nat.reduceSub, Int.reduceToNat, mpE_nil, Int.natCast_zero, List.replicate_zero, List.length_take, List.length_drop, AVal.own.injEq, reduceCtorEq, Int.reduceAdd, encFlowMoveV_set0] <;> omega)
        · replace h := bif_f h hc
          refine AWP.exit ?_
          refine qthen_exit ?_
          refine qthen_exit ?_
          obtain ⟨q38, hq, h⟩ := bindE h
          obtain rfl := some_eq h
          obtain rfl := cont_ret hJ22
          replace h := hq.trans (on_ret hO22)
          refine qblock_same ?_
          (try simp (implicitDefEqProofs := false) (decide := true) only [go_sem, Nat.reduceAdd, Nat.reduceMul, Nat.reduceSub, Int.reduceToNat, Try.results32, encFlowMoveV_set0])
          refine hK _ _ ?_; clear hK K
          refine qthen_normal ?_
          refine AWP.region rfl ?_; intro K hK
          (try simp (implicitDefEqProofs := false) (decide := true) only [go_sem, Nat.reduceAdd, Nat.reduceMul, Nat.reduceSub, Int.reduceToNat, encFlowMoveV_set0])
          refine ACall.inline Try.call32 Try.func32 rfl rfl (by show _ ≤ 36; simp) ?_
          (try simp (implicitDefEqProofs := false) (decide := true) only [go_sem, Nat.reduceAdd, Nat.reduceMul, Nat.reduceSub, Int.reduceToNat, encFlowMoveV_set0])
          refine AWP.seq ?_
          refine AWP.region rfl ?_; intro K hK
          (try simp (implicitDefEqProofs := false) (decide := true) only [go_sem, Nat.reduceAdd, Nat.reduceMul, Nat.reduceSub, Int.reduceToNat, encFlowMoveV_set0])
          refine hK _ _ ?_; clear hK K
          refine qthen_normal ?_
          refine AWP.block ?_
          obtain ⟨o29, hJ29, hO29⟩ := bindE h
          clear h
          refine AWP.loopW (ι := Nat × (Int × (List Int)) × (Nat)) (fun zz => [(0, .sl 4 (l.map encApiEdge)), (1, .map 5), (2, .int .i64 s_), (4, .func 34 [.ptr 2 0, .ptr 10 0]), (10, .int .i64 zz.2.1.1)]) (fun zz => [.box [.sl 4 (l.map encApiEdge)], .row zz.2.2 1 (zz.2.1.2.map intC), .box [.own 1 zz.2.2 0 zz.2.1.2.length], .gone, .gone, .mp (mpE encFlowMoveV o5_4), .gone, .gone, .gone, .box [.int .i64 (mget (FlowMove.mk (0 : Int) false) o5_4 t).edge, .bool (mget (FlowMove.mk (0 : Int) false) o5_4 t).forward], .box [.int .i64 o10_22]]) (fun zz => whileN (flow_Find_b6 l s_ o5_4 o10_22) zz.1 zz.2.1 = some o29) (fun zz => zz.1) (fuel, (t, o1_1), ver2) hJ29 (by (simp (implicitDefEqProofs := false) (decide := true) only [go_sem, Nat.reduceAdd, Nat.reduceMul, Nat.reduceSub, Int.reduceToNat, mpE_nil, Int.natCast_zero, List.replicate_zero, List.length_take, List.length_drop, AVal.own.injEq, reduceCtorEq, Int.reduceAdd, encFlowMoveV_set0] <;> omega)) (by (simp (implicitDefEqProofs := false) (decide := true) only [go_sem, Nat.reduceAdd, Nat.reduceMul, Nat.reduceSub, Int.reduceToNat, mpE_nil, Int.natCast_zero, List.replicate_zero, List.length_take, List.length_drop, AVal.own.injEq, reduceCtorEq, Int.reduceAdd, encFlowMoveV_set0] <;> omega)) (fun x => ⟨rfl, rfl, rfl⟩) ?_
          clear hJ29
          rintro ⟨n29, ⟨n_27, o1_28⟩, ver29⟩ hJ29
          dsimp only at hJ29 ⊢
          obtain ⟨m29, b29, rfl, h, hJ29⟩ := while_step hJ29
          unfold flow_Find_b6 at h; try dsimp only at h
          refine AWP.seq ?_
          refine AWP.seq ?_
          refine AWP.region rfl ?_; intro K hK
          (try simp (implicitDefEqProofs := false) (decide := true) only [go_sem, Nat.reduceAdd, Nat.reduceMul, Nat.reduceSub, Int.reduceToNat, encFlowMoveV_set0])
          refine hK _ _ ?_; clear hK K
          refine qthen_normal ?_
          refine AWP.cond (acond_split (fun hc => ?_) (fun hc => ?_))
          · replace h := bif_t h hc
            refine AWP.skip ?_
            refine qthen_normal ?_
            refine AWP.block ?_
            refine AWP.seq ?_
            refine AWP.region rfl ?_; intro K hK
            (try simp (implicitDefEqProofs := false) (decide := true) only [go_sem, Nat.reduceAdd, Nat.reduceMul, Nat.reduceSub, Int.reduceToNat, encFlowMoveV_set0])
            refine ALook.of (f := encFlowMoveV) (m := o5_4) (d := (FlowMove.mk (0 : Int) false)) rfl ?_
            (try simp (implicitDefEqProofs := false) (decide := true) only [go_sem, Nat.reduceAdd, Nat.reduceMul, Nat.reduceSub, Int.reduceToNat, encFlowMoveV_set0])
            refine hK _ _ ?_; clear hK K
            refine qthen_normal ?_
            refine AWP.seq ?_
            refine AWP.region rfl ?_; intro K hK
            (try simp (implicitDefEqProofs := false) (decide := true) only [go_sem, Nat.reduceAdd, Nat.reduceMul, Nat.reduceSub, Int.reduceToNat, encFlowMoveV_set0])
            refine ACall.inline Try.call34 Try.func34 rfl rfl (by show _ ≤ 22; simp) ?_
            (try simp (implicitDefEqProofs := false) (decide := true) only [go_sem, Nat.reduceAdd, Nat.reduceMul, Nat.reduceSub, Int.reduceToNat, encFlowMoveV_set0])
            refine AWP.seq ?_
            refine AWP.region rfl ?_; intro K hK
            (try simp (implicitDefEqProofs := false) (decide := true) only [go_sem, Nat.reduceAdd, Nat.reduceMul, Nat.reduceSub, Int.reduceToNat, encFlowMoveV_set0])
            refine hK _ _ ?_; clear hK K
            refine qthen_normal ?_
            refine AWP.seq ?_
            refine AWP.region rfl ?_; intro K hK
            (try simp (implicitDefEqProofs := false) (decide := true) only [go_sem, Nat.reduceAdd, Nat.reduceMul, Nat.reduceSub, Int.reduceToNat, encFlowMoveV_set0])
            refine hK _ _ ?_; clear hK K
            refine qthen_normal ?_
            refine AWP.cond (acond_split (fun hc => ?_) (fun hc => ?_))
            · replace h := bif_t h hc
              refine AWP.draw Try.mixed (by kernel_rfl) ?_; intro K hK
              (try simp (implicitDefEqProofs := false) (decide := true) only [go_sem, Nat.reduceAdd, Nat.reduceMul, Nat.reduceSub, Int.reduceToNat, encFlowMoveV_set0])
              obtain ⟨x_31, hx_31, h⟩ := bindE h
              refine own_in hx_31 (by first | rfl | exact (sortI_len _).symm | (simp only [List.length_append, List.length_cons, List.length_nil, List.length_set, List.length_replicate] <;> omega)) ?_
              (try simp (implicitDefEqProofs := false) (decide := true) only [go_sem, Nat.reduceAdd, Nat.reduceMul, Nat.reduceSub, Int.reduceToNat, encFlowMoveV_set0])
              refine AElem.of (f := intC) (l := o1_28) (n := (mget (FlowMove.mk (0 : Int) false) o5_4 n_27).edge) hx_31 ?_
              (try simp (implicitDefEqProofs := false) (decide := true) only [go_sem, Nat.reduceAdd, Nat.reduceMul, Nat.reduceSub, Int.reduceToNat, encFlowMoveV_set0])
              refine own_in hx_31 (by first | rfl | exact (sortI_len _).symm | (simp only [List.length_append, List.length_cons, List.length_nil, List.length_set, List.length_replicate] <;> omega)) ?_
              (try simp (implicitDefEqProofs := false) (decide := true) only [go_sem, Nat.reduceAdd, Nat.reduceMul, Nat.reduceSub, Int.reduceToNat, encFlowMoveV_set0])
              refine AElem.of (f := intC) (l := o1_28) (n := (mget (FlowMove.mk (0 : Int) false) o5_4 n_27).edge) hx_31 ?_
              have hs32 := idxL_set (y := (IntKind.i64.wrap (x_31 + o10_22))) hx_31
              (try simp (implicitDefEqProofs := false) (decide := true) only [go_sem, Nat.reduceAdd, Nat.reduceMul, Nat.reduceSub, Int.reduceToNat, encFlowMoveV_set0])
              refine hK _ _ _ (by kernel_rfl) ?_; clear hK K
              (try simp (implicitDefEqProofs := false) (decide := true) only [go_sem, Nat.reduceAdd, Nat.reduceMul, Nat.reduceSub, Int.reduceToNat, Try.results34, encFlowMoveV_set0])
              refine hK _ _ ?_; clear hK K
              refine qthen_normal ?_
              refine AWP.seq ?_
              refine AWP.region rfl ?_; intro K hK
              (try simp (implicitDefEqProofs := false) (decide := true) only [go_sem, Nat.reduceAdd, Nat.reduceMul, Nat.reduceSub, Int.reduceToNat, encFlowMoveV_set0])
              refine hK _ _ ?_; clear hK K
              refine qthen_normal ?_
              refine AWP.cond (acond_split (fun hc => ?_) (fun hc => ?_))
              · replace h := bif_t h hc
                refine AWP.region rfl ?_; intro K hK
                (try simp (implicitDefEqProofs := false) (decide := true) only [go_sem, Nat.reduceAdd, Nat.reduceMul, Nat.reduceSub, Int.reduceToNat, encFlowMoveV_set0])
                obtain ⟨x_33, hx_33, h⟩ := bindE h
                refine AIdx.of (f := encApiEdge) (l := l) hx_33 ?_
                (try simp (implicitDefEqProofs := false) (decide := true) only [go_sem, Nat.reduceAdd, Nat.reduceMul, Nat.reduceSub, Int.reduceToNat, encFlowMoveV_set0])
                refine hK _ _ ?_; clear hK K
                refine qblock_normal ?_
                refine qthen_normal ?_
                obtain rfl := some_eq h
                refine ⟨(m29, (x_33.From, (o1_28.set (mget (FlowMove.mk (0 : Int) false) o5_4 n_27).edge.toNat (IntKind.i64.wrap (x_31 + o10_22)))), ver29), cont_next hJ29, by dsimp only; omega, ?_, ?_⟩
                · (simp (implicitDefEqProofs := false) (decide := true) only [go_sem, Nat.reduceAdd, Nat.reduceMul, Nat.reduceSub, Int.reduceToNat, mpE_nil, Int.natCast_zero, List.replicate_zero, List.length_take, List.length_drop, AVal.own.injEq, reduceCtorEq, Int.reduceAdd, encFlowMoveV_set0] <;> omega)
                · (simp (implicitDefEqProofs := false) (decide := true) only [go_sem, Nat.reduceAdd, Nat.reduceMul, Nat.reduceSub, Int.reduceToNat, mpE_nil, Int.natCast_zero, List.replicate_zero, List.length_take, List.length_drop, AVal.own.injEq, reduceCtorEq, Int.reduceAdd, encFlowMoveV_set0] <;> omega)
              · replace h := bif_f h hc
                refine AWP.region rfl ?_; intro K hK
                (try simp (implicitDefEqProofs := false) (decide := true) only [go_sem, Nat.reduceAdd, Nat.reduceMul, Nat.reduceSub, Int.reduceToNat, encFlowMoveV_set0])
                obtain ⟨x_34, hx_34, h⟩ := bindE h
                refine AIdx.of (f := encApiEdge) (l := l) hx_34 ?_
                (try simp (implicitDefEqProofs := false) (decide := true) only [go_sem, Nat.reduceAdd, Nat.reduceMul, Nat.reduceSub, Int.reduceToNat, encFlowMoveV_set0])
                refine hK _ _ ?_; clear hK K
                refine qblock_normal ?_
                refine qthen_normal ?_
                obtain rfl := some_eq h
                refine ⟨(m29, (x_34.To, (o1_28.set (mget (FlowMove.mk (0 : Int) false) o5_4 n_27).edge.toNat (IntKind.i64.wrap (x_31 + o10_22)))), ver29), cont_next hJ29, by dsimp only; omega, ?_, ?_⟩
                · (simp (implicitDefEqProofs := false) (decide := true) only [go_sem, Nat.reduceAdd, Nat.reduceMul, Nat.reduceSub, Int.reduceToNat, mpE_nil, Int.natCast_zero, List.replicate_zero, List.length_take, List.length_drop, AVal.own.injEq, reduceCtorEq, Int.reduceAdd, encFlowMoveV_set0] <;> omega)
                · (simp (implicitDefEqProofs := false) (decide := true) only [go_sem, Nat.reduceAdd, Nat.reduceMul, Nat.reduceSub, Int.reduceToNat, mpE_nil, Int.natCast_zero, List.replicate_zero, List.length_take, List.length_drop, AVal.own.injEq, reduceCtorEq, Int.reduceAdd, encFlowMoveV_set0] <;> omega)
            · replace h := bif_f h hc
              refine AWP.draw Try.mixed (by kernel_rfl) ?_; intro K hK
              (try simp (implicitDefEqProofs := false) (decide := true) only [go_sem, Nat.reduceAdd, Nat.reduceMul, Nat.reduceSub, Int.reduceToNat, encFlowMoveV_set0])
              obtain ⟨x_35, hx_35, h⟩ := bindE h
              refine own_in hx_35 (by first | rfl | exact (sortI_len _).symm | (simp only [List.length_append, List.length_cons, List.length_nil, List.length_set, List.length_replicate] <;> omega)) ?_
              (try simp (implicitDefEqProofs := false) (decide := true) only [go_sem, Nat.reduceAdd, Nat.reduceMul, Nat.reduceSub, Int.reduceToNat, encFlowMoveV_set0])
              refine AElem.of (f := intC) (l := o1_28) (n := (mget (FlowMove.mk (0 : Int) false) o5_4 n_27).edge) hx_35 ?_
              (try simp (implicitDefEqProofs := false) (decide := true) only [go_sem, Nat.reduceAdd, Nat.reduceMul, Nat.reduceSub, Int.reduceToNat, encFlowMoveV_set0])
              refine own_in hx_35 (by first | rfl | exact (sortI_len _).symm | (simp only [List.length_append, List.length_cons, List.length_nil, List.length_set, List.length_replicate] <;> omega)) ?_
              (try simp (implicitDefEqProofs := false) (decide := true) only [go_sem, Nat.reduceAdd, Nat.reduceMul, Nat.reduceSub, Int.reduceToNat, encFlowMoveV_set0])
              refine AElem.of (f := intC) (l := o1_28) (n := (mget (FlowMove.mk (0 : Int) false) o5_4 n_27).edge) hx_35 ?_
              have hs36 := idxL_set (y := (IntKind.i64.wrap (x_35 - o10_22))) hx_35
              (try simp (implicitDefEqProofs := false) (decide := true) only [go_sem, Nat.reduceAdd, Nat.reduceMul, Nat.reduceSub, Int.reduceToNat, encFlowMoveV_set0])
              refine hK _ _ _ (by kernel_rfl) ?_; clear hK K
              (try simp (implicitDefEqProofs := false) (decide := true) only [go_sem, Nat.reduceAdd, Nat.reduceMul, Nat.reduceSub, Int.reduceToNat, Try.results34, encFlowMoveV_set0])
              refine hK _ _ ?_; clear hK K
              refine qthen_normal ?_
              refine AWP.seq ?_
              refine AWP.region rfl ?_; intro K hK
              (try simp (implicitDefEqProofs := false) (decide := true) only [go_sem, Nat.reduceAdd, Nat.reduceMul, Nat.reduceSub, Int.reduceToNat, encFlowMoveV_set0])
              refine hK _ _ ?_; clear hK K
              refine qthen_normal ?_
              refine AWP.cond (acond_split (fun hc => ?_) (fun hc => ?_))
              · replace h := bif_t h hc
                refine AWP.region rfl ?_; intro K hK
                (try simp (implicitDefEqProofs := false) (decide := true) only [go_sem, Nat.reduceAdd, Nat.reduceMul, Nat.reduceSub, Int.reduceToNat, encFlowMoveV_set0])
                obtain ⟨x_37, hx_37, h⟩ := bindE h
                refine AIdx.of (f := encApiEdge) (l := l) hx_37 ?_
                (try simp (implicitDefEqProofs := false) (decide := true) only [go_sem, Nat.reduceAdd, Nat.reduceMul, Nat.reduceSub, Int.reduceToNat, encFlowMoveV_set0])
                refine hK _ _ ?_; clear hK K
                refine qblock_normal ?_
                refine qthen_normal ?_
                obtain rfl := some_eq h
                refine ⟨(m29, (x_37.From, (o1_28.set (mget (FlowMove.mk (0 : Int) false) o5_4 n_27).edge.toNat (IntKind.i64.wrap (x_35 - o10_22)))), ver29), cont_next hJ29, by dsimp only; omega, ?_, ?_⟩
                · (simp (implicitDefEqProofs := false) (decide := true) only [go_sem, Nat.reduceAdd, Nat.reduceMul, Nat.reduceSub, Int.reduceToNat, mpE_nil, Int.natCast_zero, List.replicate_zero, List.length_take, List.length_drop, AVal.own.injEq, reduceCtorEq, Int.reduceAdd, encFlowMoveV_set0] <;> omega)
                · (simp (implicitDefEqProofs := false) (decide := true) only [go_sem, Nat.reduceAdd, Nat.reduceMul, Nat.reduceSub, Int.reduceToNat, mpE_nil, Int.natCast_zero, List.replicate_zero, List.length_take, List.length_drop, AVal.own.injEq, reduceCtorEq, Int.reduceAdd, encFlowMoveV_set0] <;> omega)
              · replace h := bif_f h hc
                refine AWP.region rfl ?_; intro K hK
                (try simp (implicitDefEqProofs := false) (decide := true) only [go_sem, Nat.reduceAdd, Nat.reduceMul, Nat.reduceSub, Int.reduceToNat, encFlowMoveV_set0])
                obtain ⟨x_38, hx_38, h⟩ := bindE h
                refine AIdx.of (f := encApiEdge) (l := l) hx_38 ?_
                (try simp (implicitDefEqProofs := false) (decide := true) only [go_sem, Nat.reduceAdd, Nat.reduceMul, Nat.reduceSub, Int.reduceToNat, encFlowMoveV_set0])
                refine hK _ _ ?_; clear hK K
                refine qblock_normal ?_
                refine qthen_normal ?_
                obtain rfl := some_eq h
                refine ⟨(m29, (x_38.To, (o1_28.set (mget (FlowMove.mk (0 : Int) false) o5_4 n_27).edge.toNat (IntKind.i64.wrap (x_35 - o10_22)))), ver29), cont_next hJ29, by dsimp only; omega, ?_, ?_⟩
                · (simp (implicitDefEqProofs := false) (decide := true) only [go_sem, Nat.reduceAdd, Nat.reduceMul, Nat.reduceSub, Int.reduceToNat, mpE_nil, Int.natCast_zero, List.replicate_zero, List.length_take, List.length_drop, AVal.own.injEq, reduceCtorEq, Int.reduceAdd, encFlowMoveV_set0] <;> omega)
                · (simp (implicitDefEqProofs := false) (decide := true) only [go_sem, Nat.reduceAdd, Nat.reduceMul, Nat.reduceSub, Int.reduceToNat, mpE_nil, Int.natCast_zero, List.replicate_zero, List.length_take, List.length_drop, AVal.own.injEq, reduceCtorEq, Int.reduceAdd, encFlowMoveV_set0] <;> omega)
          · replace h := bif_f h hc
            refine AWP.exit ?_
            refine qthen_exit ?_
            refine qthen_exit ?_
            obtain rfl := some_eq h
            obtain rfl := cont_ret hJ29
            replace h := on_ret hO29
            refine qblock_same ?_
            (try simp (implicitDefEqProofs := false) (decide := true) only [go_sem, Nat.reduceAdd, Nat.reduceMul, Nat.reduceSub, Int.reduceToNat, Try.results32, encFlowMoveV_set0])
            refine hK _ _ ?_; clear hK K
            refine qblock_normal ?_
            refine qthen_normal ?_
            obtain rfl := some_eq h
            refine ⟨(m2, o1_28, ver29), cont_next hJ2, by dsimp only; omega, ?_, ?_⟩
            · (simp (implicitDefEqProofs := false) (decide := true) only [go_sem, Nat.reduceAdd, Nat.reduceMul, Nat.reduceSub, Int.reduceToNat, mpE_nil, Int.natCast_zero, List.replicate_zero, List.length_take, List.length_drop, AVal.own.injEq, reduceCtorEq, Int.reduceAdd, encFlowMoveV_set0] <;> omega)
            · (simp (implicitDefEqProofs := false) (decide := true) only [go_sem, Nat.reduceAdd, Nat.reduceMul, Nat.reduceSub, Int.reduceToNat, mpE_nil, Int.natCast_zero, List.replicate_zero, List.length_take, List.length_drop, AVal.own.injEq, reduceCtorEq, Int.reduceAdd, encFlowMoveV_set0] <;> omega)
theorem flow_Find_spec (l : List ApiEdge) (s_ : Int) (t : Int) {r : (List Int)} (h : flow_Find l s_ t = some r) : PureFn Try.prog 19 [.sl 4 (l.map encApiEdge), .int .i64 s_, .int .i64 t] (· = .sl 1 (r.map intC)) := (flow_Find_fresh l s_ t h).pure

def flow_Value_b1 (l : List ApiEdge) (f_ : List Int) (s_ : Int) (k1 : Nat) (_x : Unit) (sv : Int) : Option (Out (Int) (Int)) :=
  (idxL l ((k1 : Nat) : Int)).bind fun x_3 => (bif (decide (x_3.From = s_)) then (idxL f_ ((k1 : Nat) : Int)).bind fun x_4 => (bif (decide (x_3.To = s_)) then some (Out.next (IntKind.i64.wrap ((IntKind.i64.wrap (sv + x_4)) - x_4))) else some (Out.next (IntKind.i64.wrap (sv + x_4)))) else (bif (decide (x_3.To = s_)) then (idxL f_ ((k1 : Nat) : Int)).bind fun x_5 => some (Out.next (IntKind.i64.wrap (sv - x_5))) else some (Out.next sv)))

def flow_Value (l : List ApiEdge) (f_ : List Int) (s_ : Int) : Option (Int) :=
  (forN (flow_Value_b1 l f_ s_) (if ((f_.length : Nat) : Int) < ((l.length : Nat) : Int) then ((f_.length : Nat) : Int) else ((l.length : Nat) : Int)).toNat (0 : Int)).bind fun o1 => o1.on fun s1 => some s1

theorem flow_Value_spec (l : List ApiEdge) (f_ : List Int) (s_ : Int) {r : Int} (h : flow_Value l f_ s_ = some r) : PureFn Try.prog 15 [.sl 4 (l.map encApiEdge), .sl 1 (f_.map intC), .int .i64 s_] (· = .int .i64 r) := by
  refine PureFn.nle (PureFn.intro Try.func15 rfl rfl (by show _ ≤ 45; simp) ?_)
  unfold flow_Value at h
  (try simp (implicitDefEqProofs := false) (decide := true) only [go_sem, Nat.reduceAdd, Nat.reduceMul, Nat.reduceSub, Int.reduceToNat])
  refine AWP.seq ?_
  refine AWP.region rfl ?_; intro K hK
  (try simp (implicitDefEqProofs := false) (decide := true) only [go_sem, Nat.reduceAdd, Nat.reduceMul, Nat.reduceSub, Int.reduceToNat])
  refine hK _ _ ?_; clear hK K
  refine qthen_normal ?_
  refine AWP.seq ?_
  refine AWP.region rfl ?_; intro K hK
  (try simp (implicitDefEqProofs := false) (decide := true) only [go_sem, Nat.reduceAdd, Nat.reduceMul, Nat.reduceSub, Int.reduceToNat])
  refine hK _ _ ?_; clear hK K
  refine qthen_normal ?_
  refine AWP.seq ?_
  refine AWP.seq ?_
  refine AWP.region rfl ?_; intro K hK
  (try simp (implicitDefEqProofs := false) (decide := true) only [go_sem, Nat.reduceAdd, Nat.reduceMul, Nat.reduceSub, Int.reduceToNat])
  intro hm
  intro hm
  refine hK _ _ ?_; clear hK K
  refine qthen_normal ?_
  refine AWP.block ?_
  obtain ⟨o1, hJ1, hO1⟩ := bindE h
  clear h
  obtain ⟨hn1, hJ1⟩ := forN_in hJ1
  refine AWP.loopW (ι := Nat × (Int) × (Unit)) (fun zz => [(0, .sl 4 (l.map encApiEdge)), (1, .sl 1 (f_.map intC)), (2, .int .i64 s_), (7, .int .i64 zz.2.1), (13, .int .i64 (if ((f_.length : Nat) : Int) < ((l.length : Nat) : Int) then ((f_.length : Nat) : Int) else ((l.length : Nat) : Int))), (14, .int .i64 ((zz.1 : Nat) : Int))]) (fun zz => []) (fun zz => zz.1 ≤ (if ((f_.length : Nat) : Int) < ((l.length : Nat) : Int) then ((f_.length : Nat) : Int) else ((l.length : Nat) : Int)).toNat ∧ forIx (flow_Value_b1 l f_ s_) zz.1 ((List.replicate (if ((f_.length : Nat) : Int) < ((l.length : Nat) : Int) then ((f_.length : Nat) : Int) else ((l.length : Nat) : Int)).toNat ()).drop zz.1) zz.2.1 = some o1) (fun zz => (if ((f_.length : Nat) : Int) < ((l.length : Nat) : Int) then ((f_.length : Nat) : Int) else ((l.length : Nat) : Int)).toNat - zz.1) (0, (0 : Int), ()) ⟨Nat.zero_le _, hJ1⟩ (by (simp (implicitDefEqProofs := false) (decide := true) only [go_sem, Nat.reduceAdd, Nat.reduceMul, Nat.reduceSub, Int.reduceToNat, mpE_nil, Int.natCast_zero, List.replicate_zero, List.length_take, List.length_drop, AVal.own.injEq, reduceCtorEq, Int.reduceAdd] <;> omega)) (by (simp (implicitDefEqProofs := false) (decide := true) only [go_sem, Nat.reduceAdd, Nat.reduceMul, Nat.reduceSub, Int.reduceToNat, mpE_nil, Int.natCast_zero, List.replicate_zero, List.length_take, List.length_drop, AVal.own.injEq, reduceCtorEq, Int.reduceAdd] <;> omega)) (fun x => ⟨rfl, rfl, rfl⟩) ?_
  clear hJ1
  rintro ⟨k1, n_1, ⟨⟩⟩ ⟨hk1, hJ1⟩
  dsimp only at hk1 hJ1 ⊢
  refine AWP.seq ?_
  refine AWP.region rfl ?_; intro K hK
  (try simp (implicitDefEqProofs := false) (decide := true) only [go_sem, Nat.reduceAdd, Nat.reduceMul, Nat.reduceSub, Int.reduceToNat])
  refine hK _ _ ?_; clear hK K
  refine qthen_normal ?_
  refine AWP.seq ?_
  refine AWP.cond (acond_split (fun hc => ?_) (fun hc => ?_))
  · have hlt1 : k1 < (if ((f_.length : Nat) : Int) < ((l.length : Nat) : Int) then ((f_.length : Nat) : Int) else ((l.length : Nat) : Int)).toNat := by have := of_decide_eq_true hc; omega
    obtain ⟨_, b1, _, h, hJ1⟩ := for_cons hJ1 (by rw [List.length_replicate]; exact hlt1)
    have hw1 : IntKind.i64.wrap (((k1 : Nat) : Int) + 1) = (((k1 : Nat) : Int) + (1 : Int)) := by rw [wrap_i64] <;> omega
    unfold flow_Value_b1 at h; try dsimp only at h
    refine AWP.skip ?_
    refine qthen_normal ?_
    refine AWP.seq ?_
    refine AWP.block ?_
    refine AWP.seq ?_
    refine AWP.region rfl ?_; intro K hK
    (try simp (implicitDefEqProofs := false) (decide := true) only [go_sem, Nat.reduceAdd, Nat.reduceMul, Nat.reduceSub, Int.reduceToNat])
    refine hK _ _ ?_; clear hK K
    refine qthen_normal ?_
    refine AWP.seq ?_
    refine AWP.seq ?_
    refine AWP.region rfl ?_; intro K hK
    (try simp (implicitDefEqProofs := false) (decide := true) only [go_sem, Nat.reduceAdd, Nat.reduceMul, Nat.reduceSub, Int.reduceToNat])
    obtain ⟨x_3, hx_3, h⟩ := bindE h
    refine AIdx.of (f := encApiEdge) (l := l) hx_3 ?_
    (try simp (implicitDefEqProofs := false) (decide := true) only [go_sem, Nat.reduceAdd, Nat.reduceMul, Nat.reduceSub, Int.reduceToNat])
    refine hK _ _ ?_; clear hK K
    refine qthen_normal ?_
    refine AWP.cond (acond_split (fun hc => ?_) (fun hc => ?_))
    · replace h := bif_t h hc
      refine AWP.region rfl ?_; intro K hK
      (try simp (implicitDefEqProofs := false) (decide := true) only [go_sem, Nat.reduceAdd, Nat.reduceMul, Nat.reduceSub, Int.reduceToNat])
      obtain ⟨x_4, hx_4, h⟩ := bindE h
      refine AIdx.of (f := intC) (l := f_) hx_4 ?_
      (try simp (implicitDefEqProofs := false) (decide := true) only [go_sem, Nat.reduceAdd, Nat.reduceMul, Nat.reduceSub, Int.reduceToNat])
      refine hK _ _ ?_; clear hK K
      refine qthen_normal ?_
      refine AWP.seq ?_
      refine AWP.region rfl ?_; intro K hK
      (try simp (implicitDefEqProofs := false) (decide := true) only [go_sem, Nat.reduceAdd, Nat.reduceMul, Nat.reduceSub, Int.reduceToNat])
      refine AIdx.of (f := encApiEdge) (l := l) hx_3 ?_
      (try simp (implicitDefEqProofs := false) (decide := true) only [go_sem, Nat.reduceAdd, Nat.reduceMul, Nat.reduceSub, Int.reduceToNat])
      refine hK _ _ ?_; clear hK K
      refine qthen_normal ?_
      refine AWP.cond (acond_split (fun hc => ?_) (fun hc => ?_))
      · replace h := bif_t h hc
        refine AWP.region rfl ?_; intro K hK
        (try simp (implicitDefEqProofs := false) (decide := true) only [go_sem, Nat.reduceAdd, Nat.reduceMul, Nat.reduceSub, Int.reduceToNat])
        refine AIdx.of (f := intC) (l := f_) hx_4 ?_
        (try simp (implicitDefEqProofs := false) (decide := true) only [go_sem, Nat.reduceAdd, Nat.reduceMul, Nat.reduceSub, Int.reduceToNat])
        refine hK _ _ ?_; clear hK K
        refine qblock_normal ?_
        refine qthen_normal ?_
        refine AWP.region rfl ?_; intro K hK
        (try simp (implicitDefEqProofs := false) (decide := true) only [go_sem, Nat.reduceAdd, Nat.reduceMul, Nat.reduceSub, Int.reduceToNat])
        refine hK _ _ ?_; clear hK K
        refine qthen_normal ?_
        obtain rfl := some_eq h
        refine ⟨(k1 + 1, (IntKind.i64.wrap ((IntKind.i64.wrap (n_1 + x_4)) - x_4)), ()), ⟨by dsimp only; omega, cont_next hJ1⟩, by dsimp only; omega, ?_, ?_⟩
        · (simp (implicitDefEqProofs := false) (decide := true) only [go_sem, Nat.reduceAdd, Nat.reduceMul, Nat.reduceSub, Int.reduceToNat, mpE_nil, Int.natCast_zero, List.replicate_zero, List.length_take, List.length_drop, AVal.own.injEq, reduceCtorEq, Int.reduceAdd, hw1] <;> omega)
        · (simp (implicitDefEqProofs := false) (decide := true) only [go_sem, Nat.reduceAdd, Nat.reduceMul, Nat.reduceSub, Int.reduceToNat, mpE_nil, Int.natCast_zero, List.replicate_zero, List.length_take, List.length_drop, AVal.own.injEq, reduceCtorEq, Int.reduceAdd, hw1] <;> omega)
      · replace h := bif_f h hc
        refine AWP.skip ?_
        refine qblock_normal ?_
        refine qthen_normal ?_
        refine AWP.region rfl ?_; intro K hK
        (try simp (implicitDefEqProofs := false) (decide := true) only [go_sem, Nat.reduceAdd, Nat.reduceMul, Nat.reduceSub, Int.reduceToNat])
        refine hK _ _ ?_; clear hK K
        refine qthen_normal ?_
        obtain rfl := some_eq h
        refine ⟨(k1 + 1, (IntKind.i64.wrap (n_1 + x_4)), ()), ⟨by dsimp only; omega, cont_next hJ1⟩, by dsimp only; omega, ?_, ?_⟩
        · (simp (implicitDefEqProofs := false) (decide := true) only [go_sem, Nat.reduceAdd, Nat.reduceMul, Nat.reduceSub, Int.reduceToNat, mpE_nil, Int.natCast_zero, List.replicate_zero, List.length_take, List.length_drop, AVal.own.injEq, reduceCtorEq, Int.reduceAdd, hw1] <;> omega)
        · (simp (implicitDefEqProofs := false) (decide := true) only [go_sem, Nat.reduceAdd, Nat.reduceMul, Nat.reduceSub, Int.reduceToNat, mpE_nil, Int.natCast_zero, List.replicate_zero, List.length_take, List.length_drop, AVal.own.injEq, reduceCtorEq, Int.reduceAdd, hw1] <;> omega)
    · replace h := bif_f h hc
      refine AWP.skip ?_
      refine qthen_normal ?_
      refine AWP.seq ?_
      refine AWP.region rfl ?_; intro K hK
      (try simp (implicitDefEqProofs := false) (decide := true) only [go_sem, Nat.reduceAdd, Nat.reduceMul, Nat.reduceSub, Int.reduceToNat])
      refine AIdx.of (f := encApiEdge) (l := l) hx_3 ?_
      (try simp (implicitDefEqProofs := false) (decide := true) only [go_sem, Nat.reduceAdd, Nat.reduceMul, Nat.reduceSub, Int.reduceToNat])
      refine hK _ _ ?_; clear hK K
      refine qthen_normal ?_
      refine AWP.cond (acond_split (fun hc => ?_) (fun hc => ?_))
      · replace h := bif_t h hc
        refine AWP.region rfl ?_; intro K hK
        (try simp (implicitDefEqProofs := false) (decide := true) only [go_sem, Nat.reduceAdd, Nat.reduceMul, Nat.reduceSub, Int.reduceToNat])
        obtain ⟨x_5, hx_5, h⟩ := bindE h
        refine AIdx.of (f := intC) (l := f_) hx_5 ?_
        (try simp (implicitDefEqProofs := false) (decide := true) only [go_sem, Nat.reduceAdd, Nat.reduceMul, Nat.reduceSub, Int.reduceToNat])
        refine hK _ _ ?_; clear hK K
        refine qblock_normal ?_
        refine qthen_normal ?_
        refine AWP.region rfl ?_; intro K hK
        (try simp (implicitDefEqProofs := false) (decide := true) only [go_sem, Nat.reduceAdd, Nat.reduceMul, Nat.reduceSub, Int.reduceToNat])
        refine hK _ _ ?_; clear hK K
        refine qthen_normal ?_
        obtain rfl := some_eq h
        refine ⟨(k1 + 1, (IntKind.i64.wrap (n_1 - x_5)), ()), ⟨by dsimp only; omega, cont_next hJ1⟩, by dsimp only; omega, ?_, ?_⟩
        · (simp (implicitDefEqProofs := false) (decide := true) only [go_sem, Nat.reduceAdd, Nat.reduceMul, Nat.reduceSub, Int.reduceToNat, mpE_nil, Int.natCast_zero, List.replicate_zero, List.length_take, List.length_drop, AVal.own.injEq, reduceCtorEq, Int.reduceAdd, hw1] <;> omega)
        · (simp (implicitDefEqProofs := false) (decide := true) only [go_sem, Nat.reduceAdd, Nat.reduceMul, Nat.reduceSub, Int.reduceToNat, mpE_nil, Int.natCast_zero, List.replicate_zero, List.length_take, List.length_drop, AVal.own.injEq, reduceCtorEq, Int.reduceAdd, hw1] <;> omega)
      · replace h := bif_f h hc
        refine AWP.skip ?_
        refine qblock_normal ?_
        refine qthen_normal ?_
        refine AWP.region rfl ?_; intro K hK
        (try simp (implicitDefEqProofs := false) (decide := true) only [go_sem, Nat.reduceAdd, Nat.reduceMul, Nat.reduceSub, Int.reduceToNat])
        refine hK _ _ ?_; clear hK K
        refine qthen_normal ?_
        obtain rfl := some_eq h
        refine ⟨(k1 + 1, n_1, ()), ⟨by dsimp only; omega, cont_next hJ1⟩, by dsimp only; omega, ?_, ?_⟩
        · (simp (implicitDefEqProofs := false) (decide := true) only [go_sem, Nat.reduceAdd, Nat.reduceMul, Nat.reduceSub, Int.reduceToNat, mpE_nil, Int.natCast_zero, List.replicate_zero, List.length_take, List.length_drop, AVal.own.injEq, reduceCtorEq, Int.reduceAdd, hw1] <;> omega)
        · (simp (implicitDefEqProofs := false) (decide := true) only [go_sem, Nat.reduceAdd, Nat.reduceMul, Nat.reduceSub, Int.reduceToNat, mpE_nil, Int.natCast_zero, List.replicate_zero, List.length_take, List.length_drop, AVal.own.injEq, reduceCtorEq, Int.reduceAdd, hw1] <;> omega)
  · obtain rfl := for_nil hJ1 (fun hl => by rw [List.length_replicate] at hl; have := of_decide_eq_false hc; omega)
    have h := on_next hO1; try dsimp only at h
    have hkl : (if ((f_.length : Nat) : Int) < ((l.length : Nat) : Int) then ((f_.length : Nat) : Int) else ((l.length : Nat) : Int)).toNat = k1 := by have := of_decide_eq_false hc; omega
    subst hkl
    refine AWP.exit ?_
    refine qthen_exit ?_
    refine qthen_exit ?_
    refine qblock_same ?_
    refine qthen_normal ?_
    refine AWP.seq ?_
    refine AWP.region rfl ?_; intro K hK
    (try simp (implicitDefEqProofs := false) (decide := true) only [go_sem, Nat.reduceAdd, Nat.reduceMul, Nat.reduceSub, Int.reduceToNat])
    refine hK _ _ ?_; clear hK K
    refine qthen_normal ?_
    refine AWP.ret ?_
    obtain rfl := some_eq h
    simp (implicitDefEqProofs := false) (decide := true) only [go_sem, Nat.reduceAdd, Nat.reduceMul, Nat.reduceSub, Int.reduceToNat, mpE_nil, Int.natCast_zero, List.replicate_zero, List.length_take, List.length_drop, AVal.own.injEq, reduceCtorEq, Int.reduceAdd, nle2, nle1, nle0, nleA, nleL, Try.results15]

def flow_Max (l : List ApiEdge) (s_ : Int) (t : Int) : Option (Int) :=
  (flow_Find l s_ t).bind fun y1 => (flow_Value l y1 s_).bind fun y2 => some y2

theorem flow_Max_spec (l : List ApiEdge) (s_ : Int) (t : Int) {r : Int} (h : flow_Max l s_ t = some r) : PureFn Try.prog 17 [.sl 4 (l.map encApiEdge), .int .i64 s_, .int .i64 t] (· = .int .i64 r) := by
  refine PureFn.nle (PureFn.intro Try.func17 rfl rfl (by show _ ≤ 14; simp) ?_)
  unfold flow_Max at h
  (try simp (implicitDefEqProofs := false) (decide := true) only [go_sem, Nat.reduceAdd, Nat.reduceMul, Nat.reduceSub, Int.reduceToNat])
  refine AWP.seq ?_
  refine AWP.region rfl ?_; intro K hK
  (try simp (implicitDefEqProofs := false) (decide := true) only [go_sem, Nat.reduceAdd, Nat.reduceMul, Nat.reduceSub, Int.reduceToNat])
  refine hK _ _ ?_; clear hK K
  refine qthen_normal ?_
  refine AWP.seq ?_
  refine AWP.region rfl ?_; intro K hK
  (try simp (implicitDefEqProofs := false) (decide := true) only [go_sem, Nat.reduceAdd, Nat.reduceMul, Nat.reduceSub, Int.reduceToNat])
  obtain ⟨y1, hy1, h⟩ := bindE h
  refine ACall.pure Try.call19 (flow_Find_spec l s_ t hy1) rfl fun _ hr => ?_
  subst hr
  (try simp (implicitDefEqProofs := false) (decide := true) only [go_sem, Nat.reduceAdd, Nat.reduceMul, Nat.reduceSub, Int.reduceToNat])
  obtain ⟨y2, hy2, h⟩ := bindE h
  refine ACall.pure Try.call15 (flow_Value_spec l y1 s_ hy2) rfl fun _ hr => ?_
  subst hr
  (try simp (implicitDefEqProofs := false) (decide := true) only [go_sem, Nat.reduceAdd, Nat.reduceMul, Nat.reduceSub, Int.reduceToNat])
  refine hK _ _ ?_; clear hK K
  refine qthen_normal ?_
  refine AWP.ret ?_
  obtain rfl := some_eq h
  simp (implicitDefEqProofs := false) (decide := true) only [go_sem, Nat.reduceAdd, Nat.reduceMul, Nat.reduceSub, Int.reduceToNat, mpE_nil, Int.natCast_zero, List.replicate_zero, List.length_take, List.length_drop, AVal.own.injEq, reduceCtorEq, Int.reduceAdd, nle2, nle1, nle0, nleA, nleL, Try.results17]

def flow_Valid_b2 (s_ : Int) (t : Int) (p2 : Int × Int) (sv : Unit) : Option (Out (Unit) (Bool)) :=
  (bif (decide (p2.1 ≠ s_)) then (bif (decide (p2.1 ≠ t)) then (bif (decide (p2.2 ≠ (0 : Int))) then some (Out.ret false) else some (Out.next ())) else some (Out.next ())) else some (Out.next ()))

def flow_Valid_j1 (s_ : Int) (t : Int) (excess1 : List (Int × Int)) : Option (Bool) :=
  (allPerm excess1 fun ord => forE (flow_Valid_b2 s_ t) ord ()).bind fun o2 => o2.on fun s2 => some true

def flow_Valid_b3 (f_ : List Int) (k4 : Nat) (x_6 : ApiEdge) (sv : (List (Int × Int))) : Option (Out ((List (Int × Int))) (Bool)) :=
  (idxL f_ ((k4 : Nat) : Int)).bind fun x_7 => (bif (decide (x_7 < (0 : Int))) then some (Out.ret false) else (bif (decide (x_6.Cost < x_7)) then some (Out.ret false) else some (Out.next (mset (mset sv x_6.To (IntKind.i64.wrap ((mget (0 : Int) sv x_6.To) + x_7))) x_6.From (IntKind.i64.wrap ((mget (0 : Int) (mset sv x_6.To (IntKind.i64.wrap ((mget (0 : Int) sv x_6.To) + x_7))) x_6.From) - x_7))))))

def flow_Valid (l : List ApiEdge) (f_ : List Int) (s_ : Int) (t : Int) : Option (Bool) :=
  (bif (decide (((f_.length : Nat) : Int) ≠ ((l.length : Nat) : Int))) then some false else (forIx (flow_Valid_b3 f_) 0 l []).bind fun o4 => o4.on fun s4 => flow_Valid_j1 s_ t s4)

theorem flow_Valid_spec (l : List ApiEdge) (f_ : List Int) (s_ : Int) (t : Int) {r : Bool} (h : flow_Valid l f_ s_ t = some r) : PureFn Try.prog 14 [.sl 4 (l.map encApiEdge), .sl 1 (f_.map intC), .int .i64 s_, .int .i64 t] (· = .bool r) := by
  refine PureFn.nle (PureFn.intro Try.func14 rfl rfl (by show _ ≤ 79; simp) ?_)
  unfold flow_Valid at h
  (try simp (implicitDefEqProofs := false) (decide := true) only [go_sem, Nat.reduceAdd, Nat.reduceMul, Nat.reduceSub, Int.reduceToNat])
  refine AWP.seq ?_
  refine AWP.region rfl ?_; intro K hK
  (try simp (implicitDefEqProofs := false) (decide := true) only [go_sem, Nat.reduceAdd, Nat.reduceMul, Nat.reduceSub, Int.reduceToNat])
  refine hK _ _ ?_; clear hK K
  refine qthen_normal ?_
  refine AWP.seq ?_
  refine AWP.seq ?_
  refine AWP.region rfl ?_; intro K hK
  (try simp (implicitDefEqProofs := false) (decide := true) only [go_sem, Nat.reduceAdd, Nat.reduceMul, Nat.reduceSub, Int.reduceToNat])
  intro hm
  intro hm
  refine hK _ _ ?_; clear hK K
  refine qthen_normal ?_
  refine AWP.cond (acond_split (fun hc => ?_) (fun hc => ?_))
  · replace h := bif_t h hc
    refine AWP.seq ?_
    refine AWP.region rfl ?_; intro K hK
    (try simp (implicitDefEqProofs := false) (decide := true) only [go_sem, Nat.reduceAdd, Nat.reduceMul, Nat.reduceSub, Int.reduceToNat])
    refine hK _ _ ?_; clear hK K
    refine qthen_normal ?_
    refine AWP.ret ?_
    refine qthen_ret ?_
    obtain rfl := some_eq h
    simp (implicitDefEqProofs := false) (decide := true) only [go_sem, Nat.reduceAdd, Nat.reduceMul, Nat.reduceSub, Int.reduceToNat, mpE_nil, Int.natCast_zero, List.replicate_zero, List.length_take, List.length_drop, AVal.own.injEq, reduceCtorEq, Int.reduceAdd, nle2, nle1, nle0, nleA, nleL, Try.results14]
  · replace h := bif_f h hc
    refine AWP.skip ?_
    refine qthen_normal ?_
    refine AWP.seq ?_
    refine AWP.region rfl ?_; intro K hK
    (try simp (implicitDefEqProofs := false) (decide := true) only [go_sem, Nat.reduceAdd, Nat.reduceMul, Nat.reduceSub, Int.reduceToNat])
    refine hK _ _ ?_; clear hK K
    refine qthen_normal ?_
    refine AWP.seqJoin (ι := ((List (Int × Int))) × (Unit)) (fun zz => [(2, .int .i64 s_), (3, .int .i64 t), (9, .map 0)]) (fun zz => [.mp (mpE intV zz.1)]) (fun zz => flow_Valid_j1 s_ t zz.1 = some r) (fun zz => ⟨rfl, rfl, rfl⟩) ?_ ?_
    · refine AWP.seq ?_
      refine AWP.region rfl ?_; intro K hK
      (try simp (implicitDefEqProofs := false) (decide := true) only [go_sem, Nat.reduceAdd, Nat.reduceMul, Nat.reduceSub, Int.reduceToNat])
      intro hm
      refine hK _ _ ?_; clear hK K
      refine qthen_normal ?_
      refine AWP.block ?_
      obtain ⟨o4, hJ4, hO4⟩ := bindE h
      clear h
      refine AWP.loopW (ι := Nat × ((List (Int × Int))) × (Unit)) (fun zz => [(1, .sl 1 (f_.map intC)), (2, .int .i64 s_), (3, .int .i64 t), (9, .map 0), (20, .sl 4 (l.map encApiEdge)), (21, .int .i64 ((l.length : Nat) : Int)), (22, .int .i64 ((zz.1 : Nat) : Int))]) (fun zz => [.mp (mpE intV zz.2.1)]) (fun zz => zz.1 ≤ l.length ∧ forIx (flow_Valid_b3 f_) zz.1 ((l).drop zz.1) zz.2.1 = some o4) (fun zz => l.length - zz.1) (0, [], ()) ⟨Nat.zero_le _, hJ4⟩ (by (simp (implicitDefEqProofs := false) (decide := true) only [go_sem, Nat.reduceAdd, Nat.reduceMul, Nat.reduceSub, Int.reduceToNat, mpE_nil, Int.natCast_zero, List.replicate_zero, List.length_take, List.length_drop, AVal.own.injEq, reduceCtorEq, Int.reduceAdd] <;> omega)) (by (simp (implicitDefEqProofs := false) (decide := true) only [go_sem, Nat.reduceAdd, Nat.reduceMul, Nat.reduceSub, Int.reduceToNat, mpE_nil, Int.natCast_zero, List.replicate_zero, List.length_take, List.length_drop, AVal.own.injEq, reduceCtorEq, Int.reduceAdd] <;> omega)) (fun x => ⟨rfl, rfl, rfl⟩) ?_
      clear hJ4
      rintro ⟨k4, excess4, ⟨⟩⟩ ⟨hk4, hJ4⟩
      dsimp only at hk4 hJ4 ⊢
      refine AWP.seq ?_
      refine AWP.region rfl ?_; intro K hK
      (try simp (implicitDefEqProofs := false) (decide := true) only [go_sem, Nat.reduceAdd, Nat.reduceMul, Nat.reduceSub, Int.reduceToNat])
      refine hK _ _ ?_; clear hK K
      refine qthen_normal ?_
      refine AWP.seq ?_
      refine AWP.cond (acond_split (fun hc => ?_) (fun hc => ?_))
      · have hlt4 : k4 < l.length := by have := of_decide_eq_true hc; omega
        obtain ⟨x_6, b4, hx4_, h, hJ4⟩ := for_cons hJ4 hlt4
        have hx4 := idxL_nat hx4_
        have hw4 : IntKind.i64.wrap (((k4 : Nat) : Int) + 1) = (((k4 : Nat) : Int) + (1 : Int)) := by rw [wrap_i64] <;> omega
        unfold flow_Valid_b3 at h; try dsimp only at h
        refine AWP.skip ?_
        refine qthen_normal ?_
        refine AWP.seq ?_
        refine AWP.block ?_
        refine AWP.seq ?_
        refine AWP.region rfl ?_; intro K hK
        (try simp (implicitDefEqProofs := false) (decide := true) only [go_sem, Nat.reduceAdd, Nat.reduceMul, Nat.reduceSub, Int.reduceToNat])
        refine AIdx.of (f := encApiEdge) (l := l) hx4 ?_
        (try simp (implicitDefEqProofs := false) (decide := true) only [go_sem, Nat.reduceAdd, Nat.reduceMul, Nat.reduceSub, Int.reduceToNat])
        refine hK _ _ ?_; clear hK K
        refine qthen_normal ?_
        refine AWP.seq ?_
        refine AWP.seq ?_
        refine AWP.draw Try.mixed (by kernel_rfl) ?_; intro K hK
        (try simp (implicitDefEqProofs := false) (decide := true) only [go_sem, Nat.reduceAdd, Nat.reduceMul, Nat.reduceSub, Int.reduceToNat])
        obtain ⟨x_7, hx_7, h⟩ := bindE h
        refine AIdx.of (f := intC) (l := f_) hx_7 ?_
        (try simp (implicitDefEqProofs := false) (decide := true) only [go_sem, Nat.reduceAdd, Nat.reduceMul, Nat.reduceSub, Int.reduceToNat])
        refine aguardK_split (fun hc => ?_) (fun hc => ?_)
        · replace h := bif_f h hc
          (try simp (implicitDefEqProofs := false) (decide := true) only [go_sem, Nat.reduceAdd, Nat.reduceMul, Nat.reduceSub, Int.reduceToNat, hc])
          refine AIdx.of (f := intC) (l := f_) hx_7 ?_
          (try simp (implicitDefEqProofs := false) (decide := true) only [go_sem, Nat.reduceAdd, Nat.reduceMul, Nat.reduceSub, Int.reduceToNat])
          refine hK _ _ _ (by kernel_rfl) ?_; clear hK K
          refine qthen_normal ?_
          refine AWP.cond (acond_split (fun hc => ?_) (fun hc => ?_))
          · replace h := bif_t h hc
            refine AWP.seq ?_
            refine AWP.region rfl ?_; intro K hK
            (try simp (implicitDefEqProofs := false) (decide := true) only [go_sem, Nat.reduceAdd, Nat.reduceMul, Nat.reduceSub, Int.reduceToNat])
            refine hK _ _ ?_; clear hK K
            refine qthen_normal ?_
            refine AWP.ret ?_
            refine qthen_ret ?_
            refine qblock_ret ?_
            refine qthen_ret ?_
            refine qthen_ret ?_
            obtain rfl := some_eq h
            obtain rfl := cont_ret hJ4
            replace h := on_ret hO4
            refine qblock_ret ?_
            refine qthen_ret ?_
            obtain rfl := some_eq h
            simp (implicitDefEqProofs := false) (decide := true) only [go_sem, Nat.reduceAdd, Nat.reduceMul, Nat.reduceSub, Int.reduceToNat, mpE_nil, Int.natCast_zero, List.replicate_zero, List.length_take, List.length_drop, AVal.own.injEq, reduceCtorEq, Int.reduceAdd, nle2, nle1, nle0, nleA, nleL, Try.results14]
          · replace h := bif_f h hc
            refine AWP.skip ?_
            refine qthen_normal ?_
            refine AWP.seq ?_
            refine AWP.draw Try.mixed (by kernel_rfl) ?_; intro K hK
            (try simp (implicitDefEqProofs := false) (decide := true) only [go_sem, Nat.reduceAdd, Nat.reduceMul, Nat.reduceSub, Int.reduceToNat])
            refine ALook.of (f := intV) (m := excess4) (d := (0 : Int)) rfl ?_
            (try simp (implicitDefEqProofs := false) (decide := true) only [go_sem, Nat.reduceAdd, Nat.reduceMul, Nat.reduceSub, Int.reduceToNat])
            refine AIdx.of (f := intC) (l := f_) hx_7 ?_
            (try simp (implicitDefEqProofs := false) (decide := true) only [go_sem, Nat.reduceAdd, Nat.reduceMul, Nat.reduceSub, Int.reduceToNat])
            refine hK _ _ _ (by kernel_rfl) ?_; clear hK K
            refine qthen_normal ?_
            refine AWP.draw Try.mixed (by kernel_rfl) ?_; intro K hK
            (try simp (implicitDefEqProofs := false) (decide := true) only [go_sem, Nat.reduceAdd, Nat.reduceMul, Nat.reduceSub, Int.reduceToNat])
            refine ALook.of (f := intV) (m := (mset excess4 x_6.To (IntKind.i64.wrap ((mget (0 : Int) excess4 x_6.To) + x_7)))) (d := (0 : Int)) rfl ?_
            (try simp (implicitDefEqProofs := false) (decide := true) only [go_sem, Nat.reduceAdd, Nat.reduceMul, Nat.reduceSub, Int.reduceToNat])
            refine AIdx.of (f := intC) (l := f_) hx_7 ?_
            (try simp (implicitDefEqProofs := false) (decide := true) only [go_sem, Nat.reduceAdd, Nat.reduceMul, Nat.reduceSub, Int.reduceToNat])
            refine hK _ _ _ (by kernel_rfl) ?_; clear hK K
            refine qblock_normal ?_
            refine qthen_normal ?_
            refine AWP.region rfl ?_; intro K hK
            (try simp (implicitDefEqProofs := false) (decide := true) only [go_sem, Nat.reduceAdd, Nat.reduceMul, Nat.reduceSub, Int.reduceToNat])
            refine hK _ _ ?_; clear hK K
            refine qthen_normal ?_
            obtain rfl := some_eq h
            refine ⟨(k4 + 1, (mset (mset excess4 x_6.To (IntKind.i64.wrap ((mget (0 : Int) excess4 x_6.To) + x_7))) x_6.From (IntKind.i64.wrap ((mget (0 : Int) (mset excess4 x_6.To (IntKind.i64.wrap ((mget (0 : Int) excess4 x_6.To) + x_7))) x_6.From) - x_7))), ()), ⟨by dsimp only; omega, cont_next hJ4⟩, by dsimp only; omega, ?_, ?_⟩
            · (simp (implicitDefEqProofs := false) (decide := true) only [go_sem, Nat.reduceAdd, Nat.reduceMul, Nat.reduceSub, Int.reduceToNat, mpE_nil, Int.natCast_zero, List.replicate_zero, List.length_take, List.length_drop, AVal.own.injEq, reduceCtorEq, Int.reduceAdd, hw4] <;> omega)
            · (simp (implicitDefEqProofs := false) (decide := true) only [go_sem, Nat.reduceAdd, Nat.reduceMul, Nat.reduceSub, Int.reduceToNat, mpE_nil, Int.natCast_zero, List.replicate_zero, List.length_take, List.length_drop, AVal.own.injEq, reduceCtorEq, Int.reduceAdd, hw4] <;> omega)
        · replace h := bif_t h hc
          (try simp (implicitDefEqProofs := false) (decide := true) only [go_sem, Nat.reduceAdd, Nat.reduceMul, Nat.reduceSub, Int.reduceToNat, hc, Bool.not_false])
          refine hK _ _ _ (by kernel_rfl) ?_; clear hK K
          refine qthen_normal ?_
          refine AWP.cond (acond_true ?_)
          refine AWP.seq ?_
          refine AWP.region rfl ?_; intro K hK
          (try simp (implicitDefEqProofs := false) (decide := true) only [go_sem, Nat.reduceAdd, Nat.reduceMul, Nat.reduceSub, Int.reduceToNat])
          refine hK _ _ ?_; clear hK K
          refine qthen_normal ?_
          refine AWP.ret ?_
          refine qthen_ret ?_
          refine qblock_ret ?_
          refine qthen_ret ?_
          refine qthen_ret ?_
          obtain rfl := some_eq h
          obtain rfl := cont_ret hJ4
          replace h := on_ret hO4
          refine qblock_ret ?_
          refine qthen_ret ?_
          obtain rfl := some_eq h
          simp (implicitDefEqProofs := false) (decide := true) only [go_sem, Nat.reduceAdd, Nat.reduceMul, Nat.reduceSub, Int.reduceToNat, mpE_nil, Int.natCast_zero, List.replicate_zero, List.length_take, List.length_drop, AVal.own.injEq, reduceCtorEq, Int.reduceAdd, nle2, nle1, nle0, nleA, nleL, Try.results14]
      · obtain rfl := for_nil hJ4 (fun hl => by have := of_decide_eq_false hc; omega)
        have h := on_next hO4; try dsimp only at h
        have hkl : l.length = k4 := by have := of_decide_eq_false hc; omega
        subst hkl
        refine AWP.exit ?_
        refine qthen_exit ?_
        refine qthen_exit ?_
        refine qblock_same ?_
        refine qthen_normal ?_
        exact ⟨(excess4, ()), h, by (simp (implicitDefEqProofs := false) (decide := true) only [go_sem, Nat.reduceAdd, Nat.reduceMul, Nat.reduceSub, Int.reduceToNat, mpE_nil, Int.natCast_zero, List.replicate_zero, List.length_take, List.length_drop, AVal.own.injEq, reduceCtorEq, Int.reduceAdd] <;> omega), by (simp (implicitDefEqProofs := false) (decide := true) only [go_sem, Nat.reduceAdd, Nat.reduceMul, Nat.reduceSub, Int.reduceToNat, mpE_nil, Int.natCast_zero, List.replicate_zero, List.length_take, List.length_drop, AVal.own.injEq, reduceCtorEq, Int.reduceAdd] <;> omega)⟩
    · rintro ⟨excess1, ⟨⟩⟩ h
      try dsimp only at h ⊢
      unfold flow_Valid_j1 at h; try dsimp only at h
      refine AWP.seq ?_
      refine AWP.seq ?_
      refine AWP.sub (Sub.freezeMap 0 rfl) ?_
      (try simp (implicitDefEqProofs := false) (decide := true) only [go_sem, Nat.reduceAdd, Nat.reduceMul, Nat.reduceSub, Int.reduceToNat])
      refine AWP.region rfl ?_; intro K hK
      (try simp (implicitDefEqProofs := false) (decide := true) only [go_sem, Nat.reduceAdd, Nat.reduceMul, Nat.reduceSub, Int.reduceToNat])
      refine hK _ _ ?_; clear hK K
      refine qthen_normal ?_
      refine AWP.block ?_
      obtain ⟨o2, hJ2, hO2⟩ := bindE h
      clear h
      replace hJ2 := allPerm_in hJ2
      refine AWP.loopW (ι := List (Int × Int) × (Unit) × Option (Int × AVal) × (Unit)) (fun zz => [(2, .int .i64 s_), (3, .int .i64 t), (61, .iter 1)]) (fun zz => [.gone, .it (mpE intV zz.1) zz.2.2.1]) (fun zz => ∀ ord : List (Int × Int), ord.Perm zz.1 → forE (flow_Valid_b2 s_ t) ord zz.2.1 = some o2) (fun zz => zz.1.length) (excess1, (), none, ()) hJ2 (by (simp (implicitDefEqProofs := false) (decide := true) only [go_sem, Nat.reduceAdd, Nat.reduceMul, Nat.reduceSub, Int.reduceToNat, mpE_nil, Int.natCast_zero, List.replicate_zero, List.length_take, List.length_drop, AVal.own.injEq, reduceCtorEq, Int.reduceAdd] <;> omega)) (by (simp (implicitDefEqProofs := false) (decide := true) only [go_sem, Nat.reduceAdd, Nat.reduceMul, Nat.reduceSub, Int.reduceToNat, mpE_nil, Int.natCast_zero, List.replicate_zero, List.length_take, List.length_drop, AVal.own.injEq, reduceCtorEq, Int.reduceAdd] <;> omega)) (fun x => ⟨rfl, rfl, rfl⟩) ?_
      clear hJ2
      rintro ⟨left2, ⟨⟩, cur2, ⟨⟩⟩ hJ2
      dsimp only at hJ2 ⊢
      refine AWP.seq ?_
      refine AWP.region rfl ?_; intro K hK
      (try simp (implicitDefEqProofs := false) (decide := true) only [go_sem, Nat.reduceAdd, Nat.reduceMul, Nat.reduceSub, Int.reduceToNat])
      refine ANext.of (f := intV) (left := left2) (fun hl => ?_) (fun l1_2 p2 l2_2 hl => ?_)
      · subst hl
        obtain rfl := forE_nil (hJ2 _ (List.Perm.refl _))
        have h := on_next hO2; try dsimp only at h
        (try simp (implicitDefEqProofs := false) (decide := true) only [go_sem, Nat.reduceAdd, Nat.reduceMul, Nat.reduceSub, Int.reduceToNat])
        refine hK _ _ ?_; clear hK K
        refine qthen_normal ?_
        refine AWP.seq ?_
        refine AWP.cond (acond_false ?_)
        refine AWP.exit ?_
        refine qthen_exit ?_
        refine qthen_exit ?_
        refine qblock_same ?_
        refine qthen_normal ?_
        refine AWP.seq ?_
        refine AWP.region rfl ?_; intro K hK
        (try simp (implicitDefEqProofs := false) (decide := true) only [go_sem, Nat.reduceAdd, Nat.reduceMul, Nat.reduceSub, Int.reduceToNat])
        refine hK _ _ ?_; clear hK K
        refine qthen_normal ?_
        refine AWP.ret ?_
        obtain rfl := some_eq h
        simp (implicitDefEqProofs := false) (decide := true) only [go_sem, Nat.reduceAdd, Nat.reduceMul, Nat.reduceSub, Int.reduceToNat, mpE_nil, Int.natCast_zero, List.replicate_zero, List.length_take, List.length_drop, AVal.own.injEq, reduceCtorEq, Int.reduceAdd, nle2, nle1, nle0, nleA, nleL, Try.results14]
      · subst hl
        obtain ⟨b2, h, hJ2⟩ := forE_pick hJ2
        unfold flow_Valid_b2 at h; try dsimp only at h
        (try simp (implicitDefEqProofs := false) (decide := true) only [go_sem, Nat.reduceAdd, Nat.reduceMul, Nat.reduceSub, Int.reduceToNat])
        refine hK _ _ ?_; clear hK K
        refine qthen_normal ?_
        refine AWP.seq ?_
        refine AWP.cond (acond_true ?_)
        refine AWP.skip ?_
        refine qthen_normal ?_
        refine AWP.block ?_
        refine AWP.seq ?_
        refine AWP.region rfl ?_; intro K hK
        (try simp (implicitDefEqProofs := false) (decide := true) only [go_sem, Nat.reduceAdd, Nat.reduceMul, Nat.reduceSub, Int.reduceToNat])
        refine hK _ _ ?_; clear hK K
        refine qthen_normal ?_
        refine AWP.seq ?_
        refine AWP.region rfl ?_; intro K hK
        (try simp (implicitDefEqProofs := false) (decide := true) only [go_sem, Nat.reduceAdd, Nat.reduceMul, Nat.reduceSub, Int.reduceToNat])
        refine aguardK_split (fun hc => ?_) (fun hc => ?_)
        · replace h := bif_t h hc
          (try simp (implicitDefEqProofs := false) (decide := true) only [go_sem, Nat.reduceAdd, Nat.reduceMul, Nat.reduceSub, Int.reduceToNat, hc])
          refine aguardK_split (fun hc => ?_) (fun hc => ?_)
          · replace h := bif_t h hc
            (try simp (implicitDefEqProofs := false) (decide := true) only [go_sem, Nat.reduceAdd, Nat.reduceMul, Nat.reduceSub, Int.reduceToNat, hc])
            refine hK _ _ ?_; clear hK K
            refine qthen_normal ?_
            refine AWP.cond (acond_split (fun hc => ?_) (fun hc => ?_))
            · replace h := bif_t h hc
              refine AWP.seq ?_
              refine AWP.region rfl ?_; intro K hK
              (try simp (implicitDefEqProofs := false) (decide := true) only [go_sem, Nat.reduceAdd, Nat.reduceMul, Nat.reduceSub, Int.reduceToNat])
              refine hK _ _ ?_; clear hK K
              refine qthen_normal ?_
              refine AWP.ret ?_
              refine qblock_ret ?_
              refine qthen_ret ?_
              obtain rfl := some_eq h
              obtain rfl := cont_ret (hJ2 _ (List.Perm.refl _))
              replace h := on_ret hO2
              refine qblock_ret ?_
              refine qthen_ret ?_
              obtain rfl := some_eq h
              simp (implicitDefEqProofs := false) (decide := true) only [go_sem, Nat.reduceAdd, Nat.reduceMul, Nat.reduceSub, Int.reduceToNat, mpE_nil, Int.natCast_zero, List.replicate_zero, List.length_take, List.length_drop, AVal.own.injEq, reduceCtorEq, Int.reduceAdd, nle2, nle1, nle0, nleA, nleL, Try.results14]
            · replace h := bif_f h hc
              refine AWP.skip ?_
              refine qblock_normal ?_
              refine qthen_normal ?_
              obtain rfl := some_eq h
              refine ⟨(l1_2 ++ l2_2, (), some (p2.1, intV p2.2), ()), fun ord ho => cont_next (hJ2 ord ho), by simp only [List.length_append, List.length_cons]; omega, ?_, ?_⟩
              · (simp (implicitDefEqProofs := false) (decide := true) only [go_sem, Nat.reduceAdd, Nat.reduceMul, Nat.reduceSub, Int.reduceToNat, mpE_nil, Int.natCast_zero, List.replicate_zero, List.length_take, List.length_drop, AVal.own.injEq, reduceCtorEq, Int.reduceAdd] <;> omega)
              · (simp (implicitDefEqProofs := false) (decide := true) only [go_sem, Nat.reduceAdd, Nat.reduceMul, Nat.reduceSub, Int.reduceToNat, mpE_nil, Int.natCast_zero, List.replicate_zero, List.length_take, List.length_drop, AVal.own.injEq, reduceCtorEq, Int.reduceAdd] <;> omega)
          · replace h := bif_f h hc
            (try simp (implicitDefEqProofs := false) (decide := true) only [go_sem, Nat.reduceAdd, Nat.reduceMul, Nat.reduceSub, Int.reduceToNat, hc, Bool.not_true])
            refine hK _ _ ?_; clear hK K
            refine qthen_normal ?_
            refine AWP.cond (acond_false ?_)
            refine AWP.skip ?_
            refine qblock_normal ?_
            refine qthen_normal ?_
            obtain rfl := some_eq h
            refine ⟨(l1_2 ++ l2_2, (), some (p2.1, intV p2.2), ()), fun ord ho => cont_next (hJ2 ord ho), by simp only [List.length_append, List.length_cons]; omega, ?_, ?_⟩
            · (simp (implicitDefEqProofs := false) (decide := true) only [go_sem, Nat.reduceAdd, Nat.reduceMul, Nat.reduceSub, Int.reduceToNat, mpE_nil, Int.natCast_zero, List.replicate_zero, List.length_take, List.length_drop, AVal.own.injEq, reduceCtorEq, Int.reduceAdd] <;> omega)
            · (simp (implicitDefEqProofs := false) (decide := true) only [go_sem, Nat.reduceAdd, Nat.reduceMul, Nat.reduceSub, Int.reduceToNat, mpE_nil, Int.natCast_zero, List.replicate_zero, List.length_take, List.length_drop, AVal.own.injEq, reduceCtorEq, Int.reduceAdd] <;> omega)
        · replace h := bif_f h hc
          (try simp (implicitDefEqProofs := false) (decide := true) only [go_sem, Nat.reduceAdd, Nat.reduceMul, Nat.reduceSub, Int.reduceToNat, hc, Bool.not_true])
          refine hK _ _ ?_; clear hK K
          refine qthen_normal ?_
          refine AWP.cond (acond_false ?_)
          refine AWP.skip ?_
          refine qblock_normal ?_
          refine qthen_normal ?_
          obtain rfl := some_eq h
          refine ⟨(l1_2 ++ l2_2, (), some (p2.1, intV p2.2), ()), fun ord ho => cont_next (hJ2 ord ho), by simp only [List.length_append, List.length_cons]; omega, ?_, ?_⟩
          · (simp (implicitDefEqProofs := false) (decide := true) only [go_sem, Nat.reduceAdd, Nat.reduceMul, Nat.reduceSub, Int.reduceToNat, mpE_nil, Int.natCast_zero, List.replicate_zero, List.length_take, List.length_drop, AVal.own.injEq, reduceCtorEq, Int.reduceAdd] <;> omega)
          · (simp (implicitDefEqProofs := false) (decide := true) only [go_sem, Nat.reduceAdd, Nat.reduceMul, Nat.reduceSub, Int.reduceToNat, mpE_nil, Int.natCast_zero, List.replicate_zero, List.length_take, List.length_drop, AVal.own.injEq, reduceCtorEq, Int.reduceAdd] <;> omega)

def flow_Cut_j3 (l : List ApiEdge) (y1 : (List Int)) (x_6 : Int) (k9 : Nat) (x_11 : ApiEdge) (o2_12 : List (Int × FlowMove)) (o4_13 : List Int) : Option (Out ((List (Int × FlowMove)) × (List Int)) (Out ((List (Int × FlowMove)) × (List Int)) ((List Int)))) :=
  (bif (decide (x_11.To = x_6)) then (bif (!(mhas o2_12 x_11.From)) then (flow_room l y1 (FlowMove.mk ((k9 : Nat) : Int) false)).bind fun y16 => (bif (decide ((0 : Int) < y16)) then chk (o4_13.length + 1) (some (Out.next ((mset o2_12 x_11.From (FlowMove.mk ((k9 : Nat) : Int) false)), (o4_13 ++ [x_11.From])))) else some (Out.next (o2_12, o4_13))) else some (Out.next (o2_12, o4_13))) else some (Out.next (o2_12, o4_13)))

def flow_Cut_b2 (l : List ApiEdge) (y1 : (List Int)) (x_6 : Int) (k9 : Nat) (x_11 : ApiEdge) (sv : (List (Int × FlowMove)) × (List Int)) : Option (Out ((List (Int × FlowMove)) × (List Int)) (Out ((List (Int × FlowMove)) × (List Int)) ((List Int)))) :=
  (bif (decide (x_11.From = x_6)) then (bif (!(mhas sv.1 x_11.To)) then (flow_room l y1 (FlowMove.mk ((k9 : Nat) : Int) true)).bind fun y17 => (bif (decide ((0 : Int) < y17)) then chk (sv.2.length + 1) (flow_Cut_j3 l y1 x_6 k9 x_11 (mset sv.1 x_11.To (FlowMove.mk ((k9 : Nat) : Int) true)) (sv.2 ++ [x_11.To])) else flow_Cut_j3 l y1 x_6 k9 x_11 sv.1 sv.2) else flow_Cut_j3 l y1 x_6 k9 x_11 sv.1 sv.2) else flow_Cut_j3 l y1 x_6 k9 x_11 sv.1 sv.2)

def flow_Cut_b4 (o2_2 : List (Int × FlowMove)) (k19 : Nat) (x_21 : ApiEdge) (sv : (List Int)) : Option (Out ((List Int)) ((List Int))) :=
  (bif (mhas o2_2 x_21.From) then (bif (!(mhas o2_2 x_21.To)) then chk (sv.length + 1) (some (Out.next (sv ++ [((k19 : Nat) : Int)]))) else some (Out.next sv)) else some (Out.next sv))

def flow_Cut_b1 (l : List ApiEdge) (y1 : (List Int)) (sv : (List (Int × FlowMove)) × (List Int)) : Option (Out ((List (Int × FlowMove)) × (List Int)) ((List Int))) :=
  (bif (decide ((0 : Int) < ((sv.2.length : Nat) : Int))) then (idxL sv.2 (0 : Int)).bind fun x_6 => okB (decide ((1 : Int) ≤ ((sv.2.length : Nat) : Int))) ((forIx (flow_Cut_b2 l y1 x_6) 0 l (sv.1, (sv.2.drop 1))).bind fun o9 => o9.on fun s9 => some (Out.next (s9.1, s9.2))) else ((forIx (flow_Cut_b4 sv.1) 0 l []).bind fun o19 => o19.on fun s19 => some s19).bind fun q21 => some (Out.ret q21))

def flow_Cut (l : List ApiEdge) (s_ : Int) (t : Int) : Option ((List Int)) :=
  (bif (decide (s_ = t)) then some [] else (flow_Find l s_ t).bind fun y1 => (whileN (flow_Cut_b1 l y1) fuel ((mset [] s_ (FlowMove.mk (0 : Int) false)), [s_])).bind fun o4 => o4.on fun _ => none)

theorem flow_Cut_fresh (l : List ApiEdge) (s_ : Int) (t : Int) {r : (List Int)} (h : flow_Cut l s_ t = some r) : FreshFn Try.prog 21 [.sl 4 (l.map encApiEdge), .int .i64 s_, .int .i64 t] (· = .sl 1 (r.map intC)) := by
  refine FreshFn.nle (FreshFn.intro Try.func21 rfl rfl (by show _ ≤ 57; simp) ?_)
  unfold flow_Cut at h
  (try simp (implicitDefEqProofs := false) (decide := true) only [go_sem, Nat.reduceAdd, Nat.reduceMul, Nat.reduceSub, Int.reduceToNat, encFlowMoveV_set0])
  refine AWP.seq ?_
  refine AWP.region rfl ?_; intro K hK
  (try simp (implicitDefEqProofs := false) (decide := true) only [go_sem, Nat.reduceAdd, Nat.reduceMul, Nat.reduceSub, Int.reduceToNat, encFlowMoveV_set0])
  refine hK _ _ ?_; clear hK K
  refine qthen_normal ?_
  refine AWP.seq ?_
  refine AWP.seq ?_
  refine AWP.region rfl ?_; intro K hK
  (try simp (implicitDefEqProofs := false) (decide := true) only [go_sem, Nat.reduceAdd, Nat.reduceMul, Nat.reduceSub, Int.reduceToNat, encFlowMoveV_set0])
  refine hK _ _ ?_; clear hK K
  refine qthen_normal ?_
  refine AWP.cond (acond_split (fun hc => ?_) (fun hc => ?_))
  · replace h := bif_t h hc
    refine AWP.seq ?_
    refine AWP.region rfl ?_; intro K hK
    (try simp (implicitDefEqProofs := false) (decide := true) only [go_sem, Nat.reduceAdd, Nat.reduceMul, Nat.reduceSub, Int.reduceToNat, encFlowMoveV_set0])
    refine hK _ _ ?_; clear hK K
    refine qthen_normal ?_
    refine AWP.ret ?_
    refine qthen_ret ?_
    obtain rfl := some_eq h
    simp (implicitDefEqProofs := false) (decide := true) only [go_sem, Nat.reduceAdd, Nat.reduceMul, Nat.reduceSub, Int.reduceToNat, mpE_nil, Int.natCast_zero, List.replicate_zero, List.length_take, List.length_drop, AVal.own.injEq, reduceCtorEq, Int.reduceAdd, nle2, nle1, nle0, nleA, nleL, Try.results21, encFlowMoveV_set0]
  · replace h := bif_f h hc
    refine AWP.skip ?_
    refine qthen_normal ?_
    refine AWP.seq ?_
    refine AWP.region rfl ?_; intro K hK
    (try simp (implicitDefEqProofs := false) (decide := true) only [go_sem, Nat.reduceAdd, Nat.reduceMul, Nat.reduceSub, Int.reduceToNat, encFlowMoveV_set0])
    obtain ⟨y1, hy1, h⟩ := bindE h
    refine ACall.pure Try.call19 (flow_Find_spec l s_ t hy1) rfl fun _ hr => ?_
    subst hr
    (try simp (implicitDefEqProofs := false) (decide := true) only [go_sem, Nat.reduceAdd, Nat.reduceMul, Nat.reduceSub, Int.reduceToNat, encFlowMoveV_set0])
    refine ACall.inline Try.call30 Try.func30 rfl rfl (by show _ ≤ 57; simp) ?_
    (try simp (implicitDefEqProofs := false) (decide := true) only [go_sem, Nat.reduceAdd, Nat.reduceMul, Nat.reduceSub, Int.reduceToNat, encFlowMoveV_set0])
    refine AWP.seq ?_
    refine AWP.region rfl ?_; intro K hK
    (try simp (implicitDefEqProofs := false) (decide := true) only [go_sem, Nat.reduceAdd, Nat.reduceMul, Nat.reduceSub, Int.reduceToNat, encFlowMoveV_set0])
    refine hK _ _ ?_; clear hK K
    refine qthen_normal ?_
    refine AWP.seq ?_
    refine AWP.region rfl ?_; intro K hK
    (try simp (implicitDefEqProofs := false) (decide := true) only [go_sem, Nat.reduceAdd, Nat.reduceMul, Nat.reduceSub, Int.reduceToNat, encFlowMoveV_set0])
    refine hK _ _ ?_; clear hK K
    refine qthen_normal ?_
    refine AWP.seq ?_
    refine AWP.region rfl ?_; intro K hK
    (try simp (implicitDefEqProofs := false) (decide := true) only [go_sem, Nat.reduceAdd, Nat.reduceMul, Nat.reduceSub, Int.reduceToNat, encFlowMoveV_set0])
    refine hK _ _ ?_; clear hK K
    refine qthen_normal ?_
    refine AWP.seq ?_
    refine AWP.region rfl ?_; intro K hK
    (try simp (implicitDefEqProofs := false) (decide := true) only [go_sem, Nat.reduceAdd, Nat.reduceMul, Nat.reduceSub, Int.reduceToNat, encFlowMoveV_set0])
    refine hK _ _ ?_; clear hK K
    refine qthen_normal ?_
    refine AWP.seq ?_
    refine AWP.block ?_
    obtain ⟨o4, hJ4, hO4⟩ := bindE h
    clear h
    refine AWP.loopW (ι := Nat × ((List (Int × FlowMove)) × (List Int)) × (Nat)) (fun zz => [(3, .ptr 0 0), (7, .ptr 3 0), (8, .ptr 5 0), (9, .func 41 [.ptr 3 0, .ptr 0 0, .ptr 1 0, .ptr 5 0])]) (fun zz => [.box [.sl 4 (l.map encApiEdge)], .box [.sl 1 (y1.map intC)], .mp (mpE encFlowMoveV zz.2.1.1), .box [.map 2], .row zz.2.2 1 (zz.2.1.2.map intC), .box [.own 4 zz.2.2 0 zz.2.1.2.length]]) (fun zz => whileN (flow_Cut_b1 l y1) zz.1 zz.2.1 = some o4) (fun zz => zz.1) (fuel, ((mset [] s_ (FlowMove.mk (0 : Int) false)), [s_]), 0) hJ4 (by (simp (implicitDefEqProofs := false) (decide := true) only [go_sem, Nat.reduceAdd, Nat.reduceMul, Nat.reduceSub, Int.reduceToNat, mpE_nil, Int.natCast_zero, List.replicate_zero, List.length_take, List.length_drop, AVal.own.injEq, reduceCtorEq, Int.reduceAdd, encFlowMoveV_set0] <;> omega)) (by (simp (implicitDefEqProofs := false) (decide := true) only [go_sem, Nat.reduceAdd, Nat.reduceMul, Nat.reduceSub, Int.reduceToNat, mpE_nil, Int.natCast_zero, List.replicate_zero, List.length_take, List.length_drop, AVal.own.injEq, reduceCtorEq, Int.reduceAdd, encFlowMoveV_set0] <;> omega)) (fun x => ⟨rfl, rfl, rfl⟩) ?_
    clear hJ4
    rintro ⟨n4, ⟨o2_2, o4_3⟩, ver4⟩ hJ4
    dsimp only at hJ4 ⊢
    obtain ⟨m4, b4, rfl, h, hJ4⟩ := while_step hJ4
    unfold flow_Cut_b1 at h; try dsimp only at h
    refine AWP.seq ?_
    refine AWP.seq ?_
    refine AWP.region rfl ?_; intro K hK
    (try simp (implicitDefEqProofs := false) (decide := true) only [go_sem, Nat.reduceAdd, Nat.reduceMul, Nat.reduceSub, Int.reduceToNat, encFlowMoveV_set0])
    intro hm
    refine hK _ _ ?_; clear hK K
    refine qthen_normal ?_
    refine AWP.cond (acond_split (fun hc => ?_) (fun hc => ?_))
    · replace h := bif_t h hc
      refine AWP.skip ?_
      refine qthen_normal ?_
      refine AWP.block ?_
      refine AWP.seq ?_
      refine AWP.region rfl ?_; intro K hK
      (try simp (implicitDefEqProofs := false) (decide := true) only [go_sem, Nat.reduceAdd, Nat.reduceMul, Nat.reduceSub, Int.reduceToNat, encFlowMoveV_set0])
      obtain ⟨x_6, hx_6, h⟩ := bindE h
      refine own_in0 hx_6 (by first | rfl | exact (sortI_len _).symm | (simp only [List.length_append, List.length_cons, List.length_nil, List.length_set, List.length_replicate] <;> omega)) ?_
      (try simp (implicitDefEqProofs := false) (decide := true) only [go_sem, Nat.reduceAdd, Nat.reduceMul, Nat.reduceSub, Int.reduceToNat, encFlowMoveV_set0])
      refine AElem.ofNat (f := intC) (l := o4_3) (n := 0) hx_6 ?_
      (try simp (implicitDefEqProofs := false) (decide := true) only [go_sem, Nat.reduceAdd, Nat.reduceMul, Nat.reduceSub, Int.reduceToNat, encFlowMoveV_set0])
      refine hK _ _ ?_; clear hK K
      refine qthen_normal ?_
      refine AWP.seq ?_
      refine AWP.region rfl ?_; intro K hK
      (try simp (implicitDefEqProofs := false) (decide := true) only [go_sem, Nat.reduceAdd, Nat.reduceMul, Nat.reduceSub, Int.reduceToNat, encFlowMoveV_set0])
      obtain ⟨hk, h⟩ := okB_in h
      (repeat (refine ⟨by omega, ?_⟩))
      refine hK _ _ ?_; clear hK K
      refine qthen_normal ?_
      refine AWP.sub (Sub.windowB 5 0 rfl rfl rfl) ?_
      (try simp (implicitDefEqProofs := false) (decide := true) only [go_sem, Nat.reduceAdd, Nat.reduceMul, Nat.reduceSub, Int.reduceToNat, encFlowMoveV_set0])
      refine AWP.seq ?_
      refine AWP.region rfl ?_; intro K hK
      (try simp (implicitDefEqProofs := false) (decide := true) only [go_sem, Nat.reduceAdd, Nat.reduceMul, Nat.reduceSub, Int.reduceToNat, encFlowMoveV_set0])
      intro hm
      refine hK _ _ ?_; clear hK K
      refine qthen_normal ?_
      refine AWP.block ?_
      obtain ⟨o9, hJ9, hO9⟩ := bindE h
      clear h
      refine AWP.loopW (ι := Nat × ((List (Int × FlowMove)) × (List Int)) × (Nat)) (fun zz => [(3, .ptr 0 0), (7, .ptr 3 0), (8, .ptr 5 0), (9, .func 41 [.ptr 3 0, .ptr 0 0, .ptr 1 0, .ptr 5 0]), (10, .int .i64 x_6), (28, .sl 4 (l.map encApiEdge)), (29, .int .i64 ((l.length : Nat) : Int)), (30, .int .i64 ((zz.1 : Nat) : Int))]) (fun zz => [.box [.sl 4 (l.map encApiEdge)], .box [.sl 1 (y1.map intC)], .mp (mpE encFlowMoveV zz.2.1.1), .box [.map 2], .row zz.2.2 1 (zz.2.1.2.map intC), .box [.own 4 zz.2.2 0 zz.2.1.2.length]]) (fun zz => zz.1 ≤ l.length ∧ forIx (flow_Cut_b2 l y1 x_6) zz.1 ((l).drop zz.1) zz.2.1 = some o9) (fun zz => l.length - zz.1) (0, (o2_2, (o4_3.drop 1)), (ver4 + 1)) ⟨Nat.zero_le _, hJ9⟩ (by (simp (implicitDefEqProofs := false) (decide := true) only [go_sem, Nat.reduceAdd, Nat.reduceMul, Nat.reduceSub, Int.reduceToNat, mpE_nil, Int.natCast_zero, List.replicate_zero, List.length_take, List.length_drop, AVal.own.injEq, reduceCtorEq, Int.reduceAdd, encFlowMoveV_set0] <;> omega)) (by (simp (implicitDefEqProofs := false) (decide := true) only [go_sem, Nat.reduceAdd, Nat.reduceMul, Nat.reduceSub, Int.reduceToNat, mpE_nil, Int.natCast_zero, List.replicate_zero, List.length_take, List.length_drop, AVal.own.injEq, reduceCtorEq, Int.reduceAdd, encFlowMoveV_set0] <;> omega)) (fun x => ⟨rfl, rfl, rfl⟩) ?_
      clear hJ9
      rintro ⟨k9, ⟨o2_7, o4_8⟩, ver9⟩ ⟨hk9, hJ9⟩
      dsimp only at hk9 hJ9 ⊢
      refine AWP.seq ?_
      refine AWP.region rfl ?_; intro K hK
      (try simp (implicitDefEqProofs := false) (decide := true) only [go_sem, Nat.reduceAdd, Nat.reduceMul, Nat.reduceSub, Int.reduceToNat, encFlowMoveV_set0])
      refine hK _ _ ?_; clear hK K
      refine qthen_normal ?_
      refine AWP.seq ?_
      refine AWP.cond (acond_split (fun hc => ?_) (fun hc => ?_))
      · have hlt9 : k9 < l.length := by have := of_decide_eq_true hc; omega
        obtain ⟨x_11, b9, hx9_, h, hJ9⟩ := for_cons hJ9 hlt9
        have hx9 := idxL_nat hx9_
        have hw9 : IntKind.i64.wrap (((k9 : Nat) : Int) + 1) = (((k9 : Nat) : Int) + (1 : Int)) := by rw [wrap_i64] <;> omega
        unfold flow_Cut_b2 at h; try dsimp only at h
        refine AWP.skip ?_
        refine qthen_normal ?_
        refine AWP.seq ?_
        refine AWP.block ?_
        refine AWP.seq ?_
        refine AWP.region rfl ?_; intro K hK
        (try simp (implicitDefEqProofs := false) (decide := true) only [go_sem, Nat.reduceAdd, Nat.reduceMul, Nat.reduceSub, Int.reduceToNat, encFlowMoveV_set0])
        refine AIdx.of (f := encApiEdge) (l := l) hx9 ?_
        (try simp (implicitDefEqProofs := false) (decide := true) only [go_sem, Nat.reduceAdd, Nat.reduceMul, Nat.reduceSub, Int.reduceToNat, encFlowMoveV_set0])
        refine hK _ _ ?_; clear hK K
        refine qthen_normal ?_
        refine AWP.seqJoin (ι := ((List (Int × FlowMove)) × (List Int)) × (Nat)) (fun zz => [(3, .ptr 0 0), (7, .ptr 3 0), (8, .ptr 5 0), (9, .func 41 [.ptr 3 0, .ptr 0 0, .ptr 1 0, .ptr 5 0]), (10, .int .i64 x_6), (11, .int .i64 ((k9 : Nat) : Int)), (12, .ptr 6 0), (28, .sl 4 (l.map encApiEdge)), (29, .int .i64 ((l.length : Nat) : Int)), (30, .int .i64 ((k9 : Nat) : Int))]) (fun zz => [.box [.sl 4 (l.map encApiEdge)], .box [.sl 1 (y1.map intC)], .mp (mpE encFlowMoveV zz.1.1), .box [.map 2], .row zz.2 1 (zz.1.2.map intC), .box [.own 4 zz.2 0 zz.1.2.length], .box [.int .i64 x_11.ID, .int .i64 x_11.From, .int .i64 x_11.To, .int .i64 x_11.Cost]]) (fun zz => flow_Cut_j3 l y1 x_6 k9 x_11 zz.1.1 zz.1.2 = some b9) (fun zz => ⟨rfl, rfl, rfl⟩) ?_ ?_
        · refine AWP.seq ?_
          refine AWP.region rfl ?_; intro K hK
          (try simp (implicitDefEqProofs := false) (decide := true) only [go_sem, Nat.reduceAdd, Nat.reduceMul, Nat.reduceSub, Int.reduceToNat, encFlowMoveV_set0])
          refine hK _ _ ?_; clear hK K
          refine qthen_normal ?_
          refine AWP.cond (acond_split (fun hc => ?_) (fun hc => ?_))
          · replace h := bif_t h hc
            refine AWP.region rfl ?_; intro K hK
            (try simp (implicitDefEqProofs := false) (decide := true) only [go_sem, Nat.reduceAdd, Nat.reduceMul, Nat.reduceSub, Int.reduceToNat, encFlowMoveV_set0])
            refine ACall.inline Try.call41 Try.func41 rfl rfl (by show _ ≤ 32; simp) ?_
            (try simp (implicitDefEqProofs := false) (decide := true) only [go_sem, Nat.reduceAdd, Nat.reduceMul, Nat.reduceSub, Int.reduceToNat, encFlowMoveV_set0])
            refine AWP.seq ?_
            refine AWP.region rfl ?_; intro K hK
            (try simp (implicitDefEqProofs := false) (decide := true) only [go_sem, Nat.reduceAdd, Nat.reduceMul, Nat.reduceSub, Int.reduceToNat, encFlowMoveV_set0])
            refine hK _ _ ?_; clear hK K
            refine qthen_normal ?_
            refine AWP.seq ?_
            refine AWP.region rfl ?_; intro K hK
            (try simp (implicitDefEqProofs := false) (decide := true) only [go_sem, Nat.reduceAdd, Nat.reduceMul, Nat.reduceSub, Int.reduceToNat, encFlowMoveV_set0])
            refine ALook.of (f := encFlowMoveV) (m := o2_7) (d := (FlowMove.mk (0 : Int) false)) rfl ?_
            (try simp (implicitDefEqProofs := false) (decide := true) only [go_sem, Nat.reduceAdd, Nat.reduceMul, Nat.reduceSub, Int.reduceToNat, encFlowMoveV_set0])
            refine hK _ _ ?_; clear hK K
            refine qthen_normal ?_
            refine AWP.seq ?_
            refine AWP.region rfl ?_; intro K hK
            (try simp (implicitDefEqProofs := false) (decide := true) only [go_sem, Nat.reduceAdd, Nat.reduceMul, Nat.reduceSub, Int.reduceToNat, encFlowMoveV_set0])
            refine aguardK_split (fun hc => ?_) (fun hc => ?_)
            · replace h := bif_t h hc
              (try simp (implicitDefEqProofs := false) (decide := true) only [go_sem, Nat.reduceAdd, Nat.reduceMul, Nat.reduceSub, Int.reduceToNat, hc, encFlowMoveV_set0])
              obtain ⟨y17, hy17, h⟩ := bindE h
              refine ACall.pure Try.call31 (flow_room_spec l y1 (FlowMove.mk ((k9 : Nat) : Int) true) hy17) rfl fun _ hr => ?_
              subst hr
              (try simp (implicitDefEqProofs := false) (decide := true) only [go_sem, Nat.reduceAdd, Nat.reduceMul, Nat.reduceSub, Int.reduceToNat, encFlowMoveV_set0])
              refine hK _ _ ?_; clear hK K
              refine qthen_normal ?_
              refine AWP.cond (acond_split (fun hc => ?_) (fun hc => ?_))
              · replace h := bif_t h hc
                refine AWP.seq ?_
                refine AWP.region rfl ?_; intro K hK
                (try simp (implicitDefEqProofs := false) (decide := true) only [go_sem, Nat.reduceAdd, Nat.reduceMul, Nat.reduceSub, Int.reduceToNat, encFlowMoveV_set0])
                refine hK _ _ ?_; clear hK K
                refine qthen_normal ?_
                refine AWP.region rfl ?_; intro K hK
                (try simp (implicitDefEqProofs := false) (decide := true) only [go_sem, Nat.reduceAdd, Nat.reduceMul, Nat.reduceSub, Int.reduceToNat, encFlowMoveV_set0])
                obtain ⟨hk, h⟩ := chk_in h
                (repeat (refine ⟨by first | omega | (simp only [List.length_take, List.length_drop, List.length_append]; omega), ?_⟩)); try simp (implicitDefEqProofs := false) (decide := true) only [go_sem, Nat.reduceAdd, Nat.reduceMul, Nat.reduceSub, Int.reduceToNat]
                refine hK _ _ ?_; clear hK K
                (try simp (implicitDefEqProofs := false) (decide := true) only [go_sem, Nat.reduceAdd, Nat.reduceMul, Nat.reduceSub, Int.reduceToNat, Try.results41, encFlowMoveV_set0])
                refine hK _ _ ?_; clear hK K
                refine qthen_normal ?_
                exact ⟨(((mset o2_7 x_11.To (FlowMove.mk ((k9 : Nat) : Int) true)), (o4_8 ++ [x_11.To])), (ver9 + 1)), h, by (simp (implicitDefEqProofs := false) (decide := true) only [go_sem, Nat.reduceAdd, Nat.reduceMul, Nat.reduceSub, Int.reduceToNat, mpE_nil, Int.natCast_zero, List.replicate_zero, List.length_take, List.length_drop, AVal.own.injEq, reduceCtorEq, Int.reduceAdd, encFlowMoveV_set0] <;> omega), by (simp (implicitDefEqProofs := false) (decide := true) only [go_sem, Nat.reduceAdd, Nat.reduceMul, Nat.reduceSub, Int.reduceToNat, mpE_nil, Int.natCast_zero, List.replicate_zero, List.length_take, List.length_drop, AVal.own.injEq, reduceCtorEq, Int.reduceAdd, encFlowMoveV_set0] <;> omega)⟩
              · replace h := bif_f h hc
                refine AWP.skip ?_
                (try simp (implicitDefEqProofs := false) (decide := true) only [go_sem, Nat.reduceAdd, Nat.reduceMul, Nat.reduceSub, Int.reduceToNat, Try.results41, encFlowMoveV_set0])
                refine hK _ _ ?_; clear hK K
                refine qthen_normal ?_
                exact ⟨((o2_7, o4_8), ver9), h, by (simp (implicitDefEqProofs := false) (decide := true) only [go_sem, Nat.reduceAdd, Nat.reduceMul, Nat.reduceSub, Int.reduceToNat, mpE_nil, Int.natCast_zero, List.replicate_zero, List.length_take, List.length_drop, AVal.own.injEq, reduceCtorEq, Int.reduceAdd, encFlowMoveV_set0] <;> omega), by (simp (implicitDefEqProofs := false) (decide := true) only [go_sem, Nat.reduceAdd, Nat.reduceMul, Nat.reduceSub, Int.reduceToNat, mpE_nil, Int.natCast_zero, List.replicate_zero, List.length_take, List.length_drop, AVal.own.injEq, reduceCtorEq, Int.reduceAdd, encFlowMoveV_set0] <;> omega)⟩
            · replace h := bif_f h hc
              (try simp (implicitDefEqProofs := false) (decide := true) only [go_sem, Nat.reduceAdd, Nat.reduceMul, Nat.reduceSub, Int.reduceToNat, hc, Bool.not_true, encFlowMoveV_set0])
              refine hK _ _ ?_; clear hK K
              refine qthen_normal ?_
              refine AWP.cond (acond_false ?_)
              refine AWP.skip ?_
              (try simp (implicitDefEqProofs := false) (decide := true) only [go_sem, Nat.reduceAdd, Nat.reduceMul, Nat.reduceSub, Int.reduceToNat, Try.results41, encFlowMoveV_set0])
              refine hK _ _ ?_; clear hK K
              refine qthen_normal ?_
              exact ⟨((o2_7, o4_8), ver9), h, by (simp (implicitDefEqProofs := false) (decide := true) only [go_sem, Nat.reduceAdd, Nat.reduceMul, Nat.reduceSub, Int.reduceToNat, mpE_nil, Int.natCast_zero, List.replicate_zero, List.length_take, List.length_drop, AVal.own.injEq, reduceCtorEq, Int.reduceAdd, encFlowMoveV_set0] <;> omega), by (simp (implicitDefEqProofs := false) (decide := true) only [go_sem, Nat.reduceAdd, Nat.reduceMul, Nat.reduceSub, Int.reduceToNat, mpE_nil, Int.natCast_zero, List.replicate_zero, List.length_take, List.length_drop, AVal.own.injEq, reduceCtorEq, Int.reduceAdd, encFlowMoveV_set0] <;> omega)⟩
          · replace h := bif_f h hc
            refine AWP.skip ?_
            refine qthen_normal ?_
            exact ⟨((o2_7, o4_8), ver9), h, by (simp (implicitDefEqProofs := false) (decide := true) only [go_sem, Nat.reduceAdd, Nat.reduceMul, Nat.reduceSub, Int.reduceToNat, mpE_nil, Int.natCast_zero, List.replicate_zero, List.length_take, List.length_drop, AVal.own.injEq, reduceCtorEq, Int.reduceAdd, encFlowMoveV_set0] <;> omega), by (simp (implicitDefEqProofs := false) (decide := true) only [go_sem, Nat.reduceAdd, Nat.reduceMul, Nat.reduceSub, Int.reduceToNat, mpE_nil, Int.natCast_zero, List.replicate_zero, List.length_take, List.length_drop, AVal.own.injEq, reduceCtorEq, Int.reduceAdd, encFlowMoveV_set0] <;> omega)⟩
        · rintro ⟨⟨o2_12, o4_13⟩, ver14⟩ h
          try dsimp only at h ⊢
          unfold flow_Cut_j3 at h; try dsimp only at h
          refine AWP.seq ?_
          refine AWP.region rfl ?_; intro K hK
          (try simp (implicitDefEqProofs := false) (decide := true) only [go_sem, Nat.reduceAdd, Nat.reduceMul, Nat.reduceSub, Int.reduceToNat, encFlowMoveV_set0])
          refine hK _ _ ?_; clear hK K
          refine qthen_normal ?_
          refine AWP.cond (acond_split (fun hc => ?_) (fun hc => ?_))
          · replace h := bif_t h hc
            refine AWP.region rfl ?_; intro K hK
            (try simp (implicitDefEqProofs := false) (decide := true) only [go_sem, Nat.reduceAdd, Nat.reduceMul, Nat.reduceSub, Int.reduceToNat, encFlowMoveV_set0])
            refine ACall.inline Try.call41 Try.func41 rfl rfl (by show _ ≤ 32; simp) ?_
            (try simp (implicitDefEqProofs := false) (decide := true) only [go_sem, Nat.reduceAdd, Nat.reduceMul, Nat.reduceSub, Int.reduceToNat, encFlowMoveV_set0])
            refine AWP.seq ?_
            refine AWP.region rfl ?_; intro K hK
            (try simp (implicitDefEqProofs := false) (decide := true) only [go_sem, Nat.reduceAdd, Nat.reduceMul, Nat.reduceSub, Int.reduceToNat, encFlowMoveV_set0])
            refine hK _ _ ?_; clear hK K
            refine qthen_normal ?_
            refine AWP.seq ?_
            refine AWP.region rfl ?_; intro K hK
            (try simp (implicitDefEqProofs := false) (decide := true) only [go_sem, Nat.reduceAdd, Nat.reduceMul, Nat.reduceSub, Int.reduceToNat, encFlowMoveV_set0])
            refine ALook.of (f := encFlowMoveV) (m := o2_12) (d := (FlowMove.mk (0 : Int) false)) rfl ?_
            (try simp (implicitDefEqProofs := false) (decide := true) only [go_sem, Nat.reduceAdd, Nat.reduceMul, Nat.reduceSub, Int.reduceToNat, encFlowMoveV_set0])
            refine hK _ _ ?_; clear hK K
            refine qthen_normal ?_
            refine AWP.seq ?_
            refine AWP.region rfl ?_; intro K hK
            (try simp (implicitDefEqProofs := false) (decide := true) only [go_sem, Nat.reduceAdd, Nat.reduceMul, Nat.reduceSub, Int.reduceToNat, encFlowMoveV_set0])
            refine aguardK_split (fun hc => ?_) (fun hc => ?_)
            · replace h := bif_t h hc
              (try simp (implicitDefEqProofs := false) (decide := true) only [go_sem, Nat.reduceAdd, Nat.reduceMul, Nat.reduceSub, Int.reduceToNat, hc, encFlowMoveV_set0])
              obtain ⟨y16, hy16, h⟩ := bindE h
              refine ACall.pure Try.call31 (flow_room_spec l y1 (FlowMove.mk ((k9 : Nat) : Int) false) hy16) rfl fun _ hr => ?_
              subst hr
              (try simp (implicitDefEqProofs := false) (decide := true) only [go_sem, Nat.reduceAdd, Nat.reduceMul, Nat.reduceSub, Int.reduceToNat, encFlowMoveV_set0])
              refine hK _ _ ?_; clear hK K
              refine qthen_normal ?_
              refine AWP.cond (acond_split (fun hc => ?_) (fun hc => ?_))
              · replace h := bif_t h hc
                refine AWP.seq ?_
                refine AWP.region rfl ?_; intro K hK
                (try simp (implicitDefEqProofs := false) (decide := true) only [go_sem, Nat.reduceAdd, Nat.reduceMul, Nat.reduceSub, Int.reduceToNat, encFlowMoveV_set0])
                refine hK _ _ ?_; clear hK K
                refine qthen_normal ?_
                refine AWP.region rfl ?_; intro K hK
                (try simp (implicitDefEqProofs := false) (decide := true) only [go_sem, Nat.reduceAdd, Nat.reduceMul, Nat.reduceSub, Int.reduceToNat, encFlowMoveV_set0])
                obtain ⟨hk, h⟩ := chk_in h
                (repeat (refine ⟨by first | omega | (simp only [List.length_take, List.length_drop, List.length_append]; omega), ?_⟩)); try simp (implicitDefEqProofs := false) (decide := true) only [go_sem, Nat.reduceAdd, Nat.reduceMul, Nat.reduceSub, Int.reduceToNat]
                refine hK _ _ ?_; clear hK K
                (try simp (implicitDefEqProofs := false) (decide := true) only [go_sem, Nat.reduceAdd, Nat.reduceMul, Nat.reduceSub, Int.reduceToNat, Try.results41, encFlowMoveV_set0])
                refine hK _ _ ?_; clear hK K
                refine qblock_normal ?_
                refine qthen_normal ?_
                refine AWP.region rfl ?_; intro K hK
                (try simp (implicitDefEqProofs := false) (decide := true) only [go_sem, Nat.reduceAdd, Nat.reduceMul, Nat.reduceSub, Int.reduceToNat, encFlowMoveV_set0])
                refine hK _ _ ?_; clear hK K
                refine qthen_normal ?_
                obtain rfl := some_eq h
                refine ⟨(k9 + 1, ((mset o2_12 x_11.From (FlowMove.mk ((k9 : Nat) : Int) false)), (o4_13 ++ [x_11.From])), (ver14 + 1)), ⟨by dsimp only; omega, cont_next hJ9⟩, by dsimp only; omega, ?_, ?_⟩
                · (simp (implicitDefEqProofs := false) (decide := true) only [go_sem, Nat.reduceAdd, Nat.reduceMul, Nat.reduceSub, Int.reduceToNat, mpE_nil, Int.natCast_zero, List.replicate_zero, List.length_take, List.length_drop, AVal.own.injEq, reduceCtorEq, Int.reduceAdd, hw9, encFlowMoveV_set0] <;> omega)
                · (simp (implicitDefEqProofs := false) (decide := true) only [go_sem, Nat.reduceAdd, Nat.reduceMul, Nat.reduceSub, Int.reduceToNat, mpE_nil, Int.natCast_zero, List.replicate_zero, List.length_take, List.length_drop, AVal.own.injEq, reduceCtorEq, Int.reduceAdd, hw9, encFlowMoveV_set0] <;> omega)
              · replace h := bif_f h hc
                refine AWP.skip ?_
                (try simp (implicitDefEqProofs := false) (decide := true) only [go_sem, Nat.reduceAdd, Nat.reduceMul, Nat.reduceSub, Int.reduceToNat, Try.results41, encFlowMoveV_set0])
                refine hK _ _ ?_; clear hK K
                refine qblock_normal ?_
                refine qthen_normal ?_
                refine AWP.region rfl ?_; intro K hK
                (try simp (implicitDefEqProofs := false) (decide := true) only [go_sem, Nat.reduceAdd, Nat.reduceMul, Nat.reduceSub, Int.reduceToNat, encFlowMoveV_set0])
                refine hK _ _ ?_; clear hK K
                refine qthen_normal ?_
                obtain rfl := some_eq h
                refine ⟨(k9 + 1, (o2_12, o4_13), ver14), ⟨by dsimp only; omega, cont_next hJ9⟩, by dsimp only; omega, ?_, ?_⟩
                · (simp (implicitDefEqProofs := false) (decide := true) only [go_sem, Nat.reduceAdd, Nat.reduceMul, Nat.reduceSub, Int.reduceToNat, mpE_nil, Int.natCast_zero, List.replicate_zero, List.length_take, List.length_drop, AVal.own.injEq, reduceCtorEq, Int.reduceAdd, hw9, encFlowMoveV_set0] <;> omega)
                · (simp (implicitDefEqProofs := false) (decide := true) only [go_sem, Nat.reduceAdd, Nat.reduceMul, Nat.reduceSub, Int.reduceToNat, mpE_nil, Int.natCast_zero, List.replicate_zero, List.length_take, List.length_drop, AVal.own.injEq, reduceCtorEq, Int.reduceAdd, hw9, encFlowMoveV_set0] <;> omega)
            · replace h := bif_f h hc
              (try simp (implicitDefEqProofs := false) (decide := true) only [go_sem, Nat.reduceAdd, Nat.reduceMul, Nat.reduceSub, Int.reduceToNat, hc, Bool.not_true, encFlowMoveV_set0])
              refine hK _ _ ?_; clear hK K
              refine qthen_normal ?_
              refine AWP.cond (acond_false ?_)
              refine AWP.skip ?_
              (try simp (implicitDefEqProofs := false) (decide := true) only [go_sem, Nat.reduceAdd, Nat.reduceMul, Nat.reduceSub, Int.reduceToNat, Try.results41, encFlowMoveV_set0])
              refine hK _ _ ?_; clear hK K
              refine qblock_normal ?_
              refine qthen_normal ?_
              refine AWP.region rfl ?_; intro K hK
              (try simp (implicitDefEqProofs := false) (decide := true) only [go_sem, Nat.reduceAdd, Nat.reduceMul, Nat.reduceSub, Int.reduceToNat, encFlowMoveV_set0])
              refine hK _ _ ?_; clear hK K
              refine qthen_normal ?_
              obtain rfl := some_eq h
              refine ⟨(k9 + 1, (o2_12, o4_13), ver14), ⟨by dsimp only; omega, cont_next hJ9⟩, by dsimp only; omega, ?_, ?_⟩
              · (simp (implicitDefEqProofs := false) (decide := true) only [go_sem, Nat.reduceAdd, Nat.reduceMul, Nat.reduceSub, Int.reduceToNat, mpE_nil, Int.natCast_zero, List.replicate_zero, List.length_take, List.length_drop, AVal.own.injEq, reduceCtorEq, Int.reduceAdd, hw9, encFlowMoveV_set0] <;> omega)
              · (simp (implicitDefEqProofs := false) (decide := true) only [go_sem, Nat.reduceAdd, Nat.reduceMul, Nat.reduceSub, Int.reduceToNat, mpE_nil, Int.natCast_zero, List.replicate_zero, List.length_take, List.length_drop, AVal.own.injEq, reduceCtorEq, Int.reduceAdd, hw9, encFlowMoveV_set0] <;> omega)
          · replace h := bif_f h hc
            refine AWP.skip ?_
            refine qblock_normal ?_
            refine qthen_normal ?_
            refine AWP.region rfl ?_; intro K hK
            (try simp (implicitDefEqProofs := false) (decide := true) only [go_sem, Nat.reduceAdd, Nat.reduceMul, Nat.reduceSub, Int.reduceToNat, encFlowMoveV_set0])
            refine hK _ _ ?_; clear hK K
            refine qthen_normal ?_
            obtain rfl := some_eq h
            refine ⟨(k9 + 1, (o2_12, o4_13), ver14), ⟨by dsimp only; omega, cont_next hJ9⟩, by dsimp only; omega, ?_, ?_⟩
            · (simp (implicitDefEqProofs := false) (decide := true) only [go_sem, Nat.reduceAdd, Nat.reduceMul, Nat.reduceSub, Int.reduceToNat, mpE_nil, Int.natCast_zero, List.replicate_zero, List.length_take, List.length_drop, AVal.own.injEq, reduceCtorEq, Int.reduceAdd, hw9, encFlowMoveV_set0] <;> omega)
            · (simp (implicitDefEqProofs := false) (decide := true) only [go_sem, Nat.reduceAdd, Nat.reduceMul, Nat.reduceSub, Int.reduceToNat, mpE_nil, Int.natCast_zero, List.replicate_zero, List.length_take, List.length_drop, AVal.own.injEq, reduceCtorEq, Int.reduceAdd, hw9, encFlowMoveV_set0] <;> omega)
      · obtain rfl := for_nil hJ9 (fun hl => by have := of_decide_eq_false hc; omega)
        have h := on_next hO9; try dsimp only at h
        have hkl : l.length = k9 := by have := of_decide_eq_false hc; omega
        subst hkl
        refine AWP.exit ?_
        refine qthen_exit ?_
        refine qthen_exit ?_
        refine qblock_same ?_
        refine qblock_normal ?_
        refine qthen_normal ?_
        obtain rfl := some_eq h
        refine ⟨(m4, (o2_7, o4_8), ver9), cont_next hJ4, by dsimp only; omega, ?_, ?_⟩
        · (simp (implicitDefEqProofs := false) (decide := true) only [go_sem, Nat.reduceAdd, Nat.reduceMul, Nat.reduceSub, Int.reduceToNat, mpE_nil, Int.natCast_zero, List.replicate_zero, List.length_take, List.length_drop, AVal.own.injEq, reduceCtorEq, Int.reduceAdd, encFlowMoveV_set0] <;> omega)
        · (simp (implicitDefEqProofs := false) (decide := true) only [go_sem, Nat.reduceAdd, Nat.reduceMul, Nat.reduceSub, Int.reduceToNat, mpE_nil, Int.natCast_zero, List.replicate_zero, List.length_take, List.length_drop, AVal.own.injEq, reduceCtorEq, Int.reduceAdd, encFlowMoveV_set0] <;> omega)
    · replace h := bif_f h hc
      refine AWP.exit ?_
      refine qthen_exit ?_
      refine qthen_exit ?_
      obtain ⟨q21, hq, h⟩ := bindE h
      obtain rfl := some_eq h
      obtain rfl := cont_ret hJ4
      replace h := hq.trans (on_ret hO4)
      refine qblock_same ?_
      refine qthen_normal ?_
      refine AWP.seq ?_
      refine AWP.region rfl ?_; intro K hK
      (try simp (implicitDefEqProofs := false) (decide := true) only [go_sem, Nat.reduceAdd, Nat.reduceMul, Nat.reduceSub, Int.reduceToNat, encFlowMoveV_set0])
      refine hK _ _ ?_; clear hK K
      refine qthen_normal ?_
      refine AWP.ret ?_
      (try simp (implicitDefEqProofs := false) (decide := true) only [go_sem, Nat.reduceAdd, Nat.reduceMul, Nat.reduceSub, Int.reduceToNat, Try.results30, encFlowMoveV_set0])
      refine hK _ _ ?_; clear hK K
      refine qthen_normal ?_
      refine AWP.seq ?_
      refine AWP.region rfl ?_; intro K hK
      (try simp (implicitDefEqProofs := false) (decide := true) only [go_sem, Nat.reduceAdd, Nat.reduceMul, Nat.reduceSub, Int.reduceToNat, encFlowMoveV_set0])
      refine hK _ _ ?_; clear hK K
      refine qthen_normal ?_
      refine AWP.seq ?_
      refine AWP.seq ?_
      refine AWP.region rfl ?_; intro K hK
      (try simp (implicitDefEqProofs := false) (decide := true) only [go_sem, Nat.reduceAdd, Nat.reduceMul, Nat.reduceSub, Int.reduceToNat, encFlowMoveV_set0])
      intro hm
      refine hK _ _ ?_; clear hK K
      refine qthen_normal ?_
      refine AWP.block ?_
      refine AWP.ghost 8 1 rfl (by decide) ?_
      obtain ⟨o19, hJ19, hO19⟩ := bindE h
      clear h
      refine AWP.loopW (ι := Nat × ((List Int)) × (Nat)) (fun zz => [(7, .map 2), (8, .own 6 zz.2.2 0 zz.2.1.length), (25, .sl 4 (l.map encApiEdge)), (26, .int .i64 ((l.length : Nat) : Int)), (27, .int .i64 ((zz.1 : Nat) : Int))]) (fun zz => [.gone, .gone, .mp (mpE encFlowMoveV o2_2), .gone, .gone, .gone, .row zz.2.2 1 (zz.2.1.map intC)]) (fun zz => zz.1 ≤ l.length ∧ forIx (flow_Cut_b4 o2_2) zz.1 ((l).drop zz.1) zz.2.1 = some o19) (fun zz => l.length - zz.1) (0, [], 0) ⟨Nat.zero_le _, hJ19⟩ (by (simp (implicitDefEqProofs := false) (decide := true) only [go_sem, Nat.reduceAdd, Nat.reduceMul, Nat.reduceSub, Int.reduceToNat, mpE_nil, Int.natCast_zero, List.replicate_zero, List.length_take, List.length_drop, AVal.own.injEq, reduceCtorEq, Int.reduceAdd, encFlowMoveV_set0] <;> omega)) (by (simp (implicitDefEqProofs := false) (decide := true) only [go_sem, Nat.reduceAdd, Nat.reduceMul, Nat.reduceSub, Int.reduceToNat, mpE_nil, Int.natCast_zero, List.replicate_zero, List.length_take, List.length_drop, AVal.own.injEq, reduceCtorEq, Int.reduceAdd, encFlowMoveV_set0] <;> omega)) (fun x => ⟨rfl, rfl, rfl⟩) ?_
      clear hJ19
      rintro ⟨k19, out18, ver19⟩ ⟨hk19, hJ19⟩
      dsimp only at hk19 hJ19 ⊢
      refine AWP.seq ?_
      refine AWP.region rfl ?_; intro K hK
      (try simp (implicitDefEqProofs := false) (decide := true) only [go_sem, Nat.reduceAdd, Nat.reduceMul, Nat.reduceSub, Int.reduceToNat, encFlowMoveV_set0])
      refine hK _ _ ?_; clear hK K
      refine qthen_normal ?_
      refine AWP.seq ?_
      refine AWP.cond (acond_split (fun hc => ?_) (fun hc => ?_))
      · have hlt19 : k19 < l.length := by have := of_decide_eq_true hc; omega
        obtain ⟨x_21, b19, hx19_, h, hJ19⟩ := for_cons hJ19 hlt19
        have hx19 := idxL_nat hx19_
        have hw19 : IntKind.i64.wrap (((k19 : Nat) : Int) + 1) = (((k19 : Nat) : Int) + (1 : Int)) := by rw [wrap_i64] <;> omega
        unfold flow_Cut_b4 at h; try dsimp only at h
        refine AWP.skip ?_
        refine qthen_normal ?_
        refine AWP.seq ?_
        refine AWP.block ?_
        refine AWP.seq ?_
        refine AWP.region rfl ?_; intro K hK
        (try simp (implicitDefEqProofs := false) (decide := true) only [go_sem, Nat.reduceAdd, Nat.reduceMul, Nat.reduceSub, Int.reduceToNat, encFlowMoveV_set0])
        refine AIdx.of (f := encApiEdge) (l := l) hx19 ?_
        (try simp (implicitDefEqProofs := false) (decide := true) only [go_sem, Nat.reduceAdd, Nat.reduceMul, Nat.reduceSub, Int.reduceToNat, encFlowMoveV_set0])
        refine hK _ _ ?_; clear hK K
        refine qthen_normal ?_
        refine AWP.seq ?_
        refine AWP.region rfl ?_; intro K hK
        (try simp (implicitDefEqProofs := false) (decide := true) only [go_sem, Nat.reduceAdd, Nat.reduceMul, Nat.reduceSub, Int.reduceToNat, encFlowMoveV_set0])
        refine ALook.of (f := encFlowMoveV) (m := o2_2) (d := (FlowMove.mk (0 : Int) false)) rfl ?_
        (try simp (implicitDefEqProofs := false) (decide := true) only [go_sem, Nat.reduceAdd, Nat.reduceMul, Nat.reduceSub, Int.reduceToNat, encFlowMoveV_set0])
        refine hK _ _ ?_; clear hK K
        refine qthen_normal ?_
        refine AWP.seq ?_
        refine AWP.region rfl ?_; intro K hK
        (try simp (implicitDefEqProofs := false) (decide := true) only [go_sem, Nat.reduceAdd, Nat.reduceMul, Nat.reduceSub, Int.reduceToNat, encFlowMoveV_set0])
        refine ALook.of (f := encFlowMoveV) (m := o2_2) (d := (FlowMove.mk (0 : Int) false)) rfl ?_
        (try simp (implicitDefEqProofs := false) (decide := true) only [go_sem, Nat.reduceAdd, Nat.reduceMul, Nat.reduceSub, Int.reduceToNat, encFlowMoveV_set0])
        refine hK _ _ ?_; clear hK K
        refine qthen_normal ?_
        refine AWP.seq ?_
        refine AWP.region rfl ?_; intro K hK
        (try simp (implicitDefEqProofs := false) (decide := true) only [go_sem, Nat.reduceAdd, Nat.reduceMul, Nat.reduceSub, Int.reduceToNat, encFlowMoveV_set0])
        refine aguardK_split (fun hc => ?_) (fun hc => ?_)
        · replace h := bif_t h hc
          (try simp (implicitDefEqProofs := false) (decide := true) only [go_sem, Nat.reduceAdd, Nat.reduceMul, Nat.reduceSub, Int.reduceToNat, hc, encFlowMoveV_set0])
          refine hK _ _ ?_; clear hK K
          refine qthen_normal ?_
          refine AWP.cond (acond_split (fun hc => ?_) (fun hc => ?_))
          · replace h := bif_t h hc
            refine AWP.region rfl ?_; intro K hK
            (try simp (implicitDefEqProofs := false) (decide := true) only [go_sem, Nat.reduceAdd, Nat.reduceMul, Nat.reduceSub, Int.reduceToNat, encFlowMoveV_set0])
            obtain ⟨hk, h⟩ := chk_in h
            (repeat (refine ⟨by first | omega | (simp only [List.length_take, List.length_drop, List.length_append]; omega), ?_⟩)); try simp (implicitDefEqProofs := false) (decide := true) only [go_sem, Nat.reduceAdd, Nat.reduceMul, Nat.reduceSub, Int.reduceToNat]
            refine hK _ _ ?_; clear hK K
            refine qblock_normal ?_
            refine qthen_normal ?_
            refine AWP.region rfl ?_; intro K hK
            (try simp (implicitDefEqProofs := false) (decide := true) only [go_sem, Nat.reduceAdd, Nat.reduceMul, Nat.reduceSub, Int.reduceToNat, encFlowMoveV_set0])
            refine hK _ _ ?_; clear hK K
            refine qthen_normal ?_
            obtain rfl := some_eq h
            refine ⟨(k19 + 1, (out18 ++ [((k19 : Nat) : Int)]), (ver19 + 1)), ⟨by dsimp only; omega, cont_next hJ19⟩, by dsimp only; omega, ?_, ?_⟩
            · (simp (implicitDefEqProofs := false) (decide := true) only [go_sem, Nat.reduceAdd, Nat.reduceMul, Nat.reduceSub, Int.reduceToNat, mpE_nil, Int.natCast_zero, List.replicate_zero, List.length_take, List.length_drop, AVal.own.injEq, reduceCtorEq, Int.reduceAdd, hw19, encFlowMoveV_set0] <;> omega)
            · (simp (implicitDefEqProofs := false) (decide := true) only [go_sem, Nat.reduceAdd, Nat.reduceMul, Nat.reduceSub, Int.reduceToNat, mpE_nil, Int.natCast_zero, List.replicate_zero, List.length_take, List.length_drop, AVal.own.injEq, reduceCtorEq, Int.reduceAdd, hw19, encFlowMoveV_set0] <;> omega)
          · replace h := bif_f h hc
            refine AWP.skip ?_
            refine qblock_normal ?_
            refine qthen_normal ?_
            refine AWP.region rfl ?_; intro K hK
            (try simp (implicitDefEqProofs := false) (decide := true) only [go_sem, Nat.reduceAdd, Nat.reduceMul, Nat.reduceSub, Int.reduceToNat, encFlowMoveV_set0])
            refine hK _ _ ?_; clear hK K
            refine qthen_normal ?_
            obtain rfl := some_eq h
            refine ⟨(k19 + 1, out18, ver19), ⟨by dsimp only; omega, cont_next hJ19⟩, by dsimp only; omega, ?_, ?_⟩
            · (simp (implicitDefEqProofs := false) (decide := true) only [go_sem, Nat.reduceAdd, Nat.reduceMul, Nat.reduceSub, Int.reduceToNat, mpE_nil, Int.natCast_zero, List.replicate_zero, List.length_take, List.length_drop, AVal.own.injEq, reduceCtorEq, Int.reduceAdd, hw19, encFlowMoveV_set0] <;> omega)
            · (simp (implicitDefEqProofs := false) (decide := true) only [go_sem, Nat.reduceAdd, Nat.reduceMul, Nat.reduceSub, Int.reduceToNat, mpE_nil, Int.natCast_zero, List.replicate_zero, List.length_take, List.length_drop, AVal.own.injEq, reduceCtorEq, Int.reduceAdd, hw19, encFlowMoveV_set0] <;> omega)
        · replace h := bif_f h hc
          (try simp (implicitDefEqProofs := false) (decide := true) only [go_sem, Nat.reduceAdd, Nat.reduceMul, Nat.reduceSub, Int.reduceToNat, hc, Bool.not_true, encFlowMoveV_set0])
          refine hK _ _ ?_; clear hK K
          refine qthen_normal ?_
          refine AWP.cond (acond_false ?_)
          refine AWP.skip ?_
          refine qblock_normal ?_
          refine qthen_normal ?_
          refine AWP.region rfl ?_; intro K hK
          (try simp (implicitDefEqProofs := false) (decide := true) only [go_sem, Nat.reduceAdd, Nat.reduceMul, Nat.reduceSub, Int.reduceToNat, encFlowMoveV_set0])
          refine hK _ _ ?_; clear hK K
          refine qthen_normal ?_
          obtain rfl := some_eq h
          refine ⟨(k19 + 1, out18, ver19), ⟨by dsimp only; omega, cont_next hJ19⟩, by dsimp only; omega, ?_, ?_⟩
          · (simp (implicitDefEqProofs := false) (decide := true) only [go_sem, Nat.reduceAdd, Nat.reduceMul, Nat.reduceSub, Int.reduceToNat, mpE_nil, Int.natCast_zero, List.replicate_zero, List.length_take, List.length_drop, AVal.own.injEq, reduceCtorEq, Int.reduceAdd, hw19, encFlowMoveV_set0] <;> omega)
          · (simp (implicitDefEqProofs := false) (decide := true) only [go_sem, Nat.reduceAdd, Nat.reduceMul, Nat.reduceSub, Int.reduceToNat, mpE_nil, Int.natCast_zero, List.replicate_zero, List.length_take, List.length_drop, AVal.own.injEq, reduceCtorEq, Int.reduceAdd, hw19, encFlowMoveV_set0] <;> omega)
      · obtain rfl := for_nil hJ19 (fun hl => by have := of_decide_eq_false hc; omega)
        have h := on_next hO19; try dsimp only at h
        have hkl : l.length = k19 := by have := of_decide_eq_false hc; omega
        subst hkl
        refine AWP.exit ?_
        refine qthen_exit ?_
        refine qthen_exit ?_
        refine qblock_same ?_
        refine qthen_normal ?_
        refine AWP.seq ?_
        refine AWP.region rfl ?_; intro K hK
        (try simp (implicitDefEqProofs := false) (decide := true) only [go_sem, Nat.reduceAdd, Nat.reduceMul, Nat.reduceSub, Int.reduceToNat, encFlowMoveV_set0])
        refine hK _ _ ?_; clear hK K
        refine qthen_normal ?_
        refine AWP.ret ?_
        obtain rfl := some_eq h
        simp (implicitDefEqProofs := false) (decide := true) only [go_sem, Nat.reduceAdd, Nat.reduceMul, Nat.reduceSub, Int.reduceToNat, mpE_nil, Int.natCast_zero, List.replicate_zero, List.length_take, List.length_drop, AVal.own.injEq, reduceCtorEq, Int.reduceAdd, nle2, nle1, nle0, nleA, nleL, Try.results21, encFlowMoveV_set0]
theorem flow_Cut_spec (l : List ApiEdge) (s_ : Int) (t : Int) {r : (List Int)} (h : flow_Cut l s_ t = some r) : PureFn Try.prog 21 [.sl 4 (l.map encApiEdge), .int .i64 s_, .int .i64 t] (· = .sl 1 (r.map intC)) := (flow_Cut_fresh l s_ t h).pure

def ref06_Same_b1 (b : List Int) (k0 : Nat) (x_2 : Int) (sv : Unit) : Option (Out (Unit) (Bool)) :=
  (idxL b ((k0 : Nat) : Int)).bind fun x_3 => (bif (decide (x_2 ≠ x_3)) then some (Out.ret false) else some (Out.next ()))

def ref06_Same (a : List Int) (b : List Int) : Option (Bool) :=
  (bif (decide (((a.length : Nat) : Int) ≠ ((b.length : Nat) : Int))) then some false else (forIx (ref06_Same_b1 b) 0 a ()).bind fun o0 => o0.on fun s0 => some true)

theorem ref06_Same_spec (a : List Int) (b : List Int) {r : Bool} (h : ref06_Same a b = some r) : PureFn Try.prog 20 [.sl 1 (a.map intC), .sl 1 (b.map intC)] (· = .bool r) := by
  refine PureFn.nle (PureFn.intro Try.func20 rfl rfl (by show _ ≤ 26; simp) ?_)
  unfold ref06_Same at h
  (try simp (implicitDefEqProofs := false) (decide := true) only [go_sem, Nat.reduceAdd, Nat.reduceMul, Nat.reduceSub, Int.reduceToNat])
  refine AWP.seq ?_
  refine AWP.region rfl ?_; intro K hK
  (try simp (implicitDefEqProofs := false) (decide := true) only [go_sem, Nat.reduceAdd, Nat.reduceMul, Nat.reduceSub, Int.reduceToNat])
  refine hK _ _ ?_; clear hK K
  refine qthen_normal ?_
  refine AWP.seq ?_
  refine AWP.seq ?_
  refine AWP.region rfl ?_; intro K hK
  (try simp (implicitDefEqProofs := false) (decide := true) only [go_sem, Nat.reduceAdd, Nat.reduceMul, Nat.reduceSub, Int.reduceToNat])
  intro hm
  intro hm
  refine hK _ _ ?_; clear hK K
  refine qthen_normal ?_
  refine AWP.cond (acond_split (fun hc => ?_) (fun hc => ?_))
  · replace h := bif_t h hc
    refine AWP.seq ?_
    refine AWP.region rfl ?_; intro K hK
    (try simp (implicitDefEqProofs := false) (decide := true) only [go_sem, Nat.reduceAdd, Nat.reduceMul, Nat.reduceSub, Int.reduceToNat])
    refine hK _ _ ?_; clear hK K
    refine qthen_normal ?_
    refine AWP.ret ?_
    refine qthen_ret ?_
    obtain rfl := some_eq h
    simp (implicitDefEqProofs := false) (decide := true) only [go_sem, Nat.reduceAdd, Nat.reduceMul, Nat.reduceSub, Int.reduceToNat, mpE_nil, Int.natCast_zero, List.replicate_zero, List.length_take, List.length_drop, AVal.own.injEq, reduceCtorEq, Int.reduceAdd, nle2, nle1, nle0, nleA, nleL, Try.results20]
  · replace h := bif_f h hc
    refine AWP.skip ?_
    refine qthen_normal ?_
    refine AWP.seq ?_
    refine AWP.seq ?_
    refine AWP.region rfl ?_; intro K hK
    (try simp (implicitDefEqProofs := false) (decide := true) only [go_sem, Nat.reduceAdd, Nat.reduceMul, Nat.reduceSub, Int.reduceToNat])
    refine hK _ _ ?_; clear hK K
    refine qthen_normal ?_
    refine AWP.block ?_
    obtain ⟨o0, hJ0, hO0⟩ := bindE h
    clear h
    refine AWP.loopW (ι := Nat × (Unit) × (Unit)) (fun zz => [(0, .sl 1 (a.map intC)), (1, .sl 1 (b.map intC)), (5, .int .i64 ((zz.1 : Nat) : Int))]) (fun zz => []) (fun zz => zz.1 ≤ a.length ∧ forIx (ref06_Same_b1 b) zz.1 ((a).drop zz.1) zz.2.1 = some o0) (fun zz => a.length - zz.1) (0, (), ()) ⟨Nat.zero_le _, hJ0⟩ (by (simp (implicitDefEqProofs := false) (decide := true) only [go_sem, Nat.reduceAdd, Nat.reduceMul, Nat.reduceSub, Int.reduceToNat, mpE_nil, Int.natCast_zero, List.replicate_zero, List.length_take, List.length_drop, AVal.own.injEq, reduceCtorEq, Int.reduceAdd] <;> omega)) (by (simp (implicitDefEqProofs := false) (decide := true) only [go_sem, Nat.reduceAdd, Nat.reduceMul, Nat.reduceSub, Int.reduceToNat, mpE_nil, Int.natCast_zero, List.replicate_zero, List.length_take, List.length_drop, AVal.own.injEq, reduceCtorEq, Int.reduceAdd] <;> omega)) (fun x => ⟨rfl, rfl, rfl⟩) ?_
    clear hJ0
    rintro ⟨k0, ⟨⟩, ⟨⟩⟩ ⟨hk0, hJ0⟩
    dsimp only at hk0 hJ0 ⊢
    refine AWP.seq ?_
    refine AWP.seq ?_
    refine AWP.region rfl ?_; intro K hK
    (try simp (implicitDefEqProofs := false) (decide := true) only [go_sem, Nat.reduceAdd, Nat.reduceMul, Nat.reduceSub, Int.reduceToNat])
    intro hm
    refine hK _ _ ?_; clear hK K
    refine qthen_normal ?_
    refine AWP.cond (acond_split (fun hc => ?_) (fun hc => ?_))
    · have hlt0 : k0 < a.length := by have := of_decide_eq_true hc; omega
      obtain ⟨x_2, b0, hx0_, h, hJ0⟩ := for_cons hJ0 hlt0
      have hx0 := idxL_nat hx0_
      have hw0 : IntKind.i64.wrap (((k0 : Nat) : Int) + 1) = (((k0 : Nat) : Int) + (1 : Int)) := by rw [wrap_i64] <;> omega
      unfold ref06_Same_b1 at h; try dsimp only at h
      refine AWP.skip ?_
      refine qthen_normal ?_
      refine AWP.seq ?_
      refine AWP.block ?_
      refine AWP.seq ?_
      refine AWP.draw Try.mixed (by kernel_rfl) ?_; intro K hK
      (try simp (implicitDefEqProofs := false) (decide := true) only [go_sem, Nat.reduceAdd, Nat.reduceMul, Nat.reduceSub, Int.reduceToNat])
      refine AIdx.of (f := intC) (l := a) hx0 ?_
      (try simp (implicitDefEqProofs := false) (decide := true) only [go_sem, Nat.reduceAdd, Nat.reduceMul, Nat.reduceSub, Int.reduceToNat])
      obtain ⟨x_3, hx_3, h⟩ := bindE h
      refine AIdx.of (f := intC) (l := b) hx_3 ?_
      (try simp (implicitDefEqProofs := false) (decide := true) only [go_sem, Nat.reduceAdd, Nat.reduceMul, Nat.reduceSub, Int.reduceToNat])
      refine hK _ _ _ (by kernel_rfl) ?_; clear hK K
      refine qthen_normal ?_
      refine AWP.cond (acond_split (fun hc => ?_) (fun hc => ?_))
      · replace h := bif_t h hc
        refine AWP.seq ?_
        refine AWP.region rfl ?_; intro K hK
        (try simp (implicitDefEqProofs := false) (decide := true) only [go_sem, Nat.reduceAdd, Nat.reduceMul, Nat.reduceSub, Int.reduceToNat])
        refine hK _ _ ?_; clear hK K
        refine qthen_normal ?_
        refine AWP.ret ?_
        refine qblock_ret ?_
        refine qthen_ret ?_
        refine qthen_ret ?_
        obtain rfl := some_eq h
        obtain rfl := cont_ret hJ0
        replace h := on_ret hO0
        refine qblock_ret ?_
        refine qthen_ret ?_
        obtain rfl := some_eq h
        simp (implicitDefEqProofs := false) (decide := true) only [go_sem, Nat.reduceAdd, Nat.reduceMul, Nat.reduceSub, Int.reduceToNat, mpE_nil, Int.natCast_zero, List.replicate_zero, List.length_take, List.length_drop, AVal.own.injEq, reduceCtorEq, Int.reduceAdd, nle2, nle1, nle0, nleA, nleL, Try.results20]
      · replace h := bif_f h hc
        refine AWP.skip ?_
        refine qblock_normal ?_
        refine qthen_normal ?_
        refine AWP.region rfl ?_; intro K hK
        (try simp (implicitDefEqProofs := false) (decide := true) only [go_sem, Nat.reduceAdd, Nat.reduceMul, Nat.reduceSub, Int.reduceToNat])
        refine hK _ _ ?_; clear hK K
        refine qthen_normal ?_
        obtain rfl := some_eq h
        refine ⟨(k0 + 1, (), ()), ⟨by dsimp only; omega, cont_next hJ0⟩, by dsimp only; omega, ?_, ?_⟩
        · (simp (implicitDefEqProofs := false) (decide := true) only [go_sem, Nat.reduceAdd, Nat.reduceMul, Nat.reduceSub, Int.reduceToNat, mpE_nil, Int.natCast_zero, List.replicate_zero, List.length_take, List.length_drop, AVal.own.injEq, reduceCtorEq, Int.reduceAdd, hw0] <;> omega)
        · (simp (implicitDefEqProofs := false) (decide := true) only [go_sem, Nat.reduceAdd, Nat.reduceMul, Nat.reduceSub, Int.reduceToNat, mpE_nil, Int.natCast_zero, List.replicate_zero, List.length_take, List.length_drop, AVal.own.injEq, reduceCtorEq, Int.reduceAdd, hw0] <;> omega)
    · obtain rfl := for_nil hJ0 (fun hl => by have := of_decide_eq_false hc; omega)
      have h := on_next hO0; try dsimp only at h
      have hkl : a.length = k0 := by have := of_decide_eq_false hc; omega
      subst hkl
      refine AWP.exit ?_
      refine qthen_exit ?_
      refine qthen_exit ?_
      refine qblock_same ?_
      refine qthen_normal ?_
      refine AWP.seq ?_
      refine AWP.region rfl ?_; intro K hK
      (try simp (implicitDefEqProofs := false) (decide := true) only [go_sem, Nat.reduceAdd, Nat.reduceMul, Nat.reduceSub, Int.reduceToNat])
      refine hK _ _ ?_; clear hK K
      refine qthen_normal ?_
      refine AWP.ret ?_
      obtain rfl := some_eq h
      simp (implicitDefEqProofs := false) (decide := true) only [go_sem, Nat.reduceAdd, Nat.reduceMul, Nat.reduceSub, Int.reduceToNat, mpE_nil, Int.natCast_zero, List.replicate_zero, List.length_take, List.length_drop, AVal.own.injEq, reduceCtorEq, Int.reduceAdd, nle2, nle1, nle0, nleA, nleL, Try.results20]

end
end Go.Proofs.Ytacfmeobdobhhaa
