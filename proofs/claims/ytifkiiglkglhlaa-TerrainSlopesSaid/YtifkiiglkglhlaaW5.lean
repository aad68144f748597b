/-
  What functions of the program compute, as plain Lean functions, and the walks that prove it; printed by a small program of our own (wip/walk.py).
-/
import Derived.Test.YtifkiiglkglhlaaW4
namespace Go.Proofs.Ytifkiiglkglhlaa
open Go Go.Ab
attribute [local irreducible] AWP ACall DCall PureFn Go.Ab.Sub alist dlist AIdx AElem ALook ANext
set_option maxRecDepth 100000
set_option maxHeartbeats 4000000
set_option linter.unusedSimpArgs false
set_option linter.unusedVariables false
noncomputable section
def law10_TerrainFinds (m : ApiMap) (id_ : Int) : Option (Bool) :=
  (law10_alive).bind fun y1 => (bif (!y1) then some false else (ref10_Light m).bind fun y2 => (bif (!y2) then some true else (terrain_Node m id_).bind fun y3 => (ref10_Node m id_).bind fun y4 => (terrain_Lift m id_).bind fun y5 => (ref10_Lift m id_).bind fun y6 => (terrain_Run m id_).bind fun y7 => (ref10_Run m id_).bind fun y8 => (bif ((decide (y3.1.ID = y4.1.ID)) && (decide (y3.1.Alt = y4.1.Alt))) then (bif (y3.2 == y4.2) then (bif ((decide (y5.1.ID = y6.1.ID)) && ((decide (y5.1.Operator = y6.1.Operator)) && ((decide (y5.1.From = y6.1.From)) && ((decide (y5.1.To = y6.1.To)) && ((decide (y5.1.Length = y6.1.Length)) && ((decide (y5.1.Speed = y6.1.Speed)) && ((decide (y5.1.Seats = y6.1.Seats)) && (decide (y5.1.Spacing = y6.1.Spacing))))))))) then (bif (y5.2 == y6.2) then (bif ((decide (y7.1.ID = y8.1.ID)) && ((decide (y7.1.Operator = y8.1.Operator)) && ((decide (y7.1.From = y8.1.From)) && ((decide (y7.1.To = y8.1.To)) && ((decide (y7.1.Grade = y8.1.Grade)) && ((decide (y7.1.Zone = y8.1.Zone)) && (decide (y7.1.Length = y8.1.Length)))))))) then some (y7.2 == y8.2) else some false) else some false) else some false) else some false) else some false)))

theorem law10_TerrainFinds_spec (m : ApiMap) (id_ : Int) {r : Bool} (h : law10_TerrainFinds m id_ = some r) : PureFn Try.prog 4 [.agg (encApiMap m), .int .i64 id_] (· = .bool r) := by
  refine PureFn.nle (PureFn.intro Try.func4 rfl rfl (by show _ ≤ 86; simp) ?_)
  unfold law10_TerrainFinds at h
  (try simp (implicitDefEqProofs := false) (decide := true) only [go_sem, Nat.reduceAdd, Nat.reduceMul, Nat.reduceSub, Int.reduceToNat])
  refine AWP.seq ?_
  refine AWP.region rfl ?_; intro K hK
  (try simp (implicitDefEqProofs := false) (decide := true) only [go_sem, Nat.reduceAdd, Nat.reduceMul, Nat.reduceSub, Int.reduceToNat])
  refine hK _ _ ?_; clear hK K
  refine qthen_normal ?_
  refine AWP.seq ?_
  refine AWP.seq ?_
  refine AWP.region rfl ?_; intro K hK
  (try simp (implicitDefEqProofs := false) (decide := true) only [go_sem, Nat.reduceAdd, Nat.reduceMul, Nat.reduceSub, Int.reduceToNat])
  obtain ⟨y1, hy1, h⟩ := bindE h
  refine ACall.pure Try.call11 (law10_alive_spec hy1) rfl fun _ hr => ?_
  subst hr
  (try simp (implicitDefEqProofs := false) (decide := true) only [go_sem, Nat.reduceAdd, Nat.reduceMul, Nat.reduceSub, Int.reduceToNat])
  refine hK _ _ ?_; clear hK K
  refine qthen_normal ?_
  refine AWP.cond (acond_split (fun hc => ?_) (fun hc => ?_))
  · replace h := bif_t h hc
    refine AWP.seq ?_
    refine AWP.region rfl ?_; intro K hK
    (try simp (implicitDefEqProofs := false) (decide := true) only [go_sem, Nat.reduceAdd, Nat.reduceMul, Nat.reduceSub, Int.reduceToNat])
    refine hK _ _ ?_; clear hK K
    refine qthen_normal ?_
    refine AWP.ret ?_
    refine qthen_ret ?_
    obtain rfl := some_eq h
    simp (implicitDefEqProofs := false) (decide := true) only [go_sem, Nat.reduceAdd, Nat.reduceMul, Nat.reduceSub, Int.reduceToNat, mpE_nil, Int.natCast_zero, List.replicate_zero, List.length_take, List.length_drop, AVal.own.injEq, reduceCtorEq, Int.reduceAdd, nle2, nle1, nle0, nleA, nleL, Try.results4]
  · replace h := bif_f h hc
    refine AWP.skip ?_
    refine qthen_normal ?_
    refine AWP.seq ?_
    refine AWP.seq ?_
    refine AWP.region rfl ?_; intro K hK
    (try simp (implicitDefEqProofs := false) (decide := true) only [go_sem, Nat.reduceAdd, Nat.reduceMul, Nat.reduceSub, Int.reduceToNat])
    obtain ⟨y2, hy2, h⟩ := bindE h
    refine ACall.pure Try.call12 (ref10_Light_spec m hy2) rfl fun _ hr => ?_
    subst hr
    (try simp (implicitDefEqProofs := false) (decide := true) only [go_sem, Nat.reduceAdd, Nat.reduceMul, Nat.reduceSub, Int.reduceToNat])
    refine hK _ _ ?_; clear hK K
    refine qthen_normal ?_
    refine AWP.cond (acond_split (fun hc => ?_) (fun hc => ?_))
    · replace h := bif_t h hc
      refine AWP.seq ?_
      refine AWP.region rfl ?_; intro K hK
      (try simp (implicitDefEqProofs := false) (decide := true) only [go_sem, Nat.reduceAdd, Nat.reduceMul, Nat.reduceSub, Int.reduceToNat])
      refine hK _ _ ?_; clear hK K
      refine qthen_normal ?_
      refine AWP.ret ?_
      refine qthen_ret ?_
      obtain rfl := some_eq h
      simp (implicitDefEqProofs := false) (decide := true) only [go_sem, Nat.reduceAdd, Nat.reduceMul, Nat.reduceSub, Int.reduceToNat, mpE_nil, Int.natCast_zero, List.replicate_zero, List.length_take, List.length_drop, AVal.own.injEq, reduceCtorEq, Int.reduceAdd, nle2, nle1, nle0, nleA, nleL, Try.results4]
    · replace h := bif_f h hc
      refine AWP.skip ?_
      refine qthen_normal ?_
      refine AWP.seq ?_
      refine AWP.region rfl ?_; intro K hK
      (try simp (implicitDefEqProofs := false) (decide := true) only [go_sem, Nat.reduceAdd, Nat.reduceMul, Nat.reduceSub, Int.reduceToNat])
      obtain ⟨y3, hy3, h⟩ := bindE h
      refine ACall.pure Try.call15 (terrain_Node_spec m id_ hy3) rfl fun _ hr => ?_
      subst hr
      (try simp (implicitDefEqProofs := false) (decide := true) only [go_sem, Nat.reduceAdd, Nat.reduceMul, Nat.reduceSub, Int.reduceToNat])
      refine hK _ _ ?_; clear hK K
      refine qthen_normal ?_
      refine AWP.seq ?_
      refine AWP.region rfl ?_; intro K hK
      (try simp (implicitDefEqProofs := false) (decide := true) only [go_sem, Nat.reduceAdd, Nat.reduceMul, Nat.reduceSub, Int.reduceToNat])
      obtain ⟨y4, hy4, h⟩ := bindE h
      refine ACall.pure Try.call16 (ref10_Node_spec m id_ hy4) rfl fun _ hr => ?_
      subst hr
      (try simp (implicitDefEqProofs := false) (decide := true) only [go_sem, Nat.reduceAdd, Nat.reduceMul, Nat.reduceSub, Int.reduceToNat])
      refine hK _ _ ?_; clear hK K
      refine qthen_normal ?_
      refine AWP.seq ?_
      refine AWP.region rfl ?_; intro K hK
      (try simp (implicitDefEqProofs := false) (decide := true) only [go_sem, Nat.reduceAdd, Nat.reduceMul, Nat.reduceSub, Int.reduceToNat])
      obtain ⟨y5, hy5, h⟩ := bindE h
      refine ACall.pure Try.call17 (terrain_Lift_spec m id_ hy5) rfl fun _ hr => ?_
      subst hr
      (try simp (implicitDefEqProofs := false) (decide := true) only [go_sem, Nat.reduceAdd, Nat.reduceMul, Nat.reduceSub, Int.reduceToNat])
      refine hK _ _ ?_; clear hK K
      refine qthen_normal ?_
      refine AWP.seq ?_
      refine AWP.region rfl ?_; intro K hK
      (try simp (implicitDefEqProofs := false) (decide := true) only [go_sem, Nat.reduceAdd, Nat.reduceMul, Nat.reduceSub, Int.reduceToNat])
      obtain ⟨y6, hy6, h⟩ := bindE h
      refine ACall.pure Try.call18 (ref10_Lift_spec m id_ hy6) rfl fun _ hr => ?_
      subst hr
      (try simp (implicitDefEqProofs := false) (decide := true) only [go_sem, Nat.reduceAdd, Nat.reduceMul, Nat.reduceSub, Int.reduceToNat])
      refine hK _ _ ?_; clear hK K
      refine qthen_normal ?_
      refine AWP.seq ?_
      refine AWP.region rfl ?_; intro K hK
      (try simp (implicitDefEqProofs := false) (decide := true) only [go_sem, Nat.reduceAdd, Nat.reduceMul, Nat.reduceSub, Int.reduceToNat])
      obtain ⟨y7, hy7, h⟩ := bindE h
      refine ACall.pure Try.call19 (terrain_Run_spec m id_ hy7) rfl fun _ hr => ?_
      subst hr
      (try simp (implicitDefEqProofs := false) (decide := true) only [go_sem, Nat.reduceAdd, Nat.reduceMul, Nat.reduceSub, Int.reduceToNat])
      refine hK _ _ ?_; clear hK K
      refine qthen_normal ?_
      refine AWP.seq ?_
      refine AWP.region rfl ?_; intro K hK
      (try simp (implicitDefEqProofs := false) (decide := true) only [go_sem, Nat.reduceAdd, Nat.reduceMul, Nat.reduceSub, Int.reduceToNat])
      obtain ⟨y8, hy8, h⟩ := bindE h
      refine ACall.pure Try.call20 (ref10_Run_spec m id_ hy8) rfl fun _ hr => ?_
      subst hr
      (try simp (implicitDefEqProofs := false) (decide := true) only [go_sem, Nat.reduceAdd, Nat.reduceMul, Nat.reduceSub, Int.reduceToNat])
      refine hK _ _ ?_; clear hK K
      refine qthen_normal ?_
      refine AWP.seq ?_
      refine AWP.region rfl ?_; intro K hK
      (try simp (implicitDefEqProofs := false) (decide := true) only [go_sem, Nat.reduceAdd, Nat.reduceMul, Nat.reduceSub, Int.reduceToNat])
      refine aguardK_split (fun hc => ?_) (fun hc => ?_)
      · replace h := bif_t h hc
        (try simp (implicitDefEqProofs := false) (decide := true) only [go_sem, Nat.reduceAdd, Nat.reduceMul, Nat.reduceSub, Int.reduceToNat, hc])
        refine aguardK_split (fun hc => ?_) (fun hc => ?_)
        · replace h := bif_t h hc
          (try simp (implicitDefEqProofs := false) (decide := true) only [go_sem, Nat.reduceAdd, Nat.reduceMul, Nat.reduceSub, Int.reduceToNat, hc])
          refine aguardK_split (fun hc => ?_) (fun hc => ?_)
          · replace h := bif_t h hc
            (try simp (implicitDefEqProofs := false) (decide := true) only [go_sem, Nat.reduceAdd, Nat.reduceMul, Nat.reduceSub, Int.reduceToNat, hc])
            refine aguardK_split (fun hc => ?_) (fun hc => ?_)
            · replace h := bif_t h hc
              (try simp (implicitDefEqProofs := false) (decide := true) only [go_sem, Nat.reduceAdd, Nat.reduceMul, Nat.reduceSub, Int.reduceToNat, hc])
              refine aguardK_split (fun hc => ?_) (fun hc => ?_)
              · replace h := bif_t h hc
                (try simp (implicitDefEqProofs := false) (decide := true) only [go_sem, Nat.reduceAdd, Nat.reduceMul, Nat.reduceSub, Int.reduceToNat, hc])
                refine hK _ _ ?_; clear hK K
                refine qthen_normal ?_
                refine AWP.ret ?_
                obtain rfl := some_eq h
                simp (implicitDefEqProofs := false) (decide := true) only [go_sem, Nat.reduceAdd, Nat.reduceMul, Nat.reduceSub, Int.reduceToNat, mpE_nil, Int.natCast_zero, List.replicate_zero, List.length_take, List.length_drop, AVal.own.injEq, reduceCtorEq, Int.reduceAdd, nle2, nle1, nle0, nleA, nleL, Try.results4]
              · replace h := bif_f h hc
                (try simp (implicitDefEqProofs := false) (decide := true) only [go_sem, Nat.reduceAdd, Nat.reduceMul, Nat.reduceSub, Int.reduceToNat, hc, Bool.not_true])
                refine hK _ _ ?_; clear hK K
                refine qthen_normal ?_
                refine AWP.ret ?_
                obtain rfl := some_eq h
                simp (implicitDefEqProofs := false) (decide := true) only [go_sem, Nat.reduceAdd, Nat.reduceMul, Nat.reduceSub, Int.reduceToNat, mpE_nil, Int.natCast_zero, List.replicate_zero, List.length_take, List.length_drop, AVal.own.injEq, reduceCtorEq, Int.reduceAdd, nle2, nle1, nle0, nleA, nleL, Try.results4]
            · replace h := bif_f h hc
              (try simp (implicitDefEqProofs := false) (decide := true) only [go_sem, Nat.reduceAdd, Nat.reduceMul, Nat.reduceSub, Int.reduceToNat, hc, Bool.not_true])
              refine hK _ _ ?_; clear hK K
              refine qthen_normal ?_
              refine AWP.ret ?_
              obtain rfl := some_eq h
              simp (implicitDefEqProofs := false) (decide := true) only [go_sem, Nat.reduceAdd, Nat.reduceMul, Nat.reduceSub, Int.reduceToNat, mpE_nil, Int.natCast_zero, List.replicate_zero, List.length_take, List.length_drop, AVal.own.injEq, reduceCtorEq, Int.reduceAdd, nle2, nle1, nle0, nleA, nleL, Try.results4]
          · replace h := bif_f h hc
            (try simp (implicitDefEqProofs := false) (decide := true) only [go_sem, Nat.reduceAdd, Nat.reduceMul, Nat.reduceSub, Int.reduceToNat, hc, Bool.not_true])
            refine hK _ _ ?_; clear hK K
            refine qthen_normal ?_
            refine AWP.ret ?_
            obtain rfl := some_eq h
            simp (implicitDefEqProofs := false) (decide := true) only [go_sem, Nat.reduceAdd, Nat.reduceMul, Nat.reduceSub, Int.reduceToNat, mpE_nil, Int.natCast_zero, List.replicate_zero, List.length_take, List.length_drop, AVal.own.injEq, reduceCtorEq, Int.reduceAdd, nle2, nle1, nle0, nleA, nleL, Try.results4]
        · replace h := bif_f h hc
          (try simp (implicitDefEqProofs := false) (decide := true) only [go_sem, Nat.reduceAdd, Nat.reduceMul, Nat.reduceSub, Int.reduceToNat, hc, Bool.not_true])
          refine hK _ _ ?_; clear hK K
          refine qthen_normal ?_
          refine AWP.ret ?_
          obtain rfl := some_eq h
          simp (implicitDefEqProofs := false) (decide := true) only [go_sem, Nat.reduceAdd, Nat.reduceMul, Nat.reduceSub, Int.reduceToNat, mpE_nil, Int.natCast_zero, List.replicate_zero, List.length_take, List.length_drop, AVal.own.injEq, reduceCtorEq, Int.reduceAdd, nle2, nle1, nle0, nleA, nleL, Try.results4]
      · replace h := bif_f h hc
        (try simp (implicitDefEqProofs := false) (decide := true) only [go_sem, Nat.reduceAdd, Nat.reduceMul, Nat.reduceSub, Int.reduceToNat, hc, Bool.not_true])
        refine hK _ _ ?_; clear hK K
        refine qthen_normal ?_
        refine AWP.ret ?_
        obtain rfl := some_eq h
        simp (implicitDefEqProofs := false) (decide := true) only [go_sem, Nat.reduceAdd, Nat.reduceMul, Nat.reduceSub, Int.reduceToNat, mpE_nil, Int.natCast_zero, List.replicate_zero, List.length_take, List.length_drop, AVal.own.injEq, reduceCtorEq, Int.reduceAdd, nle2, nle1, nle0, nleA, nleL, Try.results4]

def ref10_Vertical (m : ApiMap) (lift : Int) : Option (Int) :=
  (ref10_Lift m lift).bind fun y1 => (bif (!y1.2) then some (0 : Int) else (ref10_Node m y1.1.From).bind fun y2 => (ref10_Node m y1.1.To).bind fun y3 => some (IntKind.i64.wrap (y3.1.Alt - y2.1.Alt)))

theorem ref10_Vertical_spec (m : ApiMap) (lift : Int) {r : Int} (h : ref10_Vertical m lift = some r) : PureFn Try.prog 22 [.agg (encApiMap m), .int .i64 lift] (· = .int .i64 r) := by
  refine PureFn.nle (PureFn.intro Try.func22 rfl rfl (by show _ ≤ 38; simp) ?_)
  unfold ref10_Vertical at h
  (try simp (implicitDefEqProofs := false) (decide := true) only [go_sem, Nat.reduceAdd, Nat.reduceMul, Nat.reduceSub, Int.reduceToNat])
  refine AWP.seq ?_
  refine AWP.region rfl ?_; intro K hK
  (try simp (implicitDefEqProofs := false) (decide := true) only [go_sem, Nat.reduceAdd, Nat.reduceMul, Nat.reduceSub, Int.reduceToNat])
  refine hK _ _ ?_; clear hK K
  refine qthen_normal ?_
  refine AWP.seq ?_
  refine AWP.region rfl ?_; intro K hK
  (try simp (implicitDefEqProofs := false) (decide := true) only [go_sem, Nat.reduceAdd, Nat.reduceMul, Nat.reduceSub, Int.reduceToNat])
  obtain ⟨y1, hy1, h⟩ := bindE h
  refine ACall.pure Try.call18 (ref10_Lift_spec m lift hy1) rfl fun _ hr => ?_
  subst hr
  (try simp (implicitDefEqProofs := false) (decide := true) only [go_sem, Nat.reduceAdd, Nat.reduceMul, Nat.reduceSub, Int.reduceToNat])
  refine hK _ _ ?_; clear hK K
  refine qthen_normal ?_
  refine AWP.seq ?_
  refine AWP.seq ?_
  refine AWP.region rfl ?_; intro K hK
  (try simp (implicitDefEqProofs := false) (decide := true) only [go_sem, Nat.reduceAdd, Nat.reduceMul, Nat.reduceSub, Int.reduceToNat])
  refine hK _ _ ?_; clear hK K
  refine qthen_normal ?_
  refine AWP.cond (acond_split (fun hc => ?_) (fun hc => ?_))
  · replace h := bif_t h hc
    refine AWP.seq ?_
    refine AWP.region rfl ?_; intro K hK
    (try simp (implicitDefEqProofs := false) (decide := true) only [go_sem, Nat.reduceAdd, Nat.reduceMul, Nat.reduceSub, Int.reduceToNat])
    refine hK _ _ ?_; clear hK K
    refine qthen_normal ?_
    refine AWP.ret ?_
    refine qthen_ret ?_
    obtain rfl := some_eq h
    simp (implicitDefEqProofs := false) (decide := true) only [go_sem, Nat.reduceAdd, Nat.reduceMul, Nat.reduceSub, Int.reduceToNat, mpE_nil, Int.natCast_zero, List.replicate_zero, List.length_take, List.length_drop, AVal.own.injEq, reduceCtorEq, Int.reduceAdd, nle2, nle1, nle0, nleA, nleL, Try.results22]
  · replace h := bif_f h hc
    refine AWP.skip ?_
    refine qthen_normal ?_
    refine AWP.seq ?_
    refine AWP.region rfl ?_; intro K hK
    (try simp (implicitDefEqProofs := false) (decide := true) only [go_sem, Nat.reduceAdd, Nat.reduceMul, Nat.reduceSub, Int.reduceToNat])
    obtain ⟨y2, hy2, h⟩ := bindE h
    refine ACall.pure Try.call16 (ref10_Node_spec m y1.1.From hy2) rfl fun _ hr => ?_
    subst hr
    (try simp (implicitDefEqProofs := false) (decide := true) only [go_sem, Nat.reduceAdd, Nat.reduceMul, Nat.reduceSub, Int.reduceToNat])
    refine hK _ _ ?_; clear hK K
    refine qthen_normal ?_
    refine AWP.seq ?_
    refine AWP.region rfl ?_; intro K hK
    (try simp (implicitDefEqProofs := false) (decide := true) only [go_sem, Nat.reduceAdd, Nat.reduceMul, Nat.reduceSub, Int.reduceToNat])
    obtain ⟨y3, hy3, h⟩ := bindE h
    refine ACall.pure Try.call16 (ref10_Node_spec m y1.1.To hy3) rfl fun _ hr => ?_
    subst hr
    (try simp (implicitDefEqProofs := false) (decide := true) only [go_sem, Nat.reduceAdd, Nat.reduceMul, Nat.reduceSub, Int.reduceToNat])
    refine hK _ _ ?_; clear hK K
    refine qthen_normal ?_
    refine AWP.seq ?_
    refine AWP.region rfl ?_; intro K hK
    (try simp (implicitDefEqProofs := false) (decide := true) only [go_sem, Nat.reduceAdd, Nat.reduceMul, Nat.reduceSub, Int.reduceToNat])
    refine hK _ _ ?_; clear hK K
    refine qthen_normal ?_
    refine AWP.ret ?_
    obtain rfl := some_eq h
    simp (implicitDefEqProofs := false) (decide := true) only [go_sem, Nat.reduceAdd, Nat.reduceMul, Nat.reduceSub, Int.reduceToNat, mpE_nil, Int.natCast_zero, List.replicate_zero, List.length_take, List.length_drop, AVal.own.injEq, reduceCtorEq, Int.reduceAdd, nle2, nle1, nle0, nleA, nleL, Try.results22]

def law10_TerrainVertical (m : ApiMap) (lift : Int) : Option (Bool) :=
  (law10_alive).bind fun y1 => (bif (!y1) then some false else (ref10_Right m).bind fun y2 => (bif (decide (y2 ≠ (0 : Int))) then some true else (terrain_Lift m lift).bind fun y3 => (terrain_Vertical m lift).bind fun y4 => (ref10_Vertical m lift).bind fun y5 => (bif (decide (y4 = y5)) then (terrain_Vertical m lift).bind fun y6 => some ((decide ((0 : Int) < y6)) == y3.2) else some false)))

theorem law10_TerrainVertical_spec (m : ApiMap) (lift : Int) {r : Bool} (h : law10_TerrainVertical m lift = some r) : PureFn Try.prog 5 [.agg (encApiMap m), .int .i64 lift] (· = .bool r) := by
  refine PureFn.nle (PureFn.intro Try.func5 rfl rfl (by show _ ≤ 33; simp) ?_)
  unfold law10_TerrainVertical at h
  (try simp (implicitDefEqProofs := false) (decide := true) only [go_sem, Nat.reduceAdd, Nat.reduceMul, Nat.reduceSub, Int.reduceToNat])
  refine AWP.seq ?_
  refine AWP.region rfl ?_; intro K hK
  (try simp (implicitDefEqProofs := false) (decide := true) only [go_sem, Nat.reduceAdd, Nat.reduceMul, Nat.reduceSub, Int.reduceToNat])
  refine hK _ _ ?_; clear hK K
  refine qthen_normal ?_
  refine AWP.seq ?_
  refine AWP.seq ?_
  refine AWP.region rfl ?_; intro K hK
  (try simp (implicitDefEqProofs := false) (decide := true) only [go_sem, Nat.reduceAdd, Nat.reduceMul, Nat.reduceSub, Int.reduceToNat])
  obtain ⟨y1, hy1, h⟩ := bindE h
  refine ACall.pure Try.call11 (law10_alive_spec hy1) rfl fun _ hr => ?_
  subst hr
  (try simp (implicitDefEqProofs := false) (decide := true) only [go_sem, Nat.reduceAdd, Nat.reduceMul, Nat.reduceSub, Int.reduceToNat])
  refine hK _ _ ?_; clear hK K
  refine qthen_normal ?_
  refine AWP.cond (acond_split (fun hc => ?_) (fun hc => ?_))
  · replace h := bif_t h hc
    refine AWP.seq ?_
    refine AWP.region rfl ?_; intro K hK
    (try simp (implicitDefEqProofs := false) (decide := true) only [go_sem, Nat.reduceAdd, Nat.reduceMul, Nat.reduceSub, Int.reduceToNat])
    refine hK _ _ ?_; clear hK K
    refine qthen_normal ?_
    refine AWP.ret ?_
    refine qthen_ret ?_
    obtain rfl := some_eq h
    simp (implicitDefEqProofs := false) (decide := true) only [go_sem, Nat.reduceAdd, Nat.reduceMul, Nat.reduceSub, Int.reduceToNat, mpE_nil, Int.natCast_zero, List.replicate_zero, List.length_take, List.length_drop, AVal.own.injEq, reduceCtorEq, Int.reduceAdd, nle2, nle1, nle0, nleA, nleL, Try.results5]
  · replace h := bif_f h hc
    refine AWP.skip ?_
    refine qthen_normal ?_
    refine AWP.seq ?_
    refine AWP.seq ?_
    refine AWP.region rfl ?_; intro K hK
    (try simp (implicitDefEqProofs := false) (decide := true) only [go_sem, Nat.reduceAdd, Nat.reduceMul, Nat.reduceSub, Int.reduceToNat])
    obtain ⟨y2, hy2, h⟩ := bindE h
    refine ACall.pure Try.call14 (ref10_Right_spec m hy2) rfl fun _ hr => ?_
    subst hr
    (try simp (implicitDefEqProofs := false) (decide := true) only [go_sem, Nat.reduceAdd, Nat.reduceMul, Nat.reduceSub, Int.reduceToNat])
    refine hK _ _ ?_; clear hK K
    refine qthen_normal ?_
    refine AWP.cond (acond_split (fun hc => ?_) (fun hc => ?_))
    · replace h := bif_t h hc
      refine AWP.seq ?_
      refine AWP.region rfl ?_; intro K hK
      (try simp (implicitDefEqProofs := false) (decide := true) only [go_sem, Nat.reduceAdd, Nat.reduceMul, Nat.reduceSub, Int.reduceToNat])
      refine hK _ _ ?_; clear hK K
      refine qthen_normal ?_
      refine AWP.ret ?_
      refine qthen_ret ?_
      obtain rfl := some_eq h
      simp (implicitDefEqProofs := false) (decide := true) only [go_sem, Nat.reduceAdd, Nat.reduceMul, Nat.reduceSub, Int.reduceToNat, mpE_nil, Int.natCast_zero, List.replicate_zero, List.length_take, List.length_drop, AVal.own.injEq, reduceCtorEq, Int.reduceAdd, nle2, nle1, nle0, nleA, nleL, Try.results5]
    · replace h := bif_f h hc
      refine AWP.skip ?_
      refine qthen_normal ?_
      refine AWP.seq ?_
      refine AWP.region rfl ?_; intro K hK
      (try simp (implicitDefEqProofs := false) (decide := true) only [go_sem, Nat.reduceAdd, Nat.reduceMul, Nat.reduceSub, Int.reduceToNat])
      obtain ⟨y3, hy3, h⟩ := bindE h
      refine ACall.pure Try.call17 (terrain_Lift_spec m lift hy3) rfl fun _ hr => ?_
      subst hr
      (try simp (implicitDefEqProofs := false) (decide := true) only [go_sem, Nat.reduceAdd, Nat.reduceMul, Nat.reduceSub, Int.reduceToNat])
      refine hK _ _ ?_; clear hK K
      refine qthen_normal ?_
      refine AWP.seq ?_
      refine AWP.draw Try.mixed (by kernel_rfl) ?_; intro K hK
      (try simp (implicitDefEqProofs := false) (decide := true) only [go_sem, Nat.reduceAdd, Nat.reduceMul, Nat.reduceSub, Int.reduceToNat])
      obtain ⟨y4, hy4, h⟩ := bindE h
      refine DCall.pure Try.call21 (terrain_Vertical_spec m lift hy4) rfl ?_
      (try simp (implicitDefEqProofs := false) (decide := true) only [go_sem, Nat.reduceAdd, Nat.reduceMul, Nat.reduceSub, Int.reduceToNat])
      obtain ⟨y5, hy5, h⟩ := bindE h
      refine DCall.pure Try.call22 (ref10_Vertical_spec m lift hy5) rfl ?_
      (try simp (implicitDefEqProofs := false) (decide := true) only [go_sem, Nat.reduceAdd, Nat.reduceMul, Nat.reduceSub, Int.reduceToNat])
      refine aguardK_split (fun hc => ?_) (fun hc => ?_)
      · replace h := bif_t h hc
        (try simp (implicitDefEqProofs := false) (decide := true) only [go_sem, Nat.reduceAdd, Nat.reduceMul, Nat.reduceSub, Int.reduceToNat, hc])
        obtain ⟨y6, hy6, h⟩ := bindE h
        refine DCall.pure Try.call21 (terrain_Vertical_spec m lift hy6) rfl ?_
        (try simp (implicitDefEqProofs := false) (decide := true) only [go_sem, Nat.reduceAdd, Nat.reduceMul, Nat.reduceSub, Int.reduceToNat])
        refine hK _ _ _ (by kernel_rfl) ?_; clear hK K
        refine qthen_normal ?_
        refine AWP.ret ?_
        obtain rfl := some_eq h
        simp (implicitDefEqProofs := false) (decide := true) only [go_sem, Nat.reduceAdd, Nat.reduceMul, Nat.reduceSub, Int.reduceToNat, mpE_nil, Int.natCast_zero, List.replicate_zero, List.length_take, List.length_drop, AVal.own.injEq, reduceCtorEq, Int.reduceAdd, nle2, nle1, nle0, nleA, nleL, Try.results5]
      · replace h := bif_f h hc
        (try simp (implicitDefEqProofs := false) (decide := true) only [go_sem, Nat.reduceAdd, Nat.reduceMul, Nat.reduceSub, Int.reduceToNat, hc, Bool.not_true])
        refine hK _ _ _ (by kernel_rfl) ?_; clear hK K
        refine qthen_normal ?_
        refine AWP.ret ?_
        obtain rfl := some_eq h
        simp (implicitDefEqProofs := false) (decide := true) only [go_sem, Nat.reduceAdd, Nat.reduceMul, Nat.reduceSub, Int.reduceToNat, mpE_nil, Int.natCast_zero, List.replicate_zero, List.length_take, List.length_drop, AVal.own.injEq, reduceCtorEq, Int.reduceAdd, nle2, nle1, nle0, nleA, nleL, Try.results5]

def ref10_Runs_b1 (zone : Int) (k2 : Nat) (x_4 : ApiRun) (sv : (List Int)) : Option (Out ((List Int)) ((List Int))) :=
  (bif (decide (x_4.Zone = zone)) then chk (sv.length + 1) (some (Out.next (sv ++ [x_4.ID]))) else some (Out.next sv))

def ref10_Runs (m : ApiMap) (zone : Int) : Option ((List Int)) :=
  (forIx (ref10_Runs_b1 zone) 0 m.Runs []).bind fun o2 => o2.on fun s2 => some s2

theorem ref10_Runs_fresh (m : ApiMap) (zone : Int) {r : (List Int)} (h : ref10_Runs m zone = some r) : FreshFn Try.prog 25 [.agg (encApiMap m), .int .i64 zone] (· = .sl 1 (r.map intC)) := by
  refine FreshFn.nle (FreshFn.intro Try.func25 rfl rfl (by show _ ≤ 32; simp) ?_)
  unfold ref10_Runs at h
  (try simp (implicitDefEqProofs := false) (decide := true) only [go_sem, Nat.reduceAdd, Nat.reduceMul, Nat.reduceSub, Int.reduceToNat])
  refine AWP.seq ?_
  refine AWP.region rfl ?_; intro K hK
  (try simp (implicitDefEqProofs := false) (decide := true) only [go_sem, Nat.reduceAdd, Nat.reduceMul, Nat.reduceSub, Int.reduceToNat])
  refine hK _ _ ?_; clear hK K
  refine qthen_normal ?_
  refine AWP.seq ?_
  refine AWP.region rfl ?_; intro K hK
  (try simp (implicitDefEqProofs := false) (decide := true) only [go_sem, Nat.reduceAdd, Nat.reduceMul, Nat.reduceSub, Int.reduceToNat])
  refine hK _ _ ?_; clear hK K
  refine qthen_normal ?_
  refine AWP.seq ?_
  refine AWP.seq ?_
  refine AWP.region rfl ?_; intro K hK
  (try simp (implicitDefEqProofs := false) (decide := true) only [go_sem, Nat.reduceAdd, Nat.reduceMul, Nat.reduceSub, Int.reduceToNat])
  refine hK _ _ ?_; clear hK K
  refine qthen_normal ?_
  refine AWP.block ?_
  refine AWP.ghost 5 1 rfl (by decide) ?_
  obtain ⟨o2, hJ2, hO2⟩ := bindE h
  clear h
  refine AWP.loopW (ι := Nat × ((List Int)) × (Nat)) (fun zz => [(1, .int .i64 zone), (2, .ptr 0 0), (5, .own 1 zz.2.2 0 zz.2.1.length), (6, .int .i64 ((zz.1 : Nat) : Int))]) (fun zz => [.box [.sl 2 (m.Nodes.map encApiNode), .sl 8 (m.Lifts.map encApiLift), .sl 7 (m.Runs.map encApiRun), .sl 1 (m.Bases.map intC)], .row zz.2.2 1 (zz.2.1.map intC)]) (fun zz => zz.1 ≤ m.Runs.length ∧ forIx (ref10_Runs_b1 zone) zz.1 ((m.Runs).drop zz.1) zz.2.1 = some o2) (fun zz => m.Runs.length - zz.1) (0, [], 0) ⟨Nat.zero_le _, hJ2⟩ (by (simp (implicitDefEqProofs := false) (decide := true) only [go_sem, Nat.reduceAdd, Nat.reduceMul, Nat.reduceSub, Int.reduceToNat, mpE_nil, Int.natCast_zero, List.replicate_zero, List.length_take, List.length_drop, AVal.own.injEq, reduceCtorEq, Int.reduceAdd] <;> omega)) (by (simp (implicitDefEqProofs := false) (decide := true) only [go_sem, Nat.reduceAdd, Nat.reduceMul, Nat.reduceSub, Int.reduceToNat, mpE_nil, Int.natCast_zero, List.replicate_zero, List.length_take, List.length_drop, AVal.own.injEq, reduceCtorEq, Int.reduceAdd] <;> omega)) (fun x => ⟨rfl, rfl, rfl⟩) ?_
  clear hJ2
  rintro ⟨k2, out1, ver2⟩ ⟨hk2, hJ2⟩
  dsimp only at hk2 hJ2 ⊢
  refine AWP.seq ?_
  refine AWP.seq ?_
  refine AWP.region rfl ?_; intro K hK
  (try simp (implicitDefEqProofs := false) (decide := true) only [go_sem, Nat.reduceAdd, Nat.reduceMul, Nat.reduceSub, Int.reduceToNat])
  intro hm
  refine hK _ _ ?_; clear hK K
  refine qthen_normal ?_
  refine AWP.cond (acond_split (fun hc => ?_) (fun hc => ?_))
  · have hlt2 : k2 < m.Runs.length := by have := of_decide_eq_true hc; omega
    obtain ⟨x_4, b2, hx2_, h, hJ2⟩ := for_cons hJ2 hlt2
    have hx2 := idxL_nat hx2_
    have hw2 : IntKind.i64.wrap (((k2 : Nat) : Int) + 1) = (((k2 : Nat) : Int) + (1 : Int)) := by rw [wrap_i64] <;> omega
    unfold ref10_Runs_b1 at h; try dsimp only at h
    refine AWP.skip ?_
    refine qthen_normal ?_
    refine AWP.seq ?_
    refine AWP.block ?_
    refine AWP.seq ?_
    refine AWP.region rfl ?_; intro K hK
    (try simp (implicitDefEqProofs := false) (decide := true) only [go_sem, Nat.reduceAdd, Nat.reduceMul, Nat.reduceSub, Int.reduceToNat])
    refine AIdx.of (f := encApiRun) (l := m.Runs) hx2 ?_
    (try simp (implicitDefEqProofs := false) (decide := true) only [go_sem, Nat.reduceAdd, Nat.reduceMul, Nat.reduceSub, Int.reduceToNat])
    refine hK _ _ ?_; clear hK K
    refine qthen_normal ?_
    refine AWP.cond (acond_split (fun hc => ?_) (fun hc => ?_))
    · replace h := bif_t h hc
      refine AWP.region rfl ?_; intro K hK
      (try simp (implicitDefEqProofs := false) (decide := true) only [go_sem, Nat.reduceAdd, Nat.reduceMul, Nat.reduceSub, Int.reduceToNat])
      refine AIdx.of (f := encApiRun) (l := m.Runs) hx2 ?_
      (try simp (implicitDefEqProofs := false) (decide := true) only [go_sem, Nat.reduceAdd, Nat.reduceMul, Nat.reduceSub, Int.reduceToNat])
      obtain ⟨hk, h⟩ := chk_in h
      (repeat (refine ⟨by first | omega | (simp only [List.length_take, List.length_drop, List.length_append]; omega), ?_⟩)); try simp (implicitDefEqProofs := false) (decide := true) only [go_sem, Nat.reduceAdd, Nat.reduceMul, Nat.reduceSub, Int.reduceToNat]
      refine hK _ _ ?_; clear hK K
      refine qblock_normal ?_
      refine qthen_normal ?_
      refine AWP.region rfl ?_; intro K hK
      (try simp (implicitDefEqProofs := false) (decide := true) only [go_sem, Nat.reduceAdd, Nat.reduceMul, Nat.reduceSub, Int.reduceToNat])
      refine hK _ _ ?_; clear hK K
      refine qthen_normal ?_
      obtain rfl := some_eq h
      refine ⟨(k2 + 1, (out1 ++ [x_4.ID]), (ver2 + 1)), ⟨by dsimp only; omega, cont_next hJ2⟩, by dsimp only; omega, ?_, ?_⟩
      · (simp (implicitDefEqProofs := false) (decide := true) only [go_sem, Nat.reduceAdd, Nat.reduceMul, Nat.reduceSub, Int.reduceToNat, mpE_nil, Int.natCast_zero, List.replicate_zero, List.length_take, List.length_drop, AVal.own.injEq, reduceCtorEq, Int.reduceAdd, hw2] <;> omega)
      · (simp (implicitDefEqProofs := false) (decide := true) only [go_sem, Nat.reduceAdd, Nat.reduceMul, Nat.reduceSub, Int.reduceToNat, mpE_nil, Int.natCast_zero, List.replicate_zero, List.length_take, List.length_drop, AVal.own.injEq, reduceCtorEq, Int.reduceAdd, hw2] <;> omega)
    · replace h := bif_f h hc
      refine AWP.skip ?_
      refine qblock_normal ?_
      refine qthen_normal ?_
      refine AWP.region rfl ?_; intro K hK
      (try simp (implicitDefEqProofs := false) (decide := true) only [go_sem, Nat.reduceAdd, Nat.reduceMul, Nat.reduceSub, Int.reduceToNat])
      refine hK _ _ ?_; clear hK K
      refine qthen_normal ?_
      obtain rfl := some_eq h
      refine ⟨(k2 + 1, out1, ver2), ⟨by dsimp only; omega, cont_next hJ2⟩, by dsimp only; omega, ?_, ?_⟩
      · (simp (implicitDefEqProofs := false) (decide := true) only [go_sem, Nat.reduceAdd, Nat.reduceMul, Nat.reduceSub, Int.reduceToNat, mpE_nil, Int.natCast_zero, List.replicate_zero, List.length_take, List.length_drop, AVal.own.injEq, reduceCtorEq, Int.reduceAdd, hw2] <;> omega)
      · (simp (implicitDefEqProofs := false) (decide := true) only [go_sem, Nat.reduceAdd, Nat.reduceMul, Nat.reduceSub, Int.reduceToNat, mpE_nil, Int.natCast_zero, List.replicate_zero, List.length_take, List.length_drop, AVal.own.injEq, reduceCtorEq, Int.reduceAdd, hw2] <;> omega)
  · obtain rfl := for_nil hJ2 (fun hl => by have := of_decide_eq_false hc; omega)
    have h := on_next hO2; try dsimp only at h
    have hkl : m.Runs.length = k2 := by have := of_decide_eq_false hc; omega
    subst hkl
    refine AWP.exit ?_
    refine qthen_exit ?_
    refine qthen_exit ?_
    refine qblock_same ?_
    refine qthen_normal ?_
    refine AWP.seq ?_
    refine AWP.region rfl ?_; intro K hK
    (try simp (implicitDefEqProofs := false) (decide := true) only [go_sem, Nat.reduceAdd, Nat.reduceMul, Nat.reduceSub, Int.reduceToNat])
    refine hK _ _ ?_; clear hK K
    refine qthen_normal ?_
    refine AWP.ret ?_
    obtain rfl := some_eq h
    simp (implicitDefEqProofs := false) (decide := true) only [go_sem, Nat.reduceAdd, Nat.reduceMul, Nat.reduceSub, Int.reduceToNat, mpE_nil, Int.natCast_zero, List.replicate_zero, List.length_take, List.length_drop, AVal.own.injEq, reduceCtorEq, Int.reduceAdd, nle2, nle1, nle0, nleA, nleL, Try.results25]
theorem ref10_Runs_spec (m : ApiMap) (zone : Int) {r : (List Int)} (h : ref10_Runs m zone = some r) : PureFn Try.prog 25 [.agg (encApiMap m), .int .i64 zone] (· = .sl 1 (r.map intC)) := (ref10_Runs_fresh m zone h).pure

def law10_TerrainRuns (m : ApiMap) (zone : Int) : Option (Bool) :=
  (law10_alive).bind fun y1 => (bif (!y1) then some false else (ref10_Right m).bind fun y2 => (bif (decide (y2 ≠ (0 : Int))) then some true else (terrain_Runs m zone).bind fun y3 => (ref10_Runs m zone).bind fun y4 => (ref10_SameInts y3 y4).bind fun y5 => some y5))

theorem law10_TerrainRuns_spec (m : ApiMap) (zone : Int) {r : Bool} (h : law10_TerrainRuns m zone = some r) : PureFn Try.prog 6 [.agg (encApiMap m), .int .i64 zone] (· = .bool r) := by
  refine PureFn.nle (PureFn.intro Try.func6 rfl rfl (by show _ ≤ 19; simp) ?_)
  unfold law10_TerrainRuns at h
  (try simp (implicitDefEqProofs := false) (decide := true) only [go_sem, Nat.reduceAdd, Nat.reduceMul, Nat.reduceSub, Int.reduceToNat])
  refine AWP.seq ?_
  refine AWP.region rfl ?_; intro K hK
  (try simp (implicitDefEqProofs := false) (decide := true) only [go_sem, Nat.reduceAdd, Nat.reduceMul, Nat.reduceSub, Int.reduceToNat])
  refine hK _ _ ?_; clear hK K
  refine qthen_normal ?_
  refine AWP.seq ?_
  refine AWP.seq ?_
  refine AWP.region rfl ?_; intro K hK
  (try simp (implicitDefEqProofs := false) (decide := true) only [go_sem, Nat.reduceAdd, Nat.reduceMul, Nat.reduceSub, Int.reduceToNat])
  obtain ⟨y1, hy1, h⟩ := bindE h
  refine ACall.pure Try.call11 (law10_alive_spec hy1) rfl fun _ hr => ?_
  subst hr
  (try simp (implicitDefEqProofs := false) (decide := true) only [go_sem, Nat.reduceAdd, Nat.reduceMul, Nat.reduceSub, Int.reduceToNat])
  refine hK _ _ ?_; clear hK K
  refine qthen_normal ?_
  refine AWP.cond (acond_split (fun hc => ?_) (fun hc => ?_))
  · replace h := bif_t h hc
    refine AWP.seq ?_
    refine AWP.region rfl ?_; intro K hK
    (try simp (implicitDefEqProofs := false) (decide := true) only [go_sem, Nat.reduceAdd, Nat.reduceMul, Nat.reduceSub, Int.reduceToNat])
    refine hK _ _ ?_; clear hK K
    refine qthen_normal ?_
    refine AWP.ret ?_
    refine qthen_ret ?_
    obtain rfl := some_eq h
    simp (implicitDefEqProofs := false) (decide := true) only [go_sem, Nat.reduceAdd, Nat.reduceMul, Nat.reduceSub, Int.reduceToNat, mpE_nil, Int.natCast_zero, List.replicate_zero, List.length_take, List.length_drop, AVal.own.injEq, reduceCtorEq, Int.reduceAdd, nle2, nle1, nle0, nleA, nleL, Try.results6]
  · replace h := bif_f h hc
    refine AWP.skip ?_
    refine qthen_normal ?_
    refine AWP.seq ?_
    refine AWP.draw Try.mixed (by kernel_rfl) ?_; intro K hK
    (try simp (implicitDefEqProofs := false) (decide := true) only [go_sem, Nat.reduceAdd, Nat.reduceMul, Nat.reduceSub, Int.reduceToNat])
    obtain ⟨y2, hy2, h⟩ := bindE h
    refine DCall.pure Try.call14 (ref10_Right_spec m hy2) rfl ?_
    (try simp (implicitDefEqProofs := false) (decide := true) only [go_sem, Nat.reduceAdd, Nat.reduceMul, Nat.reduceSub, Int.reduceToNat])
    refine aguardK_split (fun hc => ?_) (fun hc => ?_)
    · replace h := bif_f h hc
      (try simp (implicitDefEqProofs := false) (decide := true) only [go_sem, Nat.reduceAdd, Nat.reduceMul, Nat.reduceSub, Int.reduceToNat, hc])
      obtain ⟨y3, hy3, h⟩ := bindE h
      refine DCall.pure Try.call24 (terrain_Runs_spec m zone hy3) rfl ?_
      (try simp (implicitDefEqProofs := false) (decide := true) only [go_sem, Nat.reduceAdd, Nat.reduceMul, Nat.reduceSub, Int.reduceToNat])
      obtain ⟨y4, hy4, h⟩ := bindE h
      refine DCall.pure Try.call25 (ref10_Runs_spec m zone hy4) rfl ?_
      (try simp (implicitDefEqProofs := false) (decide := true) only [go_sem, Nat.reduceAdd, Nat.reduceMul, Nat.reduceSub, Int.reduceToNat])
      obtain ⟨y5, hy5, h⟩ := bindE h
      refine DCall.pure Try.call23 (ref10_SameInts_spec y3 y4 hy5) rfl ?_
      (try simp (implicitDefEqProofs := false) (decide := true) only [go_sem, Nat.reduceAdd, Nat.reduceMul, Nat.reduceSub, Int.reduceToNat])
      refine hK _ _ _ (by kernel_rfl) ?_; clear hK K
      refine qthen_normal ?_
      refine AWP.ret ?_
      obtain rfl := some_eq h
      simp (implicitDefEqProofs := false) (decide := true) only [go_sem, Nat.reduceAdd, Nat.reduceMul, Nat.reduceSub, Int.reduceToNat, mpE_nil, Int.natCast_zero, List.replicate_zero, List.length_take, List.length_drop, AVal.own.injEq, reduceCtorEq, Int.reduceAdd, nle2, nle1, nle0, nleA, nleL, Try.results6]
    · replace h := bif_t h hc
      (try simp (implicitDefEqProofs := false) (decide := true) only [go_sem, Nat.reduceAdd, Nat.reduceMul, Nat.reduceSub, Int.reduceToNat, hc, Bool.not_false])
      refine hK _ _ _ (by kernel_rfl) ?_; clear hK K
      refine qthen_normal ?_
      refine AWP.ret ?_
      obtain rfl := some_eq h
      simp (implicitDefEqProofs := false) (decide := true) only [go_sem, Nat.reduceAdd, Nat.reduceMul, Nat.reduceSub, Int.reduceToNat, mpE_nil, Int.natCast_zero, List.replicate_zero, List.length_take, List.length_drop, AVal.own.injEq, reduceCtorEq, Int.reduceAdd, nle2, nle1, nle0, nleA, nleL, Try.results6]

def ref10_Has_b1 (n_ : Int) (k0 : Nat) (x_2 : Int) (sv : Unit) : Option (Out (Unit) (Bool)) :=
  (bif (decide (x_2 = n_)) then some (Out.ret true) else some (Out.next ()))

def ref10_Has (l : List Int) (n_ : Int) : Option (Bool) :=
  (forIx (ref10_Has_b1 n_) 0 l ()).bind fun o0 => o0.on fun s0 => some false

theorem ref10_Has_spec (l : List Int) (n_ : Int) {r : Bool} (h : ref10_Has l n_ = some r) : PureFn Try.prog 44 [.sl 1 (l.map intC), .int .i64 n_] (· = .bool r) := by
  refine PureFn.nle (PureFn.intro Try.func44 rfl rfl (by show _ ≤ 18; simp) ?_)
  unfold ref10_Has at h
  (try simp (implicitDefEqProofs := false) (decide := true) only [go_sem, Nat.reduceAdd, Nat.reduceMul, Nat.reduceSub, Int.reduceToNat])
  refine AWP.seq ?_
  refine AWP.region rfl ?_; intro K hK
  (try simp (implicitDefEqProofs := false) (decide := true) only [go_sem, Nat.reduceAdd, Nat.reduceMul, Nat.reduceSub, Int.reduceToNat])
  refine hK _ _ ?_; clear hK K
  refine qthen_normal ?_
  refine AWP.seq ?_
  refine AWP.seq ?_
  refine AWP.region rfl ?_; intro K hK
  (try simp (implicitDefEqProofs := false) (decide := true) only [go_sem, Nat.reduceAdd, Nat.reduceMul, Nat.reduceSub, Int.reduceToNat])
  refine hK _ _ ?_; clear hK K
  refine qthen_normal ?_
  refine AWP.block ?_
  obtain ⟨o0, hJ0, hO0⟩ := bindE h
  clear h
  refine AWP.loopW (ι := Nat × (Unit) × (Unit)) (fun zz => [(0, .sl 1 (l.map intC)), (1, .int .i64 n_), (5, .int .i64 ((zz.1 : Nat) : Int))]) (fun zz => []) (fun zz => zz.1 ≤ l.length ∧ forIx (ref10_Has_b1 n_) zz.1 ((l).drop zz.1) zz.2.1 = some o0) (fun zz => l.length - zz.1) (0, (), ()) ⟨Nat.zero_le _, hJ0⟩ (by (simp (implicitDefEqProofs := false) (decide := true) only [go_sem, Nat.reduceAdd, Nat.reduceMul, Nat.reduceSub, Int.reduceToNat, mpE_nil, Int.natCast_zero, List.replicate_zero, List.length_take, List.length_drop, AVal.own.injEq, reduceCtorEq, Int.reduceAdd] <;> omega)) (by (simp (implicitDefEqProofs := false) (decide := true) only [go_sem, Nat.reduceAdd, Nat.reduceMul, Nat.reduceSub, Int.reduceToNat, mpE_nil, Int.natCast_zero, List.replicate_zero, List.length_take, List.length_drop, AVal.own.injEq, reduceCtorEq, Int.reduceAdd] <;> omega)) (fun x => ⟨rfl, rfl, rfl⟩) ?_
  clear hJ0
  rintro ⟨k0, ⟨⟩, ⟨⟩⟩ ⟨hk0, hJ0⟩
  dsimp only at hk0 hJ0 ⊢
  refine AWP.seq ?_
  refine AWP.seq ?_
  refine AWP.region rfl ?_; intro K hK
  (try simp (implicitDefEqProofs := false) (decide := true) only [go_sem, Nat.reduceAdd, Nat.reduceMul, Nat.reduceSub, Int.reduceToNat])
  intro hm
  refine hK _ _ ?_; clear hK K
  refine qthen_normal ?_
  refine AWP.cond (acond_split (fun hc => ?_) (fun hc => ?_))
  · have hlt0 : k0 < l.length := by have := of_decide_eq_true hc; omega
    obtain ⟨x_2, b0, hx0_, h, hJ0⟩ := for_cons hJ0 hlt0
    have hx0 := idxL_nat hx0_
    have hw0 : IntKind.i64.wrap (((k0 : Nat) : Int) + 1) = (((k0 : Nat) : Int) + (1 : Int)) := by rw [wrap_i64] <;> omega
    unfold ref10_Has_b1 at h; try dsimp only at h
    refine AWP.skip ?_
    refine qthen_normal ?_
    refine AWP.seq ?_
    refine AWP.block ?_
    refine AWP.seq ?_
    refine AWP.region rfl ?_; intro K hK
    (try simp (implicitDefEqProofs := false) (decide := true) only [go_sem, Nat.reduceAdd, Nat.reduceMul, Nat.reduceSub, Int.reduceToNat])
    refine AIdx.of (f := intC) (l := l) hx0 ?_
    (try simp (implicitDefEqProofs := false) (decide := true) only [go_sem, Nat.reduceAdd, Nat.reduceMul, Nat.reduceSub, Int.reduceToNat])
    refine hK _ _ ?_; clear hK K
    refine qthen_normal ?_
    refine AWP.cond (acond_split (fun hc => ?_) (fun hc => ?_))
    · replace h := bif_t h hc
      refine AWP.seq ?_
      refine AWP.region rfl ?_; intro K hK
      (try simp (implicitDefEqProofs := false) (decide := true) only [go_sem, Nat.reduceAdd, Nat.reduceMul, Nat.reduceSub, Int.reduceToNat])
      refine hK _ _ ?_; clear hK K
      refine qthen_normal ?_
      refine AWP.ret ?_
      refine qblock_ret ?_
      refine qthen_ret ?_
      refine qthen_ret ?_
      obtain rfl := some_eq h
      obtain rfl := cont_ret hJ0
      replace h := on_ret hO0
      refine qblock_ret ?_
      refine qthen_ret ?_
      obtain rfl := some_eq h
      simp (implicitDefEqProofs := false) (decide := true) only [go_sem, Nat.reduceAdd, Nat.reduceMul, Nat.reduceSub, Int.reduceToNat, mpE_nil, Int.natCast_zero, List.replicate_zero, List.length_take, List.length_drop, AVal.own.injEq, reduceCtorEq, Int.reduceAdd, nle2, nle1, nle0, nleA, nleL, Try.results44]
    · replace h := bif_f h hc
      refine AWP.skip ?_
      refine qblock_normal ?_
      refine qthen_normal ?_
      refine AWP.region rfl ?_; intro K hK
      (try simp (implicitDefEqProofs := false) (decide := true) only [go_sem, Nat.reduceAdd, Nat.reduceMul, Nat.reduceSub, Int.reduceToNat])
      refine hK _ _ ?_; clear hK K
      refine qthen_normal ?_
      obtain rfl := some_eq h
      refine ⟨(k0 + 1, (), ()), ⟨by dsimp only; omega, cont_next hJ0⟩, by dsimp only; omega, ?_, ?_⟩
      · (simp (implicitDefEqProofs := false) (decide := true) only [go_sem, Nat.reduceAdd, Nat.reduceMul, Nat.reduceSub, Int.reduceToNat, mpE_nil, Int.natCast_zero, List.replicate_zero, List.length_take, List.length_drop, AVal.own.injEq, reduceCtorEq, Int.reduceAdd, hw0] <;> omega)
      · (simp (implicitDefEqProofs := false) (decide := true) only [go_sem, Nat.reduceAdd, Nat.reduceMul, Nat.reduceSub, Int.reduceToNat, mpE_nil, Int.natCast_zero, List.replicate_zero, List.length_take, List.length_drop, AVal.own.injEq, reduceCtorEq, Int.reduceAdd, hw0] <;> omega)
  · obtain rfl := for_nil hJ0 (fun hl => by have := of_decide_eq_false hc; omega)
    have h := on_next hO0; try dsimp only at h
    have hkl : l.length = k0 := by have := of_decide_eq_false hc; omega
    subst hkl
    refine AWP.exit ?_
    refine qthen_exit ?_
    refine qthen_exit ?_
    refine qblock_same ?_
    refine qthen_normal ?_
    refine AWP.seq ?_
    refine AWP.region rfl ?_; intro K hK
    (try simp (implicitDefEqProofs := false) (decide := true) only [go_sem, Nat.reduceAdd, Nat.reduceMul, Nat.reduceSub, Int.reduceToNat])
    refine hK _ _ ?_; clear hK K
    refine qthen_normal ?_
    refine AWP.ret ?_
    obtain rfl := some_eq h
    simp (implicitDefEqProofs := false) (decide := true) only [go_sem, Nat.reduceAdd, Nat.reduceMul, Nat.reduceSub, Int.reduceToNat, mpE_nil, Int.natCast_zero, List.replicate_zero, List.length_take, List.length_drop, AVal.own.injEq, reduceCtorEq, Int.reduceAdd, nle2, nle1, nle0, nleA, nleL, Try.results44]

def ref10_Down_b1 (runs : List Int) (k2 : Nat) (x_4 : ApiRun) (sv : (List ApiEdge)) : Option (Out ((List ApiEdge)) ((List ApiEdge))) :=
  (ref10_Has runs x_4.ID).bind fun y5 => (bif y5 then chk (sv.length + 1) (some (Out.next (sv ++ [(ApiEdge.mk x_4.ID x_4.From x_4.To x_4.Length)]))) else some (Out.next sv))

def ref10_Down (m : ApiMap) (runs : List Int) : Option ((List ApiEdge)) :=
  (forIx (ref10_Down_b1 runs) 0 m.Runs []).bind fun o2 => o2.on fun s2 => some s2

theorem ref10_Down_fresh (m : ApiMap) (runs : List Int) {r : (List ApiEdge)} (h : ref10_Down m runs = some r) : FreshFn Try.prog 28 [.agg (encApiMap m), .sl 1 (runs.map intC)] (· = .sl 4 (r.map encApiEdge)) := by
  refine FreshFn.nle (FreshFn.intro Try.func28 rfl rfl (by show _ ≤ 37; simp) ?_)
  unfold ref10_Down at h
  (try simp (implicitDefEqProofs := false) (decide := true) only [go_sem, Nat.reduceAdd, Nat.reduceMul, Nat.reduceSub, Int.reduceToNat])
  refine AWP.seq ?_
  refine AWP.region rfl ?_; intro K hK
  (try simp (implicitDefEqProofs := false) (decide := true) only [go_sem, Nat.reduceAdd, Nat.reduceMul, Nat.reduceSub, Int.reduceToNat])
  refine hK _ _ ?_; clear hK K
  refine qthen_normal ?_
  refine AWP.seq ?_
  refine AWP.region rfl ?_; intro K hK
  (try simp (implicitDefEqProofs := false) (decide := true) only [go_sem, Nat.reduceAdd, Nat.reduceMul, Nat.reduceSub, Int.reduceToNat])
  refine hK _ _ ?_; clear hK K
  refine qthen_normal ?_
  refine AWP.seq ?_
  refine AWP.seq ?_
  refine AWP.region rfl ?_; intro K hK
  (try simp (implicitDefEqProofs := false) (decide := true) only [go_sem, Nat.reduceAdd, Nat.reduceMul, Nat.reduceSub, Int.reduceToNat])
  refine hK _ _ ?_; clear hK K
  refine qthen_normal ?_
  refine AWP.block ?_
  refine AWP.ghost 5 4 rfl (by decide) ?_
  obtain ⟨o2, hJ2, hO2⟩ := bindE h
  clear h
  refine AWP.loopW (ι := Nat × ((List ApiEdge)) × (Nat)) (fun zz => [(1, .sl 1 (runs.map intC)), (2, .ptr 0 0), (5, .own 1 zz.2.2 0 zz.2.1.length), (6, .int .i64 ((zz.1 : Nat) : Int))]) (fun zz => [.box [.sl 2 (m.Nodes.map encApiNode), .sl 8 (m.Lifts.map encApiLift), .sl 7 (m.Runs.map encApiRun), .sl 1 (m.Bases.map intC)], .row zz.2.2 4 (zz.2.1.map encApiEdge)]) (fun zz => zz.1 ≤ m.Runs.length ∧ forIx (ref10_Down_b1 runs) zz.1 ((m.Runs).drop zz.1) zz.2.1 = some o2) (fun zz => m.Runs.length - zz.1) (0, [], 0) ⟨Nat.zero_le _, hJ2⟩ (by (simp (implicitDefEqProofs := false) (decide := true) only [go_sem, Nat.reduceAdd, Nat.reduceMul, Nat.reduceSub, Int.reduceToNat, mpE_nil, Int.natCast_zero, List.replicate_zero, List.length_take, List.length_drop, AVal.own.injEq, reduceCtorEq, Int.reduceAdd] <;> omega)) (by (simp (implicitDefEqProofs := false) (decide := true) only [go_sem, Nat.reduceAdd, Nat.reduceMul, Nat.reduceSub, Int.reduceToNat, mpE_nil, Int.natCast_zero, List.replicate_zero, List.length_take, List.length_drop, AVal.own.injEq, reduceCtorEq, Int.reduceAdd] <;> omega)) (fun x => ⟨rfl, rfl, rfl⟩) ?_
  clear hJ2
  rintro ⟨k2, out1, ver2⟩ ⟨hk2, hJ2⟩
  dsimp only at hk2 hJ2 ⊢
  refine AWP.seq ?_
  refine AWP.seq ?_
  refine AWP.region rfl ?_; intro K hK
  (try simp (implicitDefEqProofs := false) (decide := true) only [go_sem, Nat.reduceAdd, Nat.reduceMul, Nat.reduceSub, Int.reduceToNat])
  intro hm
  refine hK _ _ ?_; clear hK K
  refine qthen_normal ?_
  refine AWP.cond (acond_split (fun hc => ?_) (fun hc => ?_))
  · have hlt2 : k2 < m.Runs.length := by have := of_decide_eq_true hc; omega
    obtain ⟨x_4, b2, hx2_, h, hJ2⟩ := for_cons hJ2 hlt2
    have hx2 := idxL_nat hx2_
    have hw2 : IntKind.i64.wrap (((k2 : Nat) : Int) + 1) = (((k2 : Nat) : Int) + (1 : Int)) := by rw [wrap_i64] <;> omega
    unfold ref10_Down_b1 at h; try dsimp only at h
    refine AWP.skip ?_
    refine qthen_normal ?_
    refine AWP.seq ?_
    refine AWP.block ?_
    refine AWP.seq ?_
    refine AWP.region rfl ?_; intro K hK
    (try simp (implicitDefEqProofs := false) (decide := true) only [go_sem, Nat.reduceAdd, Nat.reduceMul, Nat.reduceSub, Int.reduceToNat])
    refine AIdx.of (f := encApiRun) (l := m.Runs) hx2 ?_
    (try simp (implicitDefEqProofs := false) (decide := true) only [go_sem, Nat.reduceAdd, Nat.reduceMul, Nat.reduceSub, Int.reduceToNat])
    refine hK _ _ ?_; clear hK K
    refine qthen_normal ?_
    refine AWP.seq ?_
    refine AWP.region rfl ?_; intro K hK
    (try simp (implicitDefEqProofs := false) (decide := true) only [go_sem, Nat.reduceAdd, Nat.reduceMul, Nat.reduceSub, Int.reduceToNat])
    obtain ⟨y5, hy5, h⟩ := bindE h
    refine ACall.pure Try.call44 (ref10_Has_spec runs x_4.ID hy5) rfl fun _ hr => ?_
    subst hr
    (try simp (implicitDefEqProofs := false) (decide := true) only [go_sem, Nat.reduceAdd, Nat.reduceMul, Nat.reduceSub, Int.reduceToNat])
    refine hK _ _ ?_; clear hK K
    refine qthen_normal ?_
    refine AWP.cond (acond_split (fun hc => ?_) (fun hc => ?_))
    · replace h := bif_t h hc
      refine AWP.region rfl ?_; intro K hK
      (try simp (implicitDefEqProofs := false) (decide := true) only [go_sem, Nat.reduceAdd, Nat.reduceMul, Nat.reduceSub, Int.reduceToNat])
      obtain ⟨hk, h⟩ := chk_in h
      (repeat (refine ⟨by first | omega | (simp only [List.length_take, List.length_drop, List.length_append]; omega), ?_⟩)); try simp (implicitDefEqProofs := false) (decide := true) only [go_sem, Nat.reduceAdd, Nat.reduceMul, Nat.reduceSub, Int.reduceToNat]
      refine hK _ _ ?_; clear hK K
      refine qblock_normal ?_
      refine qthen_normal ?_
      refine AWP.region rfl ?_; intro K hK
      (try simp (implicitDefEqProofs := false) (decide := true) only [go_sem, Nat.reduceAdd, Nat.reduceMul, Nat.reduceSub, Int.reduceToNat])
      refine hK _ _ ?_; clear hK K
      refine qthen_normal ?_
      obtain rfl := some_eq h
      refine ⟨(k2 + 1, (out1 ++ [(ApiEdge.mk x_4.ID x_4.From x_4.To x_4.Length)]), (ver2 + 1)), ⟨by dsimp only; omega, cont_next hJ2⟩, by dsimp only; omega, ?_, ?_⟩
      · (simp (implicitDefEqProofs := false) (decide := true) only [go_sem, Nat.reduceAdd, Nat.reduceMul, Nat.reduceSub, Int.reduceToNat, mpE_nil, Int.natCast_zero, List.replicate_zero, List.length_take, List.length_drop, AVal.own.injEq, reduceCtorEq, Int.reduceAdd, hw2] <;> omega)
      · (simp (implicitDefEqProofs := false) (decide := true) only [go_sem, Nat.reduceAdd, Nat.reduceMul, Nat.reduceSub, Int.reduceToNat, mpE_nil, Int.natCast_zero, List.replicate_zero, List.length_take, List.length_drop, AVal.own.injEq, reduceCtorEq, Int.reduceAdd, hw2] <;> omega)
    · replace h := bif_f h hc
      refine AWP.skip ?_
      refine qblock_normal ?_
      refine qthen_normal ?_
      refine AWP.region rfl ?_; intro K hK
      (try simp (implicitDefEqProofs := false) (decide := true) only [go_sem, Nat.reduceAdd, Nat.reduceMul, Nat.reduceSub, Int.reduceToNat])
      refine hK _ _ ?_; clear hK K
      refine qthen_normal ?_
      obtain rfl := some_eq h
      refine ⟨(k2 + 1, out1, ver2), ⟨by dsimp only; omega, cont_next hJ2⟩, by dsimp only; omega, ?_, ?_⟩
      · (simp (implicitDefEqProofs := false) (decide := true) only [go_sem, Nat.reduceAdd, Nat.reduceMul, Nat.reduceSub, Int.reduceToNat, mpE_nil, Int.natCast_zero, List.replicate_zero, List.length_take, List.length_drop, AVal.own.injEq, reduceCtorEq, Int.reduceAdd, hw2] <;> omega)
      · (simp (implicitDefEqProofs := false) (decide := true) only [go_sem, Nat.reduceAdd, Nat.reduceMul, Nat.reduceSub, Int.reduceToNat, mpE_nil, Int.natCast_zero, List.replicate_zero, List.length_take, List.length_drop, AVal.own.injEq, reduceCtorEq, Int.reduceAdd, hw2] <;> omega)
  · obtain rfl := for_nil hJ2 (fun hl => by have := of_decide_eq_false hc; omega)
    have h := on_next hO2; try dsimp only at h
    have hkl : m.Runs.length = k2 := by have := of_decide_eq_false hc; omega
    subst hkl
    refine AWP.exit ?_
    refine qthen_exit ?_
    refine qthen_exit ?_
    refine qblock_same ?_
    refine qthen_normal ?_
    refine AWP.seq ?_
    refine AWP.region rfl ?_; intro K hK
    (try simp (implicitDefEqProofs := false) (decide := true) only [go_sem, Nat.reduceAdd, Nat.reduceMul, Nat.reduceSub, Int.reduceToNat])
    refine hK _ _ ?_; clear hK K
    refine qthen_normal ?_
    refine AWP.ret ?_
    obtain rfl := some_eq h
    simp (implicitDefEqProofs := false) (decide := true) only [go_sem, Nat.reduceAdd, Nat.reduceMul, Nat.reduceSub, Int.reduceToNat, mpE_nil, Int.natCast_zero, List.replicate_zero, List.length_take, List.length_drop, AVal.own.injEq, reduceCtorEq, Int.reduceAdd, nle2, nle1, nle0, nleA, nleL, Try.results28]
theorem ref10_Down_spec (m : ApiMap) (runs : List Int) {r : (List ApiEdge)} (h : ref10_Down m runs = some r) : PureFn Try.prog 28 [.agg (encApiMap m), .sl 1 (runs.map intC)] (· = .sl 4 (r.map encApiEdge)) := (ref10_Down_fresh m runs h).pure

def ref10_Up_b1 (lifts : List Int) (k2 : Nat) (x_4 : ApiLift) (sv : (List ApiEdge)) : Option (Out ((List ApiEdge)) ((List ApiEdge))) :=
  (ref10_Has lifts x_4.ID).bind fun y5 => (bif y5 then chk (sv.length + 1) (some (Out.next (sv ++ [(ApiEdge.mk x_4.ID x_4.From x_4.To x_4.Length)]))) else some (Out.next sv))

def ref10_Up (m : ApiMap) (lifts : List Int) : Option ((List ApiEdge)) :=
  (forIx (ref10_Up_b1 lifts) 0 m.Lifts []).bind fun o2 => o2.on fun s2 => some s2

theorem ref10_Up_fresh (m : ApiMap) (lifts : List Int) {r : (List ApiEdge)} (h : ref10_Up m lifts = some r) : FreshFn Try.prog 30 [.agg (encApiMap m), .sl 1 (lifts.map intC)] (· = .sl 4 (r.map encApiEdge)) := by
  refine FreshFn.nle (FreshFn.intro Try.func30 rfl rfl (by show _ ≤ 37; simp) ?_)
  unfold ref10_Up at h
  (try simp (implicitDefEqProofs := false) (decide := true) only [go_sem, Nat.reduceAdd, Nat.reduceMul, Nat.reduceSub, Int.reduceToNat])
  refine AWP.seq ?_
  refine AWP.region rfl ?_; intro K hK
  (try simp (implicitDefEqProofs := false) (decide := true) only [go_sem, Nat.reduceAdd, Nat.reduceMul, Nat.reduceSub, Int.reduceToNat])
  refine hK _ _ ?_; clear hK K
  refine qthen_normal ?_
  refine AWP.seq ?_
  refine AWP.region rfl ?_; intro K hK
  (try simp (implicitDefEqProofs := false) (decide := true) only [go_sem, Nat.reduceAdd, Nat.reduceMul, Nat.reduceSub, Int.reduceToNat])
  refine hK _ _ ?_; clear hK K
  refine qthen_normal ?_
  refine AWP.seq ?_
  refine AWP.seq ?_
  refine AWP.region rfl ?_; intro K hK
  (try simp (implicitDefEqProofs := false) (decide := true) only [go_sem, Nat.reduceAdd, Nat.reduceMul, Nat.reduceSub, Int.reduceToNat])
  refine hK _ _ ?_; clear hK K
  refine qthen_normal ?_
  refine AWP.block ?_
  refine AWP.ghost 5 4 rfl (by decide) ?_
  obtain ⟨o2, hJ2, hO2⟩ := bindE h
  clear h
  refine AWP.loopW (ι := Nat × ((List ApiEdge)) × (Nat)) (fun zz => [(1, .sl 1 (lifts.map intC)), (2, .ptr 0 0), (5, .own 1 zz.2.2 0 zz.2.1.length), (6, .int .i64 ((zz.1 : Nat) : Int))]) (fun zz => [.box [.sl 2 (m.Nodes.map encApiNode), .sl 8 (m.Lifts.map encApiLift), .sl 7 (m.Runs.map encApiRun), .sl 1 (m.Bases.map intC)], .row zz.2.2 4 (zz.2.1.map encApiEdge)]) (fun zz => zz.1 ≤ m.Lifts.length ∧ forIx (ref10_Up_b1 lifts) zz.1 ((m.Lifts).drop zz.1) zz.2.1 = some o2) (fun zz => m.Lifts.length - zz.1) (0, [], 0) ⟨Nat.zero_le _, hJ2⟩ (by (simp (implicitDefEqProofs := false) (decide := true) only [go_sem, Nat.reduceAdd, Nat.reduceMul, Nat.reduceSub, Int.reduceToNat, mpE_nil, Int.natCast_zero, List.replicate_zero, List.length_take, List.length_drop, AVal.own.injEq, reduceCtorEq, Int.reduceAdd] <;> omega)) (by (simp (implicitDefEqProofs := false) (decide := true) only [go_sem, Nat.reduceAdd, Nat.reduceMul, Nat.reduceSub, Int.reduceToNat, mpE_nil, Int.natCast_zero, List.replicate_zero, List.length_take, List.length_drop, AVal.own.injEq, reduceCtorEq, Int.reduceAdd] <;> omega)) (fun x => ⟨rfl, rfl, rfl⟩) ?_
  clear hJ2
  rintro ⟨k2, out1, ver2⟩ ⟨hk2, hJ2⟩
  dsimp only at hk2 hJ2 ⊢
  refine AWP.seq ?_
  refine AWP.seq ?_
  refine AWP.region rfl ?_; intro K hK
  (try simp (implicitDefEqProofs := false) (decide := true) only [go_sem, Nat.reduceAdd, Nat.reduceMul, Nat.reduceSub, Int.reduceToNat])
  intro hm
  refine hK _ _ ?_; clear hK K
  refine qthen_normal ?_
  refine AWP.cond (acond_split (fun hc => ?_) (fun hc => ?_))
  · have hlt2 : k2 < m.Lifts.length := by have := of_decide_eq_true hc; omega
    obtain ⟨x_4, b2, hx2_, h, hJ2⟩ := for_cons hJ2 hlt2
    have hx2 := idxL_nat hx2_
    have hw2 : IntKind.i64.wrap (((k2 : Nat) : Int) + 1) = (((k2 : Nat) : Int) + (1 : Int)) := by rw [wrap_i64] <;> omega
    unfold ref10_Up_b1 at h; try dsimp only at h
    refine AWP.skip ?_
    refine qthen_normal ?_
    refine AWP.seq ?_
    refine AWP.block ?_
    refine AWP.seq ?_
    refine AWP.region rfl ?_; intro K hK
    (try simp (implicitDefEqProofs := false) (decide := true) only [go_sem, Nat.reduceAdd, Nat.reduceMul, Nat.reduceSub, Int.reduceToNat])
    refine AIdx.of (f := encApiLift) (l := m.Lifts) hx2 ?_
    (try simp (implicitDefEqProofs := false) (decide := true) only [go_sem, Nat.reduceAdd, Nat.reduceMul, Nat.reduceSub, Int.reduceToNat])
    refine hK _ _ ?_; clear hK K
    refine qthen_normal ?_
    refine AWP.seq ?_
    refine AWP.region rfl ?_; intro K hK
    (try simp (implicitDefEqProofs := false) (decide := true) only [go_sem, Nat.reduceAdd, Nat.reduceMul, Nat.reduceSub, Int.reduceToNat])
    obtain ⟨y5, hy5, h⟩ := bindE h
    refine ACall.pure Try.call44 (ref10_Has_spec lifts x_4.ID hy5) rfl fun _ hr => ?_
    subst hr
    (try simp (implicitDefEqProofs := false) (decide := true) only [go_sem, Nat.reduceAdd, Nat.reduceMul, Nat.reduceSub, Int.reduceToNat])
    refine hK _ _ ?_; clear hK K
    refine qthen_normal ?_
    refine AWP.cond (acond_split (fun hc => ?_) (fun hc => ?_))
    · replace h := bif_t h hc
      refine AWP.region rfl ?_; intro K hK
      (try simp (implicitDefEqProofs := false) (decide := true) only [go_sem, Nat.reduceAdd, Nat.reduceMul, Nat.reduceSub, Int.reduceToNat])
      obtain ⟨hk, h⟩ := chk_in h
      (repeat (refine ⟨by first | omega | (simp only [List.length_take, List.length_drop, List.length_append]; omega), ?_⟩)); try simp (implicitDefEqProofs := false) (decide := true) only [go_sem, Nat.reduceAdd, Nat.reduceMul, Nat.reduceSub, Int.reduceToNat]
      refine hK _ _ ?_; clear hK K
      refine qblock_normal ?_
      refine qthen_normal ?_
      refine AWP.region rfl ?_; intro K hK
      (try simp (implicitDefEqProofs := false) (decide := true) only [go_sem, Nat.reduceAdd, Nat.reduceMul, Nat.reduceSub, Int.reduceToNat])
      refine hK _ _ ?_; clear hK K
      refine qthen_normal ?_
      obtain rfl := some_eq h
      refine ⟨(k2 + 1, (out1 ++ [(ApiEdge.mk x_4.ID x_4.From x_4.To x_4.Length)]), (ver2 + 1)), ⟨by dsimp only; omega, cont_next hJ2⟩, by dsimp only; omega, ?_, ?_⟩
      · (simp (implicitDefEqProofs := false) (decide := true) only [go_sem, Nat.reduceAdd, Nat.reduceMul, Nat.reduceSub, Int.reduceToNat, mpE_nil, Int.natCast_zero, List.replicate_zero, List.length_take, List.length_drop, AVal.own.injEq, reduceCtorEq, Int.reduceAdd, hw2] <;> omega)
      · (simp (implicitDefEqProofs := false) (decide := true) only [go_sem, Nat.reduceAdd, Nat.reduceMul, Nat.reduceSub, Int.reduceToNat, mpE_nil, Int.natCast_zero, List.replicate_zero, List.length_take, List.length_drop, AVal.own.injEq, reduceCtorEq, Int.reduceAdd, hw2] <;> omega)
    · replace h := bif_f h hc
      refine AWP.skip ?_
      refine qblock_normal ?_
      refine qthen_normal ?_
      refine AWP.region rfl ?_; intro K hK
      (try simp (implicitDefEqProofs := false) (decide := true) only [go_sem, Nat.reduceAdd, Nat.reduceMul, Nat.reduceSub, Int.reduceToNat])
      refine hK _ _ ?_; clear hK K
      refine qthen_normal ?_
      obtain rfl := some_eq h
      refine ⟨(k2 + 1, out1, ver2), ⟨by dsimp only; omega, cont_next hJ2⟩, by dsimp only; omega, ?_, ?_⟩
      · (simp (implicitDefEqProofs := false) (decide := true) only [go_sem, Nat.reduceAdd, Nat.reduceMul, Nat.reduceSub, Int.reduceToNat, mpE_nil, Int.natCast_zero, List.replicate_zero, List.length_take, List.length_drop, AVal.own.injEq, reduceCtorEq, Int.reduceAdd, hw2] <;> omega)
      · (simp (implicitDefEqProofs := false) (decide := true) only [go_sem, Nat.reduceAdd, Nat.reduceMul, Nat.reduceSub, Int.reduceToNat, mpE_nil, Int.natCast_zero, List.replicate_zero, List.length_take, List.length_drop, AVal.own.injEq, reduceCtorEq, Int.reduceAdd, hw2] <;> omega)
  · obtain rfl := for_nil hJ2 (fun hl => by have := of_decide_eq_false hc; omega)
    have h := on_next hO2; try dsimp only at h
    have hkl : m.Lifts.length = k2 := by have := of_decide_eq_false hc; omega
    subst hkl
    refine AWP.exit ?_
    refine qthen_exit ?_
    refine qthen_exit ?_
    refine qblock_same ?_
    refine qthen_normal ?_
    refine AWP.seq ?_
    refine AWP.region rfl ?_; intro K hK
    (try simp (implicitDefEqProofs := false) (decide := true) only [go_sem, Nat.reduceAdd, Nat.reduceMul, Nat.reduceSub, Int.reduceToNat])
    refine hK _ _ ?_; clear hK K
    refine qthen_normal ?_
    refine AWP.ret ?_
    obtain rfl := some_eq h
    simp (implicitDefEqProofs := false) (decide := true) only [go_sem, Nat.reduceAdd, Nat.reduceMul, Nat.reduceSub, Int.reduceToNat, mpE_nil, Int.natCast_zero, List.replicate_zero, List.length_take, List.length_drop, AVal.own.injEq, reduceCtorEq, Int.reduceAdd, nle2, nle1, nle0, nleA, nleL, Try.results30]
theorem ref10_Up_spec (m : ApiMap) (lifts : List Int) {r : (List ApiEdge)} (h : ref10_Up m lifts = some r) : PureFn Try.prog 30 [.agg (encApiMap m), .sl 1 (lifts.map intC)] (· = .sl 4 (r.map encApiEdge)) := (ref10_Up_fresh m lifts h).pure

end
end Go.Proofs.Ytifkiiglkglhlaa
