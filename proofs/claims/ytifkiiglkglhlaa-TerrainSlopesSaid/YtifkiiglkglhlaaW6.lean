/-
  What functions of the program compute, as plain Lean functions, and the walks that prove it; printed by a small program of our own (wip/walk.py).
-/
import Derived.Test.YtifkiiglkglhlaaW5
namespace Go.Proofs.Ytifkiiglkglhlaa
open Go Go.Ab
attribute [local irreducible] AWP ACall DCall PureFn Go.Ab.Sub alist dlist AIdx AElem ALook ANext
set_option maxRecDepth 100000
set_option maxHeartbeats 4000000
set_option linter.unusedSimpArgs false
set_option linter.unusedVariables false
noncomputable section
def law10_TerrainEdges (m : ApiMap) (runs : List Int) (lifts : List Int) : Option (Bool) :=
  (law10_alive).bind fun y1 => (bif (!y1) then some false else (ref10_Right m).bind fun y2 => (bif (decide (y2 ≠ (0 : Int))) then some true else (bif (decide ((100 : Int) < ((runs.length : Nat) : Int))) then some true else (bif (decide ((100 : Int) < ((lifts.length : Nat) : Int))) then some true else (terrain_Down m runs).bind fun y3 => (ref10_Down m runs).bind fun y4 => (ref10_SameEdges y3 y4).bind fun y5 => (bif y5 then (terrain_Up m lifts).bind fun y6 => (ref10_Up m lifts).bind fun y7 => (ref10_SameEdges y6 y7).bind fun y8 => some y8 else some false)))))

theorem law10_TerrainEdges_spec (m : ApiMap) (runs : List Int) (lifts : List Int) {r : Bool} (h : law10_TerrainEdges m runs lifts = some r) : PureFn Try.prog 7 [.agg (encApiMap m), .sl 1 (runs.map intC), .sl 1 (lifts.map intC)] (· = .bool r) := by
  refine PureFn.nle (PureFn.intro Try.func7 rfl rfl (by show _ ≤ 38; simp) ?_)
  unfold law10_TerrainEdges at h
  (try simp (implicitDefEqProofs := false) (decide := true) only [go_sem, Nat.reduceAdd, Nat.reduceMul, Nat.reduceSub, Int.reduceToNat])
  refine AWP.seq ?_
  refine AWP.region rfl ?_; intro K hK
  (try simp (implicitDefEqProofs := false) (decide := true) only [go_sem, Nat.reduceAdd, Nat.reduceMul, Nat.reduceSub, Int.reduceToNat])
  refine hK _ _ ?_; clear hK K
  refine qthen_normal ?_
  refine AWP.seq ?_
  refine AWP.seq ?_
  refine AWP.region rfl ?_; intro K hK
  (try simp (implicitDefEqProofs := false) (decide := true) only [go_sem, Nat.reduceAdd, Nat.reduceMul, Nat.reduceSub, Int.reduceToNat])
  obtain ⟨y1, hy1, h⟩ := bindE h
  refine ACall.pure Try.call11 (law10_alive_spec hy1) rfl fun _ hr => ?_
  subst hr
  (try simp (implicitDefEqProofs := false) (decide := true) only [go_sem, Nat.reduceAdd, Nat.reduceMul, Nat.reduceSub, Int.reduceToNat])
  refine hK _ _ ?_; clear hK K
  refine qthen_normal ?_
  refine AWP.cond (acond_split (fun hc => ?_) (fun hc => ?_))
  · replace h := bif_t h hc
    refine AWP.seq ?_
    refine AWP.region rfl ?_; intro K hK
    (try simp (implicitDefEqProofs := false) (decide := true) only [go_sem, Nat.reduceAdd, Nat.reduceMul, Nat.reduceSub, Int.reduceToNat])
    refine hK _ _ ?_; clear hK K
    refine qthen_normal ?_
    refine AWP.ret ?_
    refine qthen_ret ?_
    obtain rfl := some_eq h
    simp (implicitDefEqProofs := false) (decide := true) only [go_sem, Nat.reduceAdd, Nat.reduceMul, Nat.reduceSub, Int.reduceToNat, mpE_nil, Int.natCast_zero, List.replicate_zero, List.length_take, List.length_drop, AVal.own.injEq, reduceCtorEq, Int.reduceAdd, nle2, nle1, nle0, nleA, nleL, Try.results7]
  · replace h := bif_f h hc
    refine AWP.skip ?_
    refine qthen_normal ?_
    refine AWP.seq ?_
    refine AWP.seq ?_
    refine AWP.region rfl ?_; intro K hK
    (try simp (implicitDefEqProofs := false) (decide := true) only [go_sem, Nat.reduceAdd, Nat.reduceMul, Nat.reduceSub, Int.reduceToNat])
    obtain ⟨y2, hy2, h⟩ := bindE h
    refine ACall.pure Try.call14 (ref10_Right_spec m hy2) rfl fun _ hr => ?_
    subst hr
    (try simp (implicitDefEqProofs := false) (decide := true) only [go_sem, Nat.reduceAdd, Nat.reduceMul, Nat.reduceSub, Int.reduceToNat])
    refine aguardK_split (fun hc => ?_) (fun hc => ?_)
    · replace h := bif_f h hc
      (try simp (implicitDefEqProofs := false) (decide := true) only [go_sem, Nat.reduceAdd, Nat.reduceMul, Nat.reduceSub, Int.reduceToNat, hc])
      intro hm
      refine aguardK_split (fun hc => ?_) (fun hc => ?_)
      · replace h := bif_f h hc
        (try simp (implicitDefEqProofs := false) (decide := true) only [go_sem, Nat.reduceAdd, Nat.reduceMul, Nat.reduceSub, Int.reduceToNat, hc])
        intro hm
        refine hK _ _ ?_; clear hK K
        refine qthen_normal ?_
        refine AWP.cond (acond_split (fun hc => ?_) (fun hc => ?_))
        · replace h := bif_t h hc
          refine AWP.seq ?_
          refine AWP.region rfl ?_; intro K hK
          (try simp (implicitDefEqProofs := false) (decide := true) only [go_sem, Nat.reduceAdd, Nat.reduceMul, Nat.reduceSub, Int.reduceToNat])
          refine hK _ _ ?_; clear hK K
          refine qthen_normal ?_
          refine AWP.ret ?_
          refine qthen_ret ?_
          obtain rfl := some_eq h
          simp (implicitDefEqProofs := false) (decide := true) only [go_sem, Nat.reduceAdd, Nat.reduceMul, Nat.reduceSub, Int.reduceToNat, mpE_nil, Int.natCast_zero, List.replicate_zero, List.length_take, List.length_drop, AVal.own.injEq, reduceCtorEq, Int.reduceAdd, nle2, nle1, nle0, nleA, nleL, Try.results7]
        · replace h := bif_f h hc
          refine AWP.skip ?_
          refine qthen_normal ?_
          refine AWP.seq ?_
          refine AWP.draw Try.mixed (by kernel_rfl) ?_; intro K hK
          (try simp (implicitDefEqProofs := false) (decide := true) only [go_sem, Nat.reduceAdd, Nat.reduceMul, Nat.reduceSub, Int.reduceToNat])
          obtain ⟨y3, hy3, h⟩ := bindE h
          refine DCall.pure Try.call27 (terrain_Down_spec m runs hy3) rfl ?_
          (try simp (implicitDefEqProofs := false) (decide := true) only [go_sem, Nat.reduceAdd, Nat.reduceMul, Nat.reduceSub, Int.reduceToNat])
          obtain ⟨y4, hy4, h⟩ := bindE h
          refine DCall.pure Try.call28 (ref10_Down_spec m runs hy4) rfl ?_
          (try simp (implicitDefEqProofs := false) (decide := true) only [go_sem, Nat.reduceAdd, Nat.reduceMul, Nat.reduceSub, Int.reduceToNat])
          obtain ⟨y5, hy5, h⟩ := bindE h
          refine DCall.pure Try.call26 (ref10_SameEdges_spec y3 y4 hy5) rfl ?_
          (try simp (implicitDefEqProofs := false) (decide := true) only [go_sem, Nat.reduceAdd, Nat.reduceMul, Nat.reduceSub, Int.reduceToNat])
          refine aguardK_split (fun hc => ?_) (fun hc => ?_)
          · replace h := bif_t h hc
            (try simp (implicitDefEqProofs := false) (decide := true) only [go_sem, Nat.reduceAdd, Nat.reduceMul, Nat.reduceSub, Int.reduceToNat, hc])
            obtain ⟨y6, hy6, h⟩ := bindE h
            refine DCall.pure Try.call29 (terrain_Up_spec m lifts hy6) rfl ?_
            (try simp (implicitDefEqProofs := false) (decide := true) only [go_sem, Nat.reduceAdd, Nat.reduceMul, Nat.reduceSub, Int.reduceToNat])
            obtain ⟨y7, hy7, h⟩ := bindE h
            refine DCall.pure Try.call30 (ref10_Up_spec m lifts hy7) rfl ?_
            (try simp (implicitDefEqProofs := false) (decide := true) only [go_sem, Nat.reduceAdd, Nat.reduceMul, Nat.reduceSub, Int.reduceToNat])
            obtain ⟨y8, hy8, h⟩ := bindE h
            refine DCall.pure Try.call26 (ref10_SameEdges_spec y6 y7 hy8) rfl ?_
            (try simp (implicitDefEqProofs := false) (decide := true) only [go_sem, Nat.reduceAdd, Nat.reduceMul, Nat.reduceSub, Int.reduceToNat])
            refine hK _ _ _ (by kernel_rfl) ?_; clear hK K
            refine qthen_normal ?_
            refine AWP.ret ?_
            obtain rfl := some_eq h
            simp (implicitDefEqProofs := false) (decide := true) only [go_sem, Nat.reduceAdd, Nat.reduceMul, Nat.reduceSub, Int.reduceToNat, mpE_nil, Int.natCast_zero, List.replicate_zero, List.length_take, List.length_drop, AVal.own.injEq, reduceCtorEq, Int.reduceAdd, nle2, nle1, nle0, nleA, nleL, Try.results7]
          · replace h := bif_f h hc
            (try simp (implicitDefEqProofs := false) (decide := true) only [go_sem, Nat.reduceAdd, Nat.reduceMul, Nat.reduceSub, Int.reduceToNat, hc, Bool.not_true])
            refine hK _ _ _ (by kernel_rfl) ?_; clear hK K
            refine qthen_normal ?_
            refine AWP.ret ?_
            obtain rfl := some_eq h
            simp (implicitDefEqProofs := false) (decide := true) only [go_sem, Nat.reduceAdd, Nat.reduceMul, Nat.reduceSub, Int.reduceToNat, mpE_nil, Int.natCast_zero, List.replicate_zero, List.length_take, List.length_drop, AVal.own.injEq, reduceCtorEq, Int.reduceAdd, nle2, nle1, nle0, nleA, nleL, Try.results7]
      · replace h := bif_t h hc
        (try simp (implicitDefEqProofs := false) (decide := true) only [go_sem, Nat.reduceAdd, Nat.reduceMul, Nat.reduceSub, Int.reduceToNat, hc, Bool.not_false])
        refine hK _ _ ?_; clear hK K
        refine qthen_normal ?_
        refine AWP.cond (acond_true ?_)
        refine AWP.seq ?_
        refine AWP.region rfl ?_; intro K hK
        (try simp (implicitDefEqProofs := false) (decide := true) only [go_sem, Nat.reduceAdd, Nat.reduceMul, Nat.reduceSub, Int.reduceToNat])
        refine hK _ _ ?_; clear hK K
        refine qthen_normal ?_
        refine AWP.ret ?_
        refine qthen_ret ?_
        obtain rfl := some_eq h
        simp (implicitDefEqProofs := false) (decide := true) only [go_sem, Nat.reduceAdd, Nat.reduceMul, Nat.reduceSub, Int.reduceToNat, mpE_nil, Int.natCast_zero, List.replicate_zero, List.length_take, List.length_drop, AVal.own.injEq, reduceCtorEq, Int.reduceAdd, nle2, nle1, nle0, nleA, nleL, Try.results7]
    · replace h := bif_t h hc
      (try simp (implicitDefEqProofs := false) (decide := true) only [go_sem, Nat.reduceAdd, Nat.reduceMul, Nat.reduceSub, Int.reduceToNat, hc, Bool.not_false])
      refine hK _ _ ?_; clear hK K
      refine qthen_normal ?_
      refine AWP.cond (acond_true ?_)
      refine AWP.seq ?_
      refine AWP.region rfl ?_; intro K hK
      (try simp (implicitDefEqProofs := false) (decide := true) only [go_sem, Nat.reduceAdd, Nat.reduceMul, Nat.reduceSub, Int.reduceToNat])
      refine hK _ _ ?_; clear hK K
      refine qthen_normal ?_
      refine AWP.ret ?_
      refine qthen_ret ?_
      obtain rfl := some_eq h
      simp (implicitDefEqProofs := false) (decide := true) only [go_sem, Nat.reduceAdd, Nat.reduceMul, Nat.reduceSub, Int.reduceToNat, mpE_nil, Int.natCast_zero, List.replicate_zero, List.length_take, List.length_drop, AVal.own.injEq, reduceCtorEq, Int.reduceAdd, nle2, nle1, nle0, nleA, nleL, Try.results7]

def law10_TerrainZones_b2 (m : ApiMap) (k4 : Nat) (y6 : (List Int)) (k6 : Nat) (x_8 : Int) (sv : Unit) : Option (Out (Unit) (Out (Int) (Bool))) :=
  (terrain_Run m x_8).bind fun y9 => (bif (!y9.2) then some (Out.ret (Out.ret false)) else (bif (decide (y9.1.Zone ≠ (((k4 : Nat) : Int) + (1 : Int)))) then some (Out.ret (Out.ret false)) else (bif (decide ((0 : Int) < ((k6 : Nat) : Int))) then (idxL y6 (IntKind.i64.wrap (((k6 : Nat) : Int) - (1 : Int)))).bind fun x_10 => (bif (decide (x_8 ≤ x_10)) then some (Out.ret (Out.ret false)) else some (Out.next ())) else some (Out.next ()))))

def law10_TerrainZones_b1 (m : ApiMap) (k4 : Nat) (_x : Unit) (sv : Int) : Option (Out (Int) (Bool)) :=
  (terrain_Runs m (((k4 : Nat) : Int) + (1 : Int))).bind fun y6 => (forIx (law10_TerrainZones_b2 m k4 y6) 0 y6 ()).bind fun o6 => o6.on fun s6 => some (Out.next (IntKind.i64.wrap (sv + ((y6.length : Nat) : Int))))

def law10_TerrainZones (m : ApiMap) : Option (Bool) :=
  (law10_alive).bind fun y1 => (bif (!y1) then some false else (ref10_Light m).bind fun y2 => (bif (!y2) then some true else (terrain_Right m).bind fun y3 => (bif (decide (y3 ≠ (0 : Int))) then some true else (forN (law10_TerrainZones_b1 m) 32 (0 : Int)).bind fun o4 => o4.on fun s4 => some (decide (s4 = ((m.Runs.length : Nat) : Int))))))

theorem law10_TerrainZones_spec (m : ApiMap) {r : Bool} (h : law10_TerrainZones m = some r) : PureFn Try.prog 8 [.agg (encApiMap m)] (· = .bool r) := by
  refine PureFn.nle (PureFn.intro Try.func8 rfl rfl (by show _ ≤ 74; simp) ?_)
  unfold law10_TerrainZones at h
  (try simp (implicitDefEqProofs := false) (decide := true) only [go_sem, Nat.reduceAdd, Nat.reduceMul, Nat.reduceSub, Int.reduceToNat])
  refine AWP.seq ?_
  refine AWP.region rfl ?_; intro K hK
  (try simp (implicitDefEqProofs := false) (decide := true) only [go_sem, Nat.reduceAdd, Nat.reduceMul, Nat.reduceSub, Int.reduceToNat])
  refine hK _ _ ?_; clear hK K
  refine qthen_normal ?_
  refine AWP.seq ?_
  refine AWP.seq ?_
  refine AWP.region rfl ?_; intro K hK
  (try simp (implicitDefEqProofs := false) (decide := true) only [go_sem, Nat.reduceAdd, Nat.reduceMul, Nat.reduceSub, Int.reduceToNat])
  obtain ⟨y1, hy1, h⟩ := bindE h
  refine ACall.pure Try.call11 (law10_alive_spec hy1) rfl fun _ hr => ?_
  subst hr
  (try simp (implicitDefEqProofs := false) (decide := true) only [go_sem, Nat.reduceAdd, Nat.reduceMul, Nat.reduceSub, Int.reduceToNat])
  refine hK _ _ ?_; clear hK K
  refine qthen_normal ?_
  refine AWP.cond (acond_split (fun hc => ?_) (fun hc => ?_))
  · replace h := bif_t h hc
    refine AWP.seq ?_
    refine AWP.region rfl ?_; intro K hK
    (try simp (implicitDefEqProofs := false) (decide := true) only [go_sem, Nat.reduceAdd, Nat.reduceMul, Nat.reduceSub, Int.reduceToNat])
    refine hK _ _ ?_; clear hK K
    refine qthen_normal ?_
    refine AWP.ret ?_
    refine qthen_ret ?_
    obtain rfl := some_eq h
    simp (implicitDefEqProofs := false) (decide := true) only [go_sem, Nat.reduceAdd, Nat.reduceMul, Nat.reduceSub, Int.reduceToNat, mpE_nil, Int.natCast_zero, List.replicate_zero, List.length_take, List.length_drop, AVal.own.injEq, reduceCtorEq, Int.reduceAdd, nle2, nle1, nle0, nleA, nleL, Try.results8]
  · replace h := bif_f h hc
    refine AWP.skip ?_
    refine qthen_normal ?_
    refine AWP.seq ?_
    refine AWP.seq ?_
    refine AWP.region rfl ?_; intro K hK
    (try simp (implicitDefEqProofs := false) (decide := true) only [go_sem, Nat.reduceAdd, Nat.reduceMul, Nat.reduceSub, Int.reduceToNat])
    obtain ⟨y2, hy2, h⟩ := bindE h
    refine ACall.pure Try.call12 (ref10_Light_spec m hy2) rfl fun _ hr => ?_
    subst hr
    (try simp (implicitDefEqProofs := false) (decide := true) only [go_sem, Nat.reduceAdd, Nat.reduceMul, Nat.reduceSub, Int.reduceToNat])
    refine aguardK_split (fun hc => ?_) (fun hc => ?_)
    · replace h := bif_f h hc
      (try simp (implicitDefEqProofs := false) (decide := true) only [go_sem, Nat.reduceAdd, Nat.reduceMul, Nat.reduceSub, Int.reduceToNat, hc])
      obtain ⟨y3, hy3, h⟩ := bindE h
      refine ACall.pure Try.call13 (terrain_Right_spec m hy3) rfl fun _ hr => ?_
      subst hr
      (try simp (implicitDefEqProofs := false) (decide := true) only [go_sem, Nat.reduceAdd, Nat.reduceMul, Nat.reduceSub, Int.reduceToNat])
      refine hK _ _ ?_; clear hK K
      refine qthen_normal ?_
      refine AWP.cond (acond_split (fun hc => ?_) (fun hc => ?_))
      · replace h := bif_t h hc
        refine AWP.seq ?_
        refine AWP.region rfl ?_; intro K hK
        (try simp (implicitDefEqProofs := false) (decide := true) only [go_sem, Nat.reduceAdd, Nat.reduceMul, Nat.reduceSub, Int.reduceToNat])
        refine hK _ _ ?_; clear hK K
        refine qthen_normal ?_
        refine AWP.ret ?_
        refine qthen_ret ?_
        obtain rfl := some_eq h
        simp (implicitDefEqProofs := false) (decide := true) only [go_sem, Nat.reduceAdd, Nat.reduceMul, Nat.reduceSub, Int.reduceToNat, mpE_nil, Int.natCast_zero, List.replicate_zero, List.length_take, List.length_drop, AVal.own.injEq, reduceCtorEq, Int.reduceAdd, nle2, nle1, nle0, nleA, nleL, Try.results8]
      · replace h := bif_f h hc
        refine AWP.skip ?_
        refine qthen_normal ?_
        refine AWP.seq ?_
        refine AWP.region rfl ?_; intro K hK
        (try simp (implicitDefEqProofs := false) (decide := true) only [go_sem, Nat.reduceAdd, Nat.reduceMul, Nat.reduceSub, Int.reduceToNat])
        refine hK _ _ ?_; clear hK K
        refine qthen_normal ?_
        refine AWP.seq ?_
        refine AWP.seq ?_
        refine AWP.region rfl ?_; intro K hK
        (try simp (implicitDefEqProofs := false) (decide := true) only [go_sem, Nat.reduceAdd, Nat.reduceMul, Nat.reduceSub, Int.reduceToNat])
        refine hK _ _ ?_; clear hK K
        refine qthen_normal ?_
        refine AWP.block ?_
        obtain ⟨o4, hJ4, hO4⟩ := bindE h
        clear h
        obtain ⟨hn4, hJ4⟩ := forN_in hJ4
        refine AWP.loopW (ι := Nat × (Int) × (Unit)) (fun zz => [(1, .ptr 0 0), (3, .int .i64 zz.2.1), (4, .int .i64 (((zz.1 : Nat) : Int) + (1 : Int)))]) (fun zz => [.box [.sl 2 (m.Nodes.map encApiNode), .sl 8 (m.Lifts.map encApiLift), .sl 7 (m.Runs.map encApiRun), .sl 1 (m.Bases.map intC)]]) (fun zz => zz.1 ≤ 32 ∧ forIx (law10_TerrainZones_b1 m) zz.1 ((List.replicate 32 ()).drop zz.1) zz.2.1 = some o4) (fun zz => 32 - zz.1) (0, (0 : Int), ()) ⟨Nat.zero_le _, hJ4⟩ (by (simp (implicitDefEqProofs := false) (decide := true) only [go_sem, Nat.reduceAdd, Nat.reduceMul, Nat.reduceSub, Int.reduceToNat, mpE_nil, Int.natCast_zero, List.replicate_zero, List.length_take, List.length_drop, AVal.own.injEq, reduceCtorEq, Int.reduceAdd] <;> omega)) (by (simp (implicitDefEqProofs := false) (decide := true) only [go_sem, Nat.reduceAdd, Nat.reduceMul, Nat.reduceSub, Int.reduceToNat, mpE_nil, Int.natCast_zero, List.replicate_zero, List.length_take, List.length_drop, AVal.own.injEq, reduceCtorEq, Int.reduceAdd] <;> omega)) (fun x => ⟨rfl, rfl, rfl⟩) ?_
        clear hJ4
        rintro ⟨k4, n_4, ⟨⟩⟩ ⟨hk4, hJ4⟩
        dsimp only at hk4 hJ4 ⊢
        refine AWP.seq ?_
        refine AWP.seq ?_
        refine AWP.region rfl ?_; intro K hK
        (try simp (implicitDefEqProofs := false) (decide := true) only [go_sem, Nat.reduceAdd, Nat.reduceMul, Nat.reduceSub, Int.reduceToNat])
        refine hK _ _ ?_; clear hK K
        refine qthen_normal ?_
        refine AWP.cond (acond_split (fun hc => ?_) (fun hc => ?_))
        · have hlt4 : k4 < 32 := by have := of_decide_eq_true hc; omega
          obtain ⟨_, b4, _, h, hJ4⟩ := for_cons hJ4 (by rw [List.length_replicate]; exact hlt4)
          have hw4 : IntKind.i64.wrap ((((k4 : Nat) : Int) + (1 : Int)) + 1) = (((k4 : Nat) : Int) + 1 + (1 : Int)) := by rw [wrap_i64] <;> omega
          unfold law10_TerrainZones_b1 at h; try dsimp only at h
          refine AWP.skip ?_
          refine qthen_normal ?_
          refine AWP.seq ?_
          refine AWP.block ?_
          refine AWP.seq ?_
          refine AWP.region rfl ?_; intro K hK
          (try simp (implicitDefEqProofs := false) (decide := true) only [go_sem, Nat.reduceAdd, Nat.reduceMul, Nat.reduceSub, Int.reduceToNat])
          obtain ⟨y6, hy6, h⟩ := bindE h
          refine ACall.pure Try.call24 (terrain_Runs_spec m (((k4 : Nat) : Int) + (1 : Int)) hy6) rfl fun _ hr => ?_
          subst hr
          (try simp (implicitDefEqProofs := false) (decide := true) only [go_sem, Nat.reduceAdd, Nat.reduceMul, Nat.reduceSub, Int.reduceToNat])
          refine hK _ _ ?_; clear hK K
          refine qthen_normal ?_
          refine AWP.seq ?_
          refine AWP.region rfl ?_; intro K hK
          (try simp (implicitDefEqProofs := false) (decide := true) only [go_sem, Nat.reduceAdd, Nat.reduceMul, Nat.reduceSub, Int.reduceToNat])
          intro hm
          refine hK _ _ ?_; clear hK K
          refine qthen_normal ?_
          refine AWP.seq ?_
          refine AWP.region rfl ?_; intro K hK
          (try simp (implicitDefEqProofs := false) (decide := true) only [go_sem, Nat.reduceAdd, Nat.reduceMul, Nat.reduceSub, Int.reduceToNat])
          refine hK _ _ ?_; clear hK K
          refine qthen_normal ?_
          refine AWP.block ?_
          obtain ⟨o6, hJ6, hO6⟩ := bindE h
          clear h
          refine AWP.loopW (ι := Nat × (Unit) × (Unit)) (fun zz => [(1, .ptr 0 0), (3, .int .i64 (IntKind.i64.wrap (n_4 + ((y6.length : Nat) : Int)))), (4, .int .i64 (((k4 : Nat) : Int) + (1 : Int))), (5, .sl 1 (y6.map intC)), (6, .int .i64 ((zz.1 : Nat) : Int))]) (fun zz => [.box [.sl 2 (m.Nodes.map encApiNode), .sl 8 (m.Lifts.map encApiLift), .sl 7 (m.Runs.map encApiRun), .sl 1 (m.Bases.map intC)]]) (fun zz => zz.1 ≤ y6.length ∧ forIx (law10_TerrainZones_b2 m k4 y6) zz.1 ((y6).drop zz.1) zz.2.1 = some o6) (fun zz => y6.length - zz.1) (0, (), ()) ⟨Nat.zero_le _, hJ6⟩ (by (simp (implicitDefEqProofs := false) (decide := true) only [go_sem, Nat.reduceAdd, Nat.reduceMul, Nat.reduceSub, Int.reduceToNat, mpE_nil, Int.natCast_zero, List.replicate_zero, List.length_take, List.length_drop, AVal.own.injEq, reduceCtorEq, Int.reduceAdd] <;> omega)) (by (simp (implicitDefEqProofs := false) (decide := true) only [go_sem, Nat.reduceAdd, Nat.reduceMul, Nat.reduceSub, Int.reduceToNat, mpE_nil, Int.natCast_zero, List.replicate_zero, List.length_take, List.length_drop, AVal.own.injEq, reduceCtorEq, Int.reduceAdd] <;> omega)) (fun x => ⟨rfl, rfl, rfl⟩) ?_
          clear hJ6
          rintro ⟨k6, ⟨⟩, ⟨⟩⟩ ⟨hk6, hJ6⟩
          dsimp only at hk6 hJ6 ⊢
          refine AWP.seq ?_
          refine AWP.seq ?_
          refine AWP.region rfl ?_; intro K hK
          (try simp (implicitDefEqProofs := false) (decide := true) only [go_sem, Nat.reduceAdd, Nat.reduceMul, Nat.reduceSub, Int.reduceToNat])
          intro hm
          refine hK _ _ ?_; clear hK K
          refine qthen_normal ?_
          refine AWP.cond (acond_split (fun hc => ?_) (fun hc => ?_))
          · have hlt6 : k6 < y6.length := by have := of_decide_eq_true hc; omega
            obtain ⟨x_8, b6, hx6_, h, hJ6⟩ := for_cons hJ6 hlt6
            have hx6 := idxL_nat hx6_
            have hw6 : IntKind.i64.wrap (((k6 : Nat) : Int) + 1) = (((k6 : Nat) : Int) + (1 : Int)) := by rw [wrap_i64] <;> omega
            unfold law10_TerrainZones_b2 at h; try dsimp only at h
            refine AWP.skip ?_
            refine qthen_normal ?_
            refine AWP.seq ?_
            refine AWP.block ?_
            refine AWP.seq ?_
            refine AWP.draw Try.mixed (by kernel_rfl) ?_; intro K hK
            (try simp (implicitDefEqProofs := false) (decide := true) only [go_sem, Nat.reduceAdd, Nat.reduceMul, Nat.reduceSub, Int.reduceToNat])
            refine AIdx.of (f := intC) (l := y6) hx6 ?_
            (try simp (implicitDefEqProofs := false) (decide := true) only [go_sem, Nat.reduceAdd, Nat.reduceMul, Nat.reduceSub, Int.reduceToNat])
            obtain ⟨y9, hy9, h⟩ := bindE h
            refine DCall.pure Try.call19 (terrain_Run_spec m x_8 hy9) rfl ?_
            (try simp (implicitDefEqProofs := false) (decide := true) only [go_sem, Nat.reduceAdd, Nat.reduceMul, Nat.reduceSub, Int.reduceToNat])
            refine hK _ _ _ (by kernel_rfl) ?_; clear hK K
            refine qthen_normal ?_
            refine AWP.seq ?_
            refine AWP.draw Try.mixed (by kernel_rfl) ?_; intro K hK
            (try simp (implicitDefEqProofs := false) (decide := true) only [go_sem, Nat.reduceAdd, Nat.reduceMul, Nat.reduceSub, Int.reduceToNat])
            refine aguardK_split (fun hc => ?_) (fun hc => ?_)
            · replace h := bif_f h hc
              (try simp (implicitDefEqProofs := false) (decide := true) only [go_sem, Nat.reduceAdd, Nat.reduceMul, Nat.reduceSub, Int.reduceToNat, hc])
              refine aguardK_split (fun hc => ?_) (fun hc => ?_)
              · replace h := bif_f h hc
                (try simp (implicitDefEqProofs := false) (decide := true) only [go_sem, Nat.reduceAdd, Nat.reduceMul, Nat.reduceSub, Int.reduceToNat, hc])
                refine aguardK_split (fun hc => ?_) (fun hc => ?_)
                · replace h := bif_t h hc
                  (try simp (implicitDefEqProofs := false) (decide := true) only [go_sem, Nat.reduceAdd, Nat.reduceMul, Nat.reduceSub, Int.reduceToNat, hc])
                  refine AIdx.of (f := intC) (l := y6) hx6 ?_
                  (try simp (implicitDefEqProofs := false) (decide := true) only [go_sem, Nat.reduceAdd, Nat.reduceMul, Nat.reduceSub, Int.reduceToNat])
                  obtain ⟨x_10, hx_10, h⟩ := bindE h
                  refine AIdx.of (f := intC) (l := y6) hx_10 ?_
                  (try simp (implicitDefEqProofs := false) (decide := true) only [go_sem, Nat.reduceAdd, Nat.reduceMul, Nat.reduceSub, Int.reduceToNat])
                  refine hK _ _ _ (by kernel_rfl) ?_; clear hK K
                  refine qthen_normal ?_
                  refine AWP.cond (acond_split (fun hc => ?_) (fun hc => ?_))
                  · replace h := bif_t h hc
                    refine AWP.seq ?_
                    refine AWP.region rfl ?_; intro K hK
                    (try simp (implicitDefEqProofs := false) (decide := true) only [go_sem, Nat.reduceAdd, Nat.reduceMul, Nat.reduceSub, Int.reduceToNat])
                    refine hK _ _ ?_; clear hK K
                    refine qthen_normal ?_
                    refine AWP.ret ?_
                    refine qblock_ret ?_
                    refine qthen_ret ?_
                    refine qthen_ret ?_
                    obtain rfl := some_eq h
                    obtain rfl := cont_ret hJ6
                    replace h := on_ret hO6
                    refine qblock_ret ?_
                    refine qblock_ret ?_
                    refine qthen_ret ?_
                    refine qthen_ret ?_
                    obtain rfl := some_eq h
                    obtain rfl := cont_ret hJ4
                    replace h := on_ret hO4
                    refine qblock_ret ?_
                    refine qthen_ret ?_
                    obtain rfl := some_eq h
                    simp (implicitDefEqProofs := false) (decide := true) only [go_sem, Nat.reduceAdd, Nat.reduceMul, Nat.reduceSub, Int.reduceToNat, mpE_nil, Int.natCast_zero, List.replicate_zero, List.length_take, List.length_drop, AVal.own.injEq, reduceCtorEq, Int.reduceAdd, nle2, nle1, nle0, nleA, nleL, Try.results8]
                  · replace h := bif_f h hc
                    refine AWP.skip ?_
                    refine qblock_normal ?_
                    refine qthen_normal ?_
                    refine AWP.region rfl ?_; intro K hK
                    (try simp (implicitDefEqProofs := false) (decide := true) only [go_sem, Nat.reduceAdd, Nat.reduceMul, Nat.reduceSub, Int.reduceToNat])
                    refine hK _ _ ?_; clear hK K
                    refine qthen_normal ?_
                    obtain rfl := some_eq h
                    refine ⟨(k6 + 1, (), ()), ⟨by dsimp only; omega, cont_next hJ6⟩, by dsimp only; omega, ?_, ?_⟩
                    · (simp (implicitDefEqProofs := false) (decide := true) only [go_sem, Nat.reduceAdd, Nat.reduceMul, Nat.reduceSub, Int.reduceToNat, mpE_nil, Int.natCast_zero, List.replicate_zero, List.length_take, List.length_drop, AVal.own.injEq, reduceCtorEq, Int.reduceAdd, hw6] <;> omega)
                    · (simp (implicitDefEqProofs := false) (decide := true) only [go_sem, Nat.reduceAdd, Nat.reduceMul, Nat.reduceSub, Int.reduceToNat, mpE_nil, Int.natCast_zero, List.replicate_zero, List.length_take, List.length_drop, AVal.own.injEq, reduceCtorEq, Int.reduceAdd, hw6] <;> omega)
                · replace h := bif_f h hc
                  (try simp (implicitDefEqProofs := false) (decide := true) only [go_sem, Nat.reduceAdd, Nat.reduceMul, Nat.reduceSub, Int.reduceToNat, hc, Bool.not_true])
                  refine hK _ _ _ (by kernel_rfl) ?_; clear hK K
                  refine qthen_normal ?_
                  refine AWP.cond (acond_false ?_)
                  refine AWP.skip ?_
                  refine qblock_normal ?_
                  refine qthen_normal ?_
                  refine AWP.region rfl ?_; intro K hK
                  (try simp (implicitDefEqProofs := false) (decide := true) only [go_sem, Nat.reduceAdd, Nat.reduceMul, Nat.reduceSub, Int.reduceToNat])
                  refine hK _ _ ?_; clear hK K
                  refine qthen_normal ?_
                  obtain rfl := some_eq h
                  refine ⟨(k6 + 1, (), ()), ⟨by dsimp only; omega, cont_next hJ6⟩, by dsimp only; omega, ?_, ?_⟩
                  · (simp (implicitDefEqProofs := false) (decide := true) only [go_sem, Nat.reduceAdd, Nat.reduceMul, Nat.reduceSub, Int.reduceToNat, mpE_nil, Int.natCast_zero, List.replicate_zero, List.length_take, List.length_drop, AVal.own.injEq, reduceCtorEq, Int.reduceAdd, hw6] <;> omega)
                  · (simp (implicitDefEqProofs := false) (decide := true) only [go_sem, Nat.reduceAdd, Nat.reduceMul, Nat.reduceSub, Int.reduceToNat, mpE_nil, Int.natCast_zero, List.replicate_zero, List.length_take, List.length_drop, AVal.own.injEq, reduceCtorEq, Int.reduceAdd, hw6] <;> omega)
              · replace h := bif_t h hc
                (try simp (implicitDefEqProofs := false) (decide := true) only [go_sem, Nat.reduceAdd, Nat.reduceMul, Nat.reduceSub, Int.reduceToNat, hc, Bool.not_false])
                refine hK _ _ _ (by kernel_rfl) ?_; clear hK K
                refine qthen_normal ?_
                refine AWP.cond (acond_true ?_)
                refine AWP.seq ?_
                refine AWP.region rfl ?_; intro K hK
                (try simp (implicitDefEqProofs := false) (decide := true) only [go_sem, Nat.reduceAdd, Nat.reduceMul, Nat.reduceSub, Int.reduceToNat])
                refine hK _ _ ?_; clear hK K
                refine qthen_normal ?_
                refine AWP.ret ?_
                refine qblock_ret ?_
                refine qthen_ret ?_
                refine qthen_ret ?_
                obtain rfl := some_eq h
                obtain rfl := cont_ret hJ6
                replace h := on_ret hO6
                refine qblock_ret ?_
                refine qblock_ret ?_
                refine qthen_ret ?_
                refine qthen_ret ?_
                obtain rfl := some_eq h
                obtain rfl := cont_ret hJ4
                replace h := on_ret hO4
                refine qblock_ret ?_
                refine qthen_ret ?_
                obtain rfl := some_eq h
                simp (implicitDefEqProofs := false) (decide := true) only [go_sem, Nat.reduceAdd, Nat.reduceMul, Nat.reduceSub, Int.reduceToNat, mpE_nil, Int.natCast_zero, List.replicate_zero, List.length_take, List.length_drop, AVal.own.injEq, reduceCtorEq, Int.reduceAdd, nle2, nle1, nle0, nleA, nleL, Try.results8]
            · replace h := bif_t h hc
              (try simp (implicitDefEqProofs := false) (decide := true) only [go_sem, Nat.reduceAdd, Nat.reduceMul, Nat.reduceSub, Int.reduceToNat, hc, Bool.not_false])
              refine hK _ _ _ (by kernel_rfl) ?_; clear hK K
              refine qthen_normal ?_
              refine AWP.cond (acond_true ?_)
              refine AWP.seq ?_
              refine AWP.region rfl ?_; intro K hK
              (try simp (implicitDefEqProofs := false) (decide := true) only [go_sem, Nat.reduceAdd, Nat.reduceMul, Nat.reduceSub, Int.reduceToNat])
              refine hK _ _ ?_; clear hK K
              refine qthen_normal ?_
              refine AWP.ret ?_
              refine qblock_ret ?_
              refine qthen_ret ?_
              refine qthen_ret ?_
              obtain rfl := some_eq h
              obtain rfl := cont_ret hJ6
              replace h := on_ret hO6
              refine qblock_ret ?_
              refine qblock_ret ?_
              refine qthen_ret ?_
              refine qthen_ret ?_
              obtain rfl := some_eq h
              obtain rfl := cont_ret hJ4
              replace h := on_ret hO4
              refine qblock_ret ?_
              refine qthen_ret ?_
              obtain rfl := some_eq h
              simp (implicitDefEqProofs := false) (decide := true) only [go_sem, Nat.reduceAdd, Nat.reduceMul, Nat.reduceSub, Int.reduceToNat, mpE_nil, Int.natCast_zero, List.replicate_zero, List.length_take, List.length_drop, AVal.own.injEq, reduceCtorEq, Int.reduceAdd, nle2, nle1, nle0, nleA, nleL, Try.results8]
          · obtain rfl := for_nil hJ6 (fun hl => by have := of_decide_eq_false hc; omega)
            have h := on_next hO6; try dsimp only at h
            have hkl : y6.length = k6 := by have := of_decide_eq_false hc; omega
            subst hkl
            refine AWP.exit ?_
            refine qthen_exit ?_
            refine qthen_exit ?_
            refine qblock_same ?_
            refine qblock_normal ?_
            refine qthen_normal ?_
            refine AWP.region rfl ?_; intro K hK
            (try simp (implicitDefEqProofs := false) (decide := true) only [go_sem, Nat.reduceAdd, Nat.reduceMul, Nat.reduceSub, Int.reduceToNat])
            refine hK _ _ ?_; clear hK K
            refine qthen_normal ?_
            obtain rfl := some_eq h
            refine ⟨(k4 + 1, (IntKind.i64.wrap (n_4 + ((y6.length : Nat) : Int))), ()), ⟨by dsimp only; omega, cont_next hJ4⟩, by dsimp only; omega, ?_, ?_⟩
            · (simp (implicitDefEqProofs := false) (decide := true) only [go_sem, Nat.reduceAdd, Nat.reduceMul, Nat.reduceSub, Int.reduceToNat, mpE_nil, Int.natCast_zero, List.replicate_zero, List.length_take, List.length_drop, AVal.own.injEq, reduceCtorEq, Int.reduceAdd, hw4] <;> omega)
            · (simp (implicitDefEqProofs := false) (decide := true) only [go_sem, Nat.reduceAdd, Nat.reduceMul, Nat.reduceSub, Int.reduceToNat, mpE_nil, Int.natCast_zero, List.replicate_zero, List.length_take, List.length_drop, AVal.own.injEq, reduceCtorEq, Int.reduceAdd, hw4] <;> omega)
        · obtain rfl := for_nil hJ4 (fun hl => by rw [List.length_replicate] at hl; have := of_decide_eq_false hc; omega)
          have h := on_next hO4; try dsimp only at h
          have hkl : 32 = k4 := by have := of_decide_eq_false hc; omega
          subst hkl
          refine AWP.exit ?_
          refine qthen_exit ?_
          refine qthen_exit ?_
          refine qblock_same ?_
          refine qthen_normal ?_
          refine AWP.seq ?_
          refine AWP.region rfl ?_; intro K hK
          (try simp (implicitDefEqProofs := false) (decide := true) only [go_sem, Nat.reduceAdd, Nat.reduceMul, Nat.reduceSub, Int.reduceToNat])
          intro hm
          refine hK _ _ ?_; clear hK K
          refine qthen_normal ?_
          refine AWP.ret ?_
          obtain rfl := some_eq h
          simp (implicitDefEqProofs := false) (decide := true) only [go_sem, Nat.reduceAdd, Nat.reduceMul, Nat.reduceSub, Int.reduceToNat, mpE_nil, Int.natCast_zero, List.replicate_zero, List.length_take, List.length_drop, AVal.own.injEq, reduceCtorEq, Int.reduceAdd, nle2, nle1, nle0, nleA, nleL, Try.results8]
    · replace h := bif_t h hc
      (try simp (implicitDefEqProofs := false) (decide := true) only [go_sem, Nat.reduceAdd, Nat.reduceMul, Nat.reduceSub, Int.reduceToNat, hc, Bool.not_false])
      refine hK _ _ ?_; clear hK K
      refine qthen_normal ?_
      refine AWP.cond (acond_true ?_)
      refine AWP.seq ?_
      refine AWP.region rfl ?_; intro K hK
      (try simp (implicitDefEqProofs := false) (decide := true) only [go_sem, Nat.reduceAdd, Nat.reduceMul, Nat.reduceSub, Int.reduceToNat])
      refine hK _ _ ?_; clear hK K
      refine qthen_normal ?_
      refine AWP.ret ?_
      refine qthen_ret ?_
      obtain rfl := some_eq h
      simp (implicitDefEqProofs := false) (decide := true) only [go_sem, Nat.reduceAdd, Nat.reduceMul, Nat.reduceSub, Int.reduceToNat, mpE_nil, Int.natCast_zero, List.replicate_zero, List.length_take, List.length_drop, AVal.own.injEq, reduceCtorEq, Int.reduceAdd, nle2, nle1, nle0, nleA, nleL, Try.results8]

def law10_TerrainFewer (m : ApiMap) (at_ : Int) : Option (Bool) :=
  (law10_alive).bind fun y1 => (bif (!y1) then some false else (ref10_Light m).bind fun y2 => (bif (!y2) then some true else (terrain_Right m).bind fun y3 => (bif (decide (y3 ≠ (0 : Int))) then some true else (bif (decide ((0 : Int) < ((m.Runs.length : Nat) : Int))) then nz ((m.Runs.length : Nat) : Int) (okB (decide ((0 : Int) ≤ (Int.tmod (IntKind.i64.wrap at_) ((m.Runs.length : Nat) : Int)) ∧ (Int.tmod (IntKind.i64.wrap at_) ((m.Runs.length : Nat) : Int)) ≤ ((m.Runs.length : Nat) : Int))) (chk (Int.tmod (IntKind.i64.wrap at_) ((m.Runs.length : Nat) : Int)).toNat (okB (decide ((0 : Int) ≤ (IntKind.i64.wrap ((Int.tmod (IntKind.i64.wrap at_) ((m.Runs.length : Nat) : Int)) + (1 : Int))) ∧ (IntKind.i64.wrap ((Int.tmod (IntKind.i64.wrap at_) ((m.Runs.length : Nat) : Int)) + (1 : Int))) ≤ ((m.Runs.length : Nat) : Int))) (chk ((Int.tmod (IntKind.i64.wrap at_) ((m.Runs.length : Nat) : Int)).toNat + (m.Runs.length - (IntKind.i64.wrap ((Int.tmod (IntKind.i64.wrap at_) ((m.Runs.length : Nat) : Int)) + (1 : Int))).toNat)) ((bif (decide ((0 : Int) < ((m.Lifts.length : Nat) : Int))) then nz ((m.Lifts.length : Nat) : Int) (okB (decide ((0 : Int) ≤ (Int.tmod (IntKind.i64.wrap at_) ((m.Lifts.length : Nat) : Int)) ∧ (Int.tmod (IntKind.i64.wrap at_) ((m.Lifts.length : Nat) : Int)) ≤ ((m.Lifts.length : Nat) : Int))) (chk (Int.tmod (IntKind.i64.wrap at_) ((m.Lifts.length : Nat) : Int)).toNat (okB (decide ((0 : Int) ≤ (IntKind.i64.wrap ((Int.tmod (IntKind.i64.wrap at_) ((m.Lifts.length : Nat) : Int)) + (1 : Int))) ∧ (IntKind.i64.wrap ((Int.tmod (IntKind.i64.wrap at_) ((m.Lifts.length : Nat) : Int)) + (1 : Int))) ≤ ((m.Lifts.length : Nat) : Int))) (chk ((Int.tmod (IntKind.i64.wrap at_) ((m.Lifts.length : Nat) : Int)).toNat + (m.Lifts.length - (IntKind.i64.wrap ((Int.tmod (IntKind.i64.wrap at_) ((m.Lifts.length : Nat) : Int)) + (1 : Int))).toNat)) ((terrain_Right (ApiMap.mk m.Nodes m.Lifts ((m.Runs.take (Int.tmod (IntKind.i64.wrap at_) ((m.Runs.length : Nat) : Int)).toNat) ++ (m.Runs.drop (IntKind.i64.wrap ((Int.tmod (IntKind.i64.wrap at_) ((m.Runs.length : Nat) : Int)) + (1 : Int))).toNat)) m.Bases)).bind fun y4 => (bif (decide (y4 = (0 : Int))) then (terrain_Right (ApiMap.mk m.Nodes ((m.Lifts.take (Int.tmod (IntKind.i64.wrap at_) ((m.Lifts.length : Nat) : Int)).toNat) ++ (m.Lifts.drop (IntKind.i64.wrap ((Int.tmod (IntKind.i64.wrap at_) ((m.Lifts.length : Nat) : Int)) + (1 : Int))).toNat)) m.Runs m.Bases)).bind fun y5 => some (decide (y5 = (0 : Int))) else some false)))))) else (terrain_Right (ApiMap.mk m.Nodes m.Lifts ((m.Runs.take (Int.tmod (IntKind.i64.wrap at_) ((m.Runs.length : Nat) : Int)).toNat) ++ (m.Runs.drop (IntKind.i64.wrap ((Int.tmod (IntKind.i64.wrap at_) ((m.Runs.length : Nat) : Int)) + (1 : Int))).toNat)) m.Bases)).bind fun y6 => (bif (decide (y6 = (0 : Int))) then (terrain_Right m).bind fun y7 => some (decide (y7 = (0 : Int))) else some false))))))) else (bif (decide ((0 : Int) < ((m.Lifts.length : Nat) : Int))) then nz ((m.Lifts.length : Nat) : Int) (okB (decide ((0 : Int) ≤ (Int.tmod (IntKind.i64.wrap at_) ((m.Lifts.length : Nat) : Int)) ∧ (Int.tmod (IntKind.i64.wrap at_) ((m.Lifts.length : Nat) : Int)) ≤ ((m.Lifts.length : Nat) : Int))) (chk (Int.tmod (IntKind.i64.wrap at_) ((m.Lifts.length : Nat) : Int)).toNat (okB (decide ((0 : Int) ≤ (IntKind.i64.wrap ((Int.tmod (IntKind.i64.wrap at_) ((m.Lifts.length : Nat) : Int)) + (1 : Int))) ∧ (IntKind.i64.wrap ((Int.tmod (IntKind.i64.wrap at_) ((m.Lifts.length : Nat) : Int)) + (1 : Int))) ≤ ((m.Lifts.length : Nat) : Int))) (chk ((Int.tmod (IntKind.i64.wrap at_) ((m.Lifts.length : Nat) : Int)).toNat + (m.Lifts.length - (IntKind.i64.wrap ((Int.tmod (IntKind.i64.wrap at_) ((m.Lifts.length : Nat) : Int)) + (1 : Int))).toNat)) ((terrain_Right m).bind fun y8 => (bif (decide (y8 = (0 : Int))) then (terrain_Right (ApiMap.mk m.Nodes ((m.Lifts.take (Int.tmod (IntKind.i64.wrap at_) ((m.Lifts.length : Nat) : Int)).toNat) ++ (m.Lifts.drop (IntKind.i64.wrap ((Int.tmod (IntKind.i64.wrap at_) ((m.Lifts.length : Nat) : Int)) + (1 : Int))).toNat)) m.Runs m.Bases)).bind fun y9 => some (decide (y9 = (0 : Int))) else some false)))))) else (terrain_Right m).bind fun y10 => (bif (decide (y10 = (0 : Int))) then (terrain_Right m).bind fun y11 => some (decide (y11 = (0 : Int))) else some false))))))

theorem law10_TerrainFewer_spec (m : ApiMap) (at_ : Int) {r : Bool} (h : law10_TerrainFewer m at_ = some r) : PureFn Try.prog 9 [.agg (encApiMap m), .int .u8 at_] (· = .bool r) := by
  refine PureFn.nle (PureFn.intro Try.func9 rfl rfl (by show _ ≤ 75; simp) ?_)
  unfold law10_TerrainFewer at h
  (try simp (implicitDefEqProofs := false) (decide := true) only [go_sem, Nat.reduceAdd, Nat.reduceMul, Nat.reduceSub, Int.reduceToNat])
  refine AWP.seq ?_
  refine AWP.region rfl ?_; intro K hK
  (try simp (implicitDefEqProofs := false) (decide := true) only [go_sem, Nat.reduceAdd, Nat.reduceMul, Nat.reduceSub, Int.reduceToNat])
  refine hK _ _ ?_; clear hK K
  refine qthen_normal ?_
  refine AWP.seq ?_
  refine AWP.seq ?_
  refine AWP.region rfl ?_; intro K hK
  (try simp (implicitDefEqProofs := false) (decide := true) only [go_sem, Nat.reduceAdd, Nat.reduceMul, Nat.reduceSub, Int.reduceToNat])
  obtain ⟨y1, hy1, h⟩ := bindE h
  refine ACall.pure Try.call11 (law10_alive_spec hy1) rfl fun _ hr => ?_
  subst hr
  (try simp (implicitDefEqProofs := false) (decide := true) only [go_sem, Nat.reduceAdd, Nat.reduceMul, Nat.reduceSub, Int.reduceToNat])
  refine hK _ _ ?_; clear hK K
  refine qthen_normal ?_
  refine AWP.cond (acond_split (fun hc => ?_) (fun hc => ?_))
  · replace h := bif_t h hc
    refine AWP.seq ?_
    refine AWP.region rfl ?_; intro K hK
    (try simp (implicitDefEqProofs := false) (decide := true) only [go_sem, Nat.reduceAdd, Nat.reduceMul, Nat.reduceSub, Int.reduceToNat])
    refine hK _ _ ?_; clear hK K
    refine qthen_normal ?_
    refine AWP.ret ?_
    refine qthen_ret ?_
    obtain rfl := some_eq h
    simp (implicitDefEqProofs := false) (decide := true) only [go_sem, Nat.reduceAdd, Nat.reduceMul, Nat.reduceSub, Int.reduceToNat, mpE_nil, Int.natCast_zero, List.replicate_zero, List.length_take, List.length_drop, AVal.own.injEq, reduceCtorEq, Int.reduceAdd, nle2, nle1, nle0, nleA, nleL, Try.results9]
  · replace h := bif_f h hc
    refine AWP.skip ?_
    refine qthen_normal ?_
    refine AWP.seq ?_
    refine AWP.seq ?_
    refine AWP.region rfl ?_; intro K hK
    (try simp (implicitDefEqProofs := false) (decide := true) only [go_sem, Nat.reduceAdd, Nat.reduceMul, Nat.reduceSub, Int.reduceToNat])
    obtain ⟨y2, hy2, h⟩ := bindE h
    refine ACall.pure Try.call12 (ref10_Light_spec m hy2) rfl fun _ hr => ?_
    subst hr
    (try simp (implicitDefEqProofs := false) (decide := true) only [go_sem, Nat.reduceAdd, Nat.reduceMul, Nat.reduceSub, Int.reduceToNat])
    refine aguardK_split (fun hc => ?_) (fun hc => ?_)
    · replace h := bif_f h hc
      (try simp (implicitDefEqProofs := false) (decide := true) only [go_sem, Nat.reduceAdd, Nat.reduceMul, Nat.reduceSub, Int.reduceToNat, hc])
      obtain ⟨y3, hy3, h⟩ := bindE h
      refine ACall.pure Try.call13 (terrain_Right_spec m hy3) rfl fun _ hr => ?_
      subst hr
      (try simp (implicitDefEqProofs := false) (decide := true) only [go_sem, Nat.reduceAdd, Nat.reduceMul, Nat.reduceSub, Int.reduceToNat])
      refine hK _ _ ?_; clear hK K
      refine qthen_normal ?_
      refine AWP.cond (acond_split (fun hc => ?_) (fun hc => ?_))
      · replace h := bif_t h hc
        refine AWP.seq ?_
        refine AWP.region rfl ?_; intro K hK
        (try simp (implicitDefEqProofs := false) (decide := true) only [go_sem, Nat.reduceAdd, Nat.reduceMul, Nat.reduceSub, Int.reduceToNat])
        refine hK _ _ ?_; clear hK K
        refine qthen_normal ?_
        refine AWP.ret ?_
        refine qthen_ret ?_
        obtain rfl := some_eq h
        simp (implicitDefEqProofs := false) (decide := true) only [go_sem, Nat.reduceAdd, Nat.reduceMul, Nat.reduceSub, Int.reduceToNat, mpE_nil, Int.natCast_zero, List.replicate_zero, List.length_take, List.length_drop, AVal.own.injEq, reduceCtorEq, Int.reduceAdd, nle2, nle1, nle0, nleA, nleL, Try.results9]
      · replace h := bif_f h hc
        refine AWP.skip ?_
        refine qthen_normal ?_
        refine AWP.seq ?_
        refine AWP.draw Try.mixed (by kernel_rfl) ?_; intro K hK
        (try simp (implicitDefEqProofs := false) (decide := true) only [go_sem, Nat.reduceAdd, Nat.reduceMul, Nat.reduceSub, Int.reduceToNat])
        refine hK _ _ _ (by kernel_rfl) ?_; clear hK K
        refine qthen_normal ?_
        refine AWP.seq ?_
        refine AWP.seq ?_
        refine AWP.region rfl ?_; intro K hK
        (try simp (implicitDefEqProofs := false) (decide := true) only [go_sem, Nat.reduceAdd, Nat.reduceMul, Nat.reduceSub, Int.reduceToNat])
        intro hm
        refine hK _ _ ?_; clear hK K
        refine qthen_normal ?_
        refine AWP.cond (acond_split (fun hc => ?_) (fun hc => ?_))
        · replace h := bif_t h hc
          refine AWP.seq ?_
          refine AWP.region rfl ?_; intro K hK
          (try simp (implicitDefEqProofs := false) (decide := true) only [go_sem, Nat.reduceAdd, Nat.reduceMul, Nat.reduceSub, Int.reduceToNat])
          intro hm
          obtain ⟨hk, h⟩ := nz_in h
          refine ⟨hk, ?_⟩
          refine hK _ _ ?_; clear hK K
          refine qthen_normal ?_
          refine AWP.draw Try.mixed (by kernel_rfl) ?_; intro K hK
          (try simp (implicitDefEqProofs := false) (decide := true) only [go_sem, Nat.reduceAdd, Nat.reduceMul, Nat.reduceSub, Int.reduceToNat])
          obtain ⟨hk, h⟩ := okB_in h
          intro hm
          (repeat (refine ⟨by omega, ?_⟩))
          obtain ⟨hk, h⟩ := chk_in h
          (repeat (refine ⟨by first | omega | (simp only [List.length_take, List.length_drop, List.length_append]; omega), ?_⟩)); try simp (implicitDefEqProofs := false) (decide := true) only [go_sem, Nat.reduceAdd, Nat.reduceMul, Nat.reduceSub, Int.reduceToNat]
          obtain ⟨hk, h⟩ := okB_in h
          intro hm
          (repeat (refine ⟨by omega, ?_⟩))
          obtain ⟨hk, h⟩ := chk_in h
          (repeat (refine ⟨by first | omega | (simp only [List.length_take, List.length_drop, List.length_append]; omega), ?_⟩)); try simp (implicitDefEqProofs := false) (decide := true) only [go_sem, Nat.reduceAdd, Nat.reduceMul, Nat.reduceSub, Int.reduceToNat]
          refine hK _ _ _ (by kernel_rfl) ?_; clear hK K
          refine qthen_normal ?_
          refine AWP.seq ?_
          refine AWP.seq ?_
          refine AWP.region rfl ?_; intro K hK
          (try simp (implicitDefEqProofs := false) (decide := true) only [go_sem, Nat.reduceAdd, Nat.reduceMul, Nat.reduceSub, Int.reduceToNat])
          intro hm
          refine hK _ _ ?_; clear hK K
          refine qthen_normal ?_
          refine AWP.cond (acond_split (fun hc => ?_) (fun hc => ?_))
          · replace h := bif_t h hc
            refine AWP.seq ?_
            refine AWP.region rfl ?_; intro K hK
            (try simp (implicitDefEqProofs := false) (decide := true) only [go_sem, Nat.reduceAdd, Nat.reduceMul, Nat.reduceSub, Int.reduceToNat])
            intro hm
            obtain ⟨hk, h⟩ := nz_in h
            refine ⟨hk, ?_⟩
            refine hK _ _ ?_; clear hK K
            refine qthen_normal ?_
            refine AWP.draw Try.mixed (by kernel_rfl) ?_; intro K hK
            (try simp (implicitDefEqProofs := false) (decide := true) only [go_sem, Nat.reduceAdd, Nat.reduceMul, Nat.reduceSub, Int.reduceToNat])
            obtain ⟨hk, h⟩ := okB_in h
            intro hm
            (repeat (refine ⟨by omega, ?_⟩))
            obtain ⟨hk, h⟩ := chk_in h
            (repeat (refine ⟨by first | omega | (simp only [List.length_take, List.length_drop, List.length_append]; omega), ?_⟩)); try simp (implicitDefEqProofs := false) (decide := true) only [go_sem, Nat.reduceAdd, Nat.reduceMul, Nat.reduceSub, Int.reduceToNat]
            obtain ⟨hk, h⟩ := okB_in h
            intro hm
            (repeat (refine ⟨by omega, ?_⟩))
            obtain ⟨hk, h⟩ := chk_in h
            (repeat (refine ⟨by first | omega | (simp only [List.length_take, List.length_drop, List.length_append]; omega), ?_⟩)); try simp (implicitDefEqProofs := false) (decide := true) only [go_sem, Nat.reduceAdd, Nat.reduceMul, Nat.reduceSub, Int.reduceToNat]
            refine hK _ _ _ (by kernel_rfl) ?_; clear hK K
            refine qthen_normal ?_
            refine AWP.seq ?_
            refine AWP.region rfl ?_; intro K hK
            (try simp (implicitDefEqProofs := false) (decide := true) only [go_sem, Nat.reduceAdd, Nat.reduceMul, Nat.reduceSub, Int.reduceToNat])
            obtain ⟨y4, hy4, h⟩ := bindE h
            refine ACall.snap Try.call13 (terrain_Right_spec (ApiMap.mk m.Nodes m.Lifts ((m.Runs.take (Int.tmod (IntKind.i64.wrap at_) ((m.Runs.length : Nat) : Int)).toNat) ++ (m.Runs.drop (IntKind.i64.wrap ((Int.tmod (IntKind.i64.wrap at_) ((m.Runs.length : Nat) : Int)) + (1 : Int))).toNat)) m.Bases) hy4) (by simp (implicitDefEqProofs := false) (decide := true) only [go_sem, Nat.reduceAdd, Nat.reduceMul, Nat.reduceSub, Int.reduceToNat]) (by rintro _ rfl; rfl) fun _ hr => ?_
            subst hr
            (try simp (implicitDefEqProofs := false) (decide := true) only [go_sem, Nat.reduceAdd, Nat.reduceMul, Nat.reduceSub, Int.reduceToNat])
            refine aguardK_split (fun hc => ?_) (fun hc => ?_)
            · replace h := bif_t h hc
              (try simp (implicitDefEqProofs := false) (decide := true) only [go_sem, Nat.reduceAdd, Nat.reduceMul, Nat.reduceSub, Int.reduceToNat, hc])
              obtain ⟨y5, hy5, h⟩ := bindE h
              refine ACall.snap Try.call13 (terrain_Right_spec (ApiMap.mk m.Nodes ((m.Lifts.take (Int.tmod (IntKind.i64.wrap at_) ((m.Lifts.length : Nat) : Int)).toNat) ++ (m.Lifts.drop (IntKind.i64.wrap ((Int.tmod (IntKind.i64.wrap at_) ((m.Lifts.length : Nat) : Int)) + (1 : Int))).toNat)) m.Runs m.Bases) hy5) (by simp (implicitDefEqProofs := false) (decide := true) only [go_sem, Nat.reduceAdd, Nat.reduceMul, Nat.reduceSub, Int.reduceToNat]) (by rintro _ rfl; rfl) fun _ hr => ?_
              subst hr
              (try simp (implicitDefEqProofs := false) (decide := true) only [go_sem, Nat.reduceAdd, Nat.reduceMul, Nat.reduceSub, Int.reduceToNat])
              refine hK _ _ ?_; clear hK K
              refine qthen_normal ?_
              refine AWP.ret ?_
              obtain rfl := some_eq h
              simp (implicitDefEqProofs := false) (decide := true) only [go_sem, Nat.reduceAdd, Nat.reduceMul, Nat.reduceSub, Int.reduceToNat, mpE_nil, Int.natCast_zero, List.replicate_zero, List.length_take, List.length_drop, AVal.own.injEq, reduceCtorEq, Int.reduceAdd, nle2, nle1, nle0, nleA, nleL, Try.results9]
            · replace h := bif_f h hc
              (try simp (implicitDefEqProofs := false) (decide := true) only [go_sem, Nat.reduceAdd, Nat.reduceMul, Nat.reduceSub, Int.reduceToNat, hc, Bool.not_true])
              refine hK _ _ ?_; clear hK K
              refine qthen_normal ?_
              refine AWP.ret ?_
              obtain rfl := some_eq h
              simp (implicitDefEqProofs := false) (decide := true) only [go_sem, Nat.reduceAdd, Nat.reduceMul, Nat.reduceSub, Int.reduceToNat, mpE_nil, Int.natCast_zero, List.replicate_zero, List.length_take, List.length_drop, AVal.own.injEq, reduceCtorEq, Int.reduceAdd, nle2, nle1, nle0, nleA, nleL, Try.results9]
          · replace h := bif_f h hc
            refine AWP.skip ?_
            refine qthen_normal ?_
            refine AWP.seq ?_
            refine AWP.region rfl ?_; intro K hK
            (try simp (implicitDefEqProofs := false) (decide := true) only [go_sem, Nat.reduceAdd, Nat.reduceMul, Nat.reduceSub, Int.reduceToNat])
            obtain ⟨y6, hy6, h⟩ := bindE h
            refine ACall.snap Try.call13 (terrain_Right_spec (ApiMap.mk m.Nodes m.Lifts ((m.Runs.take (Int.tmod (IntKind.i64.wrap at_) ((m.Runs.length : Nat) : Int)).toNat) ++ (m.Runs.drop (IntKind.i64.wrap ((Int.tmod (IntKind.i64.wrap at_) ((m.Runs.length : Nat) : Int)) + (1 : Int))).toNat)) m.Bases) hy6) (by simp (implicitDefEqProofs := false) (decide := true) only [go_sem, Nat.reduceAdd, Nat.reduceMul, Nat.reduceSub, Int.reduceToNat]) (by rintro _ rfl; rfl) fun _ hr => ?_
            subst hr
            (try simp (implicitDefEqProofs := false) (decide := true) only [go_sem, Nat.reduceAdd, Nat.reduceMul, Nat.reduceSub, Int.reduceToNat])
            refine aguardK_split (fun hc => ?_) (fun hc => ?_)
            · replace h := bif_t h hc
              (try simp (implicitDefEqProofs := false) (decide := true) only [go_sem, Nat.reduceAdd, Nat.reduceMul, Nat.reduceSub, Int.reduceToNat, hc])
              obtain ⟨y7, hy7, h⟩ := bindE h
              refine ACall.pure Try.call13 (terrain_Right_spec m hy7) rfl fun _ hr => ?_
              subst hr
              (try simp (implicitDefEqProofs := false) (decide := true) only [go_sem, Nat.reduceAdd, Nat.reduceMul, Nat.reduceSub, Int.reduceToNat])
              refine hK _ _ ?_; clear hK K
              refine qthen_normal ?_
              refine AWP.ret ?_
              obtain rfl := some_eq h
              simp (implicitDefEqProofs := false) (decide := true) only [go_sem, Nat.reduceAdd, Nat.reduceMul, Nat.reduceSub, Int.reduceToNat, mpE_nil, Int.natCast_zero, List.replicate_zero, List.length_take, List.length_drop, AVal.own.injEq, reduceCtorEq, Int.reduceAdd, nle2, nle1, nle0, nleA, nleL, Try.results9]
            · replace h := bif_f h hc
              (try simp (implicitDefEqProofs := false) (decide := true) only [go_sem, Nat.reduceAdd, Nat.reduceMul, Nat.reduceSub, Int.reduceToNat, hc, Bool.not_true])
              refine hK _ _ ?_; clear hK K
              refine qthen_normal ?_
              refine AWP.ret ?_
              obtain rfl := some_eq h
              simp (implicitDefEqProofs := false) (decide := true) only [go_sem, Nat.reduceAdd, Nat.reduceMul, Nat.reduceSub, Int.reduceToNat, mpE_nil, Int.natCast_zero, List.replicate_zero, List.length_take, List.length_drop, AVal.own.injEq, reduceCtorEq, Int.reduceAdd, nle2, nle1, nle0, nleA, nleL, Try.results9]
        · replace h := bif_f h hc
          refine AWP.skip ?_
          refine qthen_normal ?_
          refine AWP.seq ?_
          refine AWP.seq ?_
          refine AWP.region rfl ?_; intro K hK
          (try simp (implicitDefEqProofs := false) (decide := true) only [go_sem, Nat.reduceAdd, Nat.reduceMul, Nat.reduceSub, Int.reduceToNat])
          intro hm
          refine hK _ _ ?_; clear hK K
          refine qthen_normal ?_
          refine AWP.cond (acond_split (fun hc => ?_) (fun hc => ?_))
          · replace h := bif_t h hc
            refine AWP.seq ?_
            refine AWP.region rfl ?_; intro K hK
            (try simp (implicitDefEqProofs := false) (decide := true) only [go_sem, Nat.reduceAdd, Nat.reduceMul, Nat.reduceSub, Int.reduceToNat])
            intro hm
            obtain ⟨hk, h⟩ := nz_in h
            refine ⟨hk, ?_⟩
            refine hK _ _ ?_; clear hK K
            refine qthen_normal ?_
            refine AWP.draw Try.mixed (by kernel_rfl) ?_; intro K hK
            (try simp (implicitDefEqProofs := false) (decide := true) only [go_sem, Nat.reduceAdd, Nat.reduceMul, Nat.reduceSub, Int.reduceToNat])
            obtain ⟨hk, h⟩ := okB_in h
            intro hm
            (repeat (refine ⟨by omega, ?_⟩))
            obtain ⟨hk, h⟩ := chk_in h
            (repeat (refine ⟨by first | omega | (simp only [List.length_take, List.length_drop, List.length_append]; omega), ?_⟩)); try simp (implicitDefEqProofs := false) (decide := true) only [go_sem, Nat.reduceAdd, Nat.reduceMul, Nat.reduceSub, Int.reduceToNat]
            obtain ⟨hk, h⟩ := okB_in h
            intro hm
            (repeat (refine ⟨by omega, ?_⟩))
            obtain ⟨hk, h⟩ := chk_in h
            (repeat (refine ⟨by first | omega | (simp only [List.length_take, List.length_drop, List.length_append]; omega), ?_⟩)); try simp (implicitDefEqProofs := false) (decide := true) only [go_sem, Nat.reduceAdd, Nat.reduceMul, Nat.reduceSub, Int.reduceToNat]
            refine hK _ _ _ (by kernel_rfl) ?_; clear hK K
            refine qthen_normal ?_
            refine AWP.seq ?_
            refine AWP.region rfl ?_; intro K hK
            (try simp (implicitDefEqProofs := false) (decide := true) only [go_sem, Nat.reduceAdd, Nat.reduceMul, Nat.reduceSub, Int.reduceToNat])
            obtain ⟨y8, hy8, h⟩ := bindE h
            refine ACall.pure Try.call13 (terrain_Right_spec m hy8) rfl fun _ hr => ?_
            subst hr
            (try simp (implicitDefEqProofs := false) (decide := true) only [go_sem, Nat.reduceAdd, Nat.reduceMul, Nat.reduceSub, Int.reduceToNat])
            refine aguardK_split (fun hc => ?_) (fun hc => ?_)
            · replace h := bif_t h hc
              (try simp (implicitDefEqProofs := false) (decide := true) only [go_sem, Nat.reduceAdd, Nat.reduceMul, Nat.reduceSub, Int.reduceToNat, hc])
              obtain ⟨y9, hy9, h⟩ := bindE h
              refine ACall.snap Try.call13 (terrain_Right_spec (ApiMap.mk m.Nodes ((m.Lifts.take (Int.tmod (IntKind.i64.wrap at_) ((m.Lifts.length : Nat) : Int)).toNat) ++ (m.Lifts.drop (IntKind.i64.wrap ((Int.tmod (IntKind.i64.wrap at_) ((m.Lifts.length : Nat) : Int)) + (1 : Int))).toNat)) m.Runs m.Bases) hy9) (by simp (implicitDefEqProofs := false) (decide := true) only [go_sem, Nat.reduceAdd, Nat.reduceMul, Nat.reduceSub, Int.reduceToNat]) (by rintro _ rfl; rfl) fun _ hr => ?_
              subst hr
              (try simp (implicitDefEqProofs := false) (decide := true) only [go_sem, Nat.reduceAdd, Nat.reduceMul, Nat.reduceSub, Int.reduceToNat])
              refine hK _ _ ?_; clear hK K
              refine qthen_normal ?_
              refine AWP.ret ?_
              obtain rfl := some_eq h
              simp (implicitDefEqProofs := false) (decide := true) only [go_sem, Nat.reduceAdd, Nat.reduceMul, Nat.reduceSub, Int.reduceToNat, mpE_nil, Int.natCast_zero, List.replicate_zero, List.length_take, List.length_drop, AVal.own.injEq, reduceCtorEq, Int.reduceAdd, nle2, nle1, nle0, nleA, nleL, Try.results9]
            · replace h := bif_f h hc
              (try simp (implicitDefEqProofs := false) (decide := true) only [go_sem, Nat.reduceAdd, Nat.reduceMul, Nat.reduceSub, Int.reduceToNat, hc, Bool.not_true])
              refine hK _ _ ?_; clear hK K
              refine qthen_normal ?_
              refine AWP.ret ?_
              obtain rfl := some_eq h
              simp (implicitDefEqProofs := false) (decide := true) only [go_sem, Nat.reduceAdd, Nat.reduceMul, Nat.reduceSub, Int.reduceToNat, mpE_nil, Int.natCast_zero, List.replicate_zero, List.length_take, List.length_drop, AVal.own.injEq, reduceCtorEq, Int.reduceAdd, nle2, nle1, nle0, nleA, nleL, Try.results9]
          · replace h := bif_f h hc
            refine AWP.skip ?_
            refine qthen_normal ?_
            refine AWP.seq ?_
            refine AWP.region rfl ?_; intro K hK
            (try simp (implicitDefEqProofs := false) (decide := true) only [go_sem, Nat.reduceAdd, Nat.reduceMul, Nat.reduceSub, Int.reduceToNat])
            obtain ⟨y10, hy10, h⟩ := bindE h
            refine ACall.pure Try.call13 (terrain_Right_spec m hy10) rfl fun _ hr => ?_
            subst hr
            (try simp (implicitDefEqProofs := false) (decide := true) only [go_sem, Nat.reduceAdd, Nat.reduceMul, Nat.reduceSub, Int.reduceToNat])
            refine aguardK_split (fun hc => ?_) (fun hc => ?_)
            · replace h := bif_t h hc
              (try simp (implicitDefEqProofs := false) (decide := true) only [go_sem, Nat.reduceAdd, Nat.reduceMul, Nat.reduceSub, Int.reduceToNat, hc])
              obtain ⟨y11, hy11, h⟩ := bindE h
              refine ACall.pure Try.call13 (terrain_Right_spec m hy11) rfl fun _ hr => ?_
              subst hr
              (try simp (implicitDefEqProofs := false) (decide := true) only [go_sem, Nat.reduceAdd, Nat.reduceMul, Nat.reduceSub, Int.reduceToNat])
              refine hK _ _ ?_; clear hK K
              refine qthen_normal ?_
              refine AWP.ret ?_
              obtain rfl := some_eq h
              simp (implicitDefEqProofs := false) (decide := true) only [go_sem, Nat.reduceAdd, Nat.reduceMul, Nat.reduceSub, Int.reduceToNat, mpE_nil, Int.natCast_zero, List.replicate_zero, List.length_take, List.length_drop, AVal.own.injEq, reduceCtorEq, Int.reduceAdd, nle2, nle1, nle0, nleA, nleL, Try.results9]
            · replace h := bif_f h hc
              (try simp (implicitDefEqProofs := false) (decide := true) only [go_sem, Nat.reduceAdd, Nat.reduceMul, Nat.reduceSub, Int.reduceToNat, hc, Bool.not_true])
              refine hK _ _ ?_; clear hK K
              refine qthen_normal ?_
              refine AWP.ret ?_
              obtain rfl := some_eq h
              simp (implicitDefEqProofs := false) (decide := true) only [go_sem, Nat.reduceAdd, Nat.reduceMul, Nat.reduceSub, Int.reduceToNat, mpE_nil, Int.natCast_zero, List.replicate_zero, List.length_take, List.length_drop, AVal.own.injEq, reduceCtorEq, Int.reduceAdd, nle2, nle1, nle0, nleA, nleL, Try.results9]
    · replace h := bif_t h hc
      (try simp (implicitDefEqProofs := false) (decide := true) only [go_sem, Nat.reduceAdd, Nat.reduceMul, Nat.reduceSub, Int.reduceToNat, hc, Bool.not_false])
      refine hK _ _ ?_; clear hK K
      refine qthen_normal ?_
      refine AWP.cond (acond_true ?_)
      refine AWP.seq ?_
      refine AWP.region rfl ?_; intro K hK
      (try simp (implicitDefEqProofs := false) (decide := true) only [go_sem, Nat.reduceAdd, Nat.reduceMul, Nat.reduceSub, Int.reduceToNat])
      refine hK _ _ ?_; clear hK K
      refine qthen_normal ?_
      refine AWP.ret ?_
      refine qthen_ret ?_
      obtain rfl := some_eq h
      simp (implicitDefEqProofs := false) (decide := true) only [go_sem, Nat.reduceAdd, Nat.reduceMul, Nat.reduceSub, Int.reduceToNat, mpE_nil, Int.natCast_zero, List.replicate_zero, List.length_take, List.length_drop, AVal.own.injEq, reduceCtorEq, Int.reduceAdd, nle2, nle1, nle0, nleA, nleL, Try.results9]

def ref10_All_b1 (k2 : Nat) (x_4 : ApiRun) (sv : (List Int)) : Option (Out ((List Int)) ((List Int))) :=
  chk (sv.length + 1) (some (Out.next (sv ++ [x_4.ID])))

def ref10_All (m : ApiMap) : Option ((List Int)) :=
  (forIx ref10_All_b1 0 m.Runs []).bind fun o2 => o2.on fun s2 => some s2

theorem ref10_All_fresh (m : ApiMap) {r : (List Int)} (h : ref10_All m = some r) : FreshFn Try.prog 31 [.agg (encApiMap m)] (· = .sl 1 (r.map intC)) := by
  refine FreshFn.nle (FreshFn.intro Try.func31 rfl rfl (by show _ ≤ 22; simp) ?_)
  unfold ref10_All at h
  (try simp (implicitDefEqProofs := false) (decide := true) only [go_sem, Nat.reduceAdd, Nat.reduceMul, Nat.reduceSub, Int.reduceToNat])
  refine AWP.seq ?_
  refine AWP.region rfl ?_; intro K hK
  (try simp (implicitDefEqProofs := false) (decide := true) only [go_sem, Nat.reduceAdd, Nat.reduceMul, Nat.reduceSub, Int.reduceToNat])
  refine hK _ _ ?_; clear hK K
  refine qthen_normal ?_
  refine AWP.seq ?_
  refine AWP.region rfl ?_; intro K hK
  (try simp (implicitDefEqProofs := false) (decide := true) only [go_sem, Nat.reduceAdd, Nat.reduceMul, Nat.reduceSub, Int.reduceToNat])
  refine hK _ _ ?_; clear hK K
  refine qthen_normal ?_
  refine AWP.seq ?_
  refine AWP.seq ?_
  refine AWP.region rfl ?_; intro K hK
  (try simp (implicitDefEqProofs := false) (decide := true) only [go_sem, Nat.reduceAdd, Nat.reduceMul, Nat.reduceSub, Int.reduceToNat])
  refine hK _ _ ?_; clear hK K
  refine qthen_normal ?_
  refine AWP.block ?_
  refine AWP.ghost 3 1 rfl (by decide) ?_
  obtain ⟨o2, hJ2, hO2⟩ := bindE h
  clear h
  refine AWP.loopW (ι := Nat × ((List Int)) × (Nat)) (fun zz => [(1, .ptr 0 0), (3, .own 1 zz.2.2 0 zz.2.1.length), (4, .int .i64 ((zz.1 : Nat) : Int))]) (fun zz => [.box [.sl 2 (m.Nodes.map encApiNode), .sl 8 (m.Lifts.map encApiLift), .sl 7 (m.Runs.map encApiRun), .sl 1 (m.Bases.map intC)], .row zz.2.2 1 (zz.2.1.map intC)]) (fun zz => zz.1 ≤ m.Runs.length ∧ forIx ref10_All_b1 zz.1 ((m.Runs).drop zz.1) zz.2.1 = some o2) (fun zz => m.Runs.length - zz.1) (0, [], 0) ⟨Nat.zero_le _, hJ2⟩ (by (simp (implicitDefEqProofs := false) (decide := true) only [go_sem, Nat.reduceAdd, Nat.reduceMul, Nat.reduceSub, Int.reduceToNat, mpE_nil, Int.natCast_zero, List.replicate_zero, List.length_take, List.length_drop, AVal.own.injEq, reduceCtorEq, Int.reduceAdd] <;> omega)) (by (simp (implicitDefEqProofs := false) (decide := true) only [go_sem, Nat.reduceAdd, Nat.reduceMul, Nat.reduceSub, Int.reduceToNat, mpE_nil, Int.natCast_zero, List.replicate_zero, List.length_take, List.length_drop, AVal.own.injEq, reduceCtorEq, Int.reduceAdd] <;> omega)) (fun x => ⟨rfl, rfl, rfl⟩) ?_
  clear hJ2
  rintro ⟨k2, out1, ver2⟩ ⟨hk2, hJ2⟩
  dsimp only at hk2 hJ2 ⊢
  refine AWP.seq ?_
  refine AWP.seq ?_
  refine AWP.region rfl ?_; intro K hK
  (try simp (implicitDefEqProofs := false) (decide := true) only [go_sem, Nat.reduceAdd, Nat.reduceMul, Nat.reduceSub, Int.reduceToNat])
  intro hm
  refine hK _ _ ?_; clear hK K
  refine qthen_normal ?_
  refine AWP.cond (acond_split (fun hc => ?_) (fun hc => ?_))
  · have hlt2 : k2 < m.Runs.length := by have := of_decide_eq_true hc; omega
    obtain ⟨x_4, b2, hx2_, h, hJ2⟩ := for_cons hJ2 hlt2
    have hx2 := idxL_nat hx2_
    have hw2 : IntKind.i64.wrap (((k2 : Nat) : Int) + 1) = (((k2 : Nat) : Int) + (1 : Int)) := by rw [wrap_i64] <;> omega
    unfold ref10_All_b1 at h; try dsimp only at h
    refine AWP.skip ?_
    refine qthen_normal ?_
    refine AWP.seq ?_
    refine AWP.block ?_
    refine AWP.region rfl ?_; intro K hK
    (try simp (implicitDefEqProofs := false) (decide := true) only [go_sem, Nat.reduceAdd, Nat.reduceMul, Nat.reduceSub, Int.reduceToNat])
    refine AIdx.of (f := encApiRun) (l := m.Runs) hx2 ?_
    (try simp (implicitDefEqProofs := false) (decide := true) only [go_sem, Nat.reduceAdd, Nat.reduceMul, Nat.reduceSub, Int.reduceToNat])
    obtain ⟨hk, h⟩ := chk_in h
    (repeat (refine ⟨by first | omega | (simp only [List.length_take, List.length_drop, List.length_append]; omega), ?_⟩)); try simp (implicitDefEqProofs := false) (decide := true) only [go_sem, Nat.reduceAdd, Nat.reduceMul, Nat.reduceSub, Int.reduceToNat]
    refine hK _ _ ?_; clear hK K
    refine qblock_normal ?_
    refine qthen_normal ?_
    refine AWP.region rfl ?_; intro K hK
    (try simp (implicitDefEqProofs := false) (decide := true) only [go_sem, Nat.reduceAdd, Nat.reduceMul, Nat.reduceSub, Int.reduceToNat])
    refine hK _ _ ?_; clear hK K
    refine qthen_normal ?_
    obtain rfl := some_eq h
    refine ⟨(k2 + 1, (out1 ++ [x_4.ID]), (ver2 + 1)), ⟨by dsimp only; omega, cont_next hJ2⟩, by dsimp only; omega, ?_, ?_⟩
    · (simp (implicitDefEqProofs := false) (decide := true) only [go_sem, Nat.reduceAdd, Nat.reduceMul, Nat.reduceSub, Int.reduceToNat, mpE_nil, Int.natCast_zero, List.replicate_zero, List.length_take, List.length_drop, AVal.own.injEq, reduceCtorEq, Int.reduceAdd, hw2] <;> omega)
    · (simp (implicitDefEqProofs := false) (decide := true) only [go_sem, Nat.reduceAdd, Nat.reduceMul, Nat.reduceSub, Int.reduceToNat, mpE_nil, Int.natCast_zero, List.replicate_zero, List.length_take, List.length_drop, AVal.own.injEq, reduceCtorEq, Int.reduceAdd, hw2] <;> omega)
  · obtain rfl := for_nil hJ2 (fun hl => by have := of_decide_eq_false hc; omega)
    have h := on_next hO2; try dsimp only at h
    have hkl : m.Runs.length = k2 := by have := of_decide_eq_false hc; omega
    subst hkl
    refine AWP.exit ?_
    refine qthen_exit ?_
    refine qthen_exit ?_
    refine qblock_same ?_
    refine qthen_normal ?_
    refine AWP.seq ?_
    refine AWP.region rfl ?_; intro K hK
    (try simp (implicitDefEqProofs := false) (decide := true) only [go_sem, Nat.reduceAdd, Nat.reduceMul, Nat.reduceSub, Int.reduceToNat])
    refine hK _ _ ?_; clear hK K
    refine qthen_normal ?_
    refine AWP.ret ?_
    obtain rfl := some_eq h
    simp (implicitDefEqProofs := false) (decide := true) only [go_sem, Nat.reduceAdd, Nat.reduceMul, Nat.reduceSub, Int.reduceToNat, mpE_nil, Int.natCast_zero, List.replicate_zero, List.length_take, List.length_drop, AVal.own.injEq, reduceCtorEq, Int.reduceAdd, nle2, nle1, nle0, nleA, nleL, Try.results31]
theorem ref10_All_spec (m : ApiMap) {r : (List Int)} (h : ref10_All m = some r) : PureFn Try.prog 31 [.agg (encApiMap m)] (· = .sl 1 (r.map intC)) := (ref10_All_fresh m h).pure

def ref10_AllLifts_b1 (k2 : Nat) (x_4 : ApiLift) (sv : (List Int)) : Option (Out ((List Int)) ((List Int))) :=
  chk (sv.length + 1) (some (Out.next (sv ++ [x_4.ID])))

def ref10_AllLifts (m : ApiMap) : Option ((List Int)) :=
  (forIx ref10_AllLifts_b1 0 m.Lifts []).bind fun o2 => o2.on fun s2 => some s2

theorem ref10_AllLifts_fresh (m : ApiMap) {r : (List Int)} (h : ref10_AllLifts m = some r) : FreshFn Try.prog 32 [.agg (encApiMap m)] (· = .sl 1 (r.map intC)) := by
  refine FreshFn.nle (FreshFn.intro Try.func32 rfl rfl (by show _ ≤ 22; simp) ?_)
  unfold ref10_AllLifts at h
  (try simp (implicitDefEqProofs := false) (decide := true) only [go_sem, Nat.reduceAdd, Nat.reduceMul, Nat.reduceSub, Int.reduceToNat])
  refine AWP.seq ?_
  refine AWP.region rfl ?_; intro K hK
  (try simp (implicitDefEqProofs := false) (decide := true) only [go_sem, Nat.reduceAdd, Nat.reduceMul, Nat.reduceSub, Int.reduceToNat])
  refine hK _ _ ?_; clear hK K
  refine qthen_normal ?_
  refine AWP.seq ?_
  refine AWP.region rfl ?_; intro K hK
  (try simp (implicitDefEqProofs := false) (decide := true) only [go_sem, Nat.reduceAdd, Nat.reduceMul, Nat.reduceSub, Int.reduceToNat])
  refine hK _ _ ?_; clear hK K
  refine qthen_normal ?_
  refine AWP.seq ?_
  refine AWP.seq ?_
  refine AWP.region rfl ?_; intro K hK
  (try simp (implicitDefEqProofs := false) (decide := true) only [go_sem, Nat.reduceAdd, Nat.reduceMul, Nat.reduceSub, Int.reduceToNat])
  refine hK _ _ ?_; clear hK K
  refine qthen_normal ?_
  refine AWP.block ?_
  refine AWP.ghost 3 1 rfl (by decide) ?_
  obtain ⟨o2, hJ2, hO2⟩ := bindE h
  clear h
  refine AWP.loopW (ι := Nat × ((List Int)) × (Nat)) (fun zz => [(1, .ptr 0 0), (3, .own 1 zz.2.2 0 zz.2.1.length), (4, .int .i64 ((zz.1 : Nat) : Int))]) (fun zz => [.box [.sl 2 (m.Nodes.map encApiNode), .sl 8 (m.Lifts.map encApiLift), .sl 7 (m.Runs.map encApiRun), .sl 1 (m.Bases.map intC)], .row zz.2.2 1 (zz.2.1.map intC)]) (fun zz => zz.1 ≤ m.Lifts.length ∧ forIx ref10_AllLifts_b1 zz.1 ((m.Lifts).drop zz.1) zz.2.1 = some o2) (fun zz => m.Lifts.length - zz.1) (0, [], 0) ⟨Nat.zero_le _, hJ2⟩ (by (simp (implicitDefEqProofs := false) (decide := true) only [go_sem, Nat.reduceAdd, Nat.reduceMul, Nat.reduceSub, Int.reduceToNat, mpE_nil, Int.natCast_zero, List.replicate_zero, List.length_take, List.length_drop, AVal.own.injEq, reduceCtorEq, Int.reduceAdd] <;> omega)) (by (simp (implicitDefEqProofs := false) (decide := true) only [go_sem, Nat.reduceAdd, Nat.reduceMul, Nat.reduceSub, Int.reduceToNat, mpE_nil, Int.natCast_zero, List.replicate_zero, List.length_take, List.length_drop, AVal.own.injEq, reduceCtorEq, Int.reduceAdd] <;> omega)) (fun x => ⟨rfl, rfl, rfl⟩) ?_
  clear hJ2
  rintro ⟨k2, out1, ver2⟩ ⟨hk2, hJ2⟩
  dsimp only at hk2 hJ2 ⊢
  refine AWP.seq ?_
  refine AWP.seq ?_
  refine AWP.region rfl ?_; intro K hK
  (try simp (implicitDefEqProofs := false) (decide := true) only [go_sem, Nat.reduceAdd, Nat.reduceMul, Nat.reduceSub, Int.reduceToNat])
  intro hm
  refine hK _ _ ?_; clear hK K
  refine qthen_normal ?_
  refine AWP.cond (acond_split (fun hc => ?_) (fun hc => ?_))
  · have hlt2 : k2 < m.Lifts.length := by have := of_decide_eq_true hc; omega
    obtain ⟨x_4, b2, hx2_, h, hJ2⟩ := for_cons hJ2 hlt2
    have hx2 := idxL_nat hx2_
    have hw2 : IntKind.i64.wrap (((k2 : Nat) : Int) + 1) = (((k2 : Nat) : Int) + (1 : Int)) := by rw [wrap_i64] <;> omega
    unfold ref10_AllLifts_b1 at h; try dsimp only at h
    refine AWP.skip ?_
    refine qthen_normal ?_
    refine AWP.seq ?_
    refine AWP.block ?_
    refine AWP.region rfl ?_; intro K hK
    (try simp (implicitDefEqProofs := false) (decide := true) only [go_sem, Nat.reduceAdd, Nat.reduceMul, Nat.reduceSub, Int.reduceToNat])
    refine AIdx.of (f := encApiLift) (l := m.Lifts) hx2 ?_
    (try simp (implicitDefEqProofs := false) (decide := true) only [go_sem, Nat.reduceAdd, Nat.reduceMul, Nat.reduceSub, Int.reduceToNat])
    obtain ⟨hk, h⟩ := chk_in h
    (repeat (refine ⟨by first | omega | (simp only [List.length_take, List.length_drop, List.length_append]; omega), ?_⟩)); try simp (implicitDefEqProofs := false) (decide := true) only [go_sem, Nat.reduceAdd, Nat.reduceMul, Nat.reduceSub, Int.reduceToNat]
    refine hK _ _ ?_; clear hK K
    refine qblock_normal ?_
    refine qthen_normal ?_
    refine AWP.region rfl ?_; intro K hK
    (try simp (implicitDefEqProofs := false) (decide := true) only [go_sem, Nat.reduceAdd, Nat.reduceMul, Nat.reduceSub, Int.reduceToNat])
    refine hK _ _ ?_; clear hK K
    refine qthen_normal ?_
    obtain rfl := some_eq h
    refine ⟨(k2 + 1, (out1 ++ [x_4.ID]), (ver2 + 1)), ⟨by dsimp only; omega, cont_next hJ2⟩, by dsimp only; omega, ?_, ?_⟩
    · (simp (implicitDefEqProofs := false) (decide := true) only [go_sem, Nat.reduceAdd, Nat.reduceMul, Nat.reduceSub, Int.reduceToNat, mpE_nil, Int.natCast_zero, List.replicate_zero, List.length_take, List.length_drop, AVal.own.injEq, reduceCtorEq, Int.reduceAdd, hw2] <;> omega)
    · (simp (implicitDefEqProofs := false) (decide := true) only [go_sem, Nat.reduceAdd, Nat.reduceMul, Nat.reduceSub, Int.reduceToNat, mpE_nil, Int.natCast_zero, List.replicate_zero, List.length_take, List.length_drop, AVal.own.injEq, reduceCtorEq, Int.reduceAdd, hw2] <;> omega)
  · obtain rfl := for_nil hJ2 (fun hl => by have := of_decide_eq_false hc; omega)
    have h := on_next hO2; try dsimp only at h
    have hkl : m.Lifts.length = k2 := by have := of_decide_eq_false hc; omega
    subst hkl
    refine AWP.exit ?_
    refine qthen_exit ?_
    refine qthen_exit ?_
    refine qblock_same ?_
    refine qthen_normal ?_
    refine AWP.seq ?_
    refine AWP.region rfl ?_; intro K hK
    (try simp (implicitDefEqProofs := false) (decide := true) only [go_sem, Nat.reduceAdd, Nat.reduceMul, Nat.reduceSub, Int.reduceToNat])
    refine hK _ _ ?_; clear hK K
    refine qthen_normal ?_
    refine AWP.ret ?_
    obtain rfl := some_eq h
    simp (implicitDefEqProofs := false) (decide := true) only [go_sem, Nat.reduceAdd, Nat.reduceMul, Nat.reduceSub, Int.reduceToNat, mpE_nil, Int.natCast_zero, List.replicate_zero, List.length_take, List.length_drop, AVal.own.injEq, reduceCtorEq, Int.reduceAdd, nle2, nle1, nle0, nleA, nleL, Try.results32]
theorem ref10_AllLifts_spec (m : ApiMap) {r : (List Int)} (h : ref10_AllLifts m = some r) : PureFn Try.prog 32 [.agg (encApiMap m)] (· = .sl 1 (r.map intC)) := (ref10_AllLifts_fresh m h).pure

def graph_free_b1 (p2 : Int × Int) (sv : Int × Bool) : Option (Out (Int × Bool) (Int × Bool)) :=
  (bif (decide (p2.2 = (0 : Int))) then (bif (!sv.2) then some (Out.next (p2.1, true)) else (bif (decide (p2.1 < sv.1)) then some (Out.next (p2.1, true)) else some (Out.next (sv.1, sv.2)))) else some (Out.next (sv.1, sv.2)))

def graph_free (waiting : List (Int × Int)) : Option (Int × Bool) :=
  (allPerm waiting fun ord => forE graph_free_b1 ord ((0 : Int), false)).bind fun o2 => o2.on fun s2 => some (s2.1, s2.2)

theorem graph_free_spec (waiting : List (Int × Int)) {r : Int × Bool} (h : graph_free waiting = some r) : PureFn Try.prog 52 [.vmap (mpE intV waiting)] (· = .tuple [.int .i64 r.1, .bool r.2]) := by
  refine PureFn.nle (PureFn.intro Try.func52 rfl rfl (by show _ ≤ 29; simp) ?_)
  unfold graph_free at h
  (try simp (implicitDefEqProofs := false) (decide := true) only [go_sem, Nat.reduceAdd, Nat.reduceMul, Nat.reduceSub, Int.reduceToNat])
  refine AWP.seq ?_
  refine AWP.region rfl ?_; intro K hK
  (try simp (implicitDefEqProofs := false) (decide := true) only [go_sem, Nat.reduceAdd, Nat.reduceMul, Nat.reduceSub, Int.reduceToNat])
  refine hK _ _ ?_; clear hK K
  refine qthen_normal ?_
  refine AWP.seq ?_
  refine AWP.region rfl ?_; intro K hK
  (try simp (implicitDefEqProofs := false) (decide := true) only [go_sem, Nat.reduceAdd, Nat.reduceMul, Nat.reduceSub, Int.reduceToNat])
  refine hK _ _ ?_; clear hK K
  refine qthen_normal ?_
  refine AWP.seq ?_
  refine AWP.seq ?_
  refine AWP.region rfl ?_; intro K hK
  (try simp (implicitDefEqProofs := false) (decide := true) only [go_sem, Nat.reduceAdd, Nat.reduceMul, Nat.reduceSub, Int.reduceToNat])
  refine hK _ _ ?_; clear hK K
  refine qthen_normal ?_
  refine AWP.block ?_
  obtain ⟨o2, hJ2, hO2⟩ := bindE h
  clear h
  replace hJ2 := allPerm_in hJ2
  refine AWP.loopW (ι := List (Int × Int) × (Int × Bool) × Option (Int × AVal) × (Unit)) (fun zz => [(4, .int .i64 zz.2.1.1), (5, .bool zz.2.1.2), (9, .iter 0)]) (fun zz => [.it (mpE intV zz.1) zz.2.2.1]) (fun zz => ∀ ord : List (Int × Int), ord.Perm zz.1 → forE graph_free_b1 ord zz.2.1 = some o2) (fun zz => zz.1.length) (waiting, ((0 : Int), false), none, ()) hJ2 (by (simp (implicitDefEqProofs := false) (decide := true) only [go_sem, Nat.reduceAdd, Nat.reduceMul, Nat.reduceSub, Int.reduceToNat, mpE_nil, Int.natCast_zero, List.replicate_zero, List.length_take, List.length_drop, AVal.own.injEq, reduceCtorEq, Int.reduceAdd] <;> omega)) (by (simp (implicitDefEqProofs := false) (decide := true) only [go_sem, Nat.reduceAdd, Nat.reduceMul, Nat.reduceSub, Int.reduceToNat, mpE_nil, Int.natCast_zero, List.replicate_zero, List.length_take, List.length_drop, AVal.own.injEq, reduceCtorEq, Int.reduceAdd] <;> omega)) (fun x => ⟨rfl, rfl, rfl⟩) ?_
  clear hJ2
  rintro ⟨left2, ⟨least1, found2⟩, cur2, ⟨⟩⟩ hJ2
  dsimp only at hJ2 ⊢
  refine AWP.seq ?_
  refine AWP.region rfl ?_; intro K hK
  (try simp (implicitDefEqProofs := false) (decide := true) only [go_sem, Nat.reduceAdd, Nat.reduceMul, Nat.reduceSub, Int.reduceToNat])
  refine ANext.of (f := intV) (left := left2) (fun hl => ?_) (fun l1_2 p2 l2_2 hl => ?_)
  · subst hl
    obtain rfl := forE_nil (hJ2 _ (List.Perm.refl _))
    have h := on_next hO2; try dsimp only at h
    (try simp (implicitDefEqProofs := false) (decide := true) only [go_sem, Nat.reduceAdd, Nat.reduceMul, Nat.reduceSub, Int.reduceToNat])
    refine hK _ _ ?_; clear hK K
    refine qthen_normal ?_
    refine AWP.seq ?_
    refine AWP.cond (acond_false ?_)
    refine AWP.exit ?_
    refine qthen_exit ?_
    refine qthen_exit ?_
    refine qblock_same ?_
    refine qthen_normal ?_
    refine AWP.seq ?_
    refine AWP.region rfl ?_; intro K hK
    (try simp (implicitDefEqProofs := false) (decide := true) only [go_sem, Nat.reduceAdd, Nat.reduceMul, Nat.reduceSub, Int.reduceToNat])
    refine hK _ _ ?_; clear hK K
    refine qthen_normal ?_
    refine AWP.ret ?_
    obtain rfl := some_eq h
    simp (implicitDefEqProofs := false) (decide := true) only [go_sem, Nat.reduceAdd, Nat.reduceMul, Nat.reduceSub, Int.reduceToNat, mpE_nil, Int.natCast_zero, List.replicate_zero, List.length_take, List.length_drop, AVal.own.injEq, reduceCtorEq, Int.reduceAdd, nle2, nle1, nle0, nleA, nleL, Try.results52]
  · subst hl
    obtain ⟨b2, h, hJ2⟩ := forE_pick hJ2
    unfold graph_free_b1 at h; try dsimp only at h
    (try simp (implicitDefEqProofs := false) (decide := true) only [go_sem, Nat.reduceAdd, Nat.reduceMul, Nat.reduceSub, Int.reduceToNat])
    refine hK _ _ ?_; clear hK K
    refine qthen_normal ?_
    refine AWP.seq ?_
    refine AWP.cond (acond_true ?_)
    refine AWP.skip ?_
    refine qthen_normal ?_
    refine AWP.block ?_
    refine AWP.seq ?_
    refine AWP.region rfl ?_; intro K hK
    (try simp (implicitDefEqProofs := false) (decide := true) only [go_sem, Nat.reduceAdd, Nat.reduceMul, Nat.reduceSub, Int.reduceToNat])
    refine hK _ _ ?_; clear hK K
    refine qthen_normal ?_
    refine AWP.seq ?_
    refine AWP.region rfl ?_; intro K hK
    (try simp (implicitDefEqProofs := false) (decide := true) only [go_sem, Nat.reduceAdd, Nat.reduceMul, Nat.reduceSub, Int.reduceToNat])
    refine aguardK_split (fun hc => ?_) (fun hc => ?_)
    · replace h := bif_t h hc
      (try simp (implicitDefEqProofs := false) (decide := true) only [go_sem, Nat.reduceAdd, Nat.reduceMul, Nat.reduceSub, Int.reduceToNat, hc])
      refine aguardK_split (fun hc => ?_) (fun hc => ?_)
      · replace h := bif_f h hc
        (try simp (implicitDefEqProofs := false) (decide := true) only [go_sem, Nat.reduceAdd, Nat.reduceMul, Nat.reduceSub, Int.reduceToNat, hc])
        refine hK _ _ ?_; clear hK K
        refine qthen_normal ?_
        refine AWP.cond (acond_split (fun hc => ?_) (fun hc => ?_))
        · replace h := bif_t h hc
          refine AWP.region rfl ?_; intro K hK
          (try simp (implicitDefEqProofs := false) (decide := true) only [go_sem, Nat.reduceAdd, Nat.reduceMul, Nat.reduceSub, Int.reduceToNat])
          refine hK _ _ ?_; clear hK K
          refine qblock_normal ?_
          refine qthen_normal ?_
          obtain rfl := some_eq h
          refine ⟨(l1_2 ++ l2_2, (p2.1, true), some (p2.1, intV p2.2), ()), fun ord ho => cont_next (hJ2 ord ho), by simp only [List.length_append, List.length_cons]; omega, ?_, ?_⟩
          · (simp (implicitDefEqProofs := false) (decide := true) only [go_sem, Nat.reduceAdd, Nat.reduceMul, Nat.reduceSub, Int.reduceToNat, mpE_nil, Int.natCast_zero, List.replicate_zero, List.length_take, List.length_drop, AVal.own.injEq, reduceCtorEq, Int.reduceAdd] <;> omega)
          · (simp (implicitDefEqProofs := false) (decide := true) only [go_sem, Nat.reduceAdd, Nat.reduceMul, Nat.reduceSub, Int.reduceToNat, mpE_nil, Int.natCast_zero, List.replicate_zero, List.length_take, List.length_drop, AVal.own.injEq, reduceCtorEq, Int.reduceAdd] <;> omega)
        · replace h := bif_f h hc
          refine AWP.skip ?_
          refine qblock_normal ?_
          refine qthen_normal ?_
          obtain rfl := some_eq h
          refine ⟨(l1_2 ++ l2_2, (least1, found2), some (p2.1, intV p2.2), ()), fun ord ho => cont_next (hJ2 ord ho), by simp only [List.length_append, List.length_cons]; omega, ?_, ?_⟩
          · (simp (implicitDefEqProofs := false) (decide := true) only [go_sem, Nat.reduceAdd, Nat.reduceMul, Nat.reduceSub, Int.reduceToNat, mpE_nil, Int.natCast_zero, List.replicate_zero, List.length_take, List.length_drop, AVal.own.injEq, reduceCtorEq, Int.reduceAdd] <;> omega)
          · (simp (implicitDefEqProofs := false) (decide := true) only [go_sem, Nat.reduceAdd, Nat.reduceMul, Nat.reduceSub, Int.reduceToNat, mpE_nil, Int.natCast_zero, List.replicate_zero, List.length_take, List.length_drop, AVal.own.injEq, reduceCtorEq, Int.reduceAdd] <;> omega)
      · replace h := bif_t h hc
        (try simp (implicitDefEqProofs := false) (decide := true) only [go_sem, Nat.reduceAdd, Nat.reduceMul, Nat.reduceSub, Int.reduceToNat, hc, Bool.not_false])
        refine hK _ _ ?_; clear hK K
        refine qthen_normal ?_
        refine AWP.cond (acond_true ?_)
        refine AWP.region rfl ?_; intro K hK
        (try simp (implicitDefEqProofs := false) (decide := true) only [go_sem, Nat.reduceAdd, Nat.reduceMul, Nat.reduceSub, Int.reduceToNat])
        refine hK _ _ ?_; clear hK K
        refine qblock_normal ?_
        refine qthen_normal ?_
        obtain rfl := some_eq h
        refine ⟨(l1_2 ++ l2_2, (p2.1, true), some (p2.1, intV p2.2), ()), fun ord ho => cont_next (hJ2 ord ho), by simp only [List.length_append, List.length_cons]; omega, ?_, ?_⟩
        · (simp (implicitDefEqProofs := false) (decide := true) only [go_sem, Nat.reduceAdd, Nat.reduceMul, Nat.reduceSub, Int.reduceToNat, mpE_nil, Int.natCast_zero, List.replicate_zero, List.length_take, List.length_drop, AVal.own.injEq, reduceCtorEq, Int.reduceAdd] <;> omega)
        · (simp (implicitDefEqProofs := false) (decide := true) only [go_sem, Nat.reduceAdd, Nat.reduceMul, Nat.reduceSub, Int.reduceToNat, mpE_nil, Int.natCast_zero, List.replicate_zero, List.length_take, List.length_drop, AVal.own.injEq, reduceCtorEq, Int.reduceAdd] <;> omega)
    · replace h := bif_f h hc
      (try simp (implicitDefEqProofs := false) (decide := true) only [go_sem, Nat.reduceAdd, Nat.reduceMul, Nat.reduceSub, Int.reduceToNat, hc, Bool.not_true])
      refine hK _ _ ?_; clear hK K
      refine qthen_normal ?_
      refine AWP.cond (acond_false ?_)
      refine AWP.skip ?_
      refine qblock_normal ?_
      refine qthen_normal ?_
      obtain rfl := some_eq h
      refine ⟨(l1_2 ++ l2_2, (least1, found2), some (p2.1, intV p2.2), ()), fun ord ho => cont_next (hJ2 ord ho), by simp only [List.length_append, List.length_cons]; omega, ?_, ?_⟩
      · (simp (implicitDefEqProofs := false) (decide := true) only [go_sem, Nat.reduceAdd, Nat.reduceMul, Nat.reduceSub, Int.reduceToNat, mpE_nil, Int.natCast_zero, List.replicate_zero, List.length_take, List.length_drop, AVal.own.injEq, reduceCtorEq, Int.reduceAdd] <;> omega)
      · (simp (implicitDefEqProofs := false) (decide := true) only [go_sem, Nat.reduceAdd, Nat.reduceMul, Nat.reduceSub, Int.reduceToNat, mpE_nil, Int.natCast_zero, List.replicate_zero, List.length_take, List.length_drop, AVal.own.injEq, reduceCtorEq, Int.reduceAdd] <;> omega)

def graph_Order_b3 (y7 : Int × Bool) (k8 : Nat) (x_10 : ApiEdge) (sv : (List (Int × Int))) : Option (Out ((List (Int × Int))) (Out ((List (Int × Int)) × (List Int)) ((List Int) × Int))) :=
  (bif (decide (x_10.From = y7.1)) then some (Out.next (mset sv x_10.To (IntKind.i64.wrap ((mget (0 : Int) sv x_10.To) - (1 : Int))))) else some (Out.next sv))

def graph_Order_b2 (l : List ApiEdge) (sv : (List (Int × Int)) × (List Int)) : Option (Out ((List (Int × Int)) × (List Int)) ((List Int) × Int)) :=
  (bif (decide ((0 : Int) < ((sv.1.length : Nat) : Int))) then (graph_free sv.1).bind fun y7 => (bif (!y7.2) then some (Out.ret ([], (16 : Int))) else chk (sv.2.length + 1) ((forIx (graph_Order_b3 y7) 0 l (mdel sv.1 y7.1)).bind fun o8 => o8.on fun s8 => some (Out.next (s8, (sv.2 ++ [y7.1]))))) else some (Out.ret (sv.2, (0 : Int))))

def graph_Order_j1 (l : List ApiEdge) (waiting1 : List (Int × Int)) : Option ((List Int) × Int) :=
  (whileN (graph_Order_b2 l) fuel (waiting1, [])).bind fun o5 => o5.on fun _ => none

def graph_Order_b4 (k11 : Nat) (x_13 : ApiEdge) (sv : (List (Int × Int))) : Option (Out ((List (Int × Int))) ((List Int) × Int)) :=
  some (Out.next (mset (mset sv x_13.From (IntKind.i64.wrap ((mget (0 : Int) sv x_13.From) + (0 : Int)))) x_13.To (IntKind.i64.wrap ((mget (0 : Int) (mset sv x_13.From (IntKind.i64.wrap ((mget (0 : Int) sv x_13.From) + (0 : Int)))) x_13.To) + (1 : Int)))))

def graph_Order (l : List ApiEdge) : Option ((List Int) × Int) :=
  (forIx graph_Order_b4 0 l []).bind fun o11 => o11.on fun s11 => graph_Order_j1 l s11

theorem graph_Order_fresh (l : List ApiEdge) {r : (List Int) × Int} (h : graph_Order l = some r) : FreshFn Try.prog 45 [.sl 4 (l.map encApiEdge)] (· = .tuple [.sl 1 (r.1.map intC), .int .i64 r.2]) := by
  refine FreshFn.nle (FreshFn.intro Try.func45 rfl rfl (by show _ ≤ 63; simp) ?_)
  unfold graph_Order at h
  (try simp (implicitDefEqProofs := false) (decide := true) only [go_sem, Nat.reduceAdd, Nat.reduceMul, Nat.reduceSub, Int.reduceToNat])
  refine AWP.seq ?_
  refine AWP.region rfl ?_; intro K hK
  (try simp (implicitDefEqProofs := false) (decide := true) only [go_sem, Nat.reduceAdd, Nat.reduceMul, Nat.reduceSub, Int.reduceToNat])
  refine hK _ _ ?_; clear hK K
  refine qthen_normal ?_
  refine AWP.seq ?_
  refine AWP.region rfl ?_; intro K hK
  (try simp (implicitDefEqProofs := false) (decide := true) only [go_sem, Nat.reduceAdd, Nat.reduceMul, Nat.reduceSub, Int.reduceToNat])
  refine hK _ _ ?_; clear hK K
  refine qthen_normal ?_
  refine AWP.seqJoin (ι := ((List (Int × Int))) × (Unit)) (fun zz => [(0, .sl 4 (l.map encApiEdge)), (4, .map 0)]) (fun zz => [.mp (mpE intV zz.1)]) (fun zz => graph_Order_j1 l zz.1 = some r) (fun zz => ⟨rfl, rfl, rfl⟩) ?_ ?_
  · refine AWP.seq ?_
    refine AWP.region rfl ?_; intro K hK
    (try simp (implicitDefEqProofs := false) (decide := true) only [go_sem, Nat.reduceAdd, Nat.reduceMul, Nat.reduceSub, Int.reduceToNat])
    intro hm
    refine hK _ _ ?_; clear hK K
    refine qthen_normal ?_
    refine AWP.block ?_
    obtain ⟨o11, hJ11, hO11⟩ := bindE h
    clear h
    refine AWP.loopW (ι := Nat × ((List (Int × Int))) × (Unit)) (fun zz => [(0, .sl 4 (l.map encApiEdge)), (4, .map 0), (13, .sl 4 (l.map encApiEdge)), (14, .int .i64 ((l.length : Nat) : Int)), (15, .int .i64 ((zz.1 : Nat) : Int))]) (fun zz => [.mp (mpE intV zz.2.1)]) (fun zz => zz.1 ≤ l.length ∧ forIx graph_Order_b4 zz.1 ((l).drop zz.1) zz.2.1 = some o11) (fun zz => l.length - zz.1) (0, [], ()) ⟨Nat.zero_le _, hJ11⟩ (by (simp (implicitDefEqProofs := false) (decide := true) only [go_sem, Nat.reduceAdd, Nat.reduceMul, Nat.reduceSub, Int.reduceToNat, mpE_nil, Int.natCast_zero, List.replicate_zero, List.length_take, List.length_drop, AVal.own.injEq, reduceCtorEq, Int.reduceAdd] <;> omega)) (by (simp (implicitDefEqProofs := false) (decide := true) only [go_sem, Nat.reduceAdd, Nat.reduceMul, Nat.reduceSub, Int.reduceToNat, mpE_nil, Int.natCast_zero, List.replicate_zero, List.length_take, List.length_drop, AVal.own.injEq, reduceCtorEq, Int.reduceAdd] <;> omega)) (fun x => ⟨rfl, rfl, rfl⟩) ?_
    clear hJ11
    rintro ⟨k11, waiting11, ⟨⟩⟩ ⟨hk11, hJ11⟩
    dsimp only at hk11 hJ11 ⊢
    refine AWP.seq ?_
    refine AWP.region rfl ?_; intro K hK
    (try simp (implicitDefEqProofs := false) (decide := true) only [go_sem, Nat.reduceAdd, Nat.reduceMul, Nat.reduceSub, Int.reduceToNat])
    refine hK _ _ ?_; clear hK K
    refine qthen_normal ?_
    refine AWP.seq ?_
    refine AWP.cond (acond_split (fun hc => ?_) (fun hc => ?_))
    · have hlt11 : k11 < l.length := by have := of_decide_eq_true hc; omega
      obtain ⟨x_13, b11, hx11_, h, hJ11⟩ := for_cons hJ11 hlt11
      have hx11 := idxL_nat hx11_
      have hw11 : IntKind.i64.wrap (((k11 : Nat) : Int) + 1) = (((k11 : Nat) : Int) + (1 : Int)) := by rw [wrap_i64] <;> omega
      unfold graph_Order_b4 at h; try dsimp only at h
      refine AWP.skip ?_
      refine qthen_normal ?_
      refine AWP.seq ?_
      refine AWP.block ?_
      refine AWP.seq ?_
      refine AWP.region rfl ?_; intro K hK
      (try simp (implicitDefEqProofs := false) (decide := true) only [go_sem, Nat.reduceAdd, Nat.reduceMul, Nat.reduceSub, Int.reduceToNat])
      refine AIdx.of (f := encApiEdge) (l := l) hx11 ?_
      (try simp (implicitDefEqProofs := false) (decide := true) only [go_sem, Nat.reduceAdd, Nat.reduceMul, Nat.reduceSub, Int.reduceToNat])
      refine hK _ _ ?_; clear hK K
      refine qthen_normal ?_
      refine AWP.seq ?_
      refine AWP.region rfl ?_; intro K hK
      (try simp (implicitDefEqProofs := false) (decide := true) only [go_sem, Nat.reduceAdd, Nat.reduceMul, Nat.reduceSub, Int.reduceToNat])
      refine ALook.of (f := intV) (m := waiting11) (d := (0 : Int)) rfl ?_
      (try simp (implicitDefEqProofs := false) (decide := true) only [go_sem, Nat.reduceAdd, Nat.reduceMul, Nat.reduceSub, Int.reduceToNat])
      refine hK _ _ ?_; clear hK K
      refine qthen_normal ?_
      refine AWP.region rfl ?_; intro K hK
      (try simp (implicitDefEqProofs := false) (decide := true) only [go_sem, Nat.reduceAdd, Nat.reduceMul, Nat.reduceSub, Int.reduceToNat])
      refine ALook.of (f := intV) (m := (mset waiting11 x_13.From (IntKind.i64.wrap ((mget (0 : Int) waiting11 x_13.From) + (0 : Int))))) (d := (0 : Int)) rfl ?_
      (try simp (implicitDefEqProofs := false) (decide := true) only [go_sem, Nat.reduceAdd, Nat.reduceMul, Nat.reduceSub, Int.reduceToNat])
      refine hK _ _ ?_; clear hK K
      refine qblock_normal ?_
      refine qthen_normal ?_
      refine AWP.region rfl ?_; intro K hK
      (try simp (implicitDefEqProofs := false) (decide := true) only [go_sem, Nat.reduceAdd, Nat.reduceMul, Nat.reduceSub, Int.reduceToNat])
      refine hK _ _ ?_; clear hK K
      refine qthen_normal ?_
      obtain rfl := some_eq h
      refine ⟨(k11 + 1, (mset (mset waiting11 x_13.From (IntKind.i64.wrap ((mget (0 : Int) waiting11 x_13.From) + (0 : Int)))) x_13.To (IntKind.i64.wrap ((mget (0 : Int) (mset waiting11 x_13.From (IntKind.i64.wrap ((mget (0 : Int) waiting11 x_13.From) + (0 : Int)))) x_13.To) + (1 : Int)))), ()), ⟨by dsimp only; omega, cont_next hJ11⟩, by dsimp only; omega, ?_, ?_⟩
      · (simp (implicitDefEqProofs := false) (decide := true) only [go_sem, Nat.reduceAdd, Nat.reduceMul, Nat.reduceSub, Int.reduceToNat, mpE_nil, Int.natCast_zero, List.replicate_zero, List.length_take, List.length_drop, AVal.own.injEq, reduceCtorEq, Int.reduceAdd, hw11] <;> omega)
      · (simp (implicitDefEqProofs := false) (decide := true) only [go_sem, Nat.reduceAdd, Nat.reduceMul, Nat.reduceSub, Int.reduceToNat, mpE_nil, Int.natCast_zero, List.replicate_zero, List.length_take, List.length_drop, AVal.own.injEq, reduceCtorEq, Int.reduceAdd, hw11] <;> omega)
    · obtain rfl := for_nil hJ11 (fun hl => by have := of_decide_eq_false hc; omega)
      have h := on_next hO11; try dsimp only at h
      have hkl : l.length = k11 := by have := of_decide_eq_false hc; omega
      subst hkl
      refine AWP.exit ?_
      refine qthen_exit ?_
      refine qthen_exit ?_
      refine qblock_same ?_
      refine qthen_normal ?_
      exact ⟨(waiting11, ()), h, by (simp (implicitDefEqProofs := false) (decide := true) only [go_sem, Nat.reduceAdd, Nat.reduceMul, Nat.reduceSub, Int.reduceToNat, mpE_nil, Int.natCast_zero, List.replicate_zero, List.length_take, List.length_drop, AVal.own.injEq, reduceCtorEq, Int.reduceAdd] <;> omega), by (simp (implicitDefEqProofs := false) (decide := true) only [go_sem, Nat.reduceAdd, Nat.reduceMul, Nat.reduceSub, Int.reduceToNat, mpE_nil, Int.natCast_zero, List.replicate_zero, List.length_take, List.length_drop, AVal.own.injEq, reduceCtorEq, Int.reduceAdd] <;> omega)⟩
  · rintro ⟨waiting1, ⟨⟩⟩ h
    try dsimp only at h ⊢
    unfold graph_Order_j1 at h; try dsimp only at h
    refine AWP.seq ?_
    refine AWP.region rfl ?_; intro K hK
    (try simp (implicitDefEqProofs := false) (decide := true) only [go_sem, Nat.reduceAdd, Nat.reduceMul, Nat.reduceSub, Int.reduceToNat])
    refine hK _ _ ?_; clear hK K
    refine qthen_normal ?_
    refine AWP.seq ?_
    refine AWP.block ?_
    refine AWP.ghost 7 1 rfl (by decide) ?_
    obtain ⟨o5, hJ5, hO5⟩ := bindE h
    clear h
    refine AWP.loopW (ι := Nat × ((List (Int × Int)) × (List Int)) × (Nat)) (fun zz => [(0, .sl 4 (l.map encApiEdge)), (4, .map 0), (7, .own 1 zz.2.2 0 zz.2.1.2.length)]) (fun zz => [.mp (mpE intV zz.2.1.1), .row zz.2.2 1 (zz.2.1.2.map intC)]) (fun zz => whileN (graph_Order_b2 l) zz.1 zz.2.1 = some o5) (fun zz => zz.1) (fuel, (waiting1, []), 0) hJ5 (by (simp (implicitDefEqProofs := false) (decide := true) only [go_sem, Nat.reduceAdd, Nat.reduceMul, Nat.reduceSub, Int.reduceToNat, mpE_nil, Int.natCast_zero, List.replicate_zero, List.length_take, List.length_drop, AVal.own.injEq, reduceCtorEq, Int.reduceAdd] <;> omega)) (by (simp (implicitDefEqProofs := false) (decide := true) only [go_sem, Nat.reduceAdd, Nat.reduceMul, Nat.reduceSub, Int.reduceToNat, mpE_nil, Int.natCast_zero, List.replicate_zero, List.length_take, List.length_drop, AVal.own.injEq, reduceCtorEq, Int.reduceAdd] <;> omega)) (fun x => ⟨rfl, rfl, rfl⟩) ?_
    clear hJ5
    rintro ⟨n5, ⟨waiting3, out4⟩, ver5⟩ hJ5
    dsimp only at hJ5 ⊢
    obtain ⟨m5, b5, rfl, h, hJ5⟩ := while_step hJ5
    unfold graph_Order_b2 at h; try dsimp only at h
    refine AWP.seq ?_
    refine AWP.seq ?_
    refine AWP.region rfl ?_; intro K hK
    (try simp (implicitDefEqProofs := false) (decide := true) only [go_sem, Nat.reduceAdd, Nat.reduceMul, Nat.reduceSub, Int.reduceToNat])
    refine hK _ _ ?_; clear hK K
    refine qthen_normal ?_
    refine AWP.cond (acond_split (fun hc => ?_) (fun hc => ?_))
    · replace h := bif_t h hc
      refine AWP.skip ?_
      refine qthen_normal ?_
      refine AWP.block ?_
      refine AWP.seq ?_
      refine AWP.region rfl ?_; intro K hK
      (try simp (implicitDefEqProofs := false) (decide := true) only [go_sem, Nat.reduceAdd, Nat.reduceMul, Nat.reduceSub, Int.reduceToNat])
      obtain ⟨y7, hy7, h⟩ := bindE h
      refine ACall.snap Try.call52 (graph_free_spec waiting3 hy7) (by simp (implicitDefEqProofs := false) (decide := true) only [go_sem, Nat.reduceAdd, Nat.reduceMul, Nat.reduceSub, Int.reduceToNat]) (by rintro _ rfl; rfl) fun _ hr => ?_
      subst hr
      (try simp (implicitDefEqProofs := false) (decide := true) only [go_sem, Nat.reduceAdd, Nat.reduceMul, Nat.reduceSub, Int.reduceToNat])
      refine hK _ _ ?_; clear hK K
      refine qthen_normal ?_
      refine AWP.seq ?_
      refine AWP.seq ?_
      refine AWP.region rfl ?_; intro K hK
      (try simp (implicitDefEqProofs := false) (decide := true) only [go_sem, Nat.reduceAdd, Nat.reduceMul, Nat.reduceSub, Int.reduceToNat])
      refine hK _ _ ?_; clear hK K
      refine qthen_normal ?_
      refine AWP.cond (acond_split (fun hc => ?_) (fun hc => ?_))
      · replace h := bif_t h hc
        refine AWP.seq ?_
        refine AWP.region rfl ?_; intro K hK
        (try simp (implicitDefEqProofs := false) (decide := true) only [go_sem, Nat.reduceAdd, Nat.reduceMul, Nat.reduceSub, Int.reduceToNat])
        refine hK _ _ ?_; clear hK K
        refine qthen_normal ?_
        refine AWP.ret ?_
        refine qthen_ret ?_
        refine qblock_ret ?_
        refine qthen_ret ?_
        obtain rfl := some_eq h
        obtain rfl := cont_ret hJ5
        replace h := on_ret hO5
        refine qblock_ret ?_
        refine qthen_ret ?_
        obtain rfl := some_eq h
        simp (implicitDefEqProofs := false) (decide := true) only [go_sem, Nat.reduceAdd, Nat.reduceMul, Nat.reduceSub, Int.reduceToNat, mpE_nil, Int.natCast_zero, List.replicate_zero, List.length_take, List.length_drop, AVal.own.injEq, reduceCtorEq, Int.reduceAdd, nle2, nle1, nle0, nleA, nleL, Try.results45]
      · replace h := bif_f h hc
        refine AWP.skip ?_
        refine qthen_normal ?_
        refine AWP.seq ?_
        refine AWP.region rfl ?_; intro K hK
        (try simp (implicitDefEqProofs := false) (decide := true) only [go_sem, Nat.reduceAdd, Nat.reduceMul, Nat.reduceSub, Int.reduceToNat])
        refine hK _ _ ?_; clear hK K
        refine qthen_normal ?_
        refine AWP.seq ?_
        refine AWP.region rfl ?_; intro K hK
        (try simp (implicitDefEqProofs := false) (decide := true) only [go_sem, Nat.reduceAdd, Nat.reduceMul, Nat.reduceSub, Int.reduceToNat])
        obtain ⟨hk, h⟩ := chk_in h
        (repeat (refine ⟨by first | omega | (simp only [List.length_take, List.length_drop, List.length_append]; omega), ?_⟩)); try simp (implicitDefEqProofs := false) (decide := true) only [go_sem, Nat.reduceAdd, Nat.reduceMul, Nat.reduceSub, Int.reduceToNat]
        refine hK _ _ ?_; clear hK K
        refine qthen_normal ?_
        refine AWP.seq ?_
        refine AWP.region rfl ?_; intro K hK
        (try simp (implicitDefEqProofs := false) (decide := true) only [go_sem, Nat.reduceAdd, Nat.reduceMul, Nat.reduceSub, Int.reduceToNat])
        intro hm
        refine hK _ _ ?_; clear hK K
        refine qthen_normal ?_
        refine AWP.block ?_
        obtain ⟨o8, hJ8, hO8⟩ := bindE h
        clear h
        refine AWP.loopW (ι := Nat × ((List (Int × Int))) × (Unit)) (fun zz => [(0, .sl 4 (l.map encApiEdge)), (4, .map 0), (7, .own 1 (ver5 + 1) 0 (out4.length + 1)), (8, .int .i64 y7.1), (46, .sl 4 (l.map encApiEdge)), (47, .int .i64 ((l.length : Nat) : Int)), (48, .int .i64 ((zz.1 : Nat) : Int))]) (fun zz => [.mp (mpE intV zz.2.1), .row (ver5 + 1) 1 ((out4 ++ [y7.1]).map intC)]) (fun zz => zz.1 ≤ l.length ∧ forIx (graph_Order_b3 y7) zz.1 ((l).drop zz.1) zz.2.1 = some o8) (fun zz => l.length - zz.1) (0, (mdel waiting3 y7.1), ()) ⟨Nat.zero_le _, hJ8⟩ (by (simp (implicitDefEqProofs := false) (decide := true) only [go_sem, Nat.reduceAdd, Nat.reduceMul, Nat.reduceSub, Int.reduceToNat, mpE_nil, Int.natCast_zero, List.replicate_zero, List.length_take, List.length_drop, AVal.own.injEq, reduceCtorEq, Int.reduceAdd] <;> omega)) (by (simp (implicitDefEqProofs := false) (decide := true) only [go_sem, Nat.reduceAdd, Nat.reduceMul, Nat.reduceSub, Int.reduceToNat, mpE_nil, Int.natCast_zero, List.replicate_zero, List.length_take, List.length_drop, AVal.own.injEq, reduceCtorEq, Int.reduceAdd] <;> omega)) (fun x => ⟨rfl, rfl, rfl⟩) ?_
        clear hJ8
        rintro ⟨k8, waiting8, ⟨⟩⟩ ⟨hk8, hJ8⟩
        dsimp only at hk8 hJ8 ⊢
        refine AWP.seq ?_
        refine AWP.region rfl ?_; intro K hK
        (try simp (implicitDefEqProofs := false) (decide := true) only [go_sem, Nat.reduceAdd, Nat.reduceMul, Nat.reduceSub, Int.reduceToNat])
        refine hK _ _ ?_; clear hK K
        refine qthen_normal ?_
        refine AWP.seq ?_
        refine AWP.cond (acond_split (fun hc => ?_) (fun hc => ?_))
        · have hlt8 : k8 < l.length := by have := of_decide_eq_true hc; omega
          obtain ⟨x_10, b8, hx8_, h, hJ8⟩ := for_cons hJ8 hlt8
          have hx8 := idxL_nat hx8_
          have hw8 : IntKind.i64.wrap (((k8 : Nat) : Int) + 1) = (((k8 : Nat) : Int) + (1 : Int)) := by rw [wrap_i64] <;> omega
          unfold graph_Order_b3 at h; try dsimp only at h
          refine AWP.skip ?_
          refine qthen_normal ?_
          refine AWP.seq ?_
          refine AWP.block ?_
          refine AWP.seq ?_
          refine AWP.region rfl ?_; intro K hK
          (try simp (implicitDefEqProofs := false) (decide := true) only [go_sem, Nat.reduceAdd, Nat.reduceMul, Nat.reduceSub, Int.reduceToNat])
          refine AIdx.of (f := encApiEdge) (l := l) hx8 ?_
          (try simp (implicitDefEqProofs := false) (decide := true) only [go_sem, Nat.reduceAdd, Nat.reduceMul, Nat.reduceSub, Int.reduceToNat])
          refine hK _ _ ?_; clear hK K
          refine qthen_normal ?_
          refine AWP.seq ?_
          refine AWP.region rfl ?_; intro K hK
          (try simp (implicitDefEqProofs := false) (decide := true) only [go_sem, Nat.reduceAdd, Nat.reduceMul, Nat.reduceSub, Int.reduceToNat])
          refine hK _ _ ?_; clear hK K
          refine qthen_normal ?_
          refine AWP.cond (acond_split (fun hc => ?_) (fun hc => ?_))
          · replace h := bif_t h hc
            refine AWP.region rfl ?_; intro K hK
            (try simp (implicitDefEqProofs := false) (decide := true) only [go_sem, Nat.reduceAdd, Nat.reduceMul, Nat.reduceSub, Int.reduceToNat])
            refine ALook.of (f := intV) (m := waiting8) (d := (0 : Int)) rfl ?_
            (try simp (implicitDefEqProofs := false) (decide := true) only [go_sem, Nat.reduceAdd, Nat.reduceMul, Nat.reduceSub, Int.reduceToNat])
            refine hK _ _ ?_; clear hK K
            refine qblock_normal ?_
            refine qthen_normal ?_
            refine AWP.region rfl ?_; intro K hK
            (try simp (implicitDefEqProofs := false) (decide := true) only [go_sem, Nat.reduceAdd, Nat.reduceMul, Nat.reduceSub, Int.reduceToNat])
            refine hK _ _ ?_; clear hK K
            refine qthen_normal ?_
            obtain rfl := some_eq h
            refine ⟨(k8 + 1, (mset waiting8 x_10.To (IntKind.i64.wrap ((mget (0 : Int) waiting8 x_10.To) - (1 : Int)))), ()), ⟨by dsimp only; omega, cont_next hJ8⟩, by dsimp only; omega, ?_, ?_⟩
            · (simp (implicitDefEqProofs := false) (decide := true) only [go_sem, Nat.reduceAdd, Nat.reduceMul, Nat.reduceSub, Int.reduceToNat, mpE_nil, Int.natCast_zero, List.replicate_zero, List.length_take, List.length_drop, AVal.own.injEq, reduceCtorEq, Int.reduceAdd, hw8] <;> omega)
            · (simp (implicitDefEqProofs := false) (decide := true) only [go_sem, Nat.reduceAdd, Nat.reduceMul, Nat.reduceSub, Int.reduceToNat, mpE_nil, Int.natCast_zero, List.replicate_zero, List.length_take, List.length_drop, AVal.own.injEq, reduceCtorEq, Int.reduceAdd, hw8] <;> omega)
          · replace h := bif_f h hc
            refine AWP.skip ?_
            refine qblock_normal ?_
            refine qthen_normal ?_
            refine AWP.region rfl ?_; intro K hK
            (try simp (implicitDefEqProofs := false) (decide := true) only [go_sem, Nat.reduceAdd, Nat.reduceMul, Nat.reduceSub, Int.reduceToNat])
            refine hK _ _ ?_; clear hK K
            refine qthen_normal ?_
            obtain rfl := some_eq h
            refine ⟨(k8 + 1, waiting8, ()), ⟨by dsimp only; omega, cont_next hJ8⟩, by dsimp only; omega, ?_, ?_⟩
            · (simp (implicitDefEqProofs := false) (decide := true) only [go_sem, Nat.reduceAdd, Nat.reduceMul, Nat.reduceSub, Int.reduceToNat, mpE_nil, Int.natCast_zero, List.replicate_zero, List.length_take, List.length_drop, AVal.own.injEq, reduceCtorEq, Int.reduceAdd, hw8] <;> omega)
            · (simp (implicitDefEqProofs := false) (decide := true) only [go_sem, Nat.reduceAdd, Nat.reduceMul, Nat.reduceSub, Int.reduceToNat, mpE_nil, Int.natCast_zero, List.replicate_zero, List.length_take, List.length_drop, AVal.own.injEq, reduceCtorEq, Int.reduceAdd, hw8] <;> omega)
        · obtain rfl := for_nil hJ8 (fun hl => by have := of_decide_eq_false hc; omega)
          have h := on_next hO8; try dsimp only at h
          have hkl : l.length = k8 := by have := of_decide_eq_false hc; omega
          subst hkl
          refine AWP.exit ?_
          refine qthen_exit ?_
          refine qthen_exit ?_
          refine qblock_same ?_
          refine qblock_normal ?_
          refine qthen_normal ?_
          obtain rfl := some_eq h
          refine ⟨(m5, (waiting8, (out4 ++ [y7.1])), (ver5 + 1)), cont_next hJ5, by dsimp only; omega, ?_, ?_⟩
          · (simp (implicitDefEqProofs := false) (decide := true) only [go_sem, Nat.reduceAdd, Nat.reduceMul, Nat.reduceSub, Int.reduceToNat, mpE_nil, Int.natCast_zero, List.replicate_zero, List.length_take, List.length_drop, AVal.own.injEq, reduceCtorEq, Int.reduceAdd] <;> omega)
          · (simp (implicitDefEqProofs := false) (decide := true) only [go_sem, Nat.reduceAdd, Nat.reduceMul, Nat.reduceSub, Int.reduceToNat, mpE_nil, Int.natCast_zero, List.replicate_zero, List.length_take, List.length_drop, AVal.own.injEq, reduceCtorEq, Int.reduceAdd] <;> omega)
    · replace h := bif_f h hc
      refine AWP.exit ?_
      refine qthen_exit ?_
      refine qthen_exit ?_
      obtain rfl := some_eq h
      obtain rfl := cont_ret hJ5
      replace h := on_ret hO5
      refine qblock_same ?_
      refine qthen_normal ?_
      refine AWP.seq ?_
      refine AWP.region rfl ?_; intro K hK
      (try simp (implicitDefEqProofs := false) (decide := true) only [go_sem, Nat.reduceAdd, Nat.reduceMul, Nat.reduceSub, Int.reduceToNat])
      refine hK _ _ ?_; clear hK K
      refine qthen_normal ?_
      refine AWP.ret ?_
      obtain rfl := some_eq h
      simp (implicitDefEqProofs := false) (decide := true) only [go_sem, Nat.reduceAdd, Nat.reduceMul, Nat.reduceSub, Int.reduceToNat, mpE_nil, Int.natCast_zero, List.replicate_zero, List.length_take, List.length_drop, AVal.own.injEq, reduceCtorEq, Int.reduceAdd, nle2, nle1, nle0, nleA, nleL, Try.results45]
theorem graph_Order_spec (l : List ApiEdge) {r : (List Int) × Int} (h : graph_Order l = some r) : PureFn Try.prog 45 [.sl 4 (l.map encApiEdge)] (· = .tuple [.sl 1 (r.1.map intC), .int .i64 r.2]) := (graph_Order_fresh l h).pure

def graph_isNode (n_ : Int) : Option (Bool) :=
  (bif (decide ((0 : Int) ≤ n_)) then some (decide (n_ ≤ (9999 : Int))) else some false)

theorem graph_isNode_spec (n_ : Int) {r : Bool} (h : graph_isNode n_ = some r) : PureFn Try.prog 53 [.int .i64 n_] (· = .bool r) := by
  refine PureFn.nle (PureFn.intro Try.func53 rfl rfl (by show _ ≤ 9; simp) ?_)
  unfold graph_isNode at h
  (try simp (implicitDefEqProofs := false) (decide := true) only [go_sem, Nat.reduceAdd, Nat.reduceMul, Nat.reduceSub, Int.reduceToNat])
  refine AWP.seq ?_
  refine AWP.region rfl ?_; intro K hK
  (try simp (implicitDefEqProofs := false) (decide := true) only [go_sem, Nat.reduceAdd, Nat.reduceMul, Nat.reduceSub, Int.reduceToNat])
  refine hK _ _ ?_; clear hK K
  refine qthen_normal ?_
  refine AWP.seq ?_
  refine AWP.region rfl ?_; intro K hK
  (try simp (implicitDefEqProofs := false) (decide := true) only [go_sem, Nat.reduceAdd, Nat.reduceMul, Nat.reduceSub, Int.reduceToNat])
  refine aguardK_split (fun hc => ?_) (fun hc => ?_)
  · replace h := bif_t h hc
    (try simp (implicitDefEqProofs := false) (decide := true) only [go_sem, Nat.reduceAdd, Nat.reduceMul, Nat.reduceSub, Int.reduceToNat, hc])
    refine hK _ _ ?_; clear hK K
    refine qthen_normal ?_
    refine AWP.ret ?_
    obtain rfl := some_eq h
    simp (implicitDefEqProofs := false) (decide := true) only [go_sem, Nat.reduceAdd, Nat.reduceMul, Nat.reduceSub, Int.reduceToNat, mpE_nil, Int.natCast_zero, List.replicate_zero, List.length_take, List.length_drop, AVal.own.injEq, reduceCtorEq, Int.reduceAdd, nle2, nle1, nle0, nleA, nleL, Try.results53]
  · replace h := bif_f h hc
    (try simp (implicitDefEqProofs := false) (decide := true) only [go_sem, Nat.reduceAdd, Nat.reduceMul, Nat.reduceSub, Int.reduceToNat, hc, Bool.not_true])
    refine hK _ _ ?_; clear hK K
    refine qthen_normal ?_
    refine AWP.ret ?_
    obtain rfl := some_eq h
    simp (implicitDefEqProofs := false) (decide := true) only [go_sem, Nat.reduceAdd, Nat.reduceMul, Nat.reduceSub, Int.reduceToNat, mpE_nil, Int.natCast_zero, List.replicate_zero, List.length_take, List.length_drop, AVal.own.injEq, reduceCtorEq, Int.reduceAdd, nle2, nle1, nle0, nleA, nleL, Try.results53]

end
end Go.Proofs.Ytifkiiglkglhlaa
