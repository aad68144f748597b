/-
  What functions of the program compute, as plain Lean functions, and the walks that prove it; printed by a small program of our own (wip/walk.py).
-/
import Derived.Test.YtmfjcimogpmheaaW1
namespace Go.Proofs.Ytmfjcimogpmheaa
open Go Go.Ab
attribute [local irreducible] AWP ACall DCall PureFn Go.Ab.Sub alist dlist AIdx AElem ALook ANext
set_option maxRecDepth 100000
set_option maxHeartbeats 4000000
set_option linter.unusedSimpArgs false
set_option linter.unusedVariables false
noncomputable section
def fraud_early (a : Int) (b : Int) (d : Int) : Option (Bool) :=
  (bif (decide (b < a)) then some true else some (decide ((IntKind.u64.wrap ((IntKind.u64.wrap b) - (IntKind.u64.wrap a))) < (IntKind.u64.wrap d))))

theorem fraud_early_spec (a : Int) (b : Int) (d : Int) {r : Bool} (h : fraud_early a b d = some r) : PureFn Try.prog 36 [.int .i64 a, .int .i64 b, .int .i64 d] (· = .bool r) := by
  refine PureFn.nle (PureFn.intro Try.func36 rfl rfl (by show _ ≤ 20; simp) ?_)
  unfold fraud_early at h
  (try simp +decide -implicitDefEqProofs only [go_sem])
  refine AWP.seq ?_
  refine AWP.region rfl ?_; intro K hK
  (try simp +decide -implicitDefEqProofs only [go_sem])
  refine hK _ _ ?_; clear hK K
  refine qthen_normal ?_
  refine AWP.seq ?_
  refine AWP.region rfl ?_; intro K hK
  (try simp +decide -implicitDefEqProofs only [go_sem])
  refine aguardK_split (fun hc => ?_) (fun hc => ?_)
  · replace h := bif_f h hc
    (try simp +decide -implicitDefEqProofs only [go_sem, hc])
    refine hK _ _ ?_; clear hK K
    refine qthen_normal ?_
    refine AWP.ret ?_
    obtain rfl := some_eq h
    simp +decide -implicitDefEqProofs only [go_sem, mpE_nil, AVal.int.injEq, Int.natCast_zero, List.replicate_zero, List.length_take, List.length_drop, AVal.own.injEq, reduceCtorEq, Int.reduceAdd, nle2, nle1, nle0, nleA, nleL, Try.results36]
  · replace h := bif_t h hc
    (try simp +decide -implicitDefEqProofs only [go_sem, hc, Bool.not_false])
    refine hK _ _ ?_; clear hK K
    refine qthen_normal ?_
    refine AWP.ret ?_
    obtain rfl := some_eq h
    simp +decide -implicitDefEqProofs only [go_sem, mpE_nil, AVal.int.injEq, Int.natCast_zero, List.replicate_zero, List.length_take, List.length_drop, AVal.own.injEq, reduceCtorEq, Int.reduceAdd, nle2, nle1, nle0, nleA, nleL, Try.results36]

def fraud_Impossible_b1 (m : ApiMap) (l : List ApiRide) (k4 : Nat) (x_6 : Int) (sv : (List (Int × FraudLeast)) × (List ApiSuspicion)) : Option (Out ((List (Int × FraudLeast)) × (List ApiSuspicion)) ((List ApiSuspicion))) :=
  (bif (decide (x_6 = (0 : Int))) then some (Out.next (sv.1, sv.2)) else (idxL l ((k4 : Nat) : Int)).bind fun x_7 => (idxL l x_6).bind fun x_8 => (bif (!(mhas sv.1 (pk x_7.Lift x_8.Lift))) then (fraud_Time m x_7.Lift x_8.Lift).bind fun y9 => (bif (!y9.2) then chk (sv.2.length + 1) (some (Out.next ((mset sv.1 (pk x_7.Lift x_8.Lift) (FraudLeast.mk y9.1 y9.2)), (sv.2 ++ [(ApiSuspicion.mk ((k4 : Nat) : Int) x_6)])))) else (fraud_early x_7.At x_8.At y9.1).bind fun y10 => (bif y10 then chk (sv.2.length + 1) (some (Out.next ((mset sv.1 (pk x_7.Lift x_8.Lift) (FraudLeast.mk y9.1 y9.2)), (sv.2 ++ [(ApiSuspicion.mk ((k4 : Nat) : Int) x_6)])))) else some (Out.next ((mset sv.1 (pk x_7.Lift x_8.Lift) (FraudLeast.mk y9.1 y9.2)), sv.2)))) else (bif (!(mget (FraudLeast.mk (0 : Int) false) sv.1 (pk x_7.Lift x_8.Lift)).ok) then chk (sv.2.length + 1) (some (Out.next (sv.1, (sv.2 ++ [(ApiSuspicion.mk ((k4 : Nat) : Int) x_6)])))) else (fraud_early x_7.At x_8.At (mget (FraudLeast.mk (0 : Int) false) sv.1 (pk x_7.Lift x_8.Lift)).time).bind fun y11 => (bif y11 then chk (sv.2.length + 1) (some (Out.next (sv.1, (sv.2 ++ [(ApiSuspicion.mk ((k4 : Nat) : Int) x_6)])))) else some (Out.next (sv.1, sv.2))))))

def fraud_Impossible (m : ApiMap) (l : List ApiRide) : Option ((List ApiSuspicion)) :=
  (fraud_successors l).bind fun y1 => (forIx (fraud_Impossible_b1 m l) 0 y1 ([], [])).bind fun o4 => o4.on fun s4 => some s4.2

theorem fraud_Impossible_fresh (m : ApiMap) (l : List ApiRide) {r : (List ApiSuspicion)} (h : fraud_Impossible m l = some r) : FreshFn Try.prog 15 [.agg (encApiMap m), .sl 7 (l.map encApiRide)] (· = .sl 2 (r.map encApiSuspicion)) := by
  refine FreshFn.nle (FreshFn.intro Try.func15 rfl rfl (by show _ ≤ 82; simp) ?_)
  unfold fraud_Impossible at h
  (try simp +decide -implicitDefEqProofs only [go_sem, encFraudLeastV_set0])
  refine AWP.seq ?_
  refine AWP.region rfl ?_; intro K hK
  (try simp +decide -implicitDefEqProofs only [go_sem, encFraudLeastV_set0])
  refine hK _ _ ?_; clear hK K
  refine qthen_normal ?_
  refine AWP.seq ?_
  refine AWP.region rfl ?_; intro K hK
  (try simp +decide -implicitDefEqProofs only [go_sem, encFraudLeastV_set0])
  refine hK _ _ ?_; clear hK K
  refine qthen_normal ?_
  refine AWP.sub (Sub.toQ 1 rfl) ?_
  (try simp +decide -implicitDefEqProofs only [go_sem, encFraudLeastV_set0])
  refine AWP.seq ?_
  refine AWP.region rfl ?_; intro K hK
  (try simp +decide -implicitDefEqProofs only [go_sem, encFraudLeastV_set0])
  refine hK _ _ ?_; clear hK K
  refine qthen_normal ?_
  refine AWP.seq ?_
  refine AWP.seq ?_
  refine AWP.region rfl ?_; intro K hK
  (try simp +decide -implicitDefEqProofs only [go_sem, encFraudLeastV_set0])
  obtain ⟨y1, hy1, h⟩ := bindE h
  refine ACall.pure Try.call35 (fraud_successors_spec l hy1) rfl fun _ hr => ?_
  subst hr
  (try simp +decide -implicitDefEqProofs only [go_sem, encFraudLeastV_set0])
  intro hm
  refine hK _ _ ?_; clear hK K
  refine qthen_normal ?_
  refine AWP.block ?_
  refine AWP.ghost 6 2 rfl (by decide) ?_
  obtain ⟨o4, hJ4, hO4⟩ := bindE h
  clear h
  refine AWP.loopW (ι := Nat × ((List (Int × FraudLeast)) × (List ApiSuspicion)) × (Nat)) (fun zz => [(1, .sl 7 (l.map encApiRide)), (2, .ptr 0 0), (5, .map 1), (6, .own 2 zz.2.2 0 zz.2.1.2.length), (14, .sl 1 (y1.map intC)), (15, .int .i64 ((y1.length : Nat) : Int)), (16, .int .i64 ((zz.1 : Nat) : Int))]) (fun zz => [.box [.sl 2 (m.Nodes.map encApiNode), .sl 8 (m.Lifts.map encApiLift), .sl 7 (m.Runs.map encApiRun), .sl 1 (m.Bases.map intC)], .mpo true (mpE encFraudLeastV zz.2.1.1), .row zz.2.2 2 (zz.2.1.2.map encApiSuspicion)]) (fun zz => zz.1 ≤ y1.length ∧ forIx (fraud_Impossible_b1 m l) zz.1 ((y1).drop zz.1) zz.2.1 = some o4) (fun zz => y1.length - zz.1) (0, ([], []), 0) ⟨Nat.zero_le _, hJ4⟩ (by (simp +decide -implicitDefEqProofs only [go_sem, mpE_nil, AVal.int.injEq, Int.natCast_zero, List.replicate_zero, List.length_take, List.length_drop, AVal.own.injEq, reduceCtorEq, Int.reduceAdd, encFraudLeastV_set0] <;> omega)) (by (simp +decide -implicitDefEqProofs only [go_sem, mpE_nil, AVal.int.injEq, Int.natCast_zero, List.replicate_zero, List.length_take, List.length_drop, AVal.own.injEq, reduceCtorEq, Int.reduceAdd, encFraudLeastV_set0] <;> omega)) (fun x => ⟨rfl, by simp [belH, belObj, mpE, AVal.bel2, AVal.bel1, AVal.belF, AVal.bel0, encFraudLeast, encFraudLeastV], rfl⟩) ?_
  clear hJ4
  rintro ⟨k4, ⟨known2, out3⟩, ver4⟩ ⟨hk4, hJ4⟩
  dsimp only at hk4 hJ4 ⊢
  refine AWP.seq ?_
  refine AWP.region rfl ?_; intro K hK
  (try simp +decide -implicitDefEqProofs only [go_sem, encFraudLeastV_set0])
  refine hK _ _ ?_; clear hK K
  refine qthen_normal ?_
  refine AWP.seq ?_
  refine AWP.cond (acond_split (fun hc => ?_) (fun hc => ?_))
  · have hlt4 : k4 < y1.length := by have := of_decide_eq_true hc; omega
    obtain ⟨x_6, b4, hx4_, h, hJ4⟩ := for_cons hJ4 hlt4
    have hx4 := idxL_nat hx4_
    have hw4 : IntKind.i64.wrap (((k4 : Nat) : Int) + 1) = (((k4 : Nat) : Int) + (1 : Int)) := by rw [wrap_i64] <;> omega
    unfold fraud_Impossible_b1 at h; try dsimp only at h
    refine AWP.skip ?_
    refine qthen_normal ?_
    refine AWP.seq ?_
    refine AWP.block ?_
    refine AWP.seq ?_
    refine AWP.region rfl ?_; intro K hK
    (try simp +decide -implicitDefEqProofs only [go_sem, encFraudLeastV_set0])
    refine AIdx.of (f := intC) (l := y1) hx4 ?_
    (try simp +decide -implicitDefEqProofs only [go_sem, encFraudLeastV_set0])
    refine hK _ _ ?_; clear hK K
    refine qthen_normal ?_
    refine AWP.seq ?_
    refine AWP.seq ?_
    refine AWP.region rfl ?_; intro K hK
    (try simp +decide -implicitDefEqProofs only [go_sem, encFraudLeastV_set0])
    refine hK _ _ ?_; clear hK K
    refine qthen_normal ?_
    refine AWP.cond (acond_split (fun hc => ?_) (fun hc => ?_))
    · replace h := bif_t h hc
      refine AWP.exit ?_
      refine qthen_exit ?_
      refine qblock_same ?_
      refine qthen_normal ?_
      refine AWP.region rfl ?_; intro K hK
      (try simp +decide -implicitDefEqProofs only [go_sem, encFraudLeastV_set0])
      refine hK _ _ ?_; clear hK K
      refine qthen_normal ?_
      obtain rfl := some_eq h
      refine ⟨(k4 + 1, (known2, out3), ver4), ⟨by dsimp only; omega, cont_next hJ4⟩, by dsimp only; omega, ?_, ?_⟩
      · (simp +decide -implicitDefEqProofs only [go_sem, mpE_nil, AVal.int.injEq, Int.natCast_zero, List.replicate_zero, List.length_take, List.length_drop, AVal.own.injEq, reduceCtorEq, Int.reduceAdd, hw4, encFraudLeastV_set0] <;> omega)
      · (simp +decide -implicitDefEqProofs only [go_sem, mpE_nil, AVal.int.injEq, Int.natCast_zero, List.replicate_zero, List.length_take, List.length_drop, AVal.own.injEq, reduceCtorEq, Int.reduceAdd, hw4, encFraudLeastV_set0] <;> omega)
    replace h := bif_f h hc
    refine AWP.skip ?_
    refine qthen_normal ?_
    refine AWP.seq ?_
    refine AWP.draw Try.mixed (by kernel_rfl) ?_; intro K hK
    (try simp +decide -implicitDefEqProofs only [go_sem, encFraudLeastV_set0])
    obtain ⟨x_7, hx_7, h⟩ := bindE h
    refine AIdx.of (f := encApiRide) (l := l) hx_7 ?_
    (try simp +decide -implicitDefEqProofs only [go_sem, encFraudLeastV_set0])
    obtain ⟨x_8, hx_8, h⟩ := bindE h
    refine AIdx.of (f := encApiRide) (l := l) hx_8 ?_
    (try simp +decide -implicitDefEqProofs only [go_sem, encFraudLeastV_set0])
    refine hK _ _ _ (by kernel_rfl) ?_; clear hK K
    refine qthen_normal ?_
    refine AWP.seq ?_
    refine AWP.regionP ?_
    refine ALP.cut 2 (ALP.part rfl ?_); intro K hK
    (try simp +decide -implicitDefEqProofs only [go_sem, encFraudLeastV_set0])
    refine hK _ _ ?_; clear hK K
    refine ALP.lookQ rfl rfl rfl kq71 rfl zs76 ?_
    (try simp +decide -implicitDefEqProofs only [go_sem, encFraudLeastV_set0])
    refine ALook.of (f := encFraudLeastV) (m := known2) (d := (FraudLeast.mk (0 : Int) false)) rfl ?_
    (try simp +decide -implicitDefEqProofs only [go_sem, encFraudLeastV_set0])
    refine ALP.last rfl ?_; intro K hK
    (try simp +decide -implicitDefEqProofs only [go_sem, encFraudLeastV_set0])
    refine hK _ _ ?_; clear hK K
    refine qthen_normal ?_
    refine AWP.seq ?_
    refine AWP.seq ?_
    refine AWP.region rfl ?_; intro K hK
    (try simp +decide -implicitDefEqProofs only [go_sem, encFraudLeastV_set0])
    refine hK _ _ ?_; clear hK K
    refine qthen_normal ?_
    refine AWP.cond (acond_split (fun hc => ?_) (fun hc => ?_))
    · replace h := bif_t h hc
      refine AWP.seq ?_
      refine AWP.region rfl ?_; intro K hK
      (try simp +decide -implicitDefEqProofs only [go_sem, encFraudLeastV_set0])
      obtain ⟨y9, hy9, h⟩ := bindE h
      refine ACall.pure Try.call12 (fraud_Time_spec m x_7.Lift x_8.Lift hy9) rfl fun _ hr => ?_
      subst hr
      (try simp +decide -implicitDefEqProofs only [go_sem, encFraudLeastV_set0])
      refine hK _ _ ?_; clear hK K
      refine qthen_normal ?_
      refine AWP.regionP ?_
      refine ALP.cut 3 (ALP.part rfl ?_); intro K hK
      (try simp +decide -implicitDefEqProofs only [go_sem, encFraudLeastV_set0])
      refine hK _ _ ?_; clear hK K
      refine ALP.updQ rfl rfl rfl rfl kq71 rfl ?_
      (try simp +decide -implicitDefEqProofs only [go_sem, encFraudLeastV_set0])
      refine ALP.last rfl ?_; intro K hK
      (try simp +decide -implicitDefEqProofs only [go_sem, encFraudLeastV_set0])
      refine hK _ _ ?_; clear hK K
      refine qthen_normal ?_
      refine AWP.seq ?_
      refine AWP.draw Try.mixed (by kernel_rfl) ?_; intro K hK
      (try simp +decide -implicitDefEqProofs only [go_sem, encFraudLeastV_set0])
      refine aguardK_split (fun hc => ?_) (fun hc => ?_)
      · replace h := bif_f h hc
        (try simp +decide -implicitDefEqProofs only [go_sem, hc, encFraudLeastV_set0])
        refine AIdx.of (f := encApiRide) (l := l) hx_7 ?_
        (try simp +decide -implicitDefEqProofs only [go_sem, encFraudLeastV_set0])
        refine AIdx.of (f := encApiRide) (l := l) hx_8 ?_
        (try simp +decide -implicitDefEqProofs only [go_sem, encFraudLeastV_set0])
        obtain ⟨y10, hy10, h⟩ := bindE h
        refine DCall.pure Try.call36 (fraud_early_spec x_7.At x_8.At y9.1 hy10) rfl ?_
        (try simp +decide -implicitDefEqProofs only [go_sem, encFraudLeastV_set0])
        refine hK _ _ _ (by kernel_rfl) ?_; clear hK K
        refine qthen_normal ?_
        refine AWP.cond (acond_split (fun hc => ?_) (fun hc => ?_))
        · replace h := bif_t h hc
          refine AWP.region rfl ?_; intro K hK
          (try simp +decide -implicitDefEqProofs only [go_sem, encFraudLeastV_set0])
          obtain ⟨hk, h⟩ := chk_in h
          (repeat (refine ⟨by first | omega | (simp only [List.length_take, List.length_drop, List.length_append]; omega), ?_⟩)); try simp +decide -implicitDefEqProofs only [go_sem]
          refine hK _ _ ?_; clear hK K
          refine qblock_normal ?_
          refine qthen_normal ?_
          refine AWP.region rfl ?_; intro K hK
          (try simp +decide -implicitDefEqProofs only [go_sem, encFraudLeastV_set0])
          refine hK _ _ ?_; clear hK K
          refine qthen_normal ?_
          obtain rfl := some_eq h
          refine ⟨(k4 + 1, ((mset known2 (pk x_7.Lift x_8.Lift) (FraudLeast.mk y9.1 y9.2)), (out3 ++ [(ApiSuspicion.mk ((k4 : Nat) : Int) x_6)])), (ver4 + 1)), ⟨by dsimp only; omega, cont_next hJ4⟩, by dsimp only; omega, ?_, ?_⟩
          · (simp +decide -implicitDefEqProofs only [go_sem, mpE_nil, AVal.int.injEq, Int.natCast_zero, List.replicate_zero, List.length_take, List.length_drop, AVal.own.injEq, reduceCtorEq, Int.reduceAdd, hw4, encFraudLeastV_set0] <;> omega)
          · (simp +decide -implicitDefEqProofs only [go_sem, mpE_nil, AVal.int.injEq, Int.natCast_zero, List.replicate_zero, List.length_take, List.length_drop, AVal.own.injEq, reduceCtorEq, Int.reduceAdd, hw4, encFraudLeastV_set0] <;> omega)
        replace h := bif_f h hc
        refine AWP.skip ?_
        refine qblock_normal ?_
        refine qthen_normal ?_
        refine AWP.region rfl ?_; intro K hK
        (try simp +decide -implicitDefEqProofs only [go_sem, encFraudLeastV_set0])
        refine hK _ _ ?_; clear hK K
        refine qthen_normal ?_
        obtain rfl := some_eq h
        refine ⟨(k4 + 1, ((mset known2 (pk x_7.Lift x_8.Lift) (FraudLeast.mk y9.1 y9.2)), out3), ver4), ⟨by dsimp only; omega, cont_next hJ4⟩, by dsimp only; omega, ?_, ?_⟩
        · (simp +decide -implicitDefEqProofs only [go_sem, mpE_nil, AVal.int.injEq, Int.natCast_zero, List.replicate_zero, List.length_take, List.length_drop, AVal.own.injEq, reduceCtorEq, Int.reduceAdd, hw4, encFraudLeastV_set0] <;> omega)
        · (simp +decide -implicitDefEqProofs only [go_sem, mpE_nil, AVal.int.injEq, Int.natCast_zero, List.replicate_zero, List.length_take, List.length_drop, AVal.own.injEq, reduceCtorEq, Int.reduceAdd, hw4, encFraudLeastV_set0] <;> omega)
      · replace h := bif_t h hc
        (try simp +decide -implicitDefEqProofs only [go_sem, hc, Bool.not_false, encFraudLeastV_set0])
        refine hK _ _ _ (by kernel_rfl) ?_; clear hK K
        refine qthen_normal ?_
        refine AWP.cond (acond_true ?_)
        refine AWP.region rfl ?_; intro K hK
        (try simp +decide -implicitDefEqProofs only [go_sem, encFraudLeastV_set0])
        obtain ⟨hk, h⟩ := chk_in h
        (repeat (refine ⟨by first | omega | (simp only [List.length_take, List.length_drop, List.length_append]; omega), ?_⟩)); try simp +decide -implicitDefEqProofs only [go_sem]
        refine hK _ _ ?_; clear hK K
        refine qblock_normal ?_
        refine qthen_normal ?_
        refine AWP.region rfl ?_; intro K hK
        (try simp +decide -implicitDefEqProofs only [go_sem, encFraudLeastV_set0])
        refine hK _ _ ?_; clear hK K
        refine qthen_normal ?_
        obtain rfl := some_eq h
        refine ⟨(k4 + 1, ((mset known2 (pk x_7.Lift x_8.Lift) (FraudLeast.mk y9.1 y9.2)), (out3 ++ [(ApiSuspicion.mk ((k4 : Nat) : Int) x_6)])), (ver4 + 1)), ⟨by dsimp only; omega, cont_next hJ4⟩, by dsimp only; omega, ?_, ?_⟩
        · (simp +decide -implicitDefEqProofs only [go_sem, mpE_nil, AVal.int.injEq, Int.natCast_zero, List.replicate_zero, List.length_take, List.length_drop, AVal.own.injEq, reduceCtorEq, Int.reduceAdd, hw4, encFraudLeastV_set0] <;> omega)
        · (simp +decide -implicitDefEqProofs only [go_sem, mpE_nil, AVal.int.injEq, Int.natCast_zero, List.replicate_zero, List.length_take, List.length_drop, AVal.own.injEq, reduceCtorEq, Int.reduceAdd, hw4, encFraudLeastV_set0] <;> omega)
    replace h := bif_f h hc
    refine AWP.skip ?_
    refine qthen_normal ?_
    refine AWP.seq ?_
    refine AWP.draw Try.mixed (by kernel_rfl) ?_; intro K hK
    (try simp +decide -implicitDefEqProofs only [go_sem, encFraudLeastV_set0])
    refine aguardK_split (fun hc => ?_) (fun hc => ?_)
    · replace h := bif_f h hc
      (try simp +decide -implicitDefEqProofs only [go_sem, hc, encFraudLeastV_set0])
      refine AIdx.of (f := encApiRide) (l := l) hx_7 ?_
      (try simp +decide -implicitDefEqProofs only [go_sem, encFraudLeastV_set0])
      refine AIdx.of (f := encApiRide) (l := l) hx_8 ?_
      (try simp +decide -implicitDefEqProofs only [go_sem, encFraudLeastV_set0])
      obtain ⟨y11, hy11, h⟩ := bindE h
      refine DCall.pure Try.call36 (fraud_early_spec x_7.At x_8.At (mget (FraudLeast.mk (0 : Int) false) known2 (pk x_7.Lift x_8.Lift)).time hy11) rfl ?_
      (try simp +decide -implicitDefEqProofs only [go_sem, encFraudLeastV_set0])
      refine hK _ _ _ (by kernel_rfl) ?_; clear hK K
      refine qthen_normal ?_
      refine AWP.cond (acond_split (fun hc => ?_) (fun hc => ?_))
      · replace h := bif_t h hc
        refine AWP.region rfl ?_; intro K hK
        (try simp +decide -implicitDefEqProofs only [go_sem, encFraudLeastV_set0])
        obtain ⟨hk, h⟩ := chk_in h
        (repeat (refine ⟨by first | omega | (simp only [List.length_take, List.length_drop, List.length_append]; omega), ?_⟩)); try simp +decide -implicitDefEqProofs only [go_sem]
        refine hK _ _ ?_; clear hK K
        refine qblock_normal ?_
        refine qthen_normal ?_
        refine AWP.region rfl ?_; intro K hK
        (try simp +decide -implicitDefEqProofs only [go_sem, encFraudLeastV_set0])
        refine hK _ _ ?_; clear hK K
        refine qthen_normal ?_
        obtain rfl := some_eq h
        refine ⟨(k4 + 1, (known2, (out3 ++ [(ApiSuspicion.mk ((k4 : Nat) : Int) x_6)])), (ver4 + 1)), ⟨by dsimp only; omega, cont_next hJ4⟩, by dsimp only; omega, ?_, ?_⟩
        · (simp +decide -implicitDefEqProofs only [go_sem, mpE_nil, AVal.int.injEq, Int.natCast_zero, List.replicate_zero, List.length_take, List.length_drop, AVal.own.injEq, reduceCtorEq, Int.reduceAdd, hw4, encFraudLeastV_set0] <;> omega)
        · (simp +decide -implicitDefEqProofs only [go_sem, mpE_nil, AVal.int.injEq, Int.natCast_zero, List.replicate_zero, List.length_take, List.length_drop, AVal.own.injEq, reduceCtorEq, Int.reduceAdd, hw4, encFraudLeastV_set0] <;> omega)
      replace h := bif_f h hc
      refine AWP.skip ?_
      refine qblock_normal ?_
      refine qthen_normal ?_
      refine AWP.region rfl ?_; intro K hK
      (try simp +decide -implicitDefEqProofs only [go_sem, encFraudLeastV_set0])
      refine hK _ _ ?_; clear hK K
      refine qthen_normal ?_
      obtain rfl := some_eq h
      refine ⟨(k4 + 1, (known2, out3), ver4), ⟨by dsimp only; omega, cont_next hJ4⟩, by dsimp only; omega, ?_, ?_⟩
      · (simp +decide -implicitDefEqProofs only [go_sem, mpE_nil, AVal.int.injEq, Int.natCast_zero, List.replicate_zero, List.length_take, List.length_drop, AVal.own.injEq, reduceCtorEq, Int.reduceAdd, hw4, encFraudLeastV_set0] <;> omega)
      · (simp +decide -implicitDefEqProofs only [go_sem, mpE_nil, AVal.int.injEq, Int.natCast_zero, List.replicate_zero, List.length_take, List.length_drop, AVal.own.injEq, reduceCtorEq, Int.reduceAdd, hw4, encFraudLeastV_set0] <;> omega)
    · replace h := bif_t h hc
      (try simp +decide -implicitDefEqProofs only [go_sem, hc, Bool.not_false, encFraudLeastV_set0])
      refine hK _ _ _ (by kernel_rfl) ?_; clear hK K
      refine qthen_normal ?_
      refine AWP.cond (acond_true ?_)
      refine AWP.region rfl ?_; intro K hK
      (try simp +decide -implicitDefEqProofs only [go_sem, encFraudLeastV_set0])
      obtain ⟨hk, h⟩ := chk_in h
      (repeat (refine ⟨by first | omega | (simp only [List.length_take, List.length_drop, List.length_append]; omega), ?_⟩)); try simp +decide -implicitDefEqProofs only [go_sem]
      refine hK _ _ ?_; clear hK K
      refine qblock_normal ?_
      refine qthen_normal ?_
      refine AWP.region rfl ?_; intro K hK
      (try simp +decide -implicitDefEqProofs only [go_sem, encFraudLeastV_set0])
      refine hK _ _ ?_; clear hK K
      refine qthen_normal ?_
      obtain rfl := some_eq h
      refine ⟨(k4 + 1, (known2, (out3 ++ [(ApiSuspicion.mk ((k4 : Nat) : Int) x_6)])), (ver4 + 1)), ⟨by dsimp only; omega, cont_next hJ4⟩, by dsimp only; omega, ?_, ?_⟩
      · (simp +decide -implicitDefEqProofs only [go_sem, mpE_nil, AVal.int.injEq, Int.natCast_zero, List.replicate_zero, List.length_take, List.length_drop, AVal.own.injEq, reduceCtorEq, Int.reduceAdd, hw4, encFraudLeastV_set0] <;> omega)
      · (simp +decide -implicitDefEqProofs only [go_sem, mpE_nil, AVal.int.injEq, Int.natCast_zero, List.replicate_zero, List.length_take, List.length_drop, AVal.own.injEq, reduceCtorEq, Int.reduceAdd, hw4, encFraudLeastV_set0] <;> omega)
  · obtain rfl := for_nil hJ4 (fun hl => by have := of_decide_eq_false hc; omega)
    have h := on_next hO4; try dsimp only at h
    have hkl : y1.length = k4 := by have := of_decide_eq_false hc; omega
    subst hkl
    refine AWP.exit ?_
    refine qthen_exit ?_
    refine qthen_exit ?_
    refine qblock_same ?_
    refine qthen_normal ?_
    refine AWP.seq ?_
    refine AWP.region rfl ?_; intro K hK
    (try simp +decide -implicitDefEqProofs only [go_sem, encFraudLeastV_set0])
    refine hK _ _ ?_; clear hK K
    refine qthen_normal ?_
    refine AWP.ret ?_
    obtain rfl := some_eq h
    simp +decide -implicitDefEqProofs only [go_sem, mpE_nil, AVal.int.injEq, Int.natCast_zero, List.replicate_zero, List.length_take, List.length_drop, AVal.own.injEq, reduceCtorEq, Int.reduceAdd, nle2, nle1, nle0, nleA, nleL, Try.results15, encFraudLeastV_set0]
theorem fraud_Impossible_spec (m : ApiMap) (l : List ApiRide) {r : (List ApiSuspicion)} (h : fraud_Impossible m l = some r) : PureFn Try.prog 15 [.agg (encApiMap m), .sl 7 (l.map encApiRide)] (· = .sl 2 (r.map encApiSuspicion)) := (fraud_Impossible_fresh m l h).pure

def ref32_Same_b1 (b : List ApiSuspicion) (k0 : Nat) (x_2 : ApiSuspicion) (sv : Unit) : Option (Out (Unit) (Bool)) :=
  (idxL b ((k0 : Nat) : Int)).bind fun x_3 => (bif (!((decide (x_2.First = x_3.First)) && (decide (x_2.Second = x_3.Second)))) then some (Out.ret false) else some (Out.next ()))

def ref32_Same (a : List ApiSuspicion) (b : List ApiSuspicion) : Option (Bool) :=
  (bif (decide (((a.length : Nat) : Int) ≠ ((b.length : Nat) : Int))) then some false else (forIx (ref32_Same_b1 b) 0 a ()).bind fun o0 => o0.on fun s0 => some true)

theorem ref32_Same_spec (a : List ApiSuspicion) (b : List ApiSuspicion) {r : Bool} (h : ref32_Same a b = some r) : PureFn Try.prog 14 [.sl 2 (a.map encApiSuspicion), .sl 2 (b.map encApiSuspicion)] (· = .bool r) := by
  refine PureFn.nle (PureFn.intro Try.func14 rfl rfl (by show _ ≤ 26; simp) ?_)
  unfold ref32_Same at h
  (try simp +decide -implicitDefEqProofs only [go_sem])
  refine AWP.seq ?_
  refine AWP.region rfl ?_; intro K hK
  (try simp +decide -implicitDefEqProofs only [go_sem])
  refine hK _ _ ?_; clear hK K
  refine qthen_normal ?_
  refine AWP.seq ?_
  refine AWP.seq ?_
  refine AWP.region rfl ?_; intro K hK
  (try simp +decide -implicitDefEqProofs only [go_sem])
  intro hm
  intro hm
  refine hK _ _ ?_; clear hK K
  refine qthen_normal ?_
  refine AWP.cond (acond_split (fun hc => ?_) (fun hc => ?_))
  · replace h := bif_t h hc
    refine AWP.seq ?_
    refine AWP.region rfl ?_; intro K hK
    (try simp +decide -implicitDefEqProofs only [go_sem])
    refine hK _ _ ?_; clear hK K
    refine qthen_normal ?_
    refine AWP.ret ?_
    refine qthen_ret ?_
    obtain rfl := some_eq h
    simp +decide -implicitDefEqProofs only [go_sem, mpE_nil, AVal.int.injEq, Int.natCast_zero, List.replicate_zero, List.length_take, List.length_drop, AVal.own.injEq, reduceCtorEq, Int.reduceAdd, nle2, nle1, nle0, nleA, nleL, Try.results14]
  replace h := bif_f h hc
  refine AWP.skip ?_
  refine qthen_normal ?_
  refine AWP.seq ?_
  refine AWP.seq ?_
  refine AWP.region rfl ?_; intro K hK
  (try simp +decide -implicitDefEqProofs only [go_sem])
  refine hK _ _ ?_; clear hK K
  refine qthen_normal ?_
  refine AWP.block ?_
  obtain ⟨o0, hJ0, hO0⟩ := bindE h
  clear h
  refine AWP.loopW (ι := Nat × (Unit) × (Unit)) (fun zz => [(0, .sl 2 (a.map encApiSuspicion)), (1, .sl 2 (b.map encApiSuspicion)), (5, .int .i64 ((zz.1 : Nat) : Int))]) (fun zz => []) (fun zz => zz.1 ≤ a.length ∧ forIx (ref32_Same_b1 b) zz.1 ((a).drop zz.1) zz.2.1 = some o0) (fun zz => a.length - zz.1) (0, (), ()) ⟨Nat.zero_le _, hJ0⟩ (by (simp +decide -implicitDefEqProofs only [go_sem, mpE_nil, AVal.int.injEq, Int.natCast_zero, List.replicate_zero, List.length_take, List.length_drop, AVal.own.injEq, reduceCtorEq, Int.reduceAdd] <;> omega)) (by (simp +decide -implicitDefEqProofs only [go_sem, mpE_nil, AVal.int.injEq, Int.natCast_zero, List.replicate_zero, List.length_take, List.length_drop, AVal.own.injEq, reduceCtorEq, Int.reduceAdd] <;> omega)) (fun x => ⟨rfl, rfl, rfl⟩) ?_
  clear hJ0
  rintro ⟨k0, ⟨⟩, ⟨⟩⟩ ⟨hk0, hJ0⟩
  dsimp only at hk0 hJ0 ⊢
  refine AWP.seq ?_
  refine AWP.seq ?_
  refine AWP.region rfl ?_; intro K hK
  (try simp +decide -implicitDefEqProofs only [go_sem])
  intro hm
  refine hK _ _ ?_; clear hK K
  refine qthen_normal ?_
  refine AWP.cond (acond_split (fun hc => ?_) (fun hc => ?_))
  · have hlt0 : k0 < a.length := by have := of_decide_eq_true hc; omega
    obtain ⟨x_2, b0, hx0_, h, hJ0⟩ := for_cons hJ0 hlt0
    have hx0 := idxL_nat hx0_
    have hw0 : IntKind.i64.wrap (((k0 : Nat) : Int) + 1) = (((k0 : Nat) : Int) + (1 : Int)) := by rw [wrap_i64] <;> omega
    unfold ref32_Same_b1 at h; try dsimp only at h
    refine AWP.skip ?_
    refine qthen_normal ?_
    refine AWP.seq ?_
    refine AWP.block ?_
    refine AWP.seq ?_
    refine AWP.draw Try.mixed (by kernel_rfl) ?_; intro K hK
    (try simp +decide -implicitDefEqProofs only [go_sem])
    refine AIdx.of (f := encApiSuspicion) (l := a) hx0 ?_
    (try simp +decide -implicitDefEqProofs only [go_sem])
    obtain ⟨x_3, hx_3, h⟩ := bindE h
    refine AIdx.of (f := encApiSuspicion) (l := b) hx_3 ?_
    (try simp +decide -implicitDefEqProofs only [go_sem])
    refine hK _ _ _ (by kernel_rfl) ?_; clear hK K
    refine qthen_normal ?_
    refine AWP.cond (acond_split (fun hc => ?_) (fun hc => ?_))
    · replace h := bif_t h hc
      refine AWP.seq ?_
      refine AWP.region rfl ?_; intro K hK
      (try simp +decide -implicitDefEqProofs only [go_sem])
      refine hK _ _ ?_; clear hK K
      refine qthen_normal ?_
      refine AWP.ret ?_
      refine qblock_ret ?_
      refine qthen_ret ?_
      refine qthen_ret ?_
      obtain rfl := some_eq h
      obtain rfl := cont_ret hJ0
      replace h := on_ret hO0
      refine qblock_ret ?_
      refine qthen_ret ?_
      obtain rfl := some_eq h
      simp +decide -implicitDefEqProofs only [go_sem, mpE_nil, AVal.int.injEq, Int.natCast_zero, List.replicate_zero, List.length_take, List.length_drop, AVal.own.injEq, reduceCtorEq, Int.reduceAdd, nle2, nle1, nle0, nleA, nleL, Try.results14]
    replace h := bif_f h hc
    refine AWP.skip ?_
    refine qblock_normal ?_
    refine qthen_normal ?_
    refine AWP.region rfl ?_; intro K hK
    (try simp +decide -implicitDefEqProofs only [go_sem])
    refine hK _ _ ?_; clear hK K
    refine qthen_normal ?_
    obtain rfl := some_eq h
    refine ⟨(k0 + 1, (), ()), ⟨by dsimp only; omega, cont_next hJ0⟩, by dsimp only; omega, ?_, ?_⟩
    · (simp +decide -implicitDefEqProofs only [go_sem, mpE_nil, AVal.int.injEq, Int.natCast_zero, List.replicate_zero, List.length_take, List.length_drop, AVal.own.injEq, reduceCtorEq, Int.reduceAdd, hw0] <;> omega)
    · (simp +decide -implicitDefEqProofs only [go_sem, mpE_nil, AVal.int.injEq, Int.natCast_zero, List.replicate_zero, List.length_take, List.length_drop, AVal.own.injEq, reduceCtorEq, Int.reduceAdd, hw0] <;> omega)
  · obtain rfl := for_nil hJ0 (fun hl => by have := of_decide_eq_false hc; omega)
    have h := on_next hO0; try dsimp only at h
    have hkl : a.length = k0 := by have := of_decide_eq_false hc; omega
    subst hkl
    refine AWP.exit ?_
    refine qthen_exit ?_
    refine qthen_exit ?_
    refine qblock_same ?_
    refine qthen_normal ?_
    refine AWP.seq ?_
    refine AWP.region rfl ?_; intro K hK
    (try simp +decide -implicitDefEqProofs only [go_sem])
    refine hK _ _ ?_; clear hK K
    refine qthen_normal ?_
    refine AWP.ret ?_
    obtain rfl := some_eq h
    simp +decide -implicitDefEqProofs only [go_sem, mpE_nil, AVal.int.injEq, Int.natCast_zero, List.replicate_zero, List.length_take, List.length_drop, AVal.own.injEq, reduceCtorEq, Int.reduceAdd, nle2, nle1, nle0, nleA, nleL, Try.results14]

theorem slV_intC_set (m : List (Int × List Int)) (n : Int) (xs : List Int) : aset (mpE slV_intC m) n (.sl 1 (xs.map intC)) = mpE slV_intC (mset m n xs) := aset_mpE slV_intC m n xs
def fraud_Clones_groups (l : List ApiRide) : List (Int × List Int) := l.zipIdx.foldl (fun g p => gadd g (pk p.1.Serial p.1.Counter) (p.2 : Int)) []
theorem fraud_Clones_groups_snoc {l : List ApiRide} {k : Nat} {e : ApiRide} (h : l[k]? = some e) : fraud_Clones_groups (l.take (k + 1)) = gadd (fraud_Clones_groups (l.take k)) (pk e.Serial e.Counter) (k : Int) := by
  have hk := (List.getElem?_eq_some_iff.1 h).1
  unfold fraud_Clones_groups; rw [List.take_add_one, h]
  simp [List.zipIdx_append, Nat.min_eq_left (Nat.le_of_lt hk)]
theorem fraud_Clones_groups_inv (l : List ApiRide) : ∀ n, n ≤ l.length → ∀ p ∈ fraud_Clones_groups (l.take n), 1 ≤ p.2.length ∧ p.2.length ≤ n := by
  intro n
  induction n with
  | zero => intro _ p hp; simp [fraud_Clones_groups] at hp
  | succ n ih =>
    intro h
    rw [fraud_Clones_groups_snoc (List.getElem?_eq_getElem (show n < l.length by omega))]
    exact gadd_inv (ih (by omega)) _ _


def fraud_Clones_b2 (groups1 : List (Int × List Int)) (k3 : Nat) (x_5 : ApiRide) (k7 : Nat) (_x : Unit) (sv : (List ApiSuspicion)) : Option (Out ((List ApiSuspicion)) (Out ((List (Int × List Int)) × (List ApiSuspicion)) ((List ApiSuspicion)))) :=
  (idxL ((mget [] groups1 (pk x_5.Serial x_5.Counter)).drop 1) ((k7 : Nat) : Int)).bind fun x_9 => chk (sv.length + 1) (some (Out.next (sv ++ [(ApiSuspicion.mk ((k3 : Nat) : Int) x_9)])))

def fraud_Clones_b1 (k3 : Nat) (x_5 : ApiRide) (sv : (List (Int × List Int)) × (List ApiSuspicion)) : Option (Out ((List (Int × List Int)) × (List ApiSuspicion)) ((List ApiSuspicion))) :=
  okB (decide ((1 : Int) ≤ (((mget [] sv.1 (pk x_5.Serial x_5.Counter)).length : Nat) : Int))) ((forN (fraud_Clones_b2 sv.1 k3 x_5) ((mget [] sv.1 (pk x_5.Serial x_5.Counter)).length - 1) sv.2).bind fun o7 => o7.on fun s7 => some (Out.next ((mset sv.1 (pk x_5.Serial x_5.Counter) ((mget [] sv.1 (pk x_5.Serial x_5.Counter)).drop 1)), s7)))

def fraud_Clones (l : List ApiRide) : Option ((List ApiSuspicion)) :=
  chk l.length ((forIx fraud_Clones_b1 0 l ((fraud_Clones_groups l), [])).bind fun o3 => o3.on fun s3 => some s3.2)

theorem fraud_Clones_fresh (l : List ApiRide) {r : (List ApiSuspicion)} (h : fraud_Clones l = some r) : FreshFn Try.prog 17 [.sl 7 (l.map encApiRide)] (· = .sl 2 (r.map encApiSuspicion)) := by
  refine FreshFn.nle (FreshFn.intro Try.func17 rfl rfl (by show _ ≤ 70; simp) ?_)
  unfold fraud_Clones at h
  (try simp +decide -implicitDefEqProofs only [go_sem, slV_intC_set])
  refine AWP.seq ?_
  refine AWP.region rfl ?_; intro K hK
  (try simp +decide -implicitDefEqProofs only [go_sem, slV_intC_set])
  refine hK _ _ ?_; clear hK K
  refine qthen_normal ?_
  refine AWP.seq ?_
  refine AWP.region rfl ?_; intro K hK
  (try simp +decide -implicitDefEqProofs only [go_sem, slV_intC_set])
  refine hK _ _ ?_; clear hK K
  refine qthen_normal ?_
  refine AWP.sub (Sub.toQ 0 rfl) ?_
  (try simp +decide -implicitDefEqProofs only [go_sem, slV_intC_set])
  refine AWP.seq ?_
  refine AWP.seq ?_
  refine AWP.region rfl ?_; intro K hK
  (try simp +decide -implicitDefEqProofs only [go_sem, slV_intC_set])
  intro hm
  refine hK _ _ ?_; clear hK K
  refine qthen_normal ?_
  obtain ⟨hl, h⟩ := chk_in h
  refine AWP.block ?_
  refine AWP.loopS (ι := Nat × List (Int × List Int)) (fun zz => [(0, .sl 7 (l.map encApiRide)), (3, .map 0), (15, .sl 7 (l.map encApiRide)), (16, .int .i64 ((l.length : Nat) : Int)), (17, .int .i64 ((zz.1 : Nat) : Int))]) (fun zz => .mpo true (gE 1 zz.2) :: gR zz.2) (fun zz => zz.1 ≤ l.length ∧ zz.2 = fraud_Clones_groups (l.take zz.1)) (fun zz => l.length - zz.1) (0, []) ⟨Nat.zero_le _, rfl⟩
    (by (simp +decide -implicitDefEqProofs only [go_sem, mpE_nil, AVal.int.injEq, Int.natCast_zero, List.replicate_zero, List.length_take, List.length_drop, AVal.own.injEq, reduceCtorEq, Int.reduceAdd, slV_intC_set] <;> omega)) (by exact ⟨⟨rfl, rfl⟩, trivial⟩)
    (fun zz => ⟨by simp [belFr, AVal.bel2, AVal.bel1, AVal.belF, AVal.bel0], belH_gQ zz.2 (by rw [List.length_cons, gR_len]; omega), rfl⟩) ?_
  rintro ⟨k, g⟩ ⟨hk, hg⟩
  dsimp only at hk hg ⊢
  refine AWP.seq ?_
  refine AWP.region rfl ?_; intro K hK
  (try simp +decide -implicitDefEqProofs only [go_sem, slV_intC_set])
  refine hK _ _ ?_; clear hK K
  refine qthen_normal ?_
  refine AWP.seq ?_
  refine AWP.cond (acond_split (fun hc => ?_) (fun hc => ?_))
  · have hlt : k < l.length := by have := of_decide_eq_true hc; omega
    have hx0 : l[k]? = some l[k] := List.getElem?_eq_getElem hlt
    have hx := idxL_lt hlt
    generalize l[k] = e at hx hx0
    have hw : IntKind.i64.wrap (((k : Nat) : Int) + 1) = (((k + 1 : Nat)) : Int) := wrap_add1 (by omega)
    refine AWP.skip ?_
    refine qthen_normal ?_
    refine AWP.seq ?_
    refine AWP.block ?_
    refine AWP.seq ?_
    refine AWP.region rfl ?_; intro K hK
    (try simp +decide -implicitDefEqProofs only [go_sem, slV_intC_set])
    refine AIdx.of (f := encApiRide) (l := l) hx ?_
    (try simp +decide -implicitDefEqProofs only [go_sem, apN, ga0, ga1, ga2, sa0, sa1, sa2, List.drop_succ_cons, List.drop_zero, List.headD_cons, slV_intC_set])
    refine hK _ _ ?_; clear hK K
    refine qthen_normal ?_
    refine AWP.seq ?_
    refine AWP.region rfl ?_; intro K hK
    (try simp +decide -implicitDefEqProofs only [go_sem, apN, ga0, ga1, ga2, sa0, sa1, sa2, List.drop_succ_cons, List.drop_zero, List.headD_cons, slV_intC_set])
    refine hK _ _ ?_; clear hK K
    refine qthen_normal ?_
    refine AWP.regionP ?_
    refine ALP.cut 4 (ALP.part rfl ?_); intro K hK
    (try simp +decide -implicitDefEqProofs only [go_sem, apN, ga0, ga1, ga2, sa0, sa1, sa2, List.drop_succ_cons, List.drop_zero, List.headD_cons, slV_intC_set])
    refine hK _ _ ?_; clear hK K
    have ga2' : ∀ x y z : AObj, (gR g ++ [x, y, z])[(gR g).length + 2]? = some z := by intro x y z; simp
    have hinv := fraud_Clones_groups_inv l k hk
    rw [← hg] at hinv
    have hnext := fraud_Clones_groups_snoc hx0
    rw [← hg] at hnext
    refine ALP.groupQK (by decide) (by decide) (by simp) rfl rfl kq80 rfl zs25 ?_; intro K hK av hav
    (try simp +decide -implicitDefEqProofs only [go_sem, apN, ga0, ga1, ga2, ga2', sa0, sa1, sa2, List.drop_succ_cons, List.drop_zero, List.headD_cons, List.append_assoc, List.cons_append, List.nil_append, slV_intC_set])
    rcases hav with hv | ⟨hn, rfl⟩
    · obtain ⟨i, xs, hi, hv2, hget, haset, hgset⟩ := alook_gE g 1 (pk e.Serial e.Counter) av hv
      have hil : i < (gR g).length := by rw [gR_len]; exact (List.getElem?_eq_some_iff.1 hi).1
      have hrow : ∀ (B : List AObj), (gR g ++ B)[i]? = some (.row (xs.length - 1) 1 (xs.map intC)) := fun B => by
        rw [List.getElem?_append_left hil]; unfold gR; rw [List.getElem?_map, hi]; rfl
      have hset : ∀ (x : AObj) (B : List AObj), (gR g ++ B).set i x = (gR g).set i x ++ B := fun x B => List.set_append_left _ _ hil
      have hxs := hinv _ (List.mem_of_getElem? hi)
      subst hv2
      (try simp +decide -implicitDefEqProofs only [go_sem, apN, ga0, ga1, ga2, ga2', sa0, sa1, sa2, List.drop_succ_cons, List.drop_zero, List.headD_cons, List.append_assoc, List.cons_append, List.nil_append, hrow, slV_intC_set])
      simp only at hxs
      refine ⟨⟨by omega, by omega, ?_⟩, by omega, by omega⟩
      refine hK _ _ ?_; clear hK K
      refine ALP.last rfl ?_; intro K hK
      (try simp +decide -implicitDefEqProofs only [go_sem, slV_intC_set])
      refine hK _ _ ?_; clear hK K
      refine qblock_normal ?_
      refine qthen_normal ?_
      refine AWP.region rfl ?_; intro K hK
      (try simp +decide -implicitDefEqProofs only [go_sem, slV_intC_set])
      refine hK _ _ ?_; clear hK K
      refine qthen_normal ?_
      have hlx : (xs ++ [(k : Int)]).length = xs.length + 1 := by simp
      have hl1 : xs.length - 1 + 1 = xs.length + 1 - 1 := by omega
      have e1 := haset (xs ++ [(k : Int)])
      have e2 := hgset (xs ++ [(k : Int)])
      rw [hlx] at e1 e2
      refine ⟨(k + 1, gadd g (pk e.Serial e.Counter) k), ⟨by dsimp only; omega, hnext.symm⟩, by dsimp only; omega, _, _, Sub.refl', ?_, ?_⟩
      · (simp +decide -implicitDefEqProofs only [go_sem, mpE_nil, AVal.int.injEq, Int.natCast_zero, List.replicate_zero, List.length_take, List.length_drop, AVal.own.injEq, reduceCtorEq, Int.reduceAdd, hw, slV_intC_set] <;> omega)
      · rw [hset, hl1, e1, e2]
        unfold gadd
        rw [hget]
        exact subH_gQ _ _
    · (try simp +decide -implicitDefEqProofs only [go_sem, apN, ga0, ga1, ga2, ga2', sa0, sa1, sa2, List.drop_succ_cons, List.drop_zero, List.headD_cons, List.append_assoc, List.cons_append, List.nil_append, slV_intC_set])
      refine hK _ _ ?_; clear hK K
      refine ALP.last rfl ?_; intro K hK
      (try simp +decide -implicitDefEqProofs only [go_sem, slV_intC_set])
      refine hK _ _ ?_; clear hK K
      refine qblock_normal ?_
      refine qthen_normal ?_
      refine AWP.region rfl ?_; intro K hK
      (try simp +decide -implicitDefEqProofs only [go_sem, slV_intC_set])
      refine hK _ _ ?_; clear hK K
      refine qthen_normal ?_
      obtain ⟨hget, haset, hmset⟩ := alook_gE_none g 1 (pk e.Serial e.Counter) hn
      have hgd : gadd g (pk e.Serial e.Counter) k = g ++ [(pk e.Serial e.Counter, [(k : Int)])] := by unfold gadd; rw [hget, hmset]; rfl
      have hm1 : (AObj.mpo true (aset (gE 1 g) (pk e.Serial e.Counter) (AVal.own ((gR g).length + 3 + 1) 0 0 1)) :: (gR g ++ [AObj.box [AVal.int IntKind.i64 e.Gate, AVal.int IntKind.i64 e.Seq, AVal.int IntKind.i64 e.Serial, AVal.int IntKind.i64 e.Counter, AVal.int IntKind.i64 e.Product, AVal.int IntKind.i64 e.Lift, AVal.int IntKind.i64 e.At], AObj.box [AVal.int IntKind.i64 e.Serial, AVal.int IntKind.i64 e.Counter], AObj.row 0 1 [[AVal.int IntKind.i64 k]], AObj.row 0 1 [[AVal.int IntKind.i64 k]]]))[(gR g).length + 1]? = some (AObj.box [AVal.int IntKind.i64 e.Gate, AVal.int IntKind.i64 e.Seq, AVal.int IntKind.i64 e.Serial, AVal.int IntKind.i64 e.Counter, AVal.int IntKind.i64 e.Product, AVal.int IntKind.i64 e.Lift, AVal.int IntKind.i64 e.At]) := by simp
      have hm3 : (AObj.mpo true (aset (gE 1 g) (pk e.Serial e.Counter) (AVal.own ((gR g).length + 3 + 1) 0 0 1)) :: (gR g ++ [AObj.box [AVal.int IntKind.i64 e.Gate, AVal.int IntKind.i64 e.Seq, AVal.int IntKind.i64 e.Serial, AVal.int IntKind.i64 e.Counter, AVal.int IntKind.i64 e.Product, AVal.int IntKind.i64 e.Lift, AVal.int IntKind.i64 e.At], AObj.box [AVal.int IntKind.i64 e.Serial, AVal.int IntKind.i64 e.Counter], AObj.row 0 1 [[AVal.int IntKind.i64 k]], AObj.row 0 1 [[AVal.int IntKind.i64 k]]]))[(gR g).length + 3 + 1]? = some (AObj.row 0 1 [[AVal.int IntKind.i64 k]]) := by simp
      refine ⟨(k + 1, gadd g (pk e.Serial e.Counter) k), ⟨by dsimp only; omega, hnext.symm⟩, by dsimp only; omega, _, _, Sub.swap ((gR g).length + 1) ((gR g).length + 3 + 1) hm1 hm3 rfl, ?_, ?_⟩
      · (simp +decide -implicitDefEqProofs only [go_sem, mpE_nil, AVal.int.injEq, Int.natCast_zero, List.replicate_zero, List.length_take, List.length_drop, AVal.own.injEq, reduceCtorEq, Int.reduceAdd, hw, slV_intC_set] <;> omega)
      · have hsw : swp ((gR g).length + 1) ((gR g).length + 3 + 1) ((gR g).length + 3 + 1) = (gR g).length + 1 := by unfold swp; rw [if_neg (by omega), if_pos rfl]
        have hre : renE (swp ((gR g).length + 1) ((gR g).length + 3 + 1)) (gE 1 g) = gE 1 g := renE_gE g 1 fun i h1 h2 => by
          rw [← gR_len] at h2
          unfold swp; rw [if_neg (by omega), if_neg (by omega)]
        have sa3 : ∀ a b c d x : AObj, (gR g ++ [a, b, c, d]).set ((gR g).length + 3) x = gR g ++ [a, b, c, x] := by intro a b c d x; simp
        unfold swapH
        simp only [renH, renO, renH_app, renH_gR, haset, renE_app, hre, renE, ren, hsw, List.set_cons_succ, sa0, sa3, rens]
        rw [hgd, gE_app, gR_len]
        have : gR (g ++ [(pk e.Serial e.Counter, [(k : Int)])]) = gR g ++ [AObj.row 0 1 [[AVal.int IntKind.i64 k]]] := by simp [gR, intC]
        refine ⟨⟨rfl, rfl⟩, ?_⟩
        rw [this]
        have h2 := subH_app (gR g ++ [AObj.row 0 1 [[AVal.int IntKind.i64 k]]]) [AObj.box [AVal.int IntKind.i64 e.Serial, AVal.int IntKind.i64 e.Counter], AObj.row 0 1 [[AVal.int IntKind.i64 k]], AObj.box [AVal.int IntKind.i64 e.Gate, AVal.int IntKind.i64 e.Seq, AVal.int IntKind.i64 e.Serial, AVal.int IntKind.i64 e.Counter, AVal.int IntKind.i64 e.Product, AVal.int IntKind.i64 e.Lift, AVal.int IntKind.i64 e.At]] (by
          intro o ho
          rcases List.mem_append.1 ho with ho | ho
          · exact gR_notResv g o ho
          · simp at ho; subst ho; simp)
        rw [List.append_assoc] at h2
        exact h2
  · have hkl : k = l.length := by have := of_decide_eq_false hc; omega
    subst hkl
    rw [List.take_length] at hg
    refine AWP.exit ?_
    refine qthen_exit ?_
    refine qthen_exit ?_
    refine qblock_same ?_
    refine qthen_normal ?_
    refine AWP.sub (Sub.weak (fr' := [(0, .sl 7 (l.map encApiRide)), (3, .map 0)]) (H' := .mpo true (gE 1 g) :: gR g) (subH_gQ g [] |> fun h => by rwa [List.append_nil] at h) (by (simp (implicitDefEqProofs := false) (decide := true) only [go_sem, Nat.reduceAdd, Nat.reduceMul, Nat.reduceSub, Int.reduceToNat, mpE_nil, Int.natCast_zero, List.replicate_zero, List.length_take, List.length_drop, AVal.own.injEq, reduceCtorEq, Int.reduceAdd] <;> omega)) (.inl rfl)) ?_
    refine AWP.sub (Sub.groupsQ (fun _ _ _ _ => rfl) (by (simp (implicitDefEqProofs := false) (decide := true) only [go_sem, Nat.reduceAdd, Nat.reduceMul, Nat.reduceSub, Int.reduceToNat, mpE_nil, Int.natCast_zero, List.replicate_zero, List.length_take, List.length_drop, AVal.own.injEq, reduceCtorEq, Int.reduceAdd] <;> omega)) rfl rfl g) ?_
    subst hg
    refine AWP.seq ?_
    refine AWP.region rfl ?_; intro K hK
    (try simp +decide -implicitDefEqProofs only [go_sem, slV_intC_set])
    refine hK _ _ ?_; clear hK K
    refine qthen_normal ?_
    refine AWP.seq ?_
    refine AWP.seq ?_
    refine AWP.region rfl ?_; intro K hK
    (try simp +decide -implicitDefEqProofs only [go_sem, slV_intC_set])
    intro hm
    refine hK _ _ ?_; clear hK K
    refine qthen_normal ?_
    refine AWP.block ?_
    refine AWP.ghost 7 2 rfl (by decide) ?_
    obtain ⟨o3, hJ3, hO3⟩ := bindE h
    clear h
    refine AWP.loopW (ι := Nat × ((List (Int × List Int)) × (List ApiSuspicion)) × (Nat)) (fun zz => [(3, .map 0), (7, .own 1 zz.2.2 0 zz.2.1.2.length), (36, .sl 7 (l.map encApiRide)), (37, .int .i64 ((l.length : Nat) : Int)), (38, .int .i64 ((zz.1 : Nat) : Int))]) (fun zz => [.mpo true (mpE slV_intC zz.2.1.1), .row zz.2.2 2 (zz.2.1.2.map encApiSuspicion)]) (fun zz => zz.1 ≤ l.length ∧ forIx fraud_Clones_b1 zz.1 ((l).drop zz.1) zz.2.1 = some o3) (fun zz => l.length - zz.1) (0, ((fraud_Clones_groups l), []), 0) ⟨Nat.zero_le _, hJ3⟩ (by (simp +decide -implicitDefEqProofs only [go_sem, mpE_nil, AVal.int.injEq, Int.natCast_zero, List.replicate_zero, List.length_take, List.length_drop, AVal.own.injEq, reduceCtorEq, Int.reduceAdd, slV_intC_set] <;> omega)) (by (simp +decide -implicitDefEqProofs only [go_sem, mpE_nil, AVal.int.injEq, Int.natCast_zero, List.replicate_zero, List.length_take, List.length_drop, AVal.own.injEq, reduceCtorEq, Int.reduceAdd, slV_intC_set] <;> omega)) (fun x => ⟨rfl, by simp [belH, belObj, mpE, AVal.bel2, AVal.bel1, AVal.belF, AVal.bel0, slV_intC], rfl⟩) ?_
    clear hJ3
    rintro ⟨k3, ⟨groups1, out2⟩, ver3⟩ ⟨hk3, hJ3⟩
    dsimp only at hk3 hJ3 ⊢
    refine AWP.seq ?_
    refine AWP.region rfl ?_; intro K hK
    (try simp +decide -implicitDefEqProofs only [go_sem, slV_intC_set])
    refine hK _ _ ?_; clear hK K
    refine qthen_normal ?_
    refine AWP.seq ?_
    refine AWP.cond (acond_split (fun hc => ?_) (fun hc => ?_))
    · have hlt3 : k3 < l.length := by have := of_decide_eq_true hc; omega
      obtain ⟨x_5, b3, hx3_, h, hJ3⟩ := for_cons hJ3 hlt3
      have hx3 := idxL_nat hx3_
      have hw3 : IntKind.i64.wrap (((k3 : Nat) : Int) + 1) = (((k3 : Nat) : Int) + (1 : Int)) := by rw [wrap_i64] <;> omega
      unfold fraud_Clones_b1 at h; try dsimp only at h
      refine AWP.skip ?_
      refine qthen_normal ?_
      refine AWP.seq ?_
      refine AWP.block ?_
      refine AWP.seq ?_
      refine AWP.region rfl ?_; intro K hK
      (try simp +decide -implicitDefEqProofs only [go_sem, slV_intC_set])
      refine AIdx.of (f := encApiRide) (l := l) hx3 ?_
      (try simp +decide -implicitDefEqProofs only [go_sem, slV_intC_set])
      refine hK _ _ ?_; clear hK K
      refine qthen_normal ?_
      refine AWP.seq ?_
      refine AWP.region rfl ?_; intro K hK
      (try simp +decide -implicitDefEqProofs only [go_sem, slV_intC_set])
      refine hK _ _ ?_; clear hK K
      refine qthen_normal ?_
      refine AWP.seq ?_
      refine AWP.regionP ?_
      refine ALP.cut 2 (ALP.part rfl ?_); intro K hK
      (try simp +decide -implicitDefEqProofs only [go_sem, slV_intC_set])
      refine hK _ _ ?_; clear hK K
      refine ALP.lookQz rfl rfl rfl kq80 rfl zs25 ?_
      (try simp +decide -implicitDefEqProofs only [go_sem, slV_intC_set])
      refine ALook.of (f := slV_intC) (m := groups1) (d := []) rfl ?_
      (try simp +decide -implicitDefEqProofs only [go_sem, slV_intC_set])
      refine ALP.last rfl ?_; intro K hK
      (try simp +decide -implicitDefEqProofs only [go_sem, slV_intC_set])
      obtain ⟨hk, h⟩ := okB_in h
      intro hm
      (repeat (refine ⟨by omega, ?_⟩))
      refine hK _ _ ?_; clear hK K
      refine qthen_normal ?_
      refine AWP.seq ?_
      refine AWP.regionP ?_
      refine ALP.cut 3 (ALP.part rfl ?_); intro K hK
      (try simp +decide -implicitDefEqProofs only [go_sem, slV_intC_set])
      refine hK _ _ ?_; clear hK K
      refine ALP.updQ rfl rfl rfl rfl kq80 rfl ?_
      (try simp +decide -implicitDefEqProofs only [go_sem, slV_intC_set])
      refine ALP.last rfl ?_; intro K hK
      (try simp +decide -implicitDefEqProofs only [go_sem, slV_intC_set])
      refine hK _ _ ?_; clear hK K
      refine qthen_normal ?_
      refine AWP.seq ?_
      refine AWP.region rfl ?_; intro K hK
      (try simp +decide -implicitDefEqProofs only [go_sem, slV_intC_set])
      intro hm
      refine hK _ _ ?_; clear hK K
      refine qthen_normal ?_
      refine AWP.block ?_
      obtain ⟨o7, hJ7, hO7⟩ := bindE h
      clear h
      obtain ⟨hn7, hJ7⟩ := forN_in hJ7
      refine AWP.loopW (ι := Nat × ((List ApiSuspicion)) × (Nat)) (fun zz => [(3, .map 0), (7, .own 1 zz.2.2 0 zz.2.1.length), (8, .int .i64 ((k3 : Nat) : Int)), (36, .sl 7 (l.map encApiRide)), (37, .int .i64 ((l.length : Nat) : Int)), (38, .int .i64 ((k3 : Nat) : Int)), (55, .sl 1 (((mget [] groups1 (pk x_5.Serial x_5.Counter)).drop 1).map intC)), (56, .int .i64 ((((mget [] groups1 (pk x_5.Serial x_5.Counter)).length - 1) : Nat) : Int)), (57, .int .i64 ((zz.1 : Nat) : Int))]) (fun zz => [.mpo true (mpE slV_intC (mset groups1 (pk x_5.Serial x_5.Counter) ((mget [] groups1 (pk x_5.Serial x_5.Counter)).drop 1))), .row zz.2.2 2 (zz.2.1.map encApiSuspicion)]) (fun zz => zz.1 ≤ ((mget [] groups1 (pk x_5.Serial x_5.Counter)).length - 1) ∧ forIx (fraud_Clones_b2 groups1 k3 x_5) zz.1 ((List.replicate ((mget [] groups1 (pk x_5.Serial x_5.Counter)).length - 1) ()).drop zz.1) zz.2.1 = some o7) (fun zz => ((mget [] groups1 (pk x_5.Serial x_5.Counter)).length - 1) - zz.1) (0, out2, ver3) ⟨Nat.zero_le _, hJ7⟩ (by (simp +decide -implicitDefEqProofs only [go_sem, mpE_nil, AVal.int.injEq, Int.natCast_zero, List.replicate_zero, List.length_take, List.length_drop, AVal.own.injEq, reduceCtorEq, Int.reduceAdd, slV_intC_set] <;> omega)) (by (simp +decide -implicitDefEqProofs only [go_sem, mpE_nil, AVal.int.injEq, Int.natCast_zero, List.replicate_zero, List.length_take, List.length_drop, AVal.own.injEq, reduceCtorEq, Int.reduceAdd, slV_intC_set] <;> omega)) (fun x => ⟨rfl, by simp [belH, belObj, mpE, AVal.bel2, AVal.bel1, AVal.belF, AVal.bel0, slV_intC], rfl⟩) ?_
      clear hJ7
      rintro ⟨k7, out6, ver7⟩ ⟨hk7, hJ7⟩
      dsimp only at hk7 hJ7 ⊢
      refine AWP.seq ?_
      refine AWP.region rfl ?_; intro K hK
      (try simp +decide -implicitDefEqProofs only [go_sem, slV_intC_set])
      refine hK _ _ ?_; clear hK K
      refine qthen_normal ?_
      refine AWP.seq ?_
      refine AWP.cond (acond_split (fun hc => ?_) (fun hc => ?_))
      · have hlt7 : k7 < ((mget [] groups1 (pk x_5.Serial x_5.Counter)).length - 1) := by have := of_decide_eq_true hc; omega
        obtain ⟨_, b7, _, h, hJ7⟩ := for_cons hJ7 (by rw [List.length_replicate]; exact hlt7)
        have hw7 : IntKind.i64.wrap (((k7 : Nat) : Int) + 1) = (((k7 : Nat) : Int) + (1 : Int)) := by rw [wrap_i64] <;> omega
        unfold fraud_Clones_b2 at h; try dsimp only at h
        refine AWP.skip ?_
        refine qthen_normal ?_
        refine AWP.seq ?_
        refine AWP.block ?_
        refine AWP.seq ?_
        refine AWP.region rfl ?_; intro K hK
        (try simp +decide -implicitDefEqProofs only [go_sem, slV_intC_set])
        obtain ⟨x_9, hx_9, h⟩ := bindE h
        refine AIdx.of (f := intC) (l := ((mget [] groups1 (pk x_5.Serial x_5.Counter)).drop 1)) hx_9 ?_
        (try simp +decide -implicitDefEqProofs only [go_sem, slV_intC_set])
        refine hK _ _ ?_; clear hK K
        refine qthen_normal ?_
        refine AWP.region rfl ?_; intro K hK
        (try simp +decide -implicitDefEqProofs only [go_sem, slV_intC_set])
        obtain ⟨hk, h⟩ := chk_in h
        (repeat (refine ⟨by first | omega | (simp only [List.length_take, List.length_drop, List.length_append]; omega), ?_⟩)); try simp +decide -implicitDefEqProofs only [go_sem]
        refine hK _ _ ?_; clear hK K
        refine qblock_normal ?_
        refine qthen_normal ?_
        refine AWP.region rfl ?_; intro K hK
        (try simp +decide -implicitDefEqProofs only [go_sem, slV_intC_set])
        refine hK _ _ ?_; clear hK K
        refine qthen_normal ?_
        obtain rfl := some_eq h
        refine ⟨(k7 + 1, (out6 ++ [(ApiSuspicion.mk ((k3 : Nat) : Int) x_9)]), (ver7 + 1)), ⟨by dsimp only; omega, cont_next hJ7⟩, by dsimp only; omega, ?_, ?_⟩
        · (simp +decide -implicitDefEqProofs only [go_sem, mpE_nil, AVal.int.injEq, Int.natCast_zero, List.replicate_zero, List.length_take, List.length_drop, AVal.own.injEq, reduceCtorEq, Int.reduceAdd, hw7, slV_intC_set] <;> omega)
        · (simp +decide -implicitDefEqProofs only [go_sem, mpE_nil, AVal.int.injEq, Int.natCast_zero, List.replicate_zero, List.length_take, List.length_drop, AVal.own.injEq, reduceCtorEq, Int.reduceAdd, hw7, slV_intC_set] <;> omega)
      · obtain rfl := for_nil hJ7 (fun hl => by rw [List.length_replicate] at hl; have := of_decide_eq_false hc; omega)
        have h := on_next hO7; try dsimp only at h
        have hkl : ((mget [] groups1 (pk x_5.Serial x_5.Counter)).length - 1) = k7 := by have := of_decide_eq_false hc; omega
        subst hkl
        refine AWP.exit ?_
        refine qthen_exit ?_
        refine qthen_exit ?_
        refine qblock_same ?_
        refine qblock_normal ?_
        refine qthen_normal ?_
        refine AWP.region rfl ?_; intro K hK
        (try simp +decide -implicitDefEqProofs only [go_sem, slV_intC_set])
        refine hK _ _ ?_; clear hK K
        refine qthen_normal ?_
        obtain rfl := some_eq h
        refine ⟨(k3 + 1, ((mset groups1 (pk x_5.Serial x_5.Counter) ((mget [] groups1 (pk x_5.Serial x_5.Counter)).drop 1)), out6), ver7), ⟨by dsimp only; omega, cont_next hJ3⟩, by dsimp only; omega, ?_, ?_⟩
        · (simp +decide -implicitDefEqProofs only [go_sem, mpE_nil, AVal.int.injEq, Int.natCast_zero, List.replicate_zero, List.length_take, List.length_drop, AVal.own.injEq, reduceCtorEq, Int.reduceAdd, hw3, slV_intC_set] <;> omega)
        · (simp +decide -implicitDefEqProofs only [go_sem, mpE_nil, AVal.int.injEq, Int.natCast_zero, List.replicate_zero, List.length_take, List.length_drop, AVal.own.injEq, reduceCtorEq, Int.reduceAdd, hw3, slV_intC_set] <;> omega)
    · obtain rfl := for_nil hJ3 (fun hl => by have := of_decide_eq_false hc; omega)
      have h := on_next hO3; try dsimp only at h
      have hkl : l.length = k3 := by have := of_decide_eq_false hc; omega
      subst hkl
      refine AWP.exit ?_
      refine qthen_exit ?_
      refine qthen_exit ?_
      refine qblock_same ?_
      refine qthen_normal ?_
      refine AWP.seq ?_
      refine AWP.region rfl ?_; intro K hK
      (try simp +decide -implicitDefEqProofs only [go_sem, slV_intC_set])
      refine hK _ _ ?_; clear hK K
      refine qthen_normal ?_
      refine AWP.ret ?_
      obtain rfl := some_eq h
      simp +decide -implicitDefEqProofs only [go_sem, mpE_nil, AVal.int.injEq, Int.natCast_zero, List.replicate_zero, List.length_take, List.length_drop, AVal.own.injEq, reduceCtorEq, Int.reduceAdd, nle2, nle1, nle0, nleA, nleL, Try.results17, slV_intC_set]
theorem fraud_Clones_spec (l : List ApiRide) {r : (List ApiSuspicion)} (h : fraud_Clones l = some r) : PureFn Try.prog 17 [.sl 7 (l.map encApiRide)] (· = .sl 2 (r.map encApiSuspicion)) := (fraud_Clones_fresh l h).pure

def fraud_Suspects_b2 (k6 : Nat) (x_8 : ApiRide) (sv : (List Int) × (List (Int × Bool))) : Option (Out ((List Int) × (List (Int × Bool))) ((List Int))) :=
  (bif (mget false sv.2 (pk x_8.Serial x_8.Counter)) then chk (sv.1.length + 1) (some (Out.next ((sv.1 ++ [x_8.Serial]), (mset sv.2 (pk x_8.Serial x_8.Counter) true)))) else some (Out.next (sv.1, (mset sv.2 (pk x_8.Serial x_8.Counter) true))))

def fraud_Suspects_j1 (l : List ApiRide) (out1 : List Int) : Option ((List Int)) :=
  (forIx fraud_Suspects_b2 0 l (out1, [])).bind fun o6 => o6.on fun s6 => chk s6.1.length (chk s6.1.length (some (compactI (sortI s6.1))))

def fraud_Suspects_b3 (l : List ApiRide) (k11 : Nat) (x_13 : ApiSuspicion) (sv : (List Int)) : Option (Out ((List Int)) ((List Int))) :=
  (idxL l x_13.First).bind fun x_14 => chk (sv.length + 1) (some (Out.next (sv ++ [x_14.Serial])))

def fraud_Suspects (m : ApiMap) (l : List ApiRide) : Option ((List Int)) :=
  (fraud_Impossible m l).bind fun y9 => (forIx (fraud_Suspects_b3 l) 0 y9 []).bind fun o11 => o11.on fun s11 => fraud_Suspects_j1 l s11

theorem fraud_Suspects_fresh (m : ApiMap) (l : List ApiRide) {r : (List Int)} (h : fraud_Suspects m l = some r) : FreshFn Try.prog 20 [.agg (encApiMap m), .sl 7 (l.map encApiRide)] (· = .sl 1 (r.map intC)) := by
  refine FreshFn.nle (FreshFn.intro Try.func20 rfl rfl (by show _ ≤ 57; simp) ?_)
  unfold fraud_Suspects at h
  (try simp +decide -implicitDefEqProofs only [go_sem])
  refine AWP.seq ?_
  refine AWP.region rfl ?_; intro K hK
  (try simp +decide -implicitDefEqProofs only [go_sem])
  refine hK _ _ ?_; clear hK K
  refine qthen_normal ?_
  refine AWP.seq ?_
  refine AWP.region rfl ?_; intro K hK
  (try simp +decide -implicitDefEqProofs only [go_sem])
  refine hK _ _ ?_; clear hK K
  refine qthen_normal ?_
  refine AWP.seqJoin (ι := ((List Int)) × (Nat)) (fun zz => [(1, .sl 7 (l.map encApiRide)), (5, .own 1 zz.2 0 zz.1.length)]) (fun zz => [.gone, .row zz.2 1 (zz.1.map intC)]) (fun zz => fraud_Suspects_j1 l zz.1 = some r) (fun zz => ⟨rfl, rfl, rfl⟩) ?_ ?_
  · refine AWP.seq ?_
    refine AWP.region rfl ?_; intro K hK
    (try simp +decide -implicitDefEqProofs only [go_sem])
    obtain ⟨y9, hy9, h⟩ := bindE h
    refine ACall.pure Try.call15 (fraud_Impossible_spec m l hy9) rfl fun _ hr => ?_
    subst hr
    (try simp +decide -implicitDefEqProofs only [go_sem])
    intro hm
    refine hK _ _ ?_; clear hK K
    refine qthen_normal ?_
    refine AWP.block ?_
    refine AWP.ghost 5 1 rfl (by decide) ?_
    obtain ⟨o11, hJ11, hO11⟩ := bindE h
    clear h
    refine AWP.loopW (ι := Nat × ((List Int)) × (Nat)) (fun zz => [(1, .sl 7 (l.map encApiRide)), (5, .own 1 zz.2.2 0 zz.2.1.length), (14, .sl 2 (y9.map encApiSuspicion)), (15, .int .i64 ((y9.length : Nat) : Int)), (16, .int .i64 ((zz.1 : Nat) : Int))]) (fun zz => [.gone, .row zz.2.2 1 (zz.2.1.map intC)]) (fun zz => zz.1 ≤ y9.length ∧ forIx (fraud_Suspects_b3 l) zz.1 ((y9).drop zz.1) zz.2.1 = some o11) (fun zz => y9.length - zz.1) (0, [], 0) ⟨Nat.zero_le _, hJ11⟩ (by (simp +decide -implicitDefEqProofs only [go_sem, mpE_nil, AVal.int.injEq, Int.natCast_zero, List.replicate_zero, List.length_take, List.length_drop, AVal.own.injEq, reduceCtorEq, Int.reduceAdd] <;> omega)) (by (simp +decide -implicitDefEqProofs only [go_sem, mpE_nil, AVal.int.injEq, Int.natCast_zero, List.replicate_zero, List.length_take, List.length_drop, AVal.own.injEq, reduceCtorEq, Int.reduceAdd] <;> omega)) (fun x => ⟨rfl, rfl, rfl⟩) ?_
    clear hJ11
    rintro ⟨k11, out10, ver11⟩ ⟨hk11, hJ11⟩
    dsimp only at hk11 hJ11 ⊢
    refine AWP.seq ?_
    refine AWP.region rfl ?_; intro K hK
    (try simp +decide -implicitDefEqProofs only [go_sem])
    refine hK _ _ ?_; clear hK K
    refine qthen_normal ?_
    refine AWP.seq ?_
    refine AWP.cond (acond_split (fun hc => ?_) (fun hc => ?_))
    · have hlt11 : k11 < y9.length := by have := of_decide_eq_true hc; omega
      obtain ⟨x_13, b11, hx11_, h, hJ11⟩ := for_cons hJ11 hlt11
      have hx11 := idxL_nat hx11_
      have hw11 : IntKind.i64.wrap (((k11 : Nat) : Int) + 1) = (((k11 : Nat) : Int) + (1 : Int)) := by rw [wrap_i64] <;> omega
      unfold fraud_Suspects_b3 at h; try dsimp only at h
      refine AWP.skip ?_
      refine qthen_normal ?_
      refine AWP.seq ?_
      refine AWP.block ?_
      refine AWP.seq ?_
      refine AWP.region rfl ?_; intro K hK
      (try simp +decide -implicitDefEqProofs only [go_sem])
      refine AIdx.of (f := encApiSuspicion) (l := y9) hx11 ?_
      (try simp +decide -implicitDefEqProofs only [go_sem])
      refine hK _ _ ?_; clear hK K
      refine qthen_normal ?_
      refine AWP.region rfl ?_; intro K hK
      (try simp +decide -implicitDefEqProofs only [go_sem])
      obtain ⟨x_14, hx_14, h⟩ := bindE h
      refine AIdx.of (f := encApiRide) (l := l) hx_14 ?_
      (try simp +decide -implicitDefEqProofs only [go_sem])
      obtain ⟨hk, h⟩ := chk_in h
      (repeat (refine ⟨by first | omega | (simp only [List.length_take, List.length_drop, List.length_append]; omega), ?_⟩)); try simp +decide -implicitDefEqProofs only [go_sem]
      refine hK _ _ ?_; clear hK K
      refine qblock_normal ?_
      refine qthen_normal ?_
      refine AWP.region rfl ?_; intro K hK
      (try simp +decide -implicitDefEqProofs only [go_sem])
      refine hK _ _ ?_; clear hK K
      refine qthen_normal ?_
      obtain rfl := some_eq h
      refine ⟨(k11 + 1, (out10 ++ [x_14.Serial]), (ver11 + 1)), ⟨by dsimp only; omega, cont_next hJ11⟩, by dsimp only; omega, ?_, ?_⟩
      · (simp +decide -implicitDefEqProofs only [go_sem, mpE_nil, AVal.int.injEq, Int.natCast_zero, List.replicate_zero, List.length_take, List.length_drop, AVal.own.injEq, reduceCtorEq, Int.reduceAdd, hw11] <;> omega)
      · (simp +decide -implicitDefEqProofs only [go_sem, mpE_nil, AVal.int.injEq, Int.natCast_zero, List.replicate_zero, List.length_take, List.length_drop, AVal.own.injEq, reduceCtorEq, Int.reduceAdd, hw11] <;> omega)
    · obtain rfl := for_nil hJ11 (fun hl => by have := of_decide_eq_false hc; omega)
      have h := on_next hO11; try dsimp only at h
      have hkl : y9.length = k11 := by have := of_decide_eq_false hc; omega
      subst hkl
      refine AWP.exit ?_
      refine qthen_exit ?_
      refine qthen_exit ?_
      refine qblock_same ?_
      refine qthen_normal ?_
      exact ⟨(out10, ver11), h, by (simp +decide -implicitDefEqProofs only [go_sem, mpE_nil, AVal.int.injEq, Int.natCast_zero, List.replicate_zero, List.length_take, List.length_drop, AVal.own.injEq, reduceCtorEq, Int.reduceAdd] <;> omega), by (simp +decide -implicitDefEqProofs only [go_sem, mpE_nil, AVal.int.injEq, Int.natCast_zero, List.replicate_zero, List.length_take, List.length_drop, AVal.own.injEq, reduceCtorEq, Int.reduceAdd] <;> omega)⟩
  · rintro ⟨out1, ver2⟩ h
    try dsimp only at h ⊢
    unfold fraud_Suspects_j1 at h; try dsimp only at h
    refine AWP.seq ?_
    refine AWP.region rfl ?_; intro K hK
    (try simp +decide -implicitDefEqProofs only [go_sem])
    refine hK _ _ ?_; clear hK K
    refine qthen_normal ?_
    refine AWP.sub (Sub.toQ 2 rfl) ?_
    (try simp +decide -implicitDefEqProofs only [go_sem])
    refine AWP.seq ?_
    refine AWP.seq ?_
    refine AWP.region rfl ?_; intro K hK
    (try simp +decide -implicitDefEqProofs only [go_sem])
    intro hm
    refine hK _ _ ?_; clear hK K
    refine qthen_normal ?_
    refine AWP.block ?_
    obtain ⟨o6, hJ6, hO6⟩ := bindE h
    clear h
    refine AWP.loopW (ι := Nat × ((List Int) × (List (Int × Bool))) × (Nat)) (fun zz => [(5, .own 1 zz.2.2 0 zz.2.1.1.length), (8, .map 2), (31, .sl 7 (l.map encApiRide)), (32, .int .i64 ((l.length : Nat) : Int)), (33, .int .i64 ((zz.1 : Nat) : Int))]) (fun zz => [.gone, .row zz.2.2 1 (zz.2.1.1.map intC), .mpo true (mpE boolV zz.2.1.2)]) (fun zz => zz.1 ≤ l.length ∧ forIx fraud_Suspects_b2 zz.1 ((l).drop zz.1) zz.2.1 = some o6) (fun zz => l.length - zz.1) (0, (out1, []), ver2) ⟨Nat.zero_le _, hJ6⟩ (by (simp +decide -implicitDefEqProofs only [go_sem, mpE_nil, AVal.int.injEq, Int.natCast_zero, List.replicate_zero, List.length_take, List.length_drop, AVal.own.injEq, reduceCtorEq, Int.reduceAdd] <;> omega)) (by (simp +decide -implicitDefEqProofs only [go_sem, mpE_nil, AVal.int.injEq, Int.natCast_zero, List.replicate_zero, List.length_take, List.length_drop, AVal.own.injEq, reduceCtorEq, Int.reduceAdd] <;> omega)) (fun x => ⟨rfl, by simp [belH, belObj, mpE, AVal.bel2, AVal.bel1, AVal.belF, AVal.bel0, boolV], rfl⟩) ?_
    clear hJ6
    rintro ⟨k6, ⟨out4, seen6⟩, ver5⟩ ⟨hk6, hJ6⟩
    dsimp only at hk6 hJ6 ⊢
    refine AWP.seq ?_
    refine AWP.region rfl ?_; intro K hK
    (try simp +decide -implicitDefEqProofs only [go_sem])
    refine hK _ _ ?_; clear hK K
    refine qthen_normal ?_
    refine AWP.seq ?_
    refine AWP.cond (acond_split (fun hc => ?_) (fun hc => ?_))
    · have hlt6 : k6 < l.length := by have := of_decide_eq_true hc; omega
      obtain ⟨x_8, b6, hx6_, h, hJ6⟩ := for_cons hJ6 hlt6
      have hx6 := idxL_nat hx6_
      have hw6 : IntKind.i64.wrap (((k6 : Nat) : Int) + 1) = (((k6 : Nat) : Int) + (1 : Int)) := by rw [wrap_i64] <;> omega
      unfold fraud_Suspects_b2 at h; try dsimp only at h
      refine AWP.skip ?_
      refine qthen_normal ?_
      refine AWP.seq ?_
      refine AWP.block ?_
      refine AWP.seq ?_
      refine AWP.region rfl ?_; intro K hK
      (try simp +decide -implicitDefEqProofs only [go_sem])
      refine AIdx.of (f := encApiRide) (l := l) hx6 ?_
      (try simp +decide -implicitDefEqProofs only [go_sem])
      refine hK _ _ ?_; clear hK K
      refine qthen_normal ?_
      refine AWP.seq ?_
      refine AWP.region rfl ?_; intro K hK
      (try simp +decide -implicitDefEqProofs only [go_sem])
      refine hK _ _ ?_; clear hK K
      refine qthen_normal ?_
      refine AWP.seq ?_
      refine AWP.seq ?_
      refine AWP.regionP ?_
      refine ALP.cut 2 (ALP.part rfl ?_); intro K hK
      (try simp +decide -implicitDefEqProofs only [go_sem])
      refine hK _ _ ?_; clear hK K
      refine ALP.lookQ rfl rfl rfl kq83 rfl zs4 ?_
      (try simp +decide -implicitDefEqProofs only [go_sem])
      refine ALook.of (f := boolV) (m := seen6) (d := false) rfl ?_
      (try simp +decide -implicitDefEqProofs only [go_sem])
      refine ALP.last rfl ?_; intro K hK
      (try simp +decide -implicitDefEqProofs only [go_sem])
      refine hK _ _ ?_; clear hK K
      refine qthen_normal ?_
      refine AWP.cond (acond_split (fun hc => ?_) (fun hc => ?_))
      · replace h := bif_t h hc
        refine AWP.region rfl ?_; intro K hK
        (try simp +decide -implicitDefEqProofs only [go_sem])
        obtain ⟨hk, h⟩ := chk_in h
        (repeat (refine ⟨by first | omega | (simp only [List.length_take, List.length_drop, List.length_append]; omega), ?_⟩)); try simp +decide -implicitDefEqProofs only [go_sem]
        refine hK _ _ ?_; clear hK K
        refine qthen_normal ?_
        refine AWP.regionP ?_
        refine ALP.cut 2 (ALP.part rfl ?_); intro K hK
        (try simp +decide -implicitDefEqProofs only [go_sem])
        refine hK _ _ ?_; clear hK K
        refine ALP.updQ rfl rfl rfl rfl kq83 rfl ?_
        (try simp +decide -implicitDefEqProofs only [go_sem])
        refine ALP.last rfl ?_; intro K hK
        (try simp +decide -implicitDefEqProofs only [go_sem])
        refine hK _ _ ?_; clear hK K
        refine qblock_normal ?_
        refine qthen_normal ?_
        refine AWP.region rfl ?_; intro K hK
        (try simp +decide -implicitDefEqProofs only [go_sem])
        refine hK _ _ ?_; clear hK K
        refine qthen_normal ?_
        obtain rfl := some_eq h
        refine ⟨(k6 + 1, ((out4 ++ [x_8.Serial]), (mset seen6 (pk x_8.Serial x_8.Counter) true)), (ver5 + 1)), ⟨by dsimp only; omega, cont_next hJ6⟩, by dsimp only; omega, ?_, ?_⟩
        · (simp +decide -implicitDefEqProofs only [go_sem, mpE_nil, AVal.int.injEq, Int.natCast_zero, List.replicate_zero, List.length_take, List.length_drop, AVal.own.injEq, reduceCtorEq, Int.reduceAdd, hw6] <;> omega)
        · (simp +decide -implicitDefEqProofs only [go_sem, mpE_nil, AVal.int.injEq, Int.natCast_zero, List.replicate_zero, List.length_take, List.length_drop, AVal.own.injEq, reduceCtorEq, Int.reduceAdd, hw6] <;> omega)
      replace h := bif_f h hc
      refine AWP.skip ?_
      refine qthen_normal ?_
      refine AWP.regionP ?_
      refine ALP.cut 2 (ALP.part rfl ?_); intro K hK
      (try simp +decide -implicitDefEqProofs only [go_sem])
      refine hK _ _ ?_; clear hK K
      refine ALP.updQ rfl rfl rfl rfl kq83 rfl ?_
      (try simp +decide -implicitDefEqProofs only [go_sem])
      refine ALP.last rfl ?_; intro K hK
      (try simp +decide -implicitDefEqProofs only [go_sem])
      refine hK _ _ ?_; clear hK K
      refine qblock_normal ?_
      refine qthen_normal ?_
      refine AWP.region rfl ?_; intro K hK
      (try simp +decide -implicitDefEqProofs only [go_sem])
      refine hK _ _ ?_; clear hK K
      refine qthen_normal ?_
      obtain rfl := some_eq h
      refine ⟨(k6 + 1, (out4, (mset seen6 (pk x_8.Serial x_8.Counter) true)), ver5), ⟨by dsimp only; omega, cont_next hJ6⟩, by dsimp only; omega, ?_, ?_⟩
      · (simp +decide -implicitDefEqProofs only [go_sem, mpE_nil, AVal.int.injEq, Int.natCast_zero, List.replicate_zero, List.length_take, List.length_drop, AVal.own.injEq, reduceCtorEq, Int.reduceAdd, hw6] <;> omega)
      · (simp +decide -implicitDefEqProofs only [go_sem, mpE_nil, AVal.int.injEq, Int.natCast_zero, List.replicate_zero, List.length_take, List.length_drop, AVal.own.injEq, reduceCtorEq, Int.reduceAdd, hw6] <;> omega)
    · obtain rfl := for_nil hJ6 (fun hl => by have := of_decide_eq_false hc; omega)
      have h := on_next hO6; try dsimp only at h
      have hkl : l.length = k6 := by have := of_decide_eq_false hc; omega
      subst hkl
      refine AWP.exit ?_
      refine qthen_exit ?_
      refine qthen_exit ?_
      refine qblock_same ?_
      refine qthen_normal ?_
      refine AWP.seq ?_
      refine AWP.region rfl ?_; intro K hK
      (try simp +decide -implicitDefEqProofs only [go_sem])
      obtain ⟨hk, h⟩ := chk_in h
      refine ACall.sortI Try.call39 Try.sorts39 rfl (by first | rfl | exact (sortI_len _).symm | (simp only [List.length_append, List.length_cons, List.length_nil, List.length_set, List.length_replicate] <;> omega)) hk ?_
      (try simp +decide -implicitDefEqProofs only [go_sem])
      refine hK _ _ ?_; clear hK K
      refine qthen_normal ?_
      refine AWP.seq ?_
      refine AWP.region rfl ?_; intro K hK
      (try simp +decide -implicitDefEqProofs only [go_sem])
      obtain ⟨hk, h⟩ := chk_in h
      refine ACall.compactI Try.call40 Try.compacts40 rfl (by first | rfl | exact (sortI_len _).symm | (simp only [List.length_append, List.length_cons, List.length_nil, List.length_set, List.length_replicate] <;> omega)) hk ?_
      (try simp +decide -implicitDefEqProofs only [go_sem])
      refine hK _ _ ?_; clear hK K
      refine qthen_normal ?_
      refine AWP.ret ?_
      obtain rfl := some_eq h
      simp +decide -implicitDefEqProofs only [go_sem, mpE_nil, AVal.int.injEq, Int.natCast_zero, List.replicate_zero, List.length_take, List.length_drop, AVal.own.injEq, reduceCtorEq, Int.reduceAdd, nle2, nle1, nle0, nleA, nleL, Try.results20]
theorem fraud_Suspects_spec (m : ApiMap) (l : List ApiRide) {r : (List Int)} (h : fraud_Suspects m l = some r) : PureFn Try.prog 20 [.agg (encApiMap m), .sl 7 (l.map encApiRide)] (· = .sl 1 (r.map intC)) := (fraud_Suspects_fresh m l h).pure

def ref10_SameInts_b1 (b : List Int) (k0 : Nat) (x_2 : Int) (sv : Unit) : Option (Out (Unit) (Bool)) :=
  (idxL b ((k0 : Nat) : Int)).bind fun x_3 => (bif (decide (x_2 ≠ x_3)) then some (Out.ret false) else some (Out.next ()))

def ref10_SameInts (a : List Int) (b : List Int) : Option (Bool) :=
  (bif (decide (((a.length : Nat) : Int) ≠ ((b.length : Nat) : Int))) then some false else (forIx (ref10_SameInts_b1 b) 0 a ()).bind fun o0 => o0.on fun s0 => some true)

theorem ref10_SameInts_spec (a : List Int) (b : List Int) {r : Bool} (h : ref10_SameInts a b = some r) : PureFn Try.prog 19 [.sl 1 (a.map intC), .sl 1 (b.map intC)] (· = .bool r) := by
  refine PureFn.nle (PureFn.intro Try.func19 rfl rfl (by show _ ≤ 26; simp) ?_)
  unfold ref10_SameInts at h
  (try simp +decide -implicitDefEqProofs only [go_sem])
  refine AWP.seq ?_
  refine AWP.region rfl ?_; intro K hK
  (try simp +decide -implicitDefEqProofs only [go_sem])
  refine hK _ _ ?_; clear hK K
  refine qthen_normal ?_
  refine AWP.seq ?_
  refine AWP.seq ?_
  refine AWP.region rfl ?_; intro K hK
  (try simp +decide -implicitDefEqProofs only [go_sem])
  intro hm
  intro hm
  refine hK _ _ ?_; clear hK K
  refine qthen_normal ?_
  refine AWP.cond (acond_split (fun hc => ?_) (fun hc => ?_))
  · replace h := bif_t h hc
    refine AWP.seq ?_
    refine AWP.region rfl ?_; intro K hK
    (try simp +decide -implicitDefEqProofs only [go_sem])
    refine hK _ _ ?_; clear hK K
    refine qthen_normal ?_
    refine AWP.ret ?_
    refine qthen_ret ?_
    obtain rfl := some_eq h
    simp +decide -implicitDefEqProofs only [go_sem, mpE_nil, AVal.int.injEq, Int.natCast_zero, List.replicate_zero, List.length_take, List.length_drop, AVal.own.injEq, reduceCtorEq, Int.reduceAdd, nle2, nle1, nle0, nleA, nleL, Try.results19]
  replace h := bif_f h hc
  refine AWP.skip ?_
  refine qthen_normal ?_
  refine AWP.seq ?_
  refine AWP.seq ?_
  refine AWP.region rfl ?_; intro K hK
  (try simp +decide -implicitDefEqProofs only [go_sem])
  refine hK _ _ ?_; clear hK K
  refine qthen_normal ?_
  refine AWP.block ?_
  obtain ⟨o0, hJ0, hO0⟩ := bindE h
  clear h
  refine AWP.loopW (ι := Nat × (Unit) × (Unit)) (fun zz => [(0, .sl 1 (a.map intC)), (1, .sl 1 (b.map intC)), (5, .int .i64 ((zz.1 : Nat) : Int))]) (fun zz => []) (fun zz => zz.1 ≤ a.length ∧ forIx (ref10_SameInts_b1 b) zz.1 ((a).drop zz.1) zz.2.1 = some o0) (fun zz => a.length - zz.1) (0, (), ()) ⟨Nat.zero_le _, hJ0⟩ (by (simp +decide -implicitDefEqProofs only [go_sem, mpE_nil, AVal.int.injEq, Int.natCast_zero, List.replicate_zero, List.length_take, List.length_drop, AVal.own.injEq, reduceCtorEq, Int.reduceAdd] <;> omega)) (by (simp +decide -implicitDefEqProofs only [go_sem, mpE_nil, AVal.int.injEq, Int.natCast_zero, List.replicate_zero, List.length_take, List.length_drop, AVal.own.injEq, reduceCtorEq, Int.reduceAdd] <;> omega)) (fun x => ⟨rfl, rfl, rfl⟩) ?_
  clear hJ0
  rintro ⟨k0, ⟨⟩, ⟨⟩⟩ ⟨hk0, hJ0⟩
  dsimp only at hk0 hJ0 ⊢
  refine AWP.seq ?_
  refine AWP.seq ?_
  refine AWP.region rfl ?_; intro K hK
  (try simp +decide -implicitDefEqProofs only [go_sem])
  intro hm
  refine hK _ _ ?_; clear hK K
  refine qthen_normal ?_
  refine AWP.cond (acond_split (fun hc => ?_) (fun hc => ?_))
  · have hlt0 : k0 < a.length := by have := of_decide_eq_true hc; omega
    obtain ⟨x_2, b0, hx0_, h, hJ0⟩ := for_cons hJ0 hlt0
    have hx0 := idxL_nat hx0_
    have hw0 : IntKind.i64.wrap (((k0 : Nat) : Int) + 1) = (((k0 : Nat) : Int) + (1 : Int)) := by rw [wrap_i64] <;> omega
    unfold ref10_SameInts_b1 at h; try dsimp only at h
    refine AWP.skip ?_
    refine qthen_normal ?_
    refine AWP.seq ?_
    refine AWP.block ?_
    refine AWP.seq ?_
    refine AWP.draw Try.mixed (by kernel_rfl) ?_; intro K hK
    (try simp +decide -implicitDefEqProofs only [go_sem])
    refine AIdx.of (f := intC) (l := a) hx0 ?_
    (try simp +decide -implicitDefEqProofs only [go_sem])
    obtain ⟨x_3, hx_3, h⟩ := bindE h
    refine AIdx.of (f := intC) (l := b) hx_3 ?_
    (try simp +decide -implicitDefEqProofs only [go_sem])
    refine hK _ _ _ (by kernel_rfl) ?_; clear hK K
    refine qthen_normal ?_
    refine AWP.cond (acond_split (fun hc => ?_) (fun hc => ?_))
    · replace h := bif_t h hc
      refine AWP.seq ?_
      refine AWP.region rfl ?_; intro K hK
      (try simp +decide -implicitDefEqProofs only [go_sem])
      refine hK _ _ ?_; clear hK K
      refine qthen_normal ?_
      refine AWP.ret ?_
      refine qblock_ret ?_
      refine qthen_ret ?_
      refine qthen_ret ?_
      obtain rfl := some_eq h
      obtain rfl := cont_ret hJ0
      replace h := on_ret hO0
      refine qblock_ret ?_
      refine qthen_ret ?_
      obtain rfl := some_eq h
      simp +decide -implicitDefEqProofs only [go_sem, mpE_nil, AVal.int.injEq, Int.natCast_zero, List.replicate_zero, List.length_take, List.length_drop, AVal.own.injEq, reduceCtorEq, Int.reduceAdd, nle2, nle1, nle0, nleA, nleL, Try.results19]
    replace h := bif_f h hc
    refine AWP.skip ?_
    refine qblock_normal ?_
    refine qthen_normal ?_
    refine AWP.region rfl ?_; intro K hK
    (try simp +decide -implicitDefEqProofs only [go_sem])
    refine hK _ _ ?_; clear hK K
    refine qthen_normal ?_
    obtain rfl := some_eq h
    refine ⟨(k0 + 1, (), ()), ⟨by dsimp only; omega, cont_next hJ0⟩, by dsimp only; omega, ?_, ?_⟩
    · (simp +decide -implicitDefEqProofs only [go_sem, mpE_nil, AVal.int.injEq, Int.natCast_zero, List.replicate_zero, List.length_take, List.length_drop, AVal.own.injEq, reduceCtorEq, Int.reduceAdd, hw0] <;> omega)
    · (simp +decide -implicitDefEqProofs only [go_sem, mpE_nil, AVal.int.injEq, Int.natCast_zero, List.replicate_zero, List.length_take, List.length_drop, AVal.own.injEq, reduceCtorEq, Int.reduceAdd, hw0] <;> omega)
  · obtain rfl := for_nil hJ0 (fun hl => by have := of_decide_eq_false hc; omega)
    have h := on_next hO0; try dsimp only at h
    have hkl : a.length = k0 := by have := of_decide_eq_false hc; omega
    subst hkl
    refine AWP.exit ?_
    refine qthen_exit ?_
    refine qthen_exit ?_
    refine qblock_same ?_
    refine qthen_normal ?_
    refine AWP.seq ?_
    refine AWP.region rfl ?_; intro K hK
    (try simp +decide -implicitDefEqProofs only [go_sem])
    refine hK _ _ ?_; clear hK K
    refine qthen_normal ?_
    refine AWP.ret ?_
    obtain rfl := some_eq h
    simp +decide -implicitDefEqProofs only [go_sem, mpE_nil, AVal.int.injEq, Int.natCast_zero, List.replicate_zero, List.length_take, List.length_drop, AVal.own.injEq, reduceCtorEq, Int.reduceAdd, nle2, nle1, nle0, nleA, nleL, Try.results19]

def law32_alive : Option (Bool) :=
  (law10_Small).bind fun y1 => (fraud_Time y1 (1 : Int) (1 : Int)).bind fun y2 => (fraud_Time y1 (1 : Int) (2 : Int)).bind fun y3 => (bif (!y2.2) then some false else (bif y3.2 then some false else (bif (decide (y2.1 ≠ (505 : Int))) then some false else (fraud_Impossible y1 [(ApiRide.mk (0 : Int) (0 : Int) (7 : Int) (4 : Int) (0 : Int) (1 : Int) (1000 : Int)), (ApiRide.mk (0 : Int) (0 : Int) (8 : Int) (4 : Int) (0 : Int) (1 : Int) (1001 : Int)), (ApiRide.mk (0 : Int) (0 : Int) (7 : Int) (5 : Int) (0 : Int) (1 : Int) (1504 : Int)), (ApiRide.mk (0 : Int) (0 : Int) (7 : Int) (4 : Int) (0 : Int) (1 : Int) (2009 : Int))]).bind fun y4 => (ref32_Same y4 [(ApiSuspicion.mk (0 : Int) (2 : Int))]).bind fun y5 => (bif y5 then (fraud_Clones [(ApiRide.mk (0 : Int) (0 : Int) (7 : Int) (4 : Int) (0 : Int) (1 : Int) (1000 : Int)), (ApiRide.mk (0 : Int) (0 : Int) (8 : Int) (4 : Int) (0 : Int) (1 : Int) (1001 : Int)), (ApiRide.mk (0 : Int) (0 : Int) (7 : Int) (5 : Int) (0 : Int) (1 : Int) (1504 : Int)), (ApiRide.mk (0 : Int) (0 : Int) (7 : Int) (4 : Int) (0 : Int) (1 : Int) (2009 : Int))]).bind fun y6 => (ref32_Same y6 [(ApiSuspicion.mk (0 : Int) (3 : Int))]).bind fun y7 => (bif y7 then (fraud_Suspects y1 [(ApiRide.mk (0 : Int) (0 : Int) (7 : Int) (4 : Int) (0 : Int) (1 : Int) (1000 : Int)), (ApiRide.mk (0 : Int) (0 : Int) (8 : Int) (4 : Int) (0 : Int) (1 : Int) (1001 : Int)), (ApiRide.mk (0 : Int) (0 : Int) (7 : Int) (5 : Int) (0 : Int) (1 : Int) (1504 : Int)), (ApiRide.mk (0 : Int) (0 : Int) (7 : Int) (4 : Int) (0 : Int) (1 : Int) (2009 : Int))]).bind fun y8 => (ref10_SameInts y8 [(7 : Int)]).bind fun y9 => some y9 else some false) else some false))))

theorem law32_alive_spec {r : Bool} (h : law32_alive = some r) : PureFn Try.prog 10 [] (· = .bool r) := by
  refine PureFn.nle (PureFn.intro Try.func10 rfl rfl (by show _ ≤ 52; simp) ?_)
  unfold law32_alive at h
  (try simp +decide -implicitDefEqProofs only [go_sem])
  refine AWP.seq ?_
  refine AWP.region rfl ?_; intro K hK
  (try simp +decide -implicitDefEqProofs only [go_sem])
  refine hK _ _ ?_; clear hK K
  refine qthen_normal ?_
  refine AWP.seq ?_
  refine AWP.region rfl ?_; intro K hK
  (try simp +decide -implicitDefEqProofs only [go_sem])
  obtain ⟨y1, hy1, h⟩ := bindE h
  refine ACall.pure Try.call24 (law10_Small_spec hy1) rfl fun _ hr => ?_
  subst hr
  (try simp +decide -implicitDefEqProofs only [go_sem])
  refine hK _ _ ?_; clear hK K
  refine qthen_normal ?_
  refine AWP.seq ?_
  refine AWP.region rfl ?_; intro K hK
  (try simp +decide -implicitDefEqProofs only [go_sem])
  obtain ⟨y2, hy2, h⟩ := bindE h
  refine ACall.pure Try.call12 (fraud_Time_spec y1 (1 : Int) (1 : Int) hy2) rfl fun _ hr => ?_
  subst hr
  (try simp +decide -implicitDefEqProofs only [go_sem])
  refine hK _ _ ?_; clear hK K
  refine qthen_normal ?_
  refine AWP.seq ?_
  refine AWP.region rfl ?_; intro K hK
  (try simp +decide -implicitDefEqProofs only [go_sem])
  obtain ⟨y3, hy3, h⟩ := bindE h
  refine ACall.pure Try.call12 (fraud_Time_spec y1 (1 : Int) (2 : Int) hy3) rfl fun _ hr => ?_
  subst hr
  (try simp +decide -implicitDefEqProofs only [go_sem])
  refine hK _ _ ?_; clear hK K
  refine qthen_normal ?_
  refine AWP.seq ?_
  refine AWP.seq ?_
  refine AWP.region rfl ?_; intro K hK
  (try simp +decide -implicitDefEqProofs only [go_sem])
  refine aguardK_split (fun hc => ?_) (fun hc => ?_)
  · replace h := bif_f h hc
    (try simp +decide -implicitDefEqProofs only [go_sem, hc])
    refine aguardK_split (fun hc => ?_) (fun hc => ?_)
    · replace h := bif_f h hc
      (try simp +decide -implicitDefEqProofs only [go_sem, hc])
      refine hK _ _ ?_; clear hK K
      refine qthen_normal ?_
      refine AWP.cond (acond_split (fun hc => ?_) (fun hc => ?_))
      · replace h := bif_t h hc
        refine AWP.seq ?_
        refine AWP.region rfl ?_; intro K hK
        (try simp +decide -implicitDefEqProofs only [go_sem])
        refine hK _ _ ?_; clear hK K
        refine qthen_normal ?_
        refine AWP.ret ?_
        refine qthen_ret ?_
        obtain rfl := some_eq h
        simp +decide -implicitDefEqProofs only [go_sem, mpE_nil, AVal.int.injEq, Int.natCast_zero, List.replicate_zero, List.length_take, List.length_drop, AVal.own.injEq, reduceCtorEq, Int.reduceAdd, nle2, nle1, nle0, nleA, nleL, Try.results10]
      replace h := bif_f h hc
      refine AWP.skip ?_
      refine qthen_normal ?_
      refine AWP.seq ?_
      refine AWP.region rfl ?_; intro K hK
      (try simp +decide -implicitDefEqProofs only [go_sem])
      refine hK _ _ ?_; clear hK K
      refine qthen_normal ?_
      refine AWP.seq ?_
      refine AWP.region rfl ?_; intro K hK
      (try simp +decide -implicitDefEqProofs only [go_sem])
      obtain ⟨y4, hy4, h⟩ := bindE h
      refine ACall.snapF Try.call15 (fraud_Impossible_fresh y1 [(ApiRide.mk (0 : Int) (0 : Int) (7 : Int) (4 : Int) (0 : Int) (1 : Int) (1000 : Int)), (ApiRide.mk (0 : Int) (0 : Int) (8 : Int) (4 : Int) (0 : Int) (1 : Int) (1001 : Int)), (ApiRide.mk (0 : Int) (0 : Int) (7 : Int) (5 : Int) (0 : Int) (1 : Int) (1504 : Int)), (ApiRide.mk (0 : Int) (0 : Int) (7 : Int) (4 : Int) (0 : Int) (1 : Int) (2009 : Int))] hy4) (by simp +decide -implicitDefEqProofs only [go_sem]) fun _ hr => ?_
      subst hr
      (try simp +decide -implicitDefEqProofs only [go_sem])
      obtain ⟨y5, hy5, h⟩ := bindE h
      refine ACall.snap Try.call14 (ref32_Same_spec y4 [(ApiSuspicion.mk (0 : Int) (2 : Int))] hy5) (by simp +decide -implicitDefEqProofs only [go_sem]) (by rintro _ rfl; rfl) fun _ hr => ?_
      subst hr
      (try simp +decide -implicitDefEqProofs only [go_sem])
      refine aguardK_split (fun hc => ?_) (fun hc => ?_)
      · replace h := bif_t h hc
        (try simp +decide -implicitDefEqProofs only [go_sem, hc])
        obtain ⟨y6, hy6, h⟩ := bindE h
        refine ACall.snapF Try.call17 (fraud_Clones_fresh [(ApiRide.mk (0 : Int) (0 : Int) (7 : Int) (4 : Int) (0 : Int) (1 : Int) (1000 : Int)), (ApiRide.mk (0 : Int) (0 : Int) (8 : Int) (4 : Int) (0 : Int) (1 : Int) (1001 : Int)), (ApiRide.mk (0 : Int) (0 : Int) (7 : Int) (5 : Int) (0 : Int) (1 : Int) (1504 : Int)), (ApiRide.mk (0 : Int) (0 : Int) (7 : Int) (4 : Int) (0 : Int) (1 : Int) (2009 : Int))] hy6) (by simp +decide -implicitDefEqProofs only [go_sem]) fun _ hr => ?_
        subst hr
        (try simp +decide -implicitDefEqProofs only [go_sem])
        obtain ⟨y7, hy7, h⟩ := bindE h
        refine ACall.snap Try.call14 (ref32_Same_spec y6 [(ApiSuspicion.mk (0 : Int) (3 : Int))] hy7) (by simp +decide -implicitDefEqProofs only [go_sem]) (by rintro _ rfl; rfl) fun _ hr => ?_
        subst hr
        (try simp +decide -implicitDefEqProofs only [go_sem])
        refine aguardK_split (fun hc => ?_) (fun hc => ?_)
        · replace h := bif_t h hc
          (try simp +decide -implicitDefEqProofs only [go_sem, hc])
          obtain ⟨y8, hy8, h⟩ := bindE h
          refine ACall.snapF Try.call20 (fraud_Suspects_fresh y1 [(ApiRide.mk (0 : Int) (0 : Int) (7 : Int) (4 : Int) (0 : Int) (1 : Int) (1000 : Int)), (ApiRide.mk (0 : Int) (0 : Int) (8 : Int) (4 : Int) (0 : Int) (1 : Int) (1001 : Int)), (ApiRide.mk (0 : Int) (0 : Int) (7 : Int) (5 : Int) (0 : Int) (1 : Int) (1504 : Int)), (ApiRide.mk (0 : Int) (0 : Int) (7 : Int) (4 : Int) (0 : Int) (1 : Int) (2009 : Int))] hy8) (by simp +decide -implicitDefEqProofs only [go_sem]) fun _ hr => ?_
          subst hr
          (try simp +decide -implicitDefEqProofs only [go_sem])
          obtain ⟨y9, hy9, h⟩ := bindE h
          refine ACall.snap Try.call19 (ref10_SameInts_spec y8 [(7 : Int)] hy9) (by simp +decide -implicitDefEqProofs only [go_sem]) (by rintro _ rfl; rfl) fun _ hr => ?_
          subst hr
          (try simp +decide -implicitDefEqProofs only [go_sem])
          refine hK _ _ ?_; clear hK K
          refine qthen_normal ?_
          refine AWP.ret ?_
          obtain rfl := some_eq h
          simp +decide -implicitDefEqProofs only [go_sem, mpE_nil, AVal.int.injEq, Int.natCast_zero, List.replicate_zero, List.length_take, List.length_drop, AVal.own.injEq, reduceCtorEq, Int.reduceAdd, nle2, nle1, nle0, nleA, nleL, Try.results10]
        · replace h := bif_f h hc
          (try simp +decide -implicitDefEqProofs only [go_sem, hc, Bool.not_true])
          refine hK _ _ ?_; clear hK K
          refine qthen_normal ?_
          refine AWP.ret ?_
          obtain rfl := some_eq h
          simp +decide -implicitDefEqProofs only [go_sem, mpE_nil, AVal.int.injEq, Int.natCast_zero, List.replicate_zero, List.length_take, List.length_drop, AVal.own.injEq, reduceCtorEq, Int.reduceAdd, nle2, nle1, nle0, nleA, nleL, Try.results10]
      · replace h := bif_f h hc
        (try simp +decide -implicitDefEqProofs only [go_sem, hc, Bool.not_true])
        refine hK _ _ ?_; clear hK K
        refine qthen_normal ?_
        refine AWP.ret ?_
        obtain rfl := some_eq h
        simp +decide -implicitDefEqProofs only [go_sem, mpE_nil, AVal.int.injEq, Int.natCast_zero, List.replicate_zero, List.length_take, List.length_drop, AVal.own.injEq, reduceCtorEq, Int.reduceAdd, nle2, nle1, nle0, nleA, nleL, Try.results10]
    · replace h := bif_t h hc
      (try simp +decide -implicitDefEqProofs only [go_sem, hc, Bool.not_false])
      refine hK _ _ ?_; clear hK K
      refine qthen_normal ?_
      refine AWP.cond (acond_true ?_)
      refine AWP.seq ?_
      refine AWP.region rfl ?_; intro K hK
      (try simp +decide -implicitDefEqProofs only [go_sem])
      refine hK _ _ ?_; clear hK K
      refine qthen_normal ?_
      refine AWP.ret ?_
      refine qthen_ret ?_
      obtain rfl := some_eq h
      simp +decide -implicitDefEqProofs only [go_sem, mpE_nil, AVal.int.injEq, Int.natCast_zero, List.replicate_zero, List.length_take, List.length_drop, AVal.own.injEq, reduceCtorEq, Int.reduceAdd, nle2, nle1, nle0, nleA, nleL, Try.results10]
  · replace h := bif_t h hc
    (try simp +decide -implicitDefEqProofs only [go_sem, hc, Bool.not_false])
    refine hK _ _ ?_; clear hK K
    refine qthen_normal ?_
    refine AWP.cond (acond_true ?_)
    refine AWP.seq ?_
    refine AWP.region rfl ?_; intro K hK
    (try simp +decide -implicitDefEqProofs only [go_sem])
    refine hK _ _ ?_; clear hK K
    refine qthen_normal ?_
    refine AWP.ret ?_
    refine qthen_ret ?_
    obtain rfl := some_eq h
    simp +decide -implicitDefEqProofs only [go_sem, mpE_nil, AVal.int.injEq, Int.natCast_zero, List.replicate_zero, List.length_take, List.length_drop, AVal.own.injEq, reduceCtorEq, Int.reduceAdd, nle2, nle1, nle0, nleA, nleL, Try.results10]

def ref10_in (n_ : Int) (lo : Int) (hi : Int) : Option (Bool) :=
  (bif (decide (lo ≤ n_)) then some (decide (n_ ≤ hi)) else some false)

theorem ref10_in_spec (n_ : Int) (lo : Int) (hi : Int) {r : Bool} (h : ref10_in n_ lo hi = some r) : PureFn Try.prog 42 [.int .i64 n_, .int .i64 lo, .int .i64 hi] (· = .bool r) := by
  refine PureFn.nle (PureFn.intro Try.func42 rfl rfl (by show _ ≤ 15; simp) ?_)
  unfold ref10_in at h
  (try simp +decide -implicitDefEqProofs only [go_sem])
  refine AWP.seq ?_
  refine AWP.region rfl ?_; intro K hK
  (try simp +decide -implicitDefEqProofs only [go_sem])
  refine hK _ _ ?_; clear hK K
  refine qthen_normal ?_
  refine AWP.seq ?_
  refine AWP.region rfl ?_; intro K hK
  (try simp +decide -implicitDefEqProofs only [go_sem])
  refine aguardK_split (fun hc => ?_) (fun hc => ?_)
  · replace h := bif_t h hc
    (try simp +decide -implicitDefEqProofs only [go_sem, hc])
    refine hK _ _ ?_; clear hK K
    refine qthen_normal ?_
    refine AWP.ret ?_
    obtain rfl := some_eq h
    simp +decide -implicitDefEqProofs only [go_sem, mpE_nil, AVal.int.injEq, Int.natCast_zero, List.replicate_zero, List.length_take, List.length_drop, AVal.own.injEq, reduceCtorEq, Int.reduceAdd, nle2, nle1, nle0, nleA, nleL, Try.results42]
  · replace h := bif_f h hc
    (try simp +decide -implicitDefEqProofs only [go_sem, hc, Bool.not_true])
    refine hK _ _ ?_; clear hK K
    refine qthen_normal ?_
    refine AWP.ret ?_
    obtain rfl := some_eq h
    simp +decide -implicitDefEqProofs only [go_sem, mpE_nil, AVal.int.injEq, Int.natCast_zero, List.replicate_zero, List.length_take, List.length_drop, AVal.own.injEq, reduceCtorEq, Int.reduceAdd, nle2, nle1, nle0, nleA, nleL, Try.results42]

end
end Go.Proofs.Ytmfjcimogpmheaa
