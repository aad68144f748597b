/-
  What functions of the program compute, as plain Lean functions, and the walks that prove it; printed by a small program of our own (wip/walk.py).
-/
import Derived.Test.YtmfjcimogpmheaaW5
namespace Go.Proofs.Ytmfjcimogpmheaa
open Go Go.Ab
attribute [local irreducible] AWP ACall DCall PureFn Go.Ab.Sub alist dlist AIdx AElem ALook ANext
set_option maxRecDepth 100000
set_option maxHeartbeats 4000000
set_option linter.unusedSimpArgs false
set_option linter.unusedVariables false
noncomputable section
def law32_rides_b1 (m : ApiMap) (serial : Int) (k3 : Nat) (x_5 : Skilaw32Leg) (sv : Int × (List ApiRide)) : Option (Out (Int × (List ApiRide)) ((List ApiRide) × Bool)) :=
  nz ((m.Lifts.length : Nat) : Int) ((idxL m.Lifts (Int.tmod (IntKind.i64.wrap x_5.Lift) ((m.Lifts.length : Nat) : Int))).bind fun x_6 => (bif (decide ((0 : Int) < ((k3 : Nat) : Int))) then (idxL sv.2 (IntKind.i64.wrap (((k3 : Nat) : Int) - (1 : Int)))).bind fun x_7 => (fraud_Time m x_7.Lift x_6.ID).bind fun y8 => (bif (!y8.2) then some (Out.ret ([], false)) else chk (sv.2.length + 1) (some (Out.next ((IntKind.i64.wrap ((IntKind.i64.wrap (sv.1 + y8.1)) + (IntKind.i64.wrap x_5.Wait))), (sv.2 ++ [(ApiRide.mk (1 : Int) (IntKind.i64.wrap (((k3 : Nat) : Int) + (1 : Int))) serial (IntKind.i64.wrap (((k3 : Nat) : Int) + (1 : Int))) (0 : Int) x_6.ID (IntKind.i64.wrap ((IntKind.i64.wrap (sv.1 + y8.1)) + (IntKind.i64.wrap x_5.Wait))))]))))) else chk (sv.2.length + 1) (some (Out.next (sv.1, (sv.2 ++ [(ApiRide.mk (1 : Int) (IntKind.i64.wrap (((k3 : Nat) : Int) + (1 : Int))) serial (IntKind.i64.wrap (((k3 : Nat) : Int) + (1 : Int))) (0 : Int) x_6.ID sv.1)]))))))

def law32_rides (m : ApiMap) (serial : Int) (from_ : Int) (l : List Skilaw32Leg) : Option ((List ApiRide) × Bool) :=
  (forIx (law32_rides_b1 m serial) 0 l (from_, [])).bind fun o3 => o3.on fun s3 => some (s3.2, true)

theorem law32_rides_fresh (m : ApiMap) (serial : Int) (from_ : Int) (l : List Skilaw32Leg) {r : (List ApiRide) × Bool} (h : law32_rides m serial from_ l = some r) : FreshFn Try.prog 22 [.agg (encApiMap m), .int .i64 serial, .int .i64 from_, .sl 2 (l.map encSkilaw32Leg)] (· = .tuple [.sl 7 (r.1.map encApiRide), .bool r.2]) := by
  refine FreshFn.nle (FreshFn.intro Try.func22 rfl rfl (by show _ ≤ 76; simp) ?_)
  unfold law32_rides at h
  (try simp +decide -implicitDefEqProofs only [go_sem])
  refine AWP.seq ?_
  refine AWP.region rfl ?_; intro K hK
  (try simp +decide -implicitDefEqProofs only [go_sem])
  refine hK _ _ ?_; clear hK K
  refine qthen_normal ?_
  refine AWP.seq ?_
  refine AWP.region rfl ?_; intro K hK
  (try simp +decide -implicitDefEqProofs only [go_sem])
  refine hK _ _ ?_; clear hK K
  refine qthen_normal ?_
  refine AWP.seq ?_
  refine AWP.region rfl ?_; intro K hK
  (try simp +decide -implicitDefEqProofs only [go_sem])
  refine hK _ _ ?_; clear hK K
  refine qthen_normal ?_
  refine AWP.seq ?_
  refine AWP.seq ?_
  refine AWP.region rfl ?_; intro K hK
  (try simp +decide -implicitDefEqProofs only [go_sem])
  refine hK _ _ ?_; clear hK K
  refine qthen_normal ?_
  refine AWP.block ?_
  refine AWP.ghost 10 7 rfl (by decide) ?_
  obtain ⟨o3, hJ3, hO3⟩ := bindE h
  clear h
  refine AWP.loopW (ι := Nat × (Int × (List ApiRide)) × (Nat)) (fun zz => [(1, .int .i64 serial), (3, .sl 2 (l.map encSkilaw32Leg)), (4, .ptr 0 0), (10, .own 1 zz.2.2 0 zz.2.1.2.length), (11, .int .i64 zz.2.1.1), (12, .int .i64 ((zz.1 : Nat) : Int))]) (fun zz => [.box [.sl 2 (m.Nodes.map encApiNode), .sl 8 (m.Lifts.map encApiLift), .sl 7 (m.Runs.map encApiRun), .sl 1 (m.Bases.map intC)], .row zz.2.2 7 (zz.2.1.2.map encApiRide)]) (fun zz => zz.1 ≤ l.length ∧ forIx (law32_rides_b1 m serial) zz.1 ((l).drop zz.1) zz.2.1 = some o3) (fun zz => l.length - zz.1) (0, (from_, []), 0) ⟨Nat.zero_le _, hJ3⟩ (by (simp +decide -implicitDefEqProofs only [go_sem, mpE_nil, AVal.int.injEq, Int.natCast_zero, List.replicate_zero, List.length_take, List.length_drop, AVal.own.injEq, reduceCtorEq, Int.reduceAdd] <;> omega)) (by (simp +decide -implicitDefEqProofs only [go_sem, mpE_nil, AVal.int.injEq, Int.natCast_zero, List.replicate_zero, List.length_take, List.length_drop, AVal.own.injEq, reduceCtorEq, Int.reduceAdd] <;> omega)) (fun x => ⟨rfl, rfl, rfl⟩) ?_
  clear hJ3
  rintro ⟨k3, ⟨at_1, out2⟩, ver3⟩ ⟨hk3, hJ3⟩
  dsimp only at hk3 hJ3 ⊢
  refine AWP.seq ?_
  refine AWP.seq ?_
  refine AWP.region rfl ?_; intro K hK
  (try simp +decide -implicitDefEqProofs only [go_sem])
  intro hm
  refine hK _ _ ?_; clear hK K
  refine qthen_normal ?_
  refine AWP.cond (acond_split (fun hc => ?_) (fun hc => ?_))
  · have hlt3 : k3 < l.length := by have := of_decide_eq_true hc; omega
    obtain ⟨x_5, b3, hx3_, h, hJ3⟩ := for_cons hJ3 hlt3
    have hx3 := idxL_nat hx3_
    have hw3 : IntKind.i64.wrap (((k3 : Nat) : Int) + 1) = (((k3 : Nat) : Int) + (1 : Int)) := by rw [wrap_i64] <;> omega
    unfold law32_rides_b1 at h; try dsimp only at h
    refine AWP.skip ?_
    refine qthen_normal ?_
    refine AWP.seq ?_
    refine AWP.block ?_
    refine AWP.seq ?_
    refine AWP.draw Try.mixed (by kernel_rfl) ?_; intro K hK
    (try simp +decide -implicitDefEqProofs only [go_sem])
    refine AIdx.of (f := encSkilaw32Leg) (l := l) hx3 ?_
    (try simp +decide -implicitDefEqProofs only [go_sem])
    intro hm
    obtain ⟨hk, h⟩ := nz_in h
    refine ⟨hk, ?_⟩
    obtain ⟨x_6, hx_6, h⟩ := bindE h
    refine AIdx.of (f := encApiLift) (l := m.Lifts) hx_6 ?_
    (try simp +decide -implicitDefEqProofs only [go_sem])
    refine hK _ _ _ (by kernel_rfl) ?_; clear hK K
    refine qthen_normal ?_
    refine AWP.seq ?_
    refine AWP.seq ?_
    refine AWP.region rfl ?_; intro K hK
    (try simp +decide -implicitDefEqProofs only [go_sem])
    refine hK _ _ ?_; clear hK K
    refine qthen_normal ?_
    refine AWP.cond (acond_split (fun hc => ?_) (fun hc => ?_))
    · replace h := bif_t h hc
      refine AWP.seq ?_
      refine AWP.draw Try.mixed (by kernel_rfl) ?_; intro K hK
      (try simp +decide -implicitDefEqProofs only [go_sem])
      obtain ⟨x_7, hx_7, h⟩ := bindE h
      refine own_in hx_7 (by first | rfl | exact (sortI_len _).symm | (simp only [List.length_append, List.length_cons, List.length_nil, List.length_set, List.length_replicate] <;> omega)) ?_
      (try simp +decide -implicitDefEqProofs only [go_sem])
      refine AElem.of (f := encApiRide) (l := out2) (n := (IntKind.i64.wrap (((k3 : Nat) : Int) - (1 : Int)))) hx_7 ?_
      (try simp +decide -implicitDefEqProofs only [go_sem])
      obtain ⟨y8, hy8, h⟩ := bindE h
      refine DCall.pure Try.call12 (fraud_Time_spec m x_7.Lift x_6.ID hy8) rfl ?_
      (try simp +decide -implicitDefEqProofs only [go_sem])
      refine hK _ _ _ (by kernel_rfl) ?_; clear hK K
      refine qthen_normal ?_
      refine AWP.seq ?_
      refine AWP.seq ?_
      refine AWP.region rfl ?_; intro K hK
      (try simp +decide -implicitDefEqProofs only [go_sem])
      refine hK _ _ ?_; clear hK K
      refine qthen_normal ?_
      refine AWP.cond (acond_split (fun hc => ?_) (fun hc => ?_))
      · replace h := bif_t h hc
        refine AWP.seq ?_
        refine AWP.region rfl ?_; intro K hK
        (try simp +decide -implicitDefEqProofs only [go_sem])
        refine hK _ _ ?_; clear hK K
        refine qthen_normal ?_
        refine AWP.ret ?_
        refine qthen_ret ?_
        refine qthen_ret ?_
        refine qblock_ret ?_
        refine qthen_ret ?_
        refine qthen_ret ?_
        obtain rfl := some_eq h
        obtain rfl := cont_ret hJ3
        replace h := on_ret hO3
        refine qblock_ret ?_
        refine qthen_ret ?_
        obtain rfl := some_eq h
        simp +decide -implicitDefEqProofs only [go_sem, mpE_nil, AVal.int.injEq, Int.natCast_zero, List.replicate_zero, List.length_take, List.length_drop, AVal.own.injEq, reduceCtorEq, Int.reduceAdd, nle2, nle1, nle0, nleA, nleL, Try.results22]
      replace h := bif_f h hc
      refine AWP.skip ?_
      refine qthen_normal ?_
      refine AWP.region rfl ?_; intro K hK
      (try simp +decide -implicitDefEqProofs only [go_sem])
      refine AIdx.of (f := encSkilaw32Leg) (l := l) hx3 ?_
      (try simp +decide -implicitDefEqProofs only [go_sem])
      refine hK _ _ ?_; clear hK K
      refine qthen_normal ?_
      refine AWP.region rfl ?_; intro K hK
      (try simp +decide -implicitDefEqProofs only [go_sem])
      obtain ⟨hk, h⟩ := chk_in h
      (repeat (refine ⟨by first | omega | (simp only [List.length_take, List.length_drop, List.length_append]; omega), ?_⟩)); try simp +decide -implicitDefEqProofs only [go_sem]
      refine hK _ _ ?_; clear hK K
      refine qblock_normal ?_
      refine qthen_normal ?_
      refine AWP.region rfl ?_; intro K hK
      (try simp +decide -implicitDefEqProofs only [go_sem])
      refine hK _ _ ?_; clear hK K
      refine qthen_normal ?_
      obtain rfl := some_eq h
      refine ⟨(k3 + 1, ((IntKind.i64.wrap ((IntKind.i64.wrap (at_1 + y8.1)) + (IntKind.i64.wrap x_5.Wait))), (out2 ++ [(ApiRide.mk (1 : Int) (IntKind.i64.wrap (((k3 : Nat) : Int) + (1 : Int))) serial (IntKind.i64.wrap (((k3 : Nat) : Int) + (1 : Int))) (0 : Int) x_6.ID (IntKind.i64.wrap ((IntKind.i64.wrap (at_1 + y8.1)) + (IntKind.i64.wrap x_5.Wait))))])), (ver3 + 1)), ⟨by dsimp only; omega, cont_next hJ3⟩, by dsimp only; omega, ?_, ?_⟩
      · (simp +decide -implicitDefEqProofs only [go_sem, mpE_nil, AVal.int.injEq, Int.natCast_zero, List.replicate_zero, List.length_take, List.length_drop, AVal.own.injEq, reduceCtorEq, Int.reduceAdd, hw3] <;> omega)
      · (simp +decide -implicitDefEqProofs only [go_sem, mpE_nil, AVal.int.injEq, Int.natCast_zero, List.replicate_zero, List.length_take, List.length_drop, AVal.own.injEq, reduceCtorEq, Int.reduceAdd, hw3] <;> omega)
    replace h := bif_f h hc
    refine AWP.skip ?_
    refine qthen_normal ?_
    refine AWP.region rfl ?_; intro K hK
    (try simp +decide -implicitDefEqProofs only [go_sem])
    obtain ⟨hk, h⟩ := chk_in h
    (repeat (refine ⟨by first | omega | (simp only [List.length_take, List.length_drop, List.length_append]; omega), ?_⟩)); try simp +decide -implicitDefEqProofs only [go_sem]
    refine hK _ _ ?_; clear hK K
    refine qblock_normal ?_
    refine qthen_normal ?_
    refine AWP.region rfl ?_; intro K hK
    (try simp +decide -implicitDefEqProofs only [go_sem])
    refine hK _ _ ?_; clear hK K
    refine qthen_normal ?_
    obtain rfl := some_eq h
    refine ⟨(k3 + 1, (at_1, (out2 ++ [(ApiRide.mk (1 : Int) (IntKind.i64.wrap (((k3 : Nat) : Int) + (1 : Int))) serial (IntKind.i64.wrap (((k3 : Nat) : Int) + (1 : Int))) (0 : Int) x_6.ID at_1)])), (ver3 + 1)), ⟨by dsimp only; omega, cont_next hJ3⟩, by dsimp only; omega, ?_, ?_⟩
    · (simp +decide -implicitDefEqProofs only [go_sem, mpE_nil, AVal.int.injEq, Int.natCast_zero, List.replicate_zero, List.length_take, List.length_drop, AVal.own.injEq, reduceCtorEq, Int.reduceAdd, hw3] <;> omega)
    · (simp +decide -implicitDefEqProofs only [go_sem, mpE_nil, AVal.int.injEq, Int.natCast_zero, List.replicate_zero, List.length_take, List.length_drop, AVal.own.injEq, reduceCtorEq, Int.reduceAdd, hw3] <;> omega)
  · obtain rfl := for_nil hJ3 (fun hl => by have := of_decide_eq_false hc; omega)
    have h := on_next hO3; try dsimp only at h
    have hkl : l.length = k3 := by have := of_decide_eq_false hc; omega
    subst hkl
    refine AWP.exit ?_
    refine qthen_exit ?_
    refine qthen_exit ?_
    refine qblock_same ?_
    refine qthen_normal ?_
    refine AWP.seq ?_
    refine AWP.region rfl ?_; intro K hK
    (try simp +decide -implicitDefEqProofs only [go_sem])
    refine hK _ _ ?_; clear hK K
    refine qthen_normal ?_
    refine AWP.ret ?_
    obtain rfl := some_eq h
    simp +decide -implicitDefEqProofs only [go_sem, mpE_nil, AVal.int.injEq, Int.natCast_zero, List.replicate_zero, List.length_take, List.length_drop, AVal.own.injEq, reduceCtorEq, Int.reduceAdd, nle2, nle1, nle0, nleA, nleL, Try.results22]
theorem law32_rides_spec (m : ApiMap) (serial : Int) (from_ : Int) (l : List Skilaw32Leg) {r : (List ApiRide) × Bool} (h : law32_rides m serial from_ l = some r) : PureFn Try.prog 22 [.agg (encApiMap m), .int .i64 serial, .int .i64 from_, .sl 2 (l.map encSkilaw32Leg)] (· = .tuple [.sl 7 (r.1.map encApiRide), .bool r.2]) := (law32_rides_fresh m serial from_ l h).pure

theorem law32_rides_own (m : ApiMap) (serial : Int) (from_ : Int) (l : List Skilaw32Leg) {r : (List ApiRide) × Bool} (h : law32_rides m serial from_ l = some r) : OwnFn Try.prog 22 [.agg (encApiMap m), .int .i64 serial, .int .i64 from_, .sl 2 (l.map encSkilaw32Leg)] (fun q H => ∃ v0, q = .tuple [.own 0 v0 0 r.1.length, .bool r.2] ∧ H = [.row v0 7 (r.1.map encApiRide)]) := by
  refine OwnFn.weak (R := fun q H => ∃ v0 rest, q = .tuple [.own 0 v0 0 r.1.length, .bool r.2] ∧ H = .row v0 7 (r.1.map encApiRide) :: rest) (OwnFn.intro Try.func22 rfl rfl (by show _ ≤ 76; simp) ?_) (fun q H hq => ?_)
  · unfold law32_rides at h
    (try simp +decide -implicitDefEqProofs only [go_sem])
    refine AWP.seq ?_
    refine AWP.region rfl ?_; intro K hK
    (try simp +decide -implicitDefEqProofs only [go_sem])
    refine hK _ _ ?_; clear hK K
    refine qthen_normal ?_
    refine AWP.seq ?_
    refine AWP.region rfl ?_; intro K hK
    (try simp +decide -implicitDefEqProofs only [go_sem])
    refine hK _ _ ?_; clear hK K
    refine qthen_normal ?_
    refine AWP.seq ?_
    refine AWP.region rfl ?_; intro K hK
    (try simp +decide -implicitDefEqProofs only [go_sem])
    refine hK _ _ ?_; clear hK K
    refine qthen_normal ?_
    refine AWP.seq ?_
    refine AWP.seq ?_
    refine AWP.region rfl ?_; intro K hK
    (try simp +decide -implicitDefEqProofs only [go_sem])
    refine hK _ _ ?_; clear hK K
    refine qthen_normal ?_
    refine AWP.block ?_
    refine AWP.ghost 10 7 rfl (by decide) ?_
    obtain ⟨o3, hJ3, hO3⟩ := bindE h
    clear h
    refine AWP.loopW (ι := Nat × (Int × (List ApiRide)) × (Nat)) (fun zz => [(1, .int .i64 serial), (3, .sl 2 (l.map encSkilaw32Leg)), (4, .ptr 0 0), (10, .own 1 zz.2.2 0 zz.2.1.2.length), (11, .int .i64 zz.2.1.1), (12, .int .i64 ((zz.1 : Nat) : Int))]) (fun zz => [.box [.sl 2 (m.Nodes.map encApiNode), .sl 8 (m.Lifts.map encApiLift), .sl 7 (m.Runs.map encApiRun), .sl 1 (m.Bases.map intC)], .row zz.2.2 7 (zz.2.1.2.map encApiRide)]) (fun zz => zz.1 ≤ l.length ∧ forIx (law32_rides_b1 m serial) zz.1 ((l).drop zz.1) zz.2.1 = some o3) (fun zz => l.length - zz.1) (0, (from_, []), 0) ⟨Nat.zero_le _, hJ3⟩ (by (simp +decide -implicitDefEqProofs only [go_sem, mpE_nil, AVal.int.injEq, Int.natCast_zero, List.replicate_zero, List.length_take, List.length_drop, AVal.own.injEq, reduceCtorEq, Int.reduceAdd] <;> omega)) (by (simp +decide -implicitDefEqProofs only [go_sem, mpE_nil, AVal.int.injEq, Int.natCast_zero, List.replicate_zero, List.length_take, List.length_drop, AVal.own.injEq, reduceCtorEq, Int.reduceAdd] <;> omega)) (fun x => ⟨rfl, rfl, rfl⟩) ?_
    clear hJ3
    rintro ⟨k3, ⟨at_1, out2⟩, ver3⟩ ⟨hk3, hJ3⟩
    dsimp only at hk3 hJ3 ⊢
    refine AWP.seq ?_
    refine AWP.seq ?_
    refine AWP.region rfl ?_; intro K hK
    (try simp +decide -implicitDefEqProofs only [go_sem])
    intro hm
    refine hK _ _ ?_; clear hK K
    refine qthen_normal ?_
    refine AWP.cond (acond_split (fun hc => ?_) (fun hc => ?_))
    · have hlt3 : k3 < l.length := by have := of_decide_eq_true hc; omega
      obtain ⟨x_5, b3, hx3_, h, hJ3⟩ := for_cons hJ3 hlt3
      have hx3 := idxL_nat hx3_
      have hw3 : IntKind.i64.wrap (((k3 : Nat) : Int) + 1) = (((k3 : Nat) : Int) + (1 : Int)) := by rw [wrap_i64] <;> omega
      unfold law32_rides_b1 at h; try dsimp only at h
      refine AWP.skip ?_
      refine qthen_normal ?_
      refine AWP.seq ?_
      refine AWP.block ?_
      refine AWP.seq ?_
      refine AWP.draw Try.mixed (by kernel_rfl) ?_; intro K hK
      (try simp +decide -implicitDefEqProofs only [go_sem])
      refine AIdx.of (f := encSkilaw32Leg) (l := l) hx3 ?_
      (try simp +decide -implicitDefEqProofs only [go_sem])
      intro hm
      obtain ⟨hk, h⟩ := nz_in h
      refine ⟨hk, ?_⟩
      obtain ⟨x_6, hx_6, h⟩ := bindE h
      refine AIdx.of (f := encApiLift) (l := m.Lifts) hx_6 ?_
      (try simp +decide -implicitDefEqProofs only [go_sem])
      refine hK _ _ _ (by kernel_rfl) ?_; clear hK K
      refine qthen_normal ?_
      refine AWP.seq ?_
      refine AWP.seq ?_
      refine AWP.region rfl ?_; intro K hK
      (try simp +decide -implicitDefEqProofs only [go_sem])
      refine hK _ _ ?_; clear hK K
      refine qthen_normal ?_
      refine AWP.cond (acond_split (fun hc => ?_) (fun hc => ?_))
      · replace h := bif_t h hc
        refine AWP.seq ?_
        refine AWP.draw Try.mixed (by kernel_rfl) ?_; intro K hK
        (try simp +decide -implicitDefEqProofs only [go_sem])
        obtain ⟨x_7, hx_7, h⟩ := bindE h
        refine own_in hx_7 (by first | rfl | exact (sortI_len _).symm | (simp only [List.length_append, List.length_cons, List.length_nil, List.length_set, List.length_replicate] <;> omega)) ?_
        (try simp +decide -implicitDefEqProofs only [go_sem])
        refine AElem.of (f := encApiRide) (l := out2) (n := (IntKind.i64.wrap (((k3 : Nat) : Int) - (1 : Int)))) hx_7 ?_
        (try simp +decide -implicitDefEqProofs only [go_sem])
        obtain ⟨y8, hy8, h⟩ := bindE h
        refine DCall.pure Try.call12 (fraud_Time_spec m x_7.Lift x_6.ID hy8) rfl ?_
        (try simp +decide -implicitDefEqProofs only [go_sem])
        refine hK _ _ _ (by kernel_rfl) ?_; clear hK K
        refine qthen_normal ?_
        refine AWP.seq ?_
        refine AWP.seq ?_
        refine AWP.region rfl ?_; intro K hK
        (try simp +decide -implicitDefEqProofs only [go_sem])
        refine hK _ _ ?_; clear hK K
        refine qthen_normal ?_
        refine AWP.cond (acond_split (fun hc => ?_) (fun hc => ?_))
        · replace h := bif_t h hc
          refine AWP.seq ?_
          refine AWP.region rfl ?_; intro K hK
          (try simp +decide -implicitDefEqProofs only [go_sem])
          refine hK _ _ ?_; clear hK K
          refine qthen_normal ?_
          refine AWP.ghost 8 7 rfl (by decide) ?_
          (try simp +decide -implicitDefEqProofs only [go_sem])
          refine AWP.sub (Sub.swap 3 0 rfl rfl rfl) ?_
          (try simp +decide -implicitDefEqProofs only [go_sem])
          refine AWP.ret ?_
          refine qthen_ret ?_
          refine qthen_ret ?_
          refine qblock_ret ?_
          refine qthen_ret ?_
          refine qthen_ret ?_
          obtain rfl := some_eq h
          obtain rfl := cont_ret hJ3
          replace h := on_ret hO3
          refine qblock_ret ?_
          refine qthen_ret ?_
          obtain rfl := some_eq h
          (try simp +decide -implicitDefEqProofs only [go_sem, Try.results22])
          refine ⟨_, _, ?_, rfl⟩
          (try simp +decide -implicitDefEqProofs only [go_sem, List.length_map, List.length_append, List.length_cons, List.length_nil, List.length_set, List.length_replicate]); try rfl
        replace h := bif_f h hc
        refine AWP.skip ?_
        refine qthen_normal ?_
        refine AWP.region rfl ?_; intro K hK
        (try simp +decide -implicitDefEqProofs only [go_sem])
        refine AIdx.of (f := encSkilaw32Leg) (l := l) hx3 ?_
        (try simp +decide -implicitDefEqProofs only [go_sem])
        refine hK _ _ ?_; clear hK K
        refine qthen_normal ?_
        refine AWP.region rfl ?_; intro K hK
        (try simp +decide -implicitDefEqProofs only [go_sem])
        obtain ⟨hk, h⟩ := chk_in h
        (repeat (refine ⟨by first | omega | (simp only [List.length_take, List.length_drop, List.length_append]; omega), ?_⟩)); try simp +decide -implicitDefEqProofs only [go_sem]
        refine hK _ _ ?_; clear hK K
        refine qblock_normal ?_
        refine qthen_normal ?_
        refine AWP.region rfl ?_; intro K hK
        (try simp +decide -implicitDefEqProofs only [go_sem])
        refine hK _ _ ?_; clear hK K
        refine qthen_normal ?_
        obtain rfl := some_eq h
        refine ⟨(k3 + 1, ((IntKind.i64.wrap ((IntKind.i64.wrap (at_1 + y8.1)) + (IntKind.i64.wrap x_5.Wait))), (out2 ++ [(ApiRide.mk (1 : Int) (IntKind.i64.wrap (((k3 : Nat) : Int) + (1 : Int))) serial (IntKind.i64.wrap (((k3 : Nat) : Int) + (1 : Int))) (0 : Int) x_6.ID (IntKind.i64.wrap ((IntKind.i64.wrap (at_1 + y8.1)) + (IntKind.i64.wrap x_5.Wait))))])), (ver3 + 1)), ⟨by dsimp only; omega, cont_next hJ3⟩, by dsimp only; omega, ?_, ?_⟩
        · (simp +decide -implicitDefEqProofs only [go_sem, mpE_nil, AVal.int.injEq, Int.natCast_zero, List.replicate_zero, List.length_take, List.length_drop, AVal.own.injEq, reduceCtorEq, Int.reduceAdd, hw3] <;> omega)
        · (simp +decide -implicitDefEqProofs only [go_sem, mpE_nil, AVal.int.injEq, Int.natCast_zero, List.replicate_zero, List.length_take, List.length_drop, AVal.own.injEq, reduceCtorEq, Int.reduceAdd, hw3] <;> omega)
      replace h := bif_f h hc
      refine AWP.skip ?_
      refine qthen_normal ?_
      refine AWP.region rfl ?_; intro K hK
      (try simp +decide -implicitDefEqProofs only [go_sem])
      obtain ⟨hk, h⟩ := chk_in h
      (repeat (refine ⟨by first | omega | (simp only [List.length_take, List.length_drop, List.length_append]; omega), ?_⟩)); try simp +decide -implicitDefEqProofs only [go_sem]
      refine hK _ _ ?_; clear hK K
      refine qblock_normal ?_
      refine qthen_normal ?_
      refine AWP.region rfl ?_; intro K hK
      (try simp +decide -implicitDefEqProofs only [go_sem])
      refine hK _ _ ?_; clear hK K
      refine qthen_normal ?_
      obtain rfl := some_eq h
      refine ⟨(k3 + 1, (at_1, (out2 ++ [(ApiRide.mk (1 : Int) (IntKind.i64.wrap (((k3 : Nat) : Int) + (1 : Int))) serial (IntKind.i64.wrap (((k3 : Nat) : Int) + (1 : Int))) (0 : Int) x_6.ID at_1)])), (ver3 + 1)), ⟨by dsimp only; omega, cont_next hJ3⟩, by dsimp only; omega, ?_, ?_⟩
      · (simp +decide -implicitDefEqProofs only [go_sem, mpE_nil, AVal.int.injEq, Int.natCast_zero, List.replicate_zero, List.length_take, List.length_drop, AVal.own.injEq, reduceCtorEq, Int.reduceAdd, hw3] <;> omega)
      · (simp +decide -implicitDefEqProofs only [go_sem, mpE_nil, AVal.int.injEq, Int.natCast_zero, List.replicate_zero, List.length_take, List.length_drop, AVal.own.injEq, reduceCtorEq, Int.reduceAdd, hw3] <;> omega)
    · obtain rfl := for_nil hJ3 (fun hl => by have := of_decide_eq_false hc; omega)
      have h := on_next hO3; try dsimp only at h
      have hkl : l.length = k3 := by have := of_decide_eq_false hc; omega
      subst hkl
      refine AWP.exit ?_
      refine qthen_exit ?_
      refine qthen_exit ?_
      refine qblock_same ?_
      refine qthen_normal ?_
      refine AWP.seq ?_
      refine AWP.region rfl ?_; intro K hK
      (try simp +decide -implicitDefEqProofs only [go_sem])
      refine hK _ _ ?_; clear hK K
      refine qthen_normal ?_
      refine AWP.sub (Sub.swap 1 0 rfl rfl rfl) ?_
      (try simp +decide -implicitDefEqProofs only [go_sem])
      refine AWP.ret ?_
      obtain rfl := some_eq h
      (try simp +decide -implicitDefEqProofs only [go_sem, Try.results22])
      refine ⟨_, _, ?_, rfl⟩
      (try simp +decide -implicitDefEqProofs only [go_sem, List.length_map, List.length_append, List.length_cons, List.length_nil, List.length_set, List.length_replicate]); try rfl
  · obtain ⟨v0, rest, rfl, rfl⟩ := hq
    refine ⟨[.row v0 7 (r.1.map encApiRide)], ?_, ?_, ?_, ⟨v0, rfl, rfl⟩⟩
    all_goals (simp +decide -implicitDefEqProofs only [go_sem, mpE_nil, AVal.int.injEq, Int.natCast_zero, List.replicate_zero, List.length_take, List.length_drop, AVal.own.injEq, reduceCtorEq, Int.reduceAdd] <;> omega)

def law32_mixed_b1 (a : List ApiRide) (b : List ApiRide) (sv : Int × (List ApiRide)) : Option (Out (Int × (List ApiRide)) ((List ApiRide))) :=
  (bif (decide (sv.1 < ((a.length : Nat) : Int))) then (bif true then (bif (decide (sv.1 < ((a.length : Nat) : Int))) then (idxL a sv.1).bind fun x_8 => chk (sv.2.length + 1) ((bif (decide (sv.1 < ((b.length : Nat) : Int))) then (idxL b sv.1).bind fun x_9 => chk ((sv.2.length + 1) + 1) (some (Out.next ((IntKind.i64.wrap (sv.1 + (1 : Int))), ((sv.2 ++ [x_8]) ++ [x_9])))) else some (Out.next ((IntKind.i64.wrap (sv.1 + (1 : Int))), (sv.2 ++ [x_8]))))) else (bif (decide (sv.1 < ((b.length : Nat) : Int))) then (idxL b sv.1).bind fun x_10 => chk (sv.2.length + 1) (some (Out.next ((IntKind.i64.wrap (sv.1 + (1 : Int))), (sv.2 ++ [x_10])))) else some (Out.next ((IntKind.i64.wrap (sv.1 + (1 : Int))), sv.2)))) else some (Out.ret sv.2)) else (bif (decide (sv.1 < ((b.length : Nat) : Int))) then (bif (decide (sv.1 < ((a.length : Nat) : Int))) then (idxL a sv.1).bind fun x_5 => chk (sv.2.length + 1) ((bif (decide (sv.1 < ((b.length : Nat) : Int))) then (idxL b sv.1).bind fun x_6 => chk ((sv.2.length + 1) + 1) (some (Out.next ((IntKind.i64.wrap (sv.1 + (1 : Int))), ((sv.2 ++ [x_5]) ++ [x_6])))) else some (Out.next ((IntKind.i64.wrap (sv.1 + (1 : Int))), (sv.2 ++ [x_5]))))) else (bif (decide (sv.1 < ((b.length : Nat) : Int))) then (idxL b sv.1).bind fun x_7 => chk (sv.2.length + 1) (some (Out.next ((IntKind.i64.wrap (sv.1 + (1 : Int))), (sv.2 ++ [x_7])))) else some (Out.next ((IntKind.i64.wrap (sv.1 + (1 : Int))), sv.2)))) else some (Out.ret sv.2)))

def law32_mixed (a : List ApiRide) (b : List ApiRide) : Option ((List ApiRide)) :=
  (whileN (law32_mixed_b1 a b) fuel ((0 : Int), [])).bind fun o3 => o3.on fun _ => none

theorem law32_mixed_fresh (a : List ApiRide) (b : List ApiRide) {r : (List ApiRide)} (h : law32_mixed a b = some r) : FreshFn Try.prog 23 [.sl 7 (a.map encApiRide), .sl 7 (b.map encApiRide)] (· = .sl 7 (r.map encApiRide)) := by
  refine FreshFn.nle (FreshFn.intro Try.func23 rfl rfl (by show _ ≤ 42; simp) ?_)
  unfold law32_mixed at h
  (try simp +decide -implicitDefEqProofs only [go_sem])
  refine AWP.seq ?_
  refine AWP.region rfl ?_; intro K hK
  (try simp +decide -implicitDefEqProofs only [go_sem])
  refine hK _ _ ?_; clear hK K
  refine qthen_normal ?_
  refine AWP.seq ?_
  refine AWP.region rfl ?_; intro K hK
  (try simp +decide -implicitDefEqProofs only [go_sem])
  refine hK _ _ ?_; clear hK K
  refine qthen_normal ?_
  refine AWP.seq ?_
  refine AWP.seq ?_
  refine AWP.region rfl ?_; intro K hK
  (try simp +decide -implicitDefEqProofs only [go_sem])
  refine hK _ _ ?_; clear hK K
  refine qthen_normal ?_
  refine AWP.block ?_
  refine AWP.ghost 5 7 rfl (by decide) ?_
  obtain ⟨o3, hJ3, hO3⟩ := bindE h
  clear h
  refine AWP.loopW (ι := Nat × (Int × (List ApiRide)) × (Nat)) (fun zz => [(0, .sl 7 (a.map encApiRide)), (1, .sl 7 (b.map encApiRide)), (5, .own 0 zz.2.2 0 zz.2.1.2.length), (6, .int .i64 zz.2.1.1)]) (fun zz => [.row zz.2.2 7 (zz.2.1.2.map encApiRide)]) (fun zz => whileN (law32_mixed_b1 a b) zz.1 zz.2.1 = some o3) (fun zz => zz.1) (fuel, ((0 : Int), []), 0) hJ3 (by (simp +decide -implicitDefEqProofs only [go_sem, mpE_nil, AVal.int.injEq, Int.natCast_zero, List.replicate_zero, List.length_take, List.length_drop, AVal.own.injEq, reduceCtorEq, Int.reduceAdd] <;> omega)) (by (simp +decide -implicitDefEqProofs only [go_sem, mpE_nil, AVal.int.injEq, Int.natCast_zero, List.replicate_zero, List.length_take, List.length_drop, AVal.own.injEq, reduceCtorEq, Int.reduceAdd] <;> omega)) (fun x => ⟨rfl, rfl, rfl⟩) ?_
  clear hJ3
  rintro ⟨n3, ⟨i1, out2⟩, ver3⟩ hJ3
  dsimp only at hJ3 ⊢
  obtain ⟨m3, b3, rfl, h, hJ3⟩ := while_step hJ3
  unfold law32_mixed_b1 at h; try dsimp only at h
  refine AWP.seq ?_
  refine AWP.seq ?_
  refine AWP.region rfl ?_; intro K hK
  (try simp +decide -implicitDefEqProofs only [go_sem])
  intro hm
  refine aguardK_split (fun hc => ?_) (fun hc => ?_)
  · replace h := bif_f h hc
    (try simp +decide -implicitDefEqProofs only [go_sem, hc])
    intro hm
    refine hK _ _ ?_; clear hK K
    refine qthen_normal ?_
    refine AWP.cond (acond_split (fun hc => ?_) (fun hc => ?_))
    · replace h := bif_t h hc
      refine AWP.skip ?_
      refine qthen_normal ?_
      refine AWP.seq ?_
      refine AWP.block ?_
      refine AWP.seq ?_
      refine AWP.seq ?_
      refine AWP.region rfl ?_; intro K hK
      (try simp +decide -implicitDefEqProofs only [go_sem])
      intro hm
      refine hK _ _ ?_; clear hK K
      refine qthen_normal ?_
      refine AWP.cond (acond_split (fun hc => ?_) (fun hc => ?_))
      · replace h := bif_t h hc
        refine AWP.region rfl ?_; intro K hK
        (try simp +decide -implicitDefEqProofs only [go_sem])
        obtain ⟨x_5, hx_5, h⟩ := bindE h
        refine AIdx.of (f := encApiRide) (l := a) hx_5 ?_
        (try simp +decide -implicitDefEqProofs only [go_sem])
        obtain ⟨hk, h⟩ := chk_in h
        (repeat (refine ⟨by first | omega | (simp only [List.length_take, List.length_drop, List.length_append]; omega), ?_⟩)); try simp +decide -implicitDefEqProofs only [go_sem]
        refine hK _ _ ?_; clear hK K
        refine qthen_normal ?_
        refine AWP.seq ?_
        refine AWP.region rfl ?_; intro K hK
        (try simp +decide -implicitDefEqProofs only [go_sem])
        intro hm
        refine hK _ _ ?_; clear hK K
        refine qthen_normal ?_
        refine AWP.cond (acond_split (fun hc => ?_) (fun hc => ?_))
        · replace h := bif_t h hc
          refine AWP.region rfl ?_; intro K hK
          (try simp +decide -implicitDefEqProofs only [go_sem])
          obtain ⟨x_6, hx_6, h⟩ := bindE h
          refine AIdx.of (f := encApiRide) (l := b) hx_6 ?_
          (try simp +decide -implicitDefEqProofs only [go_sem])
          obtain ⟨hk, h⟩ := chk_in h
          (repeat (refine ⟨by first | omega | (simp only [List.length_take, List.length_drop, List.length_append]; omega), ?_⟩)); try simp +decide -implicitDefEqProofs only [go_sem]
          refine hK _ _ ?_; clear hK K
          refine qblock_normal ?_
          refine qthen_normal ?_
          refine AWP.region rfl ?_; intro K hK
          (try simp +decide -implicitDefEqProofs only [go_sem])
          refine hK _ _ ?_; clear hK K
          refine qthen_normal ?_
          obtain rfl := some_eq h
          refine ⟨(m3, ((IntKind.i64.wrap (i1 + (1 : Int))), ((out2 ++ [x_5]) ++ [x_6])), ((ver3 + 1) + 1)), cont_next hJ3, by dsimp only; omega, ?_, ?_⟩
          · (simp +decide -implicitDefEqProofs only [go_sem, mpE_nil, AVal.int.injEq, Int.natCast_zero, List.replicate_zero, List.length_take, List.length_drop, AVal.own.injEq, reduceCtorEq, Int.reduceAdd] <;> omega)
          · (simp +decide -implicitDefEqProofs only [go_sem, mpE_nil, AVal.int.injEq, Int.natCast_zero, List.replicate_zero, List.length_take, List.length_drop, AVal.own.injEq, reduceCtorEq, Int.reduceAdd] <;> omega)
        replace h := bif_f h hc
        refine AWP.skip ?_
        refine qblock_normal ?_
        refine qthen_normal ?_
        refine AWP.region rfl ?_; intro K hK
        (try simp +decide -implicitDefEqProofs only [go_sem])
        refine hK _ _ ?_; clear hK K
        refine qthen_normal ?_
        obtain rfl := some_eq h
        refine ⟨(m3, ((IntKind.i64.wrap (i1 + (1 : Int))), (out2 ++ [x_5])), (ver3 + 1)), cont_next hJ3, by dsimp only; omega, ?_, ?_⟩
        · (simp +decide -implicitDefEqProofs only [go_sem, mpE_nil, AVal.int.injEq, Int.natCast_zero, List.replicate_zero, List.length_take, List.length_drop, AVal.own.injEq, reduceCtorEq, Int.reduceAdd] <;> omega)
        · (simp +decide -implicitDefEqProofs only [go_sem, mpE_nil, AVal.int.injEq, Int.natCast_zero, List.replicate_zero, List.length_take, List.length_drop, AVal.own.injEq, reduceCtorEq, Int.reduceAdd] <;> omega)
      replace h := bif_f h hc
      refine AWP.skip ?_
      refine qthen_normal ?_
      refine AWP.seq ?_
      refine AWP.region rfl ?_; intro K hK
      (try simp +decide -implicitDefEqProofs only [go_sem])
      intro hm
      refine hK _ _ ?_; clear hK K
      refine qthen_normal ?_
      refine AWP.cond (acond_split (fun hc => ?_) (fun hc => ?_))
      · replace h := bif_t h hc
        refine AWP.region rfl ?_; intro K hK
        (try simp +decide -implicitDefEqProofs only [go_sem])
        obtain ⟨x_7, hx_7, h⟩ := bindE h
        refine AIdx.of (f := encApiRide) (l := b) hx_7 ?_
        (try simp +decide -implicitDefEqProofs only [go_sem])
        obtain ⟨hk, h⟩ := chk_in h
        (repeat (refine ⟨by first | omega | (simp only [List.length_take, List.length_drop, List.length_append]; omega), ?_⟩)); try simp +decide -implicitDefEqProofs only [go_sem]
        refine hK _ _ ?_; clear hK K
        refine qblock_normal ?_
        refine qthen_normal ?_
        refine AWP.region rfl ?_; intro K hK
        (try simp +decide -implicitDefEqProofs only [go_sem])
        refine hK _ _ ?_; clear hK K
        refine qthen_normal ?_
        obtain rfl := some_eq h
        refine ⟨(m3, ((IntKind.i64.wrap (i1 + (1 : Int))), (out2 ++ [x_7])), (ver3 + 1)), cont_next hJ3, by dsimp only; omega, ?_, ?_⟩
        · (simp +decide -implicitDefEqProofs only [go_sem, mpE_nil, AVal.int.injEq, Int.natCast_zero, List.replicate_zero, List.length_take, List.length_drop, AVal.own.injEq, reduceCtorEq, Int.reduceAdd] <;> omega)
        · (simp +decide -implicitDefEqProofs only [go_sem, mpE_nil, AVal.int.injEq, Int.natCast_zero, List.replicate_zero, List.length_take, List.length_drop, AVal.own.injEq, reduceCtorEq, Int.reduceAdd] <;> omega)
      replace h := bif_f h hc
      refine AWP.skip ?_
      refine qblock_normal ?_
      refine qthen_normal ?_
      refine AWP.region rfl ?_; intro K hK
      (try simp +decide -implicitDefEqProofs only [go_sem])
      refine hK _ _ ?_; clear hK K
      refine qthen_normal ?_
      obtain rfl := some_eq h
      refine ⟨(m3, ((IntKind.i64.wrap (i1 + (1 : Int))), out2), ver3), cont_next hJ3, by dsimp only; omega, ?_, ?_⟩
      · (simp +decide -implicitDefEqProofs only [go_sem, mpE_nil, AVal.int.injEq, Int.natCast_zero, List.replicate_zero, List.length_take, List.length_drop, AVal.own.injEq, reduceCtorEq, Int.reduceAdd] <;> omega)
      · (simp +decide -implicitDefEqProofs only [go_sem, mpE_nil, AVal.int.injEq, Int.natCast_zero, List.replicate_zero, List.length_take, List.length_drop, AVal.own.injEq, reduceCtorEq, Int.reduceAdd] <;> omega)
    replace h := bif_f h hc
    refine AWP.exit ?_
    refine qthen_exit ?_
    refine qthen_exit ?_
    obtain rfl := some_eq h
    obtain rfl := cont_ret hJ3
    replace h := on_ret hO3
    refine qblock_same ?_
    refine qthen_normal ?_
    refine AWP.seq ?_
    refine AWP.region rfl ?_; intro K hK
    (try simp +decide -implicitDefEqProofs only [go_sem])
    refine hK _ _ ?_; clear hK K
    refine qthen_normal ?_
    refine AWP.ret ?_
    obtain rfl := some_eq h
    simp +decide -implicitDefEqProofs only [go_sem, mpE_nil, AVal.int.injEq, Int.natCast_zero, List.replicate_zero, List.length_take, List.length_drop, AVal.own.injEq, reduceCtorEq, Int.reduceAdd, nle2, nle1, nle0, nleA, nleL, Try.results23]
  · replace h := bif_t h hc
    (try simp +decide -implicitDefEqProofs only [go_sem, hc, Bool.not_false])
    refine hK _ _ ?_; clear hK K
    refine qthen_normal ?_
    refine AWP.cond (acond_split (fun hc => ?_) (fun hc => ?_))
    · replace h := bif_t h hc
      refine AWP.skip ?_
      refine qthen_normal ?_
      refine AWP.seq ?_
      refine AWP.block ?_
      refine AWP.seq ?_
      refine AWP.seq ?_
      refine AWP.region rfl ?_; intro K hK
      (try simp +decide -implicitDefEqProofs only [go_sem])
      intro hm
      refine hK _ _ ?_; clear hK K
      refine qthen_normal ?_
      refine AWP.cond (acond_split (fun hc => ?_) (fun hc => ?_))
      · replace h := bif_t h hc
        refine AWP.region rfl ?_; intro K hK
        (try simp +decide -implicitDefEqProofs only [go_sem])
        obtain ⟨x_8, hx_8, h⟩ := bindE h
        refine AIdx.of (f := encApiRide) (l := a) hx_8 ?_
        (try simp +decide -implicitDefEqProofs only [go_sem])
        obtain ⟨hk, h⟩ := chk_in h
        (repeat (refine ⟨by first | omega | (simp only [List.length_take, List.length_drop, List.length_append]; omega), ?_⟩)); try simp +decide -implicitDefEqProofs only [go_sem]
        refine hK _ _ ?_; clear hK K
        refine qthen_normal ?_
        refine AWP.seq ?_
        refine AWP.region rfl ?_; intro K hK
        (try simp +decide -implicitDefEqProofs only [go_sem])
        intro hm
        refine hK _ _ ?_; clear hK K
        refine qthen_normal ?_
        refine AWP.cond (acond_split (fun hc => ?_) (fun hc => ?_))
        · replace h := bif_t h hc
          refine AWP.region rfl ?_; intro K hK
          (try simp +decide -implicitDefEqProofs only [go_sem])
          obtain ⟨x_9, hx_9, h⟩ := bindE h
          refine AIdx.of (f := encApiRide) (l := b) hx_9 ?_
          (try simp +decide -implicitDefEqProofs only [go_sem])
          obtain ⟨hk, h⟩ := chk_in h
          (repeat (refine ⟨by first | omega | (simp only [List.length_take, List.length_drop, List.length_append]; omega), ?_⟩)); try simp +decide -implicitDefEqProofs only [go_sem]
          refine hK _ _ ?_; clear hK K
          refine qblock_normal ?_
          refine qthen_normal ?_
          refine AWP.region rfl ?_; intro K hK
          (try simp +decide -implicitDefEqProofs only [go_sem])
          refine hK _ _ ?_; clear hK K
          refine qthen_normal ?_
          obtain rfl := some_eq h
          refine ⟨(m3, ((IntKind.i64.wrap (i1 + (1 : Int))), ((out2 ++ [x_8]) ++ [x_9])), ((ver3 + 1) + 1)), cont_next hJ3, by dsimp only; omega, ?_, ?_⟩
          · (simp +decide -implicitDefEqProofs only [go_sem, mpE_nil, AVal.int.injEq, Int.natCast_zero, List.replicate_zero, List.length_take, List.length_drop, AVal.own.injEq, reduceCtorEq, Int.reduceAdd] <;> omega)
          · (simp +decide -implicitDefEqProofs only [go_sem, mpE_nil, AVal.int.injEq, Int.natCast_zero, List.replicate_zero, List.length_take, List.length_drop, AVal.own.injEq, reduceCtorEq, Int.reduceAdd] <;> omega)
        replace h := bif_f h hc
        refine AWP.skip ?_
        refine qblock_normal ?_
        refine qthen_normal ?_
        refine AWP.region rfl ?_; intro K hK
        (try simp +decide -implicitDefEqProofs only [go_sem])
        refine hK _ _ ?_; clear hK K
        refine qthen_normal ?_
        obtain rfl := some_eq h
        refine ⟨(m3, ((IntKind.i64.wrap (i1 + (1 : Int))), (out2 ++ [x_8])), (ver3 + 1)), cont_next hJ3, by dsimp only; omega, ?_, ?_⟩
        · (simp +decide -implicitDefEqProofs only [go_sem, mpE_nil, AVal.int.injEq, Int.natCast_zero, List.replicate_zero, List.length_take, List.length_drop, AVal.own.injEq, reduceCtorEq, Int.reduceAdd] <;> omega)
        · (simp +decide -implicitDefEqProofs only [go_sem, mpE_nil, AVal.int.injEq, Int.natCast_zero, List.replicate_zero, List.length_take, List.length_drop, AVal.own.injEq, reduceCtorEq, Int.reduceAdd] <;> omega)
      replace h := bif_f h hc
      refine AWP.skip ?_
      refine qthen_normal ?_
      refine AWP.seq ?_
      refine AWP.region rfl ?_; intro K hK
      (try simp +decide -implicitDefEqProofs only [go_sem])
      intro hm
      refine hK _ _ ?_; clear hK K
      refine qthen_normal ?_
      refine AWP.cond (acond_split (fun hc => ?_) (fun hc => ?_))
      · replace h := bif_t h hc
        refine AWP.region rfl ?_; intro K hK
        (try simp +decide -implicitDefEqProofs only [go_sem])
        obtain ⟨x_10, hx_10, h⟩ := bindE h
        refine AIdx.of (f := encApiRide) (l := b) hx_10 ?_
        (try simp +decide -implicitDefEqProofs only [go_sem])
        obtain ⟨hk, h⟩ := chk_in h
        (repeat (refine ⟨by first | omega | (simp only [List.length_take, List.length_drop, List.length_append]; omega), ?_⟩)); try simp +decide -implicitDefEqProofs only [go_sem]
        refine hK _ _ ?_; clear hK K
        refine qblock_normal ?_
        refine qthen_normal ?_
        refine AWP.region rfl ?_; intro K hK
        (try simp +decide -implicitDefEqProofs only [go_sem])
        refine hK _ _ ?_; clear hK K
        refine qthen_normal ?_
        obtain rfl := some_eq h
        refine ⟨(m3, ((IntKind.i64.wrap (i1 + (1 : Int))), (out2 ++ [x_10])), (ver3 + 1)), cont_next hJ3, by dsimp only; omega, ?_, ?_⟩
        · (simp +decide -implicitDefEqProofs only [go_sem, mpE_nil, AVal.int.injEq, Int.natCast_zero, List.replicate_zero, List.length_take, List.length_drop, AVal.own.injEq, reduceCtorEq, Int.reduceAdd] <;> omega)
        · (simp +decide -implicitDefEqProofs only [go_sem, mpE_nil, AVal.int.injEq, Int.natCast_zero, List.replicate_zero, List.length_take, List.length_drop, AVal.own.injEq, reduceCtorEq, Int.reduceAdd] <;> omega)
      replace h := bif_f h hc
      refine AWP.skip ?_
      refine qblock_normal ?_
      refine qthen_normal ?_
      refine AWP.region rfl ?_; intro K hK
      (try simp +decide -implicitDefEqProofs only [go_sem])
      refine hK _ _ ?_; clear hK K
      refine qthen_normal ?_
      obtain rfl := some_eq h
      refine ⟨(m3, ((IntKind.i64.wrap (i1 + (1 : Int))), out2), ver3), cont_next hJ3, by dsimp only; omega, ?_, ?_⟩
      · (simp +decide -implicitDefEqProofs only [go_sem, mpE_nil, AVal.int.injEq, Int.natCast_zero, List.replicate_zero, List.length_take, List.length_drop, AVal.own.injEq, reduceCtorEq, Int.reduceAdd] <;> omega)
      · (simp +decide -implicitDefEqProofs only [go_sem, mpE_nil, AVal.int.injEq, Int.natCast_zero, List.replicate_zero, List.length_take, List.length_drop, AVal.own.injEq, reduceCtorEq, Int.reduceAdd] <;> omega)
    replace h := bif_f h hc
    refine AWP.exit ?_
    refine qthen_exit ?_
    refine qthen_exit ?_
    obtain rfl := some_eq h
    obtain rfl := cont_ret hJ3
    replace h := on_ret hO3
    refine qblock_same ?_
    refine qthen_normal ?_
    refine AWP.seq ?_
    refine AWP.region rfl ?_; intro K hK
    (try simp +decide -implicitDefEqProofs only [go_sem])
    refine hK _ _ ?_; clear hK K
    refine qthen_normal ?_
    refine AWP.ret ?_
    obtain rfl := some_eq h
    simp +decide -implicitDefEqProofs only [go_sem, mpE_nil, AVal.int.injEq, Int.natCast_zero, List.replicate_zero, List.length_take, List.length_drop, AVal.own.injEq, reduceCtorEq, Int.reduceAdd, nle2, nle1, nle0, nleA, nleL, Try.results23]
theorem law32_mixed_spec (a : List ApiRide) (b : List ApiRide) {r : (List ApiRide)} (h : law32_mixed a b = some r) : PureFn Try.prog 23 [.sl 7 (a.map encApiRide), .sl 7 (b.map encApiRide)] (· = .sl 7 (r.map encApiRide)) := (law32_mixed_fresh a b h).pure

def law32_FraudHonest (m : ApiMap) (a : List Skilaw32Leg) (b : List Skilaw32Leg) : Option (Bool) :=
  (law32_alive).bind fun y1 => (bif (!y1) then some false else (ref10_Right m).bind fun y2 => (bif (decide (y2 ≠ (0 : Int))) then some true else (bif (decide (((m.Lifts.length : Nat) : Int) = (0 : Int))) then some true else (bif (decide ((20 : Int) < ((a.length : Nat) : Int))) then some true else (bif (decide ((20 : Int) < ((b.length : Nat) : Int))) then some true else (law32_rides m (7 : Int) (500 : Int) a).bind fun y3 => (law32_rides m (8 : Int) (400 : Int) b).bind fun y4 => (bif (!y3.2) then some true else (bif (!y4.2) then some true else (law32_mixed y3.1 y4.1).bind fun y5 => (fraud_Impossible m y5).bind fun y6 => (bif (decide (((y6.length : Nat) : Int) = (0 : Int))) then (fraud_Clones y5).bind fun y7 => (bif (decide (((y7.length : Nat) : Int) = (0 : Int))) then (fraud_Suspects m y5).bind fun y8 => some (decide (((y8.length : Nat) : Int) = (0 : Int))) else some false) else some false))))))))

theorem law32_FraudHonest_spec (m : ApiMap) (a : List Skilaw32Leg) (b : List Skilaw32Leg) {r : Bool} (h : law32_FraudHonest m a b = some r) : PureFn Try.prog 7 [.agg (encApiMap m), .sl 2 (a.map encSkilaw32Leg), .sl 2 (b.map encSkilaw32Leg)] (· = .bool r) := by
  refine PureFn.nle (PureFn.intro Try.func7 rfl rfl (by show _ ≤ 72; simp) ?_)
  unfold law32_FraudHonest at h
  (try simp +decide -implicitDefEqProofs only [go_sem])
  refine AWP.seq ?_
  refine AWP.region rfl ?_; intro K hK
  (try simp +decide -implicitDefEqProofs only [go_sem])
  refine hK _ _ ?_; clear hK K
  refine qthen_normal ?_
  refine AWP.seq ?_
  refine AWP.seq ?_
  refine AWP.region rfl ?_; intro K hK
  (try simp +decide -implicitDefEqProofs only [go_sem])
  obtain ⟨y1, hy1, h⟩ := bindE h
  refine ACall.pure Try.call10 (law32_alive_spec hy1) rfl fun _ hr => ?_
  subst hr
  (try simp +decide -implicitDefEqProofs only [go_sem])
  refine hK _ _ ?_; clear hK K
  refine qthen_normal ?_
  refine AWP.cond (acond_split (fun hc => ?_) (fun hc => ?_))
  · replace h := bif_t h hc
    refine AWP.seq ?_
    refine AWP.region rfl ?_; intro K hK
    (try simp +decide -implicitDefEqProofs only [go_sem])
    refine hK _ _ ?_; clear hK K
    refine qthen_normal ?_
    refine AWP.ret ?_
    refine qthen_ret ?_
    obtain rfl := some_eq h
    simp +decide -implicitDefEqProofs only [go_sem, mpE_nil, AVal.int.injEq, Int.natCast_zero, List.replicate_zero, List.length_take, List.length_drop, AVal.own.injEq, reduceCtorEq, Int.reduceAdd, nle2, nle1, nle0, nleA, nleL, Try.results7]
  replace h := bif_f h hc
  refine AWP.skip ?_
  refine qthen_normal ?_
  refine AWP.seq ?_
  refine AWP.seq ?_
  refine AWP.region rfl ?_; intro K hK
  (try simp +decide -implicitDefEqProofs only [go_sem])
  obtain ⟨y2, hy2, h⟩ := bindE h
  refine ACall.pure Try.call11 (ref10_Right_spec m hy2) rfl fun _ hr => ?_
  subst hr
  (try simp +decide -implicitDefEqProofs only [go_sem])
  refine aguardK_split (fun hc => ?_) (fun hc => ?_)
  · replace h := bif_f h hc
    (try simp +decide -implicitDefEqProofs only [go_sem, hc])
    intro hm
    refine aguardK_split (fun hc => ?_) (fun hc => ?_)
    · replace h := bif_f h hc
      (try simp +decide -implicitDefEqProofs only [go_sem, hc])
      intro hm
      refine aguardK_split (fun hc => ?_) (fun hc => ?_)
      · replace h := bif_f h hc
        (try simp +decide -implicitDefEqProofs only [go_sem, hc])
        intro hm
        refine hK _ _ ?_; clear hK K
        refine qthen_normal ?_
        refine AWP.cond (acond_split (fun hc => ?_) (fun hc => ?_))
        · replace h := bif_t h hc
          refine AWP.seq ?_
          refine AWP.region rfl ?_; intro K hK
          (try simp +decide -implicitDefEqProofs only [go_sem])
          refine hK _ _ ?_; clear hK K
          refine qthen_normal ?_
          refine AWP.ret ?_
          refine qthen_ret ?_
          obtain rfl := some_eq h
          simp +decide -implicitDefEqProofs only [go_sem, mpE_nil, AVal.int.injEq, Int.natCast_zero, List.replicate_zero, List.length_take, List.length_drop, AVal.own.injEq, reduceCtorEq, Int.reduceAdd, nle2, nle1, nle0, nleA, nleL, Try.results7]
        replace h := bif_f h hc
        refine AWP.skip ?_
        refine qthen_normal ?_
        refine AWP.seq ?_
        refine AWP.region rfl ?_; intro K hK
        (try simp +decide -implicitDefEqProofs only [go_sem])
        obtain ⟨y3, hy3, h⟩ := bindE h
        refine ACall.pure Try.call22 (law32_rides_spec m (7 : Int) (500 : Int) a hy3) rfl fun _ hr => ?_
        subst hr
        (try simp +decide -implicitDefEqProofs only [go_sem])
        refine hK _ _ ?_; clear hK K
        refine qthen_normal ?_
        refine AWP.seq ?_
        refine AWP.region rfl ?_; intro K hK
        (try simp +decide -implicitDefEqProofs only [go_sem])
        obtain ⟨y4, hy4, h⟩ := bindE h
        refine ACall.pure Try.call22 (law32_rides_spec m (8 : Int) (400 : Int) b hy4) rfl fun _ hr => ?_
        subst hr
        (try simp +decide -implicitDefEqProofs only [go_sem])
        refine hK _ _ ?_; clear hK K
        refine qthen_normal ?_
        refine AWP.seq ?_
        refine AWP.seq ?_
        refine AWP.region rfl ?_; intro K hK
        (try simp +decide -implicitDefEqProofs only [go_sem])
        refine aguardK_split (fun hc => ?_) (fun hc => ?_)
        · replace h := bif_f h hc
          (try simp +decide -implicitDefEqProofs only [go_sem, hc])
          refine hK _ _ ?_; clear hK K
          refine qthen_normal ?_
          refine AWP.cond (acond_split (fun hc => ?_) (fun hc => ?_))
          · replace h := bif_t h hc
            refine AWP.seq ?_
            refine AWP.region rfl ?_; intro K hK
            (try simp +decide -implicitDefEqProofs only [go_sem])
            refine hK _ _ ?_; clear hK K
            refine qthen_normal ?_
            refine AWP.ret ?_
            refine qthen_ret ?_
            obtain rfl := some_eq h
            simp +decide -implicitDefEqProofs only [go_sem, mpE_nil, AVal.int.injEq, Int.natCast_zero, List.replicate_zero, List.length_take, List.length_drop, AVal.own.injEq, reduceCtorEq, Int.reduceAdd, nle2, nle1, nle0, nleA, nleL, Try.results7]
          replace h := bif_f h hc
          refine AWP.skip ?_
          refine qthen_normal ?_
          refine AWP.seq ?_
          refine AWP.region rfl ?_; intro K hK
          (try simp +decide -implicitDefEqProofs only [go_sem])
          obtain ⟨y5, hy5, h⟩ := bindE h
          refine ACall.pure Try.call23 (law32_mixed_spec y3.1 y4.1 hy5) rfl fun _ hr => ?_
          subst hr
          (try simp +decide -implicitDefEqProofs only [go_sem])
          refine hK _ _ ?_; clear hK K
          refine qthen_normal ?_
          refine AWP.seq ?_
          refine AWP.region rfl ?_; intro K hK
          (try simp +decide -implicitDefEqProofs only [go_sem])
          obtain ⟨y6, hy6, h⟩ := bindE h
          refine ACall.pure Try.call15 (fraud_Impossible_spec m y5 hy6) rfl fun _ hr => ?_
          subst hr
          (try simp +decide -implicitDefEqProofs only [go_sem])
          intro hm
          refine aguardK_split (fun hc => ?_) (fun hc => ?_)
          · replace h := bif_t h hc
            (try simp +decide -implicitDefEqProofs only [go_sem, hc])
            obtain ⟨y7, hy7, h⟩ := bindE h
            refine ACall.pure Try.call17 (fraud_Clones_spec y5 hy7) rfl fun _ hr => ?_
            subst hr
            (try simp +decide -implicitDefEqProofs only [go_sem])
            intro hm
            refine aguardK_split (fun hc => ?_) (fun hc => ?_)
            · replace h := bif_t h hc
              (try simp +decide -implicitDefEqProofs only [go_sem, hc])
              obtain ⟨y8, hy8, h⟩ := bindE h
              refine ACall.pure Try.call20 (fraud_Suspects_spec m y5 hy8) rfl fun _ hr => ?_
              subst hr
              (try simp +decide -implicitDefEqProofs only [go_sem])
              intro hm
              refine hK _ _ ?_; clear hK K
              refine qthen_normal ?_
              refine AWP.ret ?_
              obtain rfl := some_eq h
              simp +decide -implicitDefEqProofs only [go_sem, mpE_nil, AVal.int.injEq, Int.natCast_zero, List.replicate_zero, List.length_take, List.length_drop, AVal.own.injEq, reduceCtorEq, Int.reduceAdd, nle2, nle1, nle0, nleA, nleL, Try.results7]
            · replace h := bif_f h hc
              (try simp +decide -implicitDefEqProofs only [go_sem, hc, Bool.not_true])
              refine hK _ _ ?_; clear hK K
              refine qthen_normal ?_
              refine AWP.ret ?_
              obtain rfl := some_eq h
              simp +decide -implicitDefEqProofs only [go_sem, mpE_nil, AVal.int.injEq, Int.natCast_zero, List.replicate_zero, List.length_take, List.length_drop, AVal.own.injEq, reduceCtorEq, Int.reduceAdd, nle2, nle1, nle0, nleA, nleL, Try.results7]
          · replace h := bif_f h hc
            (try simp +decide -implicitDefEqProofs only [go_sem, hc, Bool.not_true])
            refine hK _ _ ?_; clear hK K
            refine qthen_normal ?_
            refine AWP.ret ?_
            obtain rfl := some_eq h
            simp +decide -implicitDefEqProofs only [go_sem, mpE_nil, AVal.int.injEq, Int.natCast_zero, List.replicate_zero, List.length_take, List.length_drop, AVal.own.injEq, reduceCtorEq, Int.reduceAdd, nle2, nle1, nle0, nleA, nleL, Try.results7]
        · replace h := bif_t h hc
          (try simp +decide -implicitDefEqProofs only [go_sem, hc, Bool.not_false])
          refine hK _ _ ?_; clear hK K
          refine qthen_normal ?_
          refine AWP.cond (acond_true ?_)
          refine AWP.seq ?_
          refine AWP.region rfl ?_; intro K hK
          (try simp +decide -implicitDefEqProofs only [go_sem])
          refine hK _ _ ?_; clear hK K
          refine qthen_normal ?_
          refine AWP.ret ?_
          refine qthen_ret ?_
          obtain rfl := some_eq h
          simp +decide -implicitDefEqProofs only [go_sem, mpE_nil, AVal.int.injEq, Int.natCast_zero, List.replicate_zero, List.length_take, List.length_drop, AVal.own.injEq, reduceCtorEq, Int.reduceAdd, nle2, nle1, nle0, nleA, nleL, Try.results7]
      · replace h := bif_t h hc
        (try simp +decide -implicitDefEqProofs only [go_sem, hc, Bool.not_false])
        refine hK _ _ ?_; clear hK K
        refine qthen_normal ?_
        refine AWP.cond (acond_true ?_)
        refine AWP.seq ?_
        refine AWP.region rfl ?_; intro K hK
        (try simp +decide -implicitDefEqProofs only [go_sem])
        refine hK _ _ ?_; clear hK K
        refine qthen_normal ?_
        refine AWP.ret ?_
        refine qthen_ret ?_
        obtain rfl := some_eq h
        simp +decide -implicitDefEqProofs only [go_sem, mpE_nil, AVal.int.injEq, Int.natCast_zero, List.replicate_zero, List.length_take, List.length_drop, AVal.own.injEq, reduceCtorEq, Int.reduceAdd, nle2, nle1, nle0, nleA, nleL, Try.results7]
    · replace h := bif_t h hc
      (try simp +decide -implicitDefEqProofs only [go_sem, hc, Bool.not_false])
      refine hK _ _ ?_; clear hK K
      refine qthen_normal ?_
      refine AWP.cond (acond_true ?_)
      refine AWP.seq ?_
      refine AWP.region rfl ?_; intro K hK
      (try simp +decide -implicitDefEqProofs only [go_sem])
      refine hK _ _ ?_; clear hK K
      refine qthen_normal ?_
      refine AWP.ret ?_
      refine qthen_ret ?_
      obtain rfl := some_eq h
      simp +decide -implicitDefEqProofs only [go_sem, mpE_nil, AVal.int.injEq, Int.natCast_zero, List.replicate_zero, List.length_take, List.length_drop, AVal.own.injEq, reduceCtorEq, Int.reduceAdd, nle2, nle1, nle0, nleA, nleL, Try.results7]
  · replace h := bif_t h hc
    (try simp +decide -implicitDefEqProofs only [go_sem, hc, Bool.not_false])
    refine hK _ _ ?_; clear hK K
    refine qthen_normal ?_
    refine AWP.cond (acond_true ?_)
    refine AWP.seq ?_
    refine AWP.region rfl ?_; intro K hK
    (try simp +decide -implicitDefEqProofs only [go_sem])
    refine hK _ _ ?_; clear hK K
    refine qthen_normal ?_
    refine AWP.ret ?_
    refine qthen_ret ?_
    obtain rfl := some_eq h
    simp +decide -implicitDefEqProofs only [go_sem, mpE_nil, AVal.int.injEq, Int.natCast_zero, List.replicate_zero, List.length_take, List.length_drop, AVal.own.injEq, reduceCtorEq, Int.reduceAdd, nle2, nle1, nle0, nleA, nleL, Try.results7]

def law32_FraudEarly_b1 (m : ApiMap) (a : List Skilaw32Leg) (at_ : Int) (x_5 : Skilaw32Leg) (sv : Int × (List ApiRide)) : Option (Out (Int × (List ApiRide)) (Bool)) :=
  (bif (decide (sv.1 < ((sv.2.length : Nat) : Int))) then (idxL sv.2 sv.1).bind fun x_10 => some (Out.next ((IntKind.i64.wrap (sv.1 + (1 : Int))), (sv.2.set sv.1.toNat (ApiRide.mk x_10.Gate x_10.Seq x_10.Serial x_10.Counter x_10.Product x_10.Lift (IntKind.i64.wrap (x_10.At - (IntKind.i64.wrap ((1 : Int) + (IntKind.i64.wrap x_5.Wait))))))))) else ((fraud_Impossible m sv.2).bind fun y12 => (fraud_Suspects m sv.2).bind fun y13 => (bif (decide (((y12.length : Nat) : Int) = (1 : Int))) then (idxL y12 (0 : Int)).bind fun x_14 => (bif (decide (x_14.First = (IntKind.i64.wrap ((IntKind.i64.wrap ((1 : Int) + (Int.tmod (IntKind.i64.wrap at_) (IntKind.i64.wrap (((a.length : Nat) : Int) - (1 : Int)))))) - (1 : Int))))) then (bif (decide (x_14.Second = (IntKind.i64.wrap ((1 : Int) + (Int.tmod (IntKind.i64.wrap at_) (IntKind.i64.wrap (((a.length : Nat) : Int) - (1 : Int)))))))) then (bif (decide (((y13.length : Nat) : Int) = (1 : Int))) then (idxL y13 (0 : Int)).bind fun x_15 => some (decide (x_15 = (7 : Int))) else some false) else some false) else some false) else some false)).bind fun q15 => some (Out.ret q15))

def law32_FraudEarly (m : ApiMap) (a : List Skilaw32Leg) (at_ : Int) : Option (Bool) :=
  (law32_alive).bind fun y1 => (bif (!y1) then some false else (ref10_Right m).bind fun y2 => (bif (decide (y2 ≠ (0 : Int))) then some true else (bif (decide (((m.Lifts.length : Nat) : Int) = (0 : Int))) then some true else (bif (decide ((20 : Int) < ((a.length : Nat) : Int))) then some true else (bif (decide (((a.length : Nat) : Int) < (2 : Int))) then some true else (law32_rides m (7 : Int) (500 : Int) a).bind fun y3 => (bif (!y3.2) then some true else nz (IntKind.i64.wrap (((a.length : Nat) : Int) - (1 : Int))) ((idxL a (IntKind.i64.wrap ((1 : Int) + (Int.tmod (IntKind.i64.wrap at_) (IntKind.i64.wrap (((a.length : Nat) : Int) - (1 : Int))))))).bind fun x_5 => (whileN (law32_FraudEarly_b1 m a at_ x_5) fuel ((IntKind.i64.wrap ((1 : Int) + (Int.tmod (IntKind.i64.wrap at_) (IntKind.i64.wrap (((a.length : Nat) : Int) - (1 : Int)))))), y3.1)).bind fun o8 => o8.on fun _ => none)))))))

theorem law32_FraudEarly_spec (m : ApiMap) (a : List Skilaw32Leg) (at_ : Int) {r : Bool} (h : law32_FraudEarly m a at_ = some r) : PureFn Try.prog 8 [.agg (encApiMap m), .sl 2 (a.map encSkilaw32Leg), .int .u8 at_] (· = .bool r) := by
  refine PureFn.nle (PureFn.intro Try.func8 rfl rfl (by show _ ≤ 112; simp) ?_)
  unfold law32_FraudEarly at h
  (try simp +decide -implicitDefEqProofs only [go_sem])
  refine AWP.seq ?_
  refine AWP.region rfl ?_; intro K hK
  (try simp +decide -implicitDefEqProofs only [go_sem])
  refine hK _ _ ?_; clear hK K
  refine qthen_normal ?_
  refine AWP.seq ?_
  refine AWP.seq ?_
  refine AWP.region rfl ?_; intro K hK
  (try simp +decide -implicitDefEqProofs only [go_sem])
  obtain ⟨y1, hy1, h⟩ := bindE h
  refine ACall.pure Try.call10 (law32_alive_spec hy1) rfl fun _ hr => ?_
  subst hr
  (try simp +decide -implicitDefEqProofs only [go_sem])
  refine hK _ _ ?_; clear hK K
  refine qthen_normal ?_
  refine AWP.cond (acond_split (fun hc => ?_) (fun hc => ?_))
  · replace h := bif_t h hc
    refine AWP.seq ?_
    refine AWP.region rfl ?_; intro K hK
    (try simp +decide -implicitDefEqProofs only [go_sem])
    refine hK _ _ ?_; clear hK K
    refine qthen_normal ?_
    refine AWP.ret ?_
    refine qthen_ret ?_
    obtain rfl := some_eq h
    simp +decide -implicitDefEqProofs only [go_sem, mpE_nil, AVal.int.injEq, Int.natCast_zero, List.replicate_zero, List.length_take, List.length_drop, AVal.own.injEq, reduceCtorEq, Int.reduceAdd, nle2, nle1, nle0, nleA, nleL, Try.results8]
  replace h := bif_f h hc
  refine AWP.skip ?_
  refine qthen_normal ?_
  refine AWP.seq ?_
  refine AWP.seq ?_
  refine AWP.region rfl ?_; intro K hK
  (try simp +decide -implicitDefEqProofs only [go_sem])
  obtain ⟨y2, hy2, h⟩ := bindE h
  refine ACall.pure Try.call11 (ref10_Right_spec m hy2) rfl fun _ hr => ?_
  subst hr
  (try simp +decide -implicitDefEqProofs only [go_sem])
  refine aguardK_split (fun hc => ?_) (fun hc => ?_)
  · replace h := bif_f h hc
    (try simp +decide -implicitDefEqProofs only [go_sem, hc])
    intro hm
    refine aguardK_split (fun hc => ?_) (fun hc => ?_)
    · replace h := bif_f h hc
      (try simp +decide -implicitDefEqProofs only [go_sem, hc])
      intro hm
      refine aguardK_split (fun hc => ?_) (fun hc => ?_)
      · replace h := bif_f h hc
        (try simp +decide -implicitDefEqProofs only [go_sem, hc])
        intro hm
        refine hK _ _ ?_; clear hK K
        refine qthen_normal ?_
        refine AWP.cond (acond_split (fun hc => ?_) (fun hc => ?_))
        · replace h := bif_t h hc
          refine AWP.seq ?_
          refine AWP.region rfl ?_; intro K hK
          (try simp +decide -implicitDefEqProofs only [go_sem])
          refine hK _ _ ?_; clear hK K
          refine qthen_normal ?_
          refine AWP.ret ?_
          refine qthen_ret ?_
          obtain rfl := some_eq h
          simp +decide -implicitDefEqProofs only [go_sem, mpE_nil, AVal.int.injEq, Int.natCast_zero, List.replicate_zero, List.length_take, List.length_drop, AVal.own.injEq, reduceCtorEq, Int.reduceAdd, nle2, nle1, nle0, nleA, nleL, Try.results8]
        replace h := bif_f h hc
        refine AWP.skip ?_
        refine qthen_normal ?_
        refine AWP.seq ?_
        refine AWP.region rfl ?_; intro K hK
        (try simp +decide -implicitDefEqProofs only [go_sem])
        obtain ⟨y3, hy3, h⟩ := bindE h
        refine ACall.own Try.call22 (law32_rides_own m (7 : Int) (500 : Int) a hy3) rfl 1 rfl ?_
        rintro _ _ ⟨ver4, rfl, rfl⟩
        (try simp +decide -implicitDefEqProofs only [go_sem])
        refine hK _ _ ?_; clear hK K
        refine qthen_normal ?_
        refine AWP.seq ?_
        refine AWP.seq ?_
        refine AWP.region rfl ?_; intro K hK
        (try simp +decide -implicitDefEqProofs only [go_sem])
        refine hK _ _ ?_; clear hK K
        refine qthen_normal ?_
        refine AWP.cond (acond_split (fun hc => ?_) (fun hc => ?_))
        · replace h := bif_t h hc
          refine AWP.seq ?_
          refine AWP.region rfl ?_; intro K hK
          (try simp +decide -implicitDefEqProofs only [go_sem])
          refine hK _ _ ?_; clear hK K
          refine qthen_normal ?_
          refine AWP.ret ?_
          refine qthen_ret ?_
          obtain rfl := some_eq h
          simp +decide -implicitDefEqProofs only [go_sem, mpE_nil, AVal.int.injEq, Int.natCast_zero, List.replicate_zero, List.length_take, List.length_drop, AVal.own.injEq, reduceCtorEq, Int.reduceAdd, nle2, nle1, nle0, nleA, nleL, Try.results8]
        replace h := bif_f h hc
        refine AWP.skip ?_
        refine qthen_normal ?_
        refine AWP.seq ?_
        refine AWP.region rfl ?_; intro K hK
        (try simp +decide -implicitDefEqProofs only [go_sem])
        intro hm
        obtain ⟨hk, h⟩ := nz_in h
        refine ⟨hk, ?_⟩
        refine hK _ _ ?_; clear hK K
        refine qthen_normal ?_
        refine AWP.seq ?_
        refine AWP.region rfl ?_; intro K hK
        (try simp +decide -implicitDefEqProofs only [go_sem])
        obtain ⟨x_5, hx_5, h⟩ := bindE h
        refine AIdx.of (f := encSkilaw32Leg) (l := a) hx_5 ?_
        (try simp +decide -implicitDefEqProofs only [go_sem])
        refine hK _ _ ?_; clear hK K
        refine qthen_normal ?_
        refine AWP.seq ?_
        refine AWP.seq ?_
        refine AWP.region rfl ?_; intro K hK
        (try simp +decide -implicitDefEqProofs only [go_sem])
        refine hK _ _ ?_; clear hK K
        refine qthen_normal ?_
        refine AWP.block ?_
        obtain ⟨o8, hJ8, hO8⟩ := bindE h
        clear h
        refine AWP.loopW (ι := Nat × (Int × (List ApiRide)) × (Nat)) (fun zz => [(3, .ptr 0 0), (7, .own 1 zz.2.2 0 zz.2.1.2.length), (9, .int .i64 (IntKind.i64.wrap ((1 : Int) + (Int.tmod (IntKind.i64.wrap at_) (IntKind.i64.wrap (((a.length : Nat) : Int) - (1 : Int))))))), (10, .int .i64 (IntKind.i64.wrap ((1 : Int) + (IntKind.i64.wrap x_5.Wait)))), (11, .int .i64 zz.2.1.1)]) (fun zz => [.box [.sl 2 (m.Nodes.map encApiNode), .sl 8 (m.Lifts.map encApiLift), .sl 7 (m.Runs.map encApiRun), .sl 1 (m.Bases.map intC)], .row zz.2.2 7 (zz.2.1.2.map encApiRide)]) (fun zz => whileN (law32_FraudEarly_b1 m a at_ x_5) zz.1 zz.2.1 = some o8) (fun zz => zz.1) (fuel, ((IntKind.i64.wrap ((1 : Int) + (Int.tmod (IntKind.i64.wrap at_) (IntKind.i64.wrap (((a.length : Nat) : Int) - (1 : Int)))))), y3.1), ver4) hJ8 (by (simp +decide -implicitDefEqProofs only [go_sem, mpE_nil, AVal.int.injEq, Int.natCast_zero, List.replicate_zero, List.length_take, List.length_drop, AVal.own.injEq, reduceCtorEq, Int.reduceAdd] <;> omega)) (by (simp +decide -implicitDefEqProofs only [go_sem, mpE_nil, AVal.int.injEq, Int.natCast_zero, List.replicate_zero, List.length_take, List.length_drop, AVal.own.injEq, reduceCtorEq, Int.reduceAdd] <;> omega)) (fun x => ⟨rfl, rfl, rfl⟩) ?_
        clear hJ8
        rintro ⟨n8, ⟨k_6, x_7⟩, ver8⟩ hJ8
        dsimp only at hJ8 ⊢
        obtain ⟨m8, b8, rfl, h, hJ8⟩ := while_step hJ8
        unfold law32_FraudEarly_b1 at h; try dsimp only at h
        refine AWP.seq ?_
        refine AWP.seq ?_
        refine AWP.region rfl ?_; intro K hK
        (try simp +decide -implicitDefEqProofs only [go_sem])
        intro hm
        refine hK _ _ ?_; clear hK K
        refine qthen_normal ?_
        refine AWP.cond (acond_split (fun hc => ?_) (fun hc => ?_))
        · replace h := bif_t h hc
          refine AWP.skip ?_
          refine qthen_normal ?_
          refine AWP.seq ?_
          refine AWP.block ?_
          refine AWP.region rfl ?_; intro K hK
          (try simp +decide -implicitDefEqProofs only [go_sem])
          obtain ⟨x_10, hx_10, h⟩ := bindE h
          refine own_in hx_10 (by first | rfl | exact (sortI_len _).symm | (simp only [List.length_append, List.length_cons, List.length_nil, List.length_set, List.length_replicate] <;> omega)) ?_
          (try simp +decide -implicitDefEqProofs only [go_sem])
          refine AElem.of (f := encApiRide) (l := x_7) (n := k_6) hx_10 ?_
          (try simp +decide -implicitDefEqProofs only [go_sem])
          refine own_in hx_10 (by first | rfl | exact (sortI_len _).symm | (simp only [List.length_append, List.length_cons, List.length_nil, List.length_set, List.length_replicate] <;> omega)) ?_
          (try simp +decide -implicitDefEqProofs only [go_sem])
          refine AElem.of (f := encApiRide) (l := x_7) (n := k_6) hx_10 ?_
          have hs11 := idxL_set (y := (ApiRide.mk x_10.Gate x_10.Seq x_10.Serial x_10.Counter x_10.Product x_10.Lift (IntKind.i64.wrap (x_10.At - (IntKind.i64.wrap ((1 : Int) + (IntKind.i64.wrap x_5.Wait))))))) hx_10
          (try simp +decide -implicitDefEqProofs only [go_sem])
          refine hK _ _ ?_; clear hK K
          refine qblock_normal ?_
          refine qthen_normal ?_
          refine AWP.region rfl ?_; intro K hK
          (try simp +decide -implicitDefEqProofs only [go_sem])
          refine hK _ _ ?_; clear hK K
          refine qthen_normal ?_
          obtain rfl := some_eq h
          refine ⟨(m8, ((IntKind.i64.wrap (k_6 + (1 : Int))), (x_7.set k_6.toNat (ApiRide.mk x_10.Gate x_10.Seq x_10.Serial x_10.Counter x_10.Product x_10.Lift (IntKind.i64.wrap (x_10.At - (IntKind.i64.wrap ((1 : Int) + (IntKind.i64.wrap x_5.Wait)))))))), ver8), cont_next hJ8, by dsimp only; omega, ?_, ?_⟩
          · (simp +decide -implicitDefEqProofs only [go_sem, mpE_nil, AVal.int.injEq, Int.natCast_zero, List.replicate_zero, List.length_take, List.length_drop, AVal.own.injEq, reduceCtorEq, Int.reduceAdd] <;> omega)
          · (simp +decide -implicitDefEqProofs only [go_sem, mpE_nil, AVal.int.injEq, Int.natCast_zero, List.replicate_zero, List.length_take, List.length_drop, AVal.own.injEq, reduceCtorEq, Int.reduceAdd] <;> omega)
        replace h := bif_f h hc
        refine AWP.exit ?_
        refine qthen_exit ?_
        refine qthen_exit ?_
        obtain ⟨q15, hq, h⟩ := bindE h
        obtain rfl := some_eq h
        obtain rfl := cont_ret hJ8
        replace h := hq.trans (on_ret hO8)
        refine qblock_same ?_
        refine qthen_normal ?_
        refine AWP.seq ?_
        refine AWP.region rfl ?_; intro K hK
        (try simp +decide -implicitDefEqProofs only [go_sem])
        obtain ⟨y12, hy12, h⟩ := bindE h
        refine ACall.snapF Try.call15 (fraud_Impossible_fresh m x_7 hy12) (by simp +decide -implicitDefEqProofs only [go_sem]) fun _ hr => ?_
        subst hr
        (try simp +decide -implicitDefEqProofs only [go_sem])
        refine hK _ _ ?_; clear hK K
        refine qthen_normal ?_
        refine AWP.seq ?_
        refine AWP.region rfl ?_; intro K hK
        (try simp +decide -implicitDefEqProofs only [go_sem])
        obtain ⟨y13, hy13, h⟩ := bindE h
        refine ACall.snapF Try.call20 (fraud_Suspects_fresh m x_7 hy13) (by simp +decide -implicitDefEqProofs only [go_sem]) fun _ hr => ?_
        subst hr
        (try simp +decide -implicitDefEqProofs only [go_sem])
        refine hK _ _ ?_; clear hK K
        refine qthen_normal ?_
        refine AWP.seq ?_
        refine AWP.region rfl ?_; intro K hK
        (try simp +decide -implicitDefEqProofs only [go_sem])
        intro hm
        refine aguardK_split (fun hc => ?_) (fun hc => ?_)
        · replace h := bif_t h hc
          (try simp +decide -implicitDefEqProofs only [go_sem, hc])
          obtain ⟨x_14, hx_14, h⟩ := bindE h
          refine AIdx.of (f := encApiSuspicion) (l := y12) hx_14 ?_
          (try simp +decide -implicitDefEqProofs only [go_sem])
          refine aguardK_split (fun hc => ?_) (fun hc => ?_)
          · replace h := bif_t h hc
            (try simp +decide -implicitDefEqProofs only [go_sem, hc])
            refine AIdx.of (f := encApiSuspicion) (l := y12) hx_14 ?_
            (try simp +decide -implicitDefEqProofs only [go_sem])
            refine aguardK_split (fun hc => ?_) (fun hc => ?_)
            · replace h := bif_t h hc
              (try simp +decide -implicitDefEqProofs only [go_sem, hc])
              intro hm
              refine aguardK_split (fun hc => ?_) (fun hc => ?_)
              · replace h := bif_t h hc
                (try simp +decide -implicitDefEqProofs only [go_sem, hc])
                obtain ⟨x_15, hx_15, h⟩ := bindE h
                refine AIdx.of (f := intC) (l := y13) hx_15 ?_
                (try simp +decide -implicitDefEqProofs only [go_sem])
                refine hK _ _ ?_; clear hK K
                refine qthen_normal ?_
                refine AWP.ret ?_
                obtain rfl := some_eq h
                simp +decide -implicitDefEqProofs only [go_sem, mpE_nil, AVal.int.injEq, Int.natCast_zero, List.replicate_zero, List.length_take, List.length_drop, AVal.own.injEq, reduceCtorEq, Int.reduceAdd, nle2, nle1, nle0, nleA, nleL, Try.results8]
              · replace h := bif_f h hc
                (try simp +decide -implicitDefEqProofs only [go_sem, hc, Bool.not_true])
                refine hK _ _ ?_; clear hK K
                refine qthen_normal ?_
                refine AWP.ret ?_
                obtain rfl := some_eq h
                simp +decide -implicitDefEqProofs only [go_sem, mpE_nil, AVal.int.injEq, Int.natCast_zero, List.replicate_zero, List.length_take, List.length_drop, AVal.own.injEq, reduceCtorEq, Int.reduceAdd, nle2, nle1, nle0, nleA, nleL, Try.results8]
            · replace h := bif_f h hc
              (try simp +decide -implicitDefEqProofs only [go_sem, hc, Bool.not_true])
              refine hK _ _ ?_; clear hK K
              refine qthen_normal ?_
              refine AWP.ret ?_
              obtain rfl := some_eq h
              simp +decide -implicitDefEqProofs only [go_sem, mpE_nil, AVal.int.injEq, Int.natCast_zero, List.replicate_zero, List.length_take, List.length_drop, AVal.own.injEq, reduceCtorEq, Int.reduceAdd, nle2, nle1, nle0, nleA, nleL, Try.results8]
          · replace h := bif_f h hc
            (try simp +decide -implicitDefEqProofs only [go_sem, hc, Bool.not_true])
            refine hK _ _ ?_; clear hK K
            refine qthen_normal ?_
            refine AWP.ret ?_
            obtain rfl := some_eq h
            simp +decide -implicitDefEqProofs only [go_sem, mpE_nil, AVal.int.injEq, Int.natCast_zero, List.replicate_zero, List.length_take, List.length_drop, AVal.own.injEq, reduceCtorEq, Int.reduceAdd, nle2, nle1, nle0, nleA, nleL, Try.results8]
        · replace h := bif_f h hc
          (try simp +decide -implicitDefEqProofs only [go_sem, hc, Bool.not_true])
          refine hK _ _ ?_; clear hK K
          refine qthen_normal ?_
          refine AWP.ret ?_
          obtain rfl := some_eq h
          simp +decide -implicitDefEqProofs only [go_sem, mpE_nil, AVal.int.injEq, Int.natCast_zero, List.replicate_zero, List.length_take, List.length_drop, AVal.own.injEq, reduceCtorEq, Int.reduceAdd, nle2, nle1, nle0, nleA, nleL, Try.results8]
      · replace h := bif_t h hc
        (try simp +decide -implicitDefEqProofs only [go_sem, hc, Bool.not_false])
        refine hK _ _ ?_; clear hK K
        refine qthen_normal ?_
        refine AWP.cond (acond_true ?_)
        refine AWP.seq ?_
        refine AWP.region rfl ?_; intro K hK
        (try simp +decide -implicitDefEqProofs only [go_sem])
        refine hK _ _ ?_; clear hK K
        refine qthen_normal ?_
        refine AWP.ret ?_
        refine qthen_ret ?_
        obtain rfl := some_eq h
        simp +decide -implicitDefEqProofs only [go_sem, mpE_nil, AVal.int.injEq, Int.natCast_zero, List.replicate_zero, List.length_take, List.length_drop, AVal.own.injEq, reduceCtorEq, Int.reduceAdd, nle2, nle1, nle0, nleA, nleL, Try.results8]
    · replace h := bif_t h hc
      (try simp +decide -implicitDefEqProofs only [go_sem, hc, Bool.not_false])
      refine hK _ _ ?_; clear hK K
      refine qthen_normal ?_
      refine AWP.cond (acond_true ?_)
      refine AWP.seq ?_
      refine AWP.region rfl ?_; intro K hK
      (try simp +decide -implicitDefEqProofs only [go_sem])
      refine hK _ _ ?_; clear hK K
      refine qthen_normal ?_
      refine AWP.ret ?_
      refine qthen_ret ?_
      obtain rfl := some_eq h
      simp +decide -implicitDefEqProofs only [go_sem, mpE_nil, AVal.int.injEq, Int.natCast_zero, List.replicate_zero, List.length_take, List.length_drop, AVal.own.injEq, reduceCtorEq, Int.reduceAdd, nle2, nle1, nle0, nleA, nleL, Try.results8]
  · replace h := bif_t h hc
    (try simp +decide -implicitDefEqProofs only [go_sem, hc, Bool.not_false])
    refine hK _ _ ?_; clear hK K
    refine qthen_normal ?_
    refine AWP.cond (acond_true ?_)
    refine AWP.seq ?_
    refine AWP.region rfl ?_; intro K hK
    (try simp +decide -implicitDefEqProofs only [go_sem])
    refine hK _ _ ?_; clear hK K
    refine qthen_normal ?_
    refine AWP.ret ?_
    refine qthen_ret ?_
    obtain rfl := some_eq h
    simp +decide -implicitDefEqProofs only [go_sem, mpE_nil, AVal.int.injEq, Int.natCast_zero, List.replicate_zero, List.length_take, List.length_drop, AVal.own.injEq, reduceCtorEq, Int.reduceAdd, nle2, nle1, nle0, nleA, nleL, Try.results8]

def law32_FraudDetour (m : ApiMap) (a : Int) (b : Int) (c : Int) : Option (Bool) :=
  (law32_alive).bind fun y1 => (bif (!y1) then some false else (ref10_Right m).bind fun y2 => (bif (decide (y2 ≠ (0 : Int))) then some true else (fraud_Time m a c).bind fun y3 => (fraud_Time m c b).bind fun y4 => (bif (!y3.2) then some true else (bif (!y4.2) then some true else (fraud_Time m a b).bind fun y5 => (bif y5.2 then some (decide (y5.1 ≤ (IntKind.i64.wrap (y3.1 + y4.1)))) else some false)))))

theorem law32_FraudDetour_spec (m : ApiMap) (a : Int) (b : Int) (c : Int) {r : Bool} (h : law32_FraudDetour m a b c = some r) : PureFn Try.prog 9 [.agg (encApiMap m), .int .i64 a, .int .i64 b, .int .i64 c] (· = .bool r) := by
  refine PureFn.nle (PureFn.intro Try.func9 rfl rfl (by show _ ≤ 55; simp) ?_)
  unfold law32_FraudDetour at h
  (try simp +decide -implicitDefEqProofs only [go_sem])
  refine AWP.seq ?_
  refine AWP.region rfl ?_; intro K hK
  (try simp +decide -implicitDefEqProofs only [go_sem])
  refine hK _ _ ?_; clear hK K
  refine qthen_normal ?_
  refine AWP.seq ?_
  refine AWP.seq ?_
  refine AWP.region rfl ?_; intro K hK
  (try simp +decide -implicitDefEqProofs only [go_sem])
  obtain ⟨y1, hy1, h⟩ := bindE h
  refine ACall.pure Try.call10 (law32_alive_spec hy1) rfl fun _ hr => ?_
  subst hr
  (try simp +decide -implicitDefEqProofs only [go_sem])
  refine hK _ _ ?_; clear hK K
  refine qthen_normal ?_
  refine AWP.cond (acond_split (fun hc => ?_) (fun hc => ?_))
  · replace h := bif_t h hc
    refine AWP.seq ?_
    refine AWP.region rfl ?_; intro K hK
    (try simp +decide -implicitDefEqProofs only [go_sem])
    refine hK _ _ ?_; clear hK K
    refine qthen_normal ?_
    refine AWP.ret ?_
    refine qthen_ret ?_
    obtain rfl := some_eq h
    simp +decide -implicitDefEqProofs only [go_sem, mpE_nil, AVal.int.injEq, Int.natCast_zero, List.replicate_zero, List.length_take, List.length_drop, AVal.own.injEq, reduceCtorEq, Int.reduceAdd, nle2, nle1, nle0, nleA, nleL, Try.results9]
  replace h := bif_f h hc
  refine AWP.skip ?_
  refine qthen_normal ?_
  refine AWP.seq ?_
  refine AWP.seq ?_
  refine AWP.region rfl ?_; intro K hK
  (try simp +decide -implicitDefEqProofs only [go_sem])
  obtain ⟨y2, hy2, h⟩ := bindE h
  refine ACall.pure Try.call11 (ref10_Right_spec m hy2) rfl fun _ hr => ?_
  subst hr
  (try simp +decide -implicitDefEqProofs only [go_sem])
  refine hK _ _ ?_; clear hK K
  refine qthen_normal ?_
  refine AWP.cond (acond_split (fun hc => ?_) (fun hc => ?_))
  · replace h := bif_t h hc
    refine AWP.seq ?_
    refine AWP.region rfl ?_; intro K hK
    (try simp +decide -implicitDefEqProofs only [go_sem])
    refine hK _ _ ?_; clear hK K
    refine qthen_normal ?_
    refine AWP.ret ?_
    refine qthen_ret ?_
    obtain rfl := some_eq h
    simp +decide -implicitDefEqProofs only [go_sem, mpE_nil, AVal.int.injEq, Int.natCast_zero, List.replicate_zero, List.length_take, List.length_drop, AVal.own.injEq, reduceCtorEq, Int.reduceAdd, nle2, nle1, nle0, nleA, nleL, Try.results9]
  replace h := bif_f h hc
  refine AWP.skip ?_
  refine qthen_normal ?_
  refine AWP.seq ?_
  refine AWP.region rfl ?_; intro K hK
  (try simp +decide -implicitDefEqProofs only [go_sem])
  obtain ⟨y3, hy3, h⟩ := bindE h
  refine ACall.pure Try.call12 (fraud_Time_spec m a c hy3) rfl fun _ hr => ?_
  subst hr
  (try simp +decide -implicitDefEqProofs only [go_sem])
  refine hK _ _ ?_; clear hK K
  refine qthen_normal ?_
  refine AWP.seq ?_
  refine AWP.region rfl ?_; intro K hK
  (try simp +decide -implicitDefEqProofs only [go_sem])
  obtain ⟨y4, hy4, h⟩ := bindE h
  refine ACall.pure Try.call12 (fraud_Time_spec m c b hy4) rfl fun _ hr => ?_
  subst hr
  (try simp +decide -implicitDefEqProofs only [go_sem])
  refine hK _ _ ?_; clear hK K
  refine qthen_normal ?_
  refine AWP.seq ?_
  refine AWP.seq ?_
  refine AWP.region rfl ?_; intro K hK
  (try simp +decide -implicitDefEqProofs only [go_sem])
  refine aguardK_split (fun hc => ?_) (fun hc => ?_)
  · replace h := bif_f h hc
    (try simp +decide -implicitDefEqProofs only [go_sem, hc])
    refine hK _ _ ?_; clear hK K
    refine qthen_normal ?_
    refine AWP.cond (acond_split (fun hc => ?_) (fun hc => ?_))
    · replace h := bif_t h hc
      refine AWP.seq ?_
      refine AWP.region rfl ?_; intro K hK
      (try simp +decide -implicitDefEqProofs only [go_sem])
      refine hK _ _ ?_; clear hK K
      refine qthen_normal ?_
      refine AWP.ret ?_
      refine qthen_ret ?_
      obtain rfl := some_eq h
      simp +decide -implicitDefEqProofs only [go_sem, mpE_nil, AVal.int.injEq, Int.natCast_zero, List.replicate_zero, List.length_take, List.length_drop, AVal.own.injEq, reduceCtorEq, Int.reduceAdd, nle2, nle1, nle0, nleA, nleL, Try.results9]
    replace h := bif_f h hc
    refine AWP.skip ?_
    refine qthen_normal ?_
    refine AWP.seq ?_
    refine AWP.region rfl ?_; intro K hK
    (try simp +decide -implicitDefEqProofs only [go_sem])
    obtain ⟨y5, hy5, h⟩ := bindE h
    refine ACall.pure Try.call12 (fraud_Time_spec m a b hy5) rfl fun _ hr => ?_
    subst hr
    (try simp +decide -implicitDefEqProofs only [go_sem])
    refine hK _ _ ?_; clear hK K
    refine qthen_normal ?_
    refine AWP.seq ?_
    refine AWP.region rfl ?_; intro K hK
    (try simp +decide -implicitDefEqProofs only [go_sem])
    refine aguardK_split (fun hc => ?_) (fun hc => ?_)
    · replace h := bif_t h hc
      (try simp +decide -implicitDefEqProofs only [go_sem, hc])
      refine hK _ _ ?_; clear hK K
      refine qthen_normal ?_
      refine AWP.ret ?_
      obtain rfl := some_eq h
      simp +decide -implicitDefEqProofs only [go_sem, mpE_nil, AVal.int.injEq, Int.natCast_zero, List.replicate_zero, List.length_take, List.length_drop, AVal.own.injEq, reduceCtorEq, Int.reduceAdd, nle2, nle1, nle0, nleA, nleL, Try.results9]
    · replace h := bif_f h hc
      (try simp +decide -implicitDefEqProofs only [go_sem, hc, Bool.not_true])
      refine hK _ _ ?_; clear hK K
      refine qthen_normal ?_
      refine AWP.ret ?_
      obtain rfl := some_eq h
      simp +decide -implicitDefEqProofs only [go_sem, mpE_nil, AVal.int.injEq, Int.natCast_zero, List.replicate_zero, List.length_take, List.length_drop, AVal.own.injEq, reduceCtorEq, Int.reduceAdd, nle2, nle1, nle0, nleA, nleL, Try.results9]
  · replace h := bif_t h hc
    (try simp +decide -implicitDefEqProofs only [go_sem, hc, Bool.not_false])
    refine hK _ _ ?_; clear hK K
    refine qthen_normal ?_
    refine AWP.cond (acond_true ?_)
    refine AWP.seq ?_
    refine AWP.region rfl ?_; intro K hK
    (try simp +decide -implicitDefEqProofs only [go_sem])
    refine hK _ _ ?_; clear hK K
    refine qthen_normal ?_
    refine AWP.ret ?_
    refine qthen_ret ?_
    obtain rfl := some_eq h
    simp +decide -implicitDefEqProofs only [go_sem, mpE_nil, AVal.int.injEq, Int.natCast_zero, List.replicate_zero, List.length_take, List.length_drop, AVal.own.injEq, reduceCtorEq, Int.reduceAdd, nle2, nle1, nle0, nleA, nleL, Try.results9]

end
end Go.Proofs.Ytmfjcimogpmheaa
