/-
  What functions of the program compute, as plain Lean functions, and the walks that prove it; printed by a small program of our own (wip/walk.py).
-/
import Derived.Test.YtooopbnnhbacjaaW5
namespace Go.Proofs.Ytooopbnnhbacjaa
open Go Go.Ab
attribute [local irreducible] AWP ACall DCall PureFn Go.Ab.Sub alist dlist AIdx AElem ALook ANext
set_option maxRecDepth 100000
set_option maxHeartbeats 4000000
set_option linter.unusedSimpArgs false
set_option linter.unusedVariables false
noncomputable section
def slices_Clone_sapi_Swept_api_Swept (s_ : List ApiSwept) : Option (List ApiSwept) := chk s_.length (some s_)

theorem slices_Clone_sapi_Swept_api_Swept_own (s_ : List ApiSwept) {r : List ApiSwept} (h : slices_Clone_sapi_Swept_api_Swept s_ = some r) : OwnRow Try.prog 34 [.sl 4 (s_.map encApiSwept)] 4 (r.map encApiSwept) := by
  have hk := (chk_in h).1
  have hr : r = s_ := some_eq (chk_in h).2
  rw [hr]; clear hr h
  refine OwnRow.of ?_
  refine OwnFn.weak (R := fun q H => ∃ v rest, q = .own 0 v 0 (s_.map encApiSwept).length ∧ H = .row v 4 (s_.map encApiSwept) :: rest) (OwnFn.intro Try.func34 rfl rfl (by show _ ≤ 8; simp) ?_) (fun q H hq => ?_)
  · (try simp +decide -implicitDefEqProofs only [go_sem])
    refine AWP.seq ?_
    refine AWP.region rfl ?_; intro K hK
    (try simp +decide -implicitDefEqProofs only [go_sem])
    refine hK _ _ ?_; clear hK K
    refine qthen_normal ?_
    refine AWP.seq ?_
    refine AWP.seq ?_
    refine AWP.region rfl ?_; intro K hK
    (try simp +decide -implicitDefEqProofs only [go_sem])
    intro bnil hb
    (try simp +decide -implicitDefEqProofs only [go_sem])
    refine hK _ _ ?_; clear hK K
    refine qthen_normal ?_
    refine AWP.cond (acond_split (fun hc => ?_) (fun hc => ?_))
    · have hx0 : s_ = [] := Classical.byContradiction fun hne => by have := hb (by simpa using hne); simp [this] at hc
      subst hx0
      refine AWP.seq ?_
      refine AWP.region rfl ?_; intro K hK
      (try simp +decide -implicitDefEqProofs only [go_sem])
      refine hK _ _ ?_; clear hK K
      refine qthen_normal ?_
      refine AWP.ghost 2 4 rfl (by decide) ?_
      (try simp +decide -implicitDefEqProofs only [go_sem])
      refine AWP.ret ?_
      refine qthen_ret ?_
      (try simp +decide -implicitDefEqProofs only [go_sem, Try.results34])
      refine ⟨_, _, ?_, rfl⟩
      (try simp +decide -implicitDefEqProofs only [go_sem, List.length_map, List.length_append, List.length_cons, List.length_nil, List.length_set, List.length_replicate]); try rfl
    · clear hc
      refine AWP.skip ?_
      refine qthen_normal ?_
      refine AWP.seq ?_
      refine AWP.region rfl ?_; intro K hK
      (try simp +decide -implicitDefEqProofs only [go_sem])
      (repeat (refine ⟨by first | omega | (simp only [List.length_take, List.length_drop, List.length_append]; omega), ?_⟩)); try simp +decide -implicitDefEqProofs only [go_sem]
      refine hK _ _ ?_; clear hK K
      refine qthen_normal ?_
      refine AWP.ret ?_
      (try simp +decide -implicitDefEqProofs only [go_sem, Try.results34])
      refine ⟨_, _, ?_, rfl⟩
      (try simp +decide -implicitDefEqProofs only [go_sem, List.length_map, List.length_append, List.length_cons, List.length_nil, List.length_set, List.length_replicate]); try rfl
  · obtain ⟨v, rest, rfl, rfl⟩ := hq
    exact ⟨[.row v 4 (s_.map encApiSwept)], ⟨⟨rfl, rfl, rfl⟩, by cases rest <;> trivial⟩, rfl, rfl, ⟨v, rfl, rfl⟩⟩
theorem slices_Clone_sapi_Swept_api_Swept_fresh (s_ : List ApiSwept) {r : List ApiSwept} (h : slices_Clone_sapi_Swept_api_Swept s_ = some r) : FreshFn Try.prog 34 [.sl 4 (s_.map encApiSwept)] (· = .sl 4 (r.map encApiSwept)) := FreshFn.nle (OwnFn.fresh (OwnFn.mono (slices_Clone_sapi_Swept_api_Swept_own s_ h) fun q H => by rintro ⟨rfl, rfl⟩; simp +decide -implicitDefEqProofs only [go_sem, mpE_nil, AVal.int.injEq, Int.natCast_zero, List.replicate_zero, List.length_take, List.length_drop, AVal.own.injEq, reduceCtorEq, Int.reduceAdd, nle2, nle1, nle0, nleA, nleL, List.length_map]))
theorem slices_Clone_sapi_Swept_api_Swept_spec (s_ : List ApiSwept) {r : List ApiSwept} (h : slices_Clone_sapi_Swept_api_Swept s_ = some r) : PureFn Try.prog 34 [.sl 4 (s_.map encApiSwept)] (· = .sl 4 (r.map encApiSwept)) := (slices_Clone_sapi_Swept_api_Swept_fresh s_ h).pure

def sweep_sweptRight_b1 (m : ApiMap) (s_ : ApiSweep) (k2 : Nat) (x_4 : ApiSwept) (sv : (List Int)) : Option (Out ((List Int)) (Int)) :=
  (slices_Contains_sint_int s_.Runs x_4.Run).bind fun y5 => (bif (!y5) then some (Out.ret (8 : Int)) else (slices_Contains_sint_int sv x_4.Run).bind fun y6 => (bif y6 then some (Out.ret (7 : Int)) else (bif (decide (x_4.By < (1 : Int))) then some (Out.ret (2 : Int)) else (bif (decide ((9999 : Int) < x_4.By)) then some (Out.ret (2 : Int)) else (bif (decide (x_4.Found < (0 : Int))) then some (Out.ret (2 : Int)) else (bif (decide ((1000 : Int) < x_4.Found)) then some (Out.ret (2 : Int)) else (bif (decide (x_4.At < s_.Begun)) then some (Out.ret (2 : Int)) else (bif (decide ((20000000 : Int) < x_4.At)) then some (Out.ret (2 : Int)) else (bif (decide ((0 : Int) < ((k2 : Nat) : Int))) then (idxL s_.Swept (IntKind.i64.wrap (((k2 : Nat) : Int) - (1 : Int)))).bind fun x_7 => (bif (decide (x_4.At < x_7.At)) then some (Out.ret (11 : Int)) else (sweep_possible m s_ sv x_4.Run).bind fun y8 => (bif (!y8) then some (Out.ret (11 : Int)) else chk (sv.length + 1) (some (Out.next (sv ++ [x_4.Run]))))) else (sweep_possible m s_ sv x_4.Run).bind fun y9 => (bif (!y9) then some (Out.ret (11 : Int)) else chk (sv.length + 1) (some (Out.next (sv ++ [x_4.Run])))))))))))))

def sweep_sweptRight (m : ApiMap) (s_ : ApiSweep) : Option (Int) :=
  (forIx (sweep_sweptRight_b1 m s_) 0 s_.Swept []).bind fun o2 => o2.on fun s2 => some (0 : Int)

theorem sweep_sweptRight_spec (m : ApiMap) (s_ : ApiSweep) {r : Int} (h : sweep_sweptRight m s_ = some r) : PureFn Try.prog 48 [.agg (encApiMap m), .agg (encApiSweep s_)] (· = .int .i64 r) := by
  refine PureFn.nle (PureFn.intro Try.func48 rfl rfl (by show _ ≤ 85; simp) ?_)
  unfold sweep_sweptRight at h
  (try simp +decide -implicitDefEqProofs only [go_sem])
  refine AWP.seq ?_
  refine AWP.region rfl ?_; intro K hK
  (try simp +decide -implicitDefEqProofs only [go_sem])
  refine hK _ _ ?_; clear hK K
  refine qthen_normal ?_
  refine AWP.seq ?_
  refine AWP.region rfl ?_; intro K hK
  (try simp +decide -implicitDefEqProofs only [go_sem])
  refine hK _ _ ?_; clear hK K
  refine qthen_normal ?_
  refine AWP.seq ?_
  refine AWP.seq ?_
  refine AWP.region rfl ?_; intro K hK
  (try simp +decide -implicitDefEqProofs only [go_sem])
  intro hm
  refine hK _ _ ?_; clear hK K
  refine qthen_normal ?_
  refine AWP.block ?_
  refine AWP.ghost 5 1 rfl (by decide) ?_
  obtain ⟨o2, hJ2, hO2⟩ := bindE h
  clear h
  refine AWP.loopW (ι := Nat × ((List Int)) × (Nat)) (fun zz => [(2, .ptr 0 0), (3, .ptr 1 0), (5, .own 2 zz.2.2 0 zz.2.1.length), (9, .sl 4 (s_.Swept.map encApiSwept)), (10, .int .i64 ((s_.Swept.length : Nat) : Int)), (11, .int .i64 ((zz.1 : Nat) : Int))]) (fun zz => [.box [.sl 2 (m.Nodes.map encApiNode), .sl 8 (m.Lifts.map encApiLift), .sl 7 (m.Runs.map encApiRun), .sl 1 (m.Bases.map intC)], .box [.sl 1 (s_.Runs.map intC), .sl 4 (s_.Swept.map encApiSwept), .int .i64 s_.Begun], .row zz.2.2 1 (zz.2.1.map intC)]) (fun zz => zz.1 ≤ s_.Swept.length ∧ forIx (sweep_sweptRight_b1 m s_) zz.1 ((s_.Swept).drop zz.1) zz.2.1 = some o2) (fun zz => s_.Swept.length - zz.1) (0, [], 0) ⟨Nat.zero_le _, hJ2⟩ (by (simp +decide -implicitDefEqProofs only [go_sem, mpE_nil, AVal.int.injEq, Int.natCast_zero, List.replicate_zero, List.length_take, List.length_drop, AVal.own.injEq, reduceCtorEq, Int.reduceAdd] <;> omega)) (by (simp +decide -implicitDefEqProofs only [go_sem, mpE_nil, AVal.int.injEq, Int.natCast_zero, List.replicate_zero, List.length_take, List.length_drop, AVal.own.injEq, reduceCtorEq, Int.reduceAdd] <;> omega)) (fun x => ⟨rfl, rfl, rfl⟩) ?_
  clear hJ2
  rintro ⟨k2, done1, ver2⟩ ⟨hk2, hJ2⟩
  dsimp only at hk2 hJ2 ⊢
  refine AWP.seq ?_
  refine AWP.region rfl ?_; intro K hK
  (try simp +decide -implicitDefEqProofs only [go_sem])
  refine hK _ _ ?_; clear hK K
  refine qthen_normal ?_
  refine AWP.seq ?_
  refine AWP.cond (acond_split (fun hc => ?_) (fun hc => ?_))
  · have hlt2 : k2 < s_.Swept.length := by have := of_decide_eq_true hc; omega
    obtain ⟨x_4, b2, hx2_, h, hJ2⟩ := for_cons hJ2 hlt2
    have hx2 := idxL_nat hx2_
    have hw2 : IntKind.i64.wrap (((k2 : Nat) : Int) + 1) = (((k2 : Nat) : Int) + (1 : Int)) := by rw [wrap_i64] <;> omega
    unfold sweep_sweptRight_b1 at h; try dsimp only at h
    refine AWP.skip ?_
    refine qthen_normal ?_
    refine AWP.seq ?_
    refine AWP.block ?_
    refine AWP.seq ?_
    refine AWP.region rfl ?_; intro K hK
    (try simp +decide -implicitDefEqProofs only [go_sem])
    refine AIdx.of (f := encApiSwept) (l := s_.Swept) hx2 ?_
    (try simp +decide -implicitDefEqProofs only [go_sem])
    refine hK _ _ ?_; clear hK K
    refine qthen_normal ?_
    refine AWP.seq ?_
    refine AWP.seq ?_
    refine AWP.region rfl ?_; intro K hK
    (try simp +decide -implicitDefEqProofs only [go_sem])
    obtain ⟨y5, hy5, h⟩ := bindE h
    refine ACall.pure Try.call33 (slices_Contains_sint_int_spec s_.Runs x_4.Run hy5) rfl fun _ hr => ?_
    subst hr
    (try simp +decide -implicitDefEqProofs only [go_sem])
    refine hK _ _ ?_; clear hK K
    refine qthen_normal ?_
    refine AWP.cond (acond_split (fun hc => ?_) (fun hc => ?_))
    · replace h := bif_t h hc
      refine AWP.seq ?_
      refine AWP.region rfl ?_; intro K hK
      (try simp +decide -implicitDefEqProofs only [go_sem])
      refine hK _ _ ?_; clear hK K
      refine qthen_normal ?_
      refine AWP.ret ?_
      refine qthen_ret ?_
      refine qblock_ret ?_
      refine qthen_ret ?_
      refine qthen_ret ?_
      obtain rfl := some_eq h
      obtain rfl := cont_ret hJ2
      replace h := on_ret hO2
      refine qblock_ret ?_
      refine qthen_ret ?_
      obtain rfl := some_eq h
      simp +decide -implicitDefEqProofs only [go_sem, mpE_nil, AVal.int.injEq, Int.natCast_zero, List.replicate_zero, List.length_take, List.length_drop, AVal.own.injEq, reduceCtorEq, Int.reduceAdd, nle2, nle1, nle0, nleA, nleL, Try.results48]
    replace h := bif_f h hc
    refine AWP.skip ?_
    refine qthen_normal ?_
    refine AWP.seq ?_
    refine AWP.seq ?_
    refine AWP.region rfl ?_; intro K hK
    (try simp +decide -implicitDefEqProofs only [go_sem])
    obtain ⟨y6, hy6, h⟩ := bindE h
    refine ACall.snap Try.call33 (slices_Contains_sint_int_spec done1 x_4.Run hy6) (by simp +decide -implicitDefEqProofs only [go_sem]) (by rintro _ rfl; rfl) fun _ hr => ?_
    subst hr
    (try simp +decide -implicitDefEqProofs only [go_sem])
    refine hK _ _ ?_; clear hK K
    refine qthen_normal ?_
    refine AWP.cond (acond_split (fun hc => ?_) (fun hc => ?_))
    · replace h := bif_t h hc
      refine AWP.seq ?_
      refine AWP.region rfl ?_; intro K hK
      (try simp +decide -implicitDefEqProofs only [go_sem])
      refine hK _ _ ?_; clear hK K
      refine qthen_normal ?_
      refine AWP.ret ?_
      refine qthen_ret ?_
      refine qblock_ret ?_
      refine qthen_ret ?_
      refine qthen_ret ?_
      obtain rfl := some_eq h
      obtain rfl := cont_ret hJ2
      replace h := on_ret hO2
      refine qblock_ret ?_
      refine qthen_ret ?_
      obtain rfl := some_eq h
      simp +decide -implicitDefEqProofs only [go_sem, mpE_nil, AVal.int.injEq, Int.natCast_zero, List.replicate_zero, List.length_take, List.length_drop, AVal.own.injEq, reduceCtorEq, Int.reduceAdd, nle2, nle1, nle0, nleA, nleL, Try.results48]
    replace h := bif_f h hc
    refine AWP.skip ?_
    refine qthen_normal ?_
    refine AWP.seq ?_
    refine AWP.seq ?_
    refine AWP.region rfl ?_; intro K hK
    (try simp +decide -implicitDefEqProofs only [go_sem])
    refine aguardK_split (fun hc => ?_) (fun hc => ?_)
    · replace h := bif_f h hc
      (try simp +decide -implicitDefEqProofs only [go_sem, hc])
      refine aguardK_split (fun hc => ?_) (fun hc => ?_)
      · replace h := bif_f h hc
        (try simp +decide -implicitDefEqProofs only [go_sem, hc])
        refine aguardK_split (fun hc => ?_) (fun hc => ?_)
        · replace h := bif_f h hc
          (try simp +decide -implicitDefEqProofs only [go_sem, hc])
          refine aguardK_split (fun hc => ?_) (fun hc => ?_)
          · replace h := bif_f h hc
            (try simp +decide -implicitDefEqProofs only [go_sem, hc])
            refine aguardK_split (fun hc => ?_) (fun hc => ?_)
            · replace h := bif_f h hc
              (try simp +decide -implicitDefEqProofs only [go_sem, hc])
              refine hK _ _ ?_; clear hK K
              refine qthen_normal ?_
              refine AWP.cond (acond_split (fun hc => ?_) (fun hc => ?_))
              · replace h := bif_t h hc
                refine AWP.seq ?_
                refine AWP.region rfl ?_; intro K hK
                (try simp +decide -implicitDefEqProofs only [go_sem])
                refine hK _ _ ?_; clear hK K
                refine qthen_normal ?_
                refine AWP.ret ?_
                refine qthen_ret ?_
                refine qblock_ret ?_
                refine qthen_ret ?_
                refine qthen_ret ?_
                obtain rfl := some_eq h
                obtain rfl := cont_ret hJ2
                replace h := on_ret hO2
                refine qblock_ret ?_
                refine qthen_ret ?_
                obtain rfl := some_eq h
                simp +decide -implicitDefEqProofs only [go_sem, mpE_nil, AVal.int.injEq, Int.natCast_zero, List.replicate_zero, List.length_take, List.length_drop, AVal.own.injEq, reduceCtorEq, Int.reduceAdd, nle2, nle1, nle0, nleA, nleL, Try.results48]
              replace h := bif_f h hc
              refine AWP.skip ?_
              refine qthen_normal ?_
              refine AWP.seq ?_
              refine AWP.seq ?_
              refine AWP.draw Try.mixed (by kernel_rfl) ?_; intro K hK
              (try simp +decide -implicitDefEqProofs only [go_sem])
              refine aguardK_split (fun hc => ?_) (fun hc => ?_)
              · replace h := bif_t h hc
                (try simp +decide -implicitDefEqProofs only [go_sem, hc])
                obtain ⟨x_7, hx_7, h⟩ := bindE h
                refine AIdx.of (f := encApiSwept) (l := s_.Swept) hx_7 ?_
                (try simp +decide -implicitDefEqProofs only [go_sem])
                refine aguardK_split (fun hc => ?_) (fun hc => ?_)
                · replace h := bif_f h hc
                  (try simp +decide -implicitDefEqProofs only [go_sem, hc])
                  obtain ⟨y8, hy8, h⟩ := bindE h
                  refine DCall.snap Try.call45 (sweep_possible_spec m s_ done1 x_4.Run hy8) (by simp +decide -implicitDefEqProofs only [go_sem]) rfl ?_
                  (try simp +decide -implicitDefEqProofs only [go_sem])
                  refine hK _ _ _ (by kernel_rfl) ?_; clear hK K
                  refine qthen_normal ?_
                  refine AWP.cond (acond_split (fun hc => ?_) (fun hc => ?_))
                  · replace h := bif_t h hc
                    refine AWP.seq ?_
                    refine AWP.region rfl ?_; intro K hK
                    (try simp +decide -implicitDefEqProofs only [go_sem])
                    refine hK _ _ ?_; clear hK K
                    refine qthen_normal ?_
                    refine AWP.ret ?_
                    refine qthen_ret ?_
                    refine qblock_ret ?_
                    refine qthen_ret ?_
                    refine qthen_ret ?_
                    obtain rfl := some_eq h
                    obtain rfl := cont_ret hJ2
                    replace h := on_ret hO2
                    refine qblock_ret ?_
                    refine qthen_ret ?_
                    obtain rfl := some_eq h
                    simp +decide -implicitDefEqProofs only [go_sem, mpE_nil, AVal.int.injEq, Int.natCast_zero, List.replicate_zero, List.length_take, List.length_drop, AVal.own.injEq, reduceCtorEq, Int.reduceAdd, nle2, nle1, nle0, nleA, nleL, Try.results48]
                  replace h := bif_f h hc
                  refine AWP.skip ?_
                  refine qthen_normal ?_
                  refine AWP.region rfl ?_; intro K hK
                  (try simp +decide -implicitDefEqProofs only [go_sem])
                  obtain ⟨hk, h⟩ := chk_in h
                  (repeat (refine ⟨by first | omega | (simp only [List.length_take, List.length_drop, List.length_append]; omega), ?_⟩)); try simp +decide -implicitDefEqProofs only [go_sem]
                  refine hK _ _ ?_; clear hK K
                  refine qblock_normal ?_
                  refine qthen_normal ?_
                  refine AWP.region rfl ?_; intro K hK
                  (try simp +decide -implicitDefEqProofs only [go_sem])
                  refine hK _ _ ?_; clear hK K
                  refine qthen_normal ?_
                  obtain rfl := some_eq h
                  refine ⟨(k2 + 1, (done1 ++ [x_4.Run]), (ver2 + 1)), ⟨by dsimp only; omega, cont_next hJ2⟩, by dsimp only; omega, ?_, ?_⟩
                  · (simp +decide -implicitDefEqProofs only [go_sem, mpE_nil, AVal.int.injEq, Int.natCast_zero, List.replicate_zero, List.length_take, List.length_drop, AVal.own.injEq, reduceCtorEq, Int.reduceAdd, hw2] <;> omega)
                  · (simp +decide -implicitDefEqProofs only [go_sem, mpE_nil, AVal.int.injEq, Int.natCast_zero, List.replicate_zero, List.length_take, List.length_drop, AVal.own.injEq, reduceCtorEq, Int.reduceAdd, hw2] <;> omega)
                · replace h := bif_t h hc
                  (try simp +decide -implicitDefEqProofs only [go_sem, hc, Bool.not_false])
                  refine hK _ _ _ (by kernel_rfl) ?_; clear hK K
                  refine qthen_normal ?_
                  refine AWP.cond (acond_true ?_)
                  refine AWP.seq ?_
                  refine AWP.region rfl ?_; intro K hK
                  (try simp +decide -implicitDefEqProofs only [go_sem])
                  refine hK _ _ ?_; clear hK K
                  refine qthen_normal ?_
                  refine AWP.ret ?_
                  refine qthen_ret ?_
                  refine qblock_ret ?_
                  refine qthen_ret ?_
                  refine qthen_ret ?_
                  obtain rfl := some_eq h
                  obtain rfl := cont_ret hJ2
                  replace h := on_ret hO2
                  refine qblock_ret ?_
                  refine qthen_ret ?_
                  obtain rfl := some_eq h
                  simp +decide -implicitDefEqProofs only [go_sem, mpE_nil, AVal.int.injEq, Int.natCast_zero, List.replicate_zero, List.length_take, List.length_drop, AVal.own.injEq, reduceCtorEq, Int.reduceAdd, nle2, nle1, nle0, nleA, nleL, Try.results48]
              · replace h := bif_f h hc
                (try simp +decide -implicitDefEqProofs only [go_sem, hc, Bool.not_true])
                obtain ⟨y9, hy9, h⟩ := bindE h
                refine DCall.snap Try.call45 (sweep_possible_spec m s_ done1 x_4.Run hy9) (by simp +decide -implicitDefEqProofs only [go_sem]) rfl ?_
                (try simp +decide -implicitDefEqProofs only [go_sem])
                refine hK _ _ _ (by kernel_rfl) ?_; clear hK K
                refine qthen_normal ?_
                refine AWP.cond (acond_split (fun hc => ?_) (fun hc => ?_))
                · replace h := bif_t h hc
                  refine AWP.seq ?_
                  refine AWP.region rfl ?_; intro K hK
                  (try simp +decide -implicitDefEqProofs only [go_sem])
                  refine hK _ _ ?_; clear hK K
                  refine qthen_normal ?_
                  refine AWP.ret ?_
                  refine qthen_ret ?_
                  refine qblock_ret ?_
                  refine qthen_ret ?_
                  refine qthen_ret ?_
                  obtain rfl := some_eq h
                  obtain rfl := cont_ret hJ2
                  replace h := on_ret hO2
                  refine qblock_ret ?_
                  refine qthen_ret ?_
                  obtain rfl := some_eq h
                  simp +decide -implicitDefEqProofs only [go_sem, mpE_nil, AVal.int.injEq, Int.natCast_zero, List.replicate_zero, List.length_take, List.length_drop, AVal.own.injEq, reduceCtorEq, Int.reduceAdd, nle2, nle1, nle0, nleA, nleL, Try.results48]
                replace h := bif_f h hc
                refine AWP.skip ?_
                refine qthen_normal ?_
                refine AWP.region rfl ?_; intro K hK
                (try simp +decide -implicitDefEqProofs only [go_sem])
                obtain ⟨hk, h⟩ := chk_in h
                (repeat (refine ⟨by first | omega | (simp only [List.length_take, List.length_drop, List.length_append]; omega), ?_⟩)); try simp +decide -implicitDefEqProofs only [go_sem]
                refine hK _ _ ?_; clear hK K
                refine qblock_normal ?_
                refine qthen_normal ?_
                refine AWP.region rfl ?_; intro K hK
                (try simp +decide -implicitDefEqProofs only [go_sem])
                refine hK _ _ ?_; clear hK K
                refine qthen_normal ?_
                obtain rfl := some_eq h
                refine ⟨(k2 + 1, (done1 ++ [x_4.Run]), (ver2 + 1)), ⟨by dsimp only; omega, cont_next hJ2⟩, by dsimp only; omega, ?_, ?_⟩
                · (simp +decide -implicitDefEqProofs only [go_sem, mpE_nil, AVal.int.injEq, Int.natCast_zero, List.replicate_zero, List.length_take, List.length_drop, AVal.own.injEq, reduceCtorEq, Int.reduceAdd, hw2] <;> omega)
                · (simp +decide -implicitDefEqProofs only [go_sem, mpE_nil, AVal.int.injEq, Int.natCast_zero, List.replicate_zero, List.length_take, List.length_drop, AVal.own.injEq, reduceCtorEq, Int.reduceAdd, hw2] <;> omega)
            · replace h := bif_t h hc
              (try simp +decide -implicitDefEqProofs only [go_sem, hc, Bool.not_false])
              refine hK _ _ ?_; clear hK K
              refine qthen_normal ?_
              refine AWP.cond (acond_true ?_)
              refine AWP.seq ?_
              refine AWP.region rfl ?_; intro K hK
              (try simp +decide -implicitDefEqProofs only [go_sem])
              refine hK _ _ ?_; clear hK K
              refine qthen_normal ?_
              refine AWP.ret ?_
              refine qthen_ret ?_
              refine qblock_ret ?_
              refine qthen_ret ?_
              refine qthen_ret ?_
              obtain rfl := some_eq h
              obtain rfl := cont_ret hJ2
              replace h := on_ret hO2
              refine qblock_ret ?_
              refine qthen_ret ?_
              obtain rfl := some_eq h
              simp +decide -implicitDefEqProofs only [go_sem, mpE_nil, AVal.int.injEq, Int.natCast_zero, List.replicate_zero, List.length_take, List.length_drop, AVal.own.injEq, reduceCtorEq, Int.reduceAdd, nle2, nle1, nle0, nleA, nleL, Try.results48]
          · replace h := bif_t h hc
            (try simp +decide -implicitDefEqProofs only [go_sem, hc, Bool.not_false])
            refine hK _ _ ?_; clear hK K
            refine qthen_normal ?_
            refine AWP.cond (acond_true ?_)
            refine AWP.seq ?_
            refine AWP.region rfl ?_; intro K hK
            (try simp +decide -implicitDefEqProofs only [go_sem])
            refine hK _ _ ?_; clear hK K
            refine qthen_normal ?_
            refine AWP.ret ?_
            refine qthen_ret ?_
            refine qblock_ret ?_
            refine qthen_ret ?_
            refine qthen_ret ?_
            obtain rfl := some_eq h
            obtain rfl := cont_ret hJ2
            replace h := on_ret hO2
            refine qblock_ret ?_
            refine qthen_ret ?_
            obtain rfl := some_eq h
            simp +decide -implicitDefEqProofs only [go_sem, mpE_nil, AVal.int.injEq, Int.natCast_zero, List.replicate_zero, List.length_take, List.length_drop, AVal.own.injEq, reduceCtorEq, Int.reduceAdd, nle2, nle1, nle0, nleA, nleL, Try.results48]
        · replace h := bif_t h hc
          (try simp +decide -implicitDefEqProofs only [go_sem, hc, Bool.not_false])
          refine hK _ _ ?_; clear hK K
          refine qthen_normal ?_
          refine AWP.cond (acond_true ?_)
          refine AWP.seq ?_
          refine AWP.region rfl ?_; intro K hK
          (try simp +decide -implicitDefEqProofs only [go_sem])
          refine hK _ _ ?_; clear hK K
          refine qthen_normal ?_
          refine AWP.ret ?_
          refine qthen_ret ?_
          refine qblock_ret ?_
          refine qthen_ret ?_
          refine qthen_ret ?_
          obtain rfl := some_eq h
          obtain rfl := cont_ret hJ2
          replace h := on_ret hO2
          refine qblock_ret ?_
          refine qthen_ret ?_
          obtain rfl := some_eq h
          simp +decide -implicitDefEqProofs only [go_sem, mpE_nil, AVal.int.injEq, Int.natCast_zero, List.replicate_zero, List.length_take, List.length_drop, AVal.own.injEq, reduceCtorEq, Int.reduceAdd, nle2, nle1, nle0, nleA, nleL, Try.results48]
      · replace h := bif_t h hc
        (try simp +decide -implicitDefEqProofs only [go_sem, hc, Bool.not_false])
        refine hK _ _ ?_; clear hK K
        refine qthen_normal ?_
        refine AWP.cond (acond_true ?_)
        refine AWP.seq ?_
        refine AWP.region rfl ?_; intro K hK
        (try simp +decide -implicitDefEqProofs only [go_sem])
        refine hK _ _ ?_; clear hK K
        refine qthen_normal ?_
        refine AWP.ret ?_
        refine qthen_ret ?_
        refine qblock_ret ?_
        refine qthen_ret ?_
        refine qthen_ret ?_
        obtain rfl := some_eq h
        obtain rfl := cont_ret hJ2
        replace h := on_ret hO2
        refine qblock_ret ?_
        refine qthen_ret ?_
        obtain rfl := some_eq h
        simp +decide -implicitDefEqProofs only [go_sem, mpE_nil, AVal.int.injEq, Int.natCast_zero, List.replicate_zero, List.length_take, List.length_drop, AVal.own.injEq, reduceCtorEq, Int.reduceAdd, nle2, nle1, nle0, nleA, nleL, Try.results48]
    · replace h := bif_t h hc
      (try simp +decide -implicitDefEqProofs only [go_sem, hc, Bool.not_false])
      refine hK _ _ ?_; clear hK K
      refine qthen_normal ?_
      refine AWP.cond (acond_true ?_)
      refine AWP.seq ?_
      refine AWP.region rfl ?_; intro K hK
      (try simp +decide -implicitDefEqProofs only [go_sem])
      refine hK _ _ ?_; clear hK K
      refine qthen_normal ?_
      refine AWP.ret ?_
      refine qthen_ret ?_
      refine qblock_ret ?_
      refine qthen_ret ?_
      refine qthen_ret ?_
      obtain rfl := some_eq h
      obtain rfl := cont_ret hJ2
      replace h := on_ret hO2
      refine qblock_ret ?_
      refine qthen_ret ?_
      obtain rfl := some_eq h
      simp +decide -implicitDefEqProofs only [go_sem, mpE_nil, AVal.int.injEq, Int.natCast_zero, List.replicate_zero, List.length_take, List.length_drop, AVal.own.injEq, reduceCtorEq, Int.reduceAdd, nle2, nle1, nle0, nleA, nleL, Try.results48]
  · obtain rfl := for_nil hJ2 (fun hl => by have := of_decide_eq_false hc; omega)
    have h := on_next hO2; try dsimp only at h
    have hkl : s_.Swept.length = k2 := by have := of_decide_eq_false hc; omega
    subst hkl
    refine AWP.exit ?_
    refine qthen_exit ?_
    refine qthen_exit ?_
    refine qblock_same ?_
    refine qthen_normal ?_
    refine AWP.seq ?_
    refine AWP.region rfl ?_; intro K hK
    (try simp +decide -implicitDefEqProofs only [go_sem])
    refine hK _ _ ?_; clear hK K
    refine qthen_normal ?_
    refine AWP.ret ?_
    obtain rfl := some_eq h
    simp +decide -implicitDefEqProofs only [go_sem, mpE_nil, AVal.int.injEq, Int.natCast_zero, List.replicate_zero, List.length_take, List.length_drop, AVal.own.injEq, reduceCtorEq, Int.reduceAdd, nle2, nle1, nle0, nleA, nleL, Try.results48]

def sweep_Right_b2 (m : ApiMap) (s_ : ApiSweep) (k1 : Nat) (x_3 : Int) (sv : Unit) : Option (Out (Unit) (Int)) :=
  (terrain_Run m x_3).bind fun y4 => (slices_Contains_sint_int m.Bases y4.1.To).bind fun y5 => (bif (!y5) then (sweep_below m s_ x_3).bind fun y6 => (bif (decide (y6 < (0 : Int))) then some (Out.ret (16 : Int)) else some (Out.next ())) else some (Out.next ()))

def sweep_Right_j1 (m : ApiMap) (s_ : ApiSweep) : Option (Int) :=
  (forIx (sweep_Right_b2 m s_) 0 s_.Runs ()).bind fun o1 => o1.on fun s1 => (bif (decide (s_.Begun < (0 : Int))) then some (2 : Int) else (bif (decide ((20000000 : Int) < s_.Begun)) then some (2 : Int) else (sweep_sweptRight m s_).bind fun y7 => some y7))

def sweep_Right_b3 (m : ApiMap) (s_ : ApiSweep) (k7 : Nat) (x_9 : Int) (sv : Unit) : Option (Out (Unit) (Int)) :=
  (terrain_Run m x_9).bind fun y10 => (bif (!y10.2) then some (Out.ret (8 : Int)) else (bif (decide ((0 : Int) < ((k7 : Nat) : Int))) then (idxL s_.Runs (IntKind.i64.wrap (((k7 : Nat) : Int) - (1 : Int)))).bind fun x_11 => (bif (decide (x_9 ≤ x_11)) then some (Out.ret (11 : Int)) else some (Out.next ())) else some (Out.next ())))

def sweep_Right (m : ApiMap) (s_ : ApiSweep) : Option (Int) :=
  (bif (decide ((64 : Int) < ((s_.Runs.length : Nat) : Int))) then some (4 : Int) else (forIx (sweep_Right_b3 m s_) 0 s_.Runs ()).bind fun o7 => o7.on fun s7 => sweep_Right_j1 m s_)

theorem sweep_Right_spec (m : ApiMap) (s_ : ApiSweep) {r : Int} (h : sweep_Right m s_ = some r) : PureFn Try.prog 35 [.agg (encApiMap m), .agg (encApiSweep s_)] (· = .int .i64 r) := by
  refine PureFn.nle (PureFn.intro Try.func35 rfl rfl (by show _ ≤ 84; simp) ?_)
  unfold sweep_Right at h
  (try simp +decide -implicitDefEqProofs only [go_sem])
  refine AWP.seq ?_
  refine AWP.region rfl ?_; intro K hK
  (try simp +decide -implicitDefEqProofs only [go_sem])
  refine hK _ _ ?_; clear hK K
  refine qthen_normal ?_
  refine AWP.seq ?_
  refine AWP.seq ?_
  refine AWP.region rfl ?_; intro K hK
  (try simp +decide -implicitDefEqProofs only [go_sem])
  intro hm
  refine hK _ _ ?_; clear hK K
  refine qthen_normal ?_
  refine AWP.cond (acond_split (fun hc => ?_) (fun hc => ?_))
  · replace h := bif_t h hc
    refine AWP.seq ?_
    refine AWP.region rfl ?_; intro K hK
    (try simp +decide -implicitDefEqProofs only [go_sem])
    refine hK _ _ ?_; clear hK K
    refine qthen_normal ?_
    refine AWP.ret ?_
    refine qthen_ret ?_
    obtain rfl := some_eq h
    simp +decide -implicitDefEqProofs only [go_sem, mpE_nil, AVal.int.injEq, Int.natCast_zero, List.replicate_zero, List.length_take, List.length_drop, AVal.own.injEq, reduceCtorEq, Int.reduceAdd, nle2, nle1, nle0, nleA, nleL, Try.results35]
  replace h := bif_f h hc
  refine AWP.skip ?_
  refine qthen_normal ?_
  refine AWP.seqJoin (ι := (Unit) × (Unit)) (fun zz => [(2, .ptr 0 0), (3, .ptr 1 0)]) (fun zz => [.box [.sl 2 (m.Nodes.map encApiNode), .sl 8 (m.Lifts.map encApiLift), .sl 7 (m.Runs.map encApiRun), .sl 1 (m.Bases.map intC)], .box [.sl 1 (s_.Runs.map intC), .sl 4 (s_.Swept.map encApiSwept), .int .i64 s_.Begun]]) (fun zz => sweep_Right_j1 m s_ = some r) (fun zz => ⟨rfl, rfl, rfl⟩) ?_ ?_
  · refine AWP.seq ?_
    refine AWP.region rfl ?_; intro K hK
    (try simp +decide -implicitDefEqProofs only [go_sem])
    intro hm
    refine hK _ _ ?_; clear hK K
    refine qthen_normal ?_
    refine AWP.block ?_
    obtain ⟨o7, hJ7, hO7⟩ := bindE h
    clear h
    refine AWP.loopW (ι := Nat × (Unit) × (Unit)) (fun zz => [(2, .ptr 0 0), (3, .ptr 1 0), (18, .sl 1 (s_.Runs.map intC)), (19, .int .i64 ((s_.Runs.length : Nat) : Int)), (20, .int .i64 ((zz.1 : Nat) : Int))]) (fun zz => [.box [.sl 2 (m.Nodes.map encApiNode), .sl 8 (m.Lifts.map encApiLift), .sl 7 (m.Runs.map encApiRun), .sl 1 (m.Bases.map intC)], .box [.sl 1 (s_.Runs.map intC), .sl 4 (s_.Swept.map encApiSwept), .int .i64 s_.Begun]]) (fun zz => zz.1 ≤ s_.Runs.length ∧ forIx (sweep_Right_b3 m s_) zz.1 ((s_.Runs).drop zz.1) zz.2.1 = some o7) (fun zz => s_.Runs.length - zz.1) (0, (), ()) ⟨Nat.zero_le _, hJ7⟩ (by (simp +decide -implicitDefEqProofs only [go_sem, mpE_nil, AVal.int.injEq, Int.natCast_zero, List.replicate_zero, List.length_take, List.length_drop, AVal.own.injEq, reduceCtorEq, Int.reduceAdd] <;> omega)) (by (simp +decide -implicitDefEqProofs only [go_sem, mpE_nil, AVal.int.injEq, Int.natCast_zero, List.replicate_zero, List.length_take, List.length_drop, AVal.own.injEq, reduceCtorEq, Int.reduceAdd] <;> omega)) (fun x => ⟨rfl, rfl, rfl⟩) ?_
    clear hJ7
    rintro ⟨k7, ⟨⟩, ⟨⟩⟩ ⟨hk7, hJ7⟩
    dsimp only at hk7 hJ7 ⊢
    refine AWP.seq ?_
    refine AWP.region rfl ?_; intro K hK
    (try simp +decide -implicitDefEqProofs only [go_sem])
    refine hK _ _ ?_; clear hK K
    refine qthen_normal ?_
    refine AWP.seq ?_
    refine AWP.cond (acond_split (fun hc => ?_) (fun hc => ?_))
    · have hlt7 : k7 < s_.Runs.length := by have := of_decide_eq_true hc; omega
      obtain ⟨x_9, b7, hx7_, h, hJ7⟩ := for_cons hJ7 hlt7
      have hx7 := idxL_nat hx7_
      have hw7 : IntKind.i64.wrap (((k7 : Nat) : Int) + 1) = (((k7 : Nat) : Int) + (1 : Int)) := by rw [wrap_i64] <;> omega
      unfold sweep_Right_b3 at h; try dsimp only at h
      refine AWP.skip ?_
      refine qthen_normal ?_
      refine AWP.seq ?_
      refine AWP.block ?_
      refine AWP.seq ?_
      refine AWP.region rfl ?_; intro K hK
      (try simp +decide -implicitDefEqProofs only [go_sem])
      refine AIdx.of (f := intC) (l := s_.Runs) hx7 ?_
      (try simp +decide -implicitDefEqProofs only [go_sem])
      refine hK _ _ ?_; clear hK K
      refine qthen_normal ?_
      refine AWP.seq ?_
      refine AWP.seq ?_
      refine AWP.region rfl ?_; intro K hK
      (try simp +decide -implicitDefEqProofs only [go_sem])
      obtain ⟨y10, hy10, h⟩ := bindE h
      refine ACall.pure Try.call46 (terrain_Run_spec m x_9 hy10) rfl fun _ hr => ?_
      subst hr
      (try simp +decide -implicitDefEqProofs only [go_sem])
      refine hK _ _ ?_; clear hK K
      refine qthen_normal ?_
      refine AWP.seq ?_
      refine AWP.region rfl ?_; intro K hK
      (try simp +decide -implicitDefEqProofs only [go_sem])
      refine hK _ _ ?_; clear hK K
      refine qthen_normal ?_
      refine AWP.cond (acond_split (fun hc => ?_) (fun hc => ?_))
      · replace h := bif_t h hc
        refine AWP.seq ?_
        refine AWP.region rfl ?_; intro K hK
        (try simp +decide -implicitDefEqProofs only [go_sem])
        refine hK _ _ ?_; clear hK K
        refine qthen_normal ?_
        refine AWP.ret ?_
        refine qthen_ret ?_
        refine qblock_ret ?_
        refine qthen_ret ?_
        refine qthen_ret ?_
        obtain rfl := some_eq h
        obtain rfl := cont_ret hJ7
        replace h := on_ret hO7
        refine qblock_ret ?_
        refine qthen_ret ?_
        obtain rfl := some_eq h
        simp +decide -implicitDefEqProofs only [go_sem, mpE_nil, AVal.int.injEq, Int.natCast_zero, List.replicate_zero, List.length_take, List.length_drop, AVal.own.injEq, reduceCtorEq, Int.reduceAdd, nle2, nle1, nle0, nleA, nleL, Try.results35]
      replace h := bif_f h hc
      refine AWP.skip ?_
      refine qthen_normal ?_
      refine AWP.seq ?_
      refine AWP.region rfl ?_; intro K hK
      (try simp +decide -implicitDefEqProofs only [go_sem])
      refine aguardK_split (fun hc => ?_) (fun hc => ?_)
      · replace h := bif_t h hc
        (try simp +decide -implicitDefEqProofs only [go_sem, hc])
        obtain ⟨x_11, hx_11, h⟩ := bindE h
        refine AIdx.of (f := intC) (l := s_.Runs) hx_11 ?_
        (try simp +decide -implicitDefEqProofs only [go_sem])
        refine hK _ _ ?_; clear hK K
        refine qthen_normal ?_
        refine AWP.cond (acond_split (fun hc => ?_) (fun hc => ?_))
        · replace h := bif_t h hc
          refine AWP.seq ?_
          refine AWP.region rfl ?_; intro K hK
          (try simp +decide -implicitDefEqProofs only [go_sem])
          refine hK _ _ ?_; clear hK K
          refine qthen_normal ?_
          refine AWP.ret ?_
          refine qblock_ret ?_
          refine qthen_ret ?_
          refine qthen_ret ?_
          obtain rfl := some_eq h
          obtain rfl := cont_ret hJ7
          replace h := on_ret hO7
          refine qblock_ret ?_
          refine qthen_ret ?_
          obtain rfl := some_eq h
          simp +decide -implicitDefEqProofs only [go_sem, mpE_nil, AVal.int.injEq, Int.natCast_zero, List.replicate_zero, List.length_take, List.length_drop, AVal.own.injEq, reduceCtorEq, Int.reduceAdd, nle2, nle1, nle0, nleA, nleL, Try.results35]
        replace h := bif_f h hc
        refine AWP.skip ?_
        refine qblock_normal ?_
        refine qthen_normal ?_
        refine AWP.region rfl ?_; intro K hK
        (try simp +decide -implicitDefEqProofs only [go_sem])
        refine hK _ _ ?_; clear hK K
        refine qthen_normal ?_
        obtain rfl := some_eq h
        refine ⟨(k7 + 1, (), ()), ⟨by dsimp only; omega, cont_next hJ7⟩, by dsimp only; omega, ?_, ?_⟩
        · (simp +decide -implicitDefEqProofs only [go_sem, mpE_nil, AVal.int.injEq, Int.natCast_zero, List.replicate_zero, List.length_take, List.length_drop, AVal.own.injEq, reduceCtorEq, Int.reduceAdd, hw7] <;> omega)
        · (simp +decide -implicitDefEqProofs only [go_sem, mpE_nil, AVal.int.injEq, Int.natCast_zero, List.replicate_zero, List.length_take, List.length_drop, AVal.own.injEq, reduceCtorEq, Int.reduceAdd, hw7] <;> omega)
      · replace h := bif_f h hc
        (try simp +decide -implicitDefEqProofs only [go_sem, hc, Bool.not_true])
        refine hK _ _ ?_; clear hK K
        refine qthen_normal ?_
        refine AWP.cond (acond_false ?_)
        refine AWP.skip ?_
        refine qblock_normal ?_
        refine qthen_normal ?_
        refine AWP.region rfl ?_; intro K hK
        (try simp +decide -implicitDefEqProofs only [go_sem])
        refine hK _ _ ?_; clear hK K
        refine qthen_normal ?_
        obtain rfl := some_eq h
        refine ⟨(k7 + 1, (), ()), ⟨by dsimp only; omega, cont_next hJ7⟩, by dsimp only; omega, ?_, ?_⟩
        · (simp +decide -implicitDefEqProofs only [go_sem, mpE_nil, AVal.int.injEq, Int.natCast_zero, List.replicate_zero, List.length_take, List.length_drop, AVal.own.injEq, reduceCtorEq, Int.reduceAdd, hw7] <;> omega)
        · (simp +decide -implicitDefEqProofs only [go_sem, mpE_nil, AVal.int.injEq, Int.natCast_zero, List.replicate_zero, List.length_take, List.length_drop, AVal.own.injEq, reduceCtorEq, Int.reduceAdd, hw7] <;> omega)
    · obtain rfl := for_nil hJ7 (fun hl => by have := of_decide_eq_false hc; omega)
      have h := on_next hO7; try dsimp only at h
      have hkl : s_.Runs.length = k7 := by have := of_decide_eq_false hc; omega
      subst hkl
      refine AWP.exit ?_
      refine qthen_exit ?_
      refine qthen_exit ?_
      refine qblock_same ?_
      refine qthen_normal ?_
      exact ⟨((), ()), h, by (simp +decide -implicitDefEqProofs only [go_sem, mpE_nil, AVal.int.injEq, Int.natCast_zero, List.replicate_zero, List.length_take, List.length_drop, AVal.own.injEq, reduceCtorEq, Int.reduceAdd] <;> omega), by (simp +decide -implicitDefEqProofs only [go_sem, mpE_nil, AVal.int.injEq, Int.natCast_zero, List.replicate_zero, List.length_take, List.length_drop, AVal.own.injEq, reduceCtorEq, Int.reduceAdd] <;> omega)⟩
  · rintro ⟨⟨⟩, ⟨⟩⟩ h
    try dsimp only at h ⊢
    unfold sweep_Right_j1 at h; try dsimp only at h
    refine AWP.seq ?_
    refine AWP.seq ?_
    refine AWP.region rfl ?_; intro K hK
    (try simp +decide -implicitDefEqProofs only [go_sem])
    intro hm
    refine hK _ _ ?_; clear hK K
    refine qthen_normal ?_
    refine AWP.block ?_
    obtain ⟨o1, hJ1, hO1⟩ := bindE h
    clear h
    refine AWP.loopW (ι := Nat × (Unit) × (Unit)) (fun zz => [(2, .ptr 0 0), (3, .ptr 1 0), (47, .sl 1 (s_.Runs.map intC)), (48, .int .i64 ((s_.Runs.length : Nat) : Int)), (49, .int .i64 ((zz.1 : Nat) : Int))]) (fun zz => [.box [.sl 2 (m.Nodes.map encApiNode), .sl 8 (m.Lifts.map encApiLift), .sl 7 (m.Runs.map encApiRun), .sl 1 (m.Bases.map intC)], .box [.sl 1 (s_.Runs.map intC), .sl 4 (s_.Swept.map encApiSwept), .int .i64 s_.Begun]]) (fun zz => zz.1 ≤ s_.Runs.length ∧ forIx (sweep_Right_b2 m s_) zz.1 ((s_.Runs).drop zz.1) zz.2.1 = some o1) (fun zz => s_.Runs.length - zz.1) (0, (), ()) ⟨Nat.zero_le _, hJ1⟩ (by (simp +decide -implicitDefEqProofs only [go_sem, mpE_nil, AVal.int.injEq, Int.natCast_zero, List.replicate_zero, List.length_take, List.length_drop, AVal.own.injEq, reduceCtorEq, Int.reduceAdd] <;> omega)) (by (simp +decide -implicitDefEqProofs only [go_sem, mpE_nil, AVal.int.injEq, Int.natCast_zero, List.replicate_zero, List.length_take, List.length_drop, AVal.own.injEq, reduceCtorEq, Int.reduceAdd] <;> omega)) (fun x => ⟨rfl, rfl, rfl⟩) ?_
    clear hJ1
    rintro ⟨k1, ⟨⟩, ⟨⟩⟩ ⟨hk1, hJ1⟩
    dsimp only at hk1 hJ1 ⊢
    refine AWP.seq ?_
    refine AWP.region rfl ?_; intro K hK
    (try simp +decide -implicitDefEqProofs only [go_sem])
    refine hK _ _ ?_; clear hK K
    refine qthen_normal ?_
    refine AWP.seq ?_
    refine AWP.cond (acond_split (fun hc => ?_) (fun hc => ?_))
    · have hlt1 : k1 < s_.Runs.length := by have := of_decide_eq_true hc; omega
      obtain ⟨x_3, b1, hx1_, h, hJ1⟩ := for_cons hJ1 hlt1
      have hx1 := idxL_nat hx1_
      have hw1 : IntKind.i64.wrap (((k1 : Nat) : Int) + 1) = (((k1 : Nat) : Int) + (1 : Int)) := by rw [wrap_i64] <;> omega
      unfold sweep_Right_b2 at h; try dsimp only at h
      refine AWP.skip ?_
      refine qthen_normal ?_
      refine AWP.seq ?_
      refine AWP.block ?_
      refine AWP.seq ?_
      refine AWP.region rfl ?_; intro K hK
      (try simp +decide -implicitDefEqProofs only [go_sem])
      refine AIdx.of (f := intC) (l := s_.Runs) hx1 ?_
      (try simp +decide -implicitDefEqProofs only [go_sem])
      refine hK _ _ ?_; clear hK K
      refine qthen_normal ?_
      refine AWP.seq ?_
      refine AWP.region rfl ?_; intro K hK
      (try simp +decide -implicitDefEqProofs only [go_sem])
      obtain ⟨y4, hy4, h⟩ := bindE h
      refine ACall.pure Try.call46 (terrain_Run_spec m x_3 hy4) rfl fun _ hr => ?_
      subst hr
      (try simp +decide -implicitDefEqProofs only [go_sem])
      refine hK _ _ ?_; clear hK K
      refine qthen_normal ?_
      refine AWP.seq ?_
      refine AWP.region rfl ?_; intro K hK
      (try simp +decide -implicitDefEqProofs only [go_sem])
      obtain ⟨y5, hy5, h⟩ := bindE h
      refine ACall.pure Try.call33 (slices_Contains_sint_int_spec m.Bases y4.1.To hy5) rfl fun _ hr => ?_
      subst hr
      (try simp +decide -implicitDefEqProofs only [go_sem])
      refine aguardK_split (fun hc => ?_) (fun hc => ?_)
      · replace h := bif_t h hc
        (try simp +decide -implicitDefEqProofs only [go_sem, hc])
        obtain ⟨y6, hy6, h⟩ := bindE h
        refine ACall.pure Try.call47 (sweep_below_spec m s_ x_3 hy6) rfl fun _ hr => ?_
        subst hr
        (try simp +decide -implicitDefEqProofs only [go_sem])
        refine hK _ _ ?_; clear hK K
        refine qthen_normal ?_
        refine AWP.cond (acond_split (fun hc => ?_) (fun hc => ?_))
        · replace h := bif_t h hc
          refine AWP.seq ?_
          refine AWP.region rfl ?_; intro K hK
          (try simp +decide -implicitDefEqProofs only [go_sem])
          refine hK _ _ ?_; clear hK K
          refine qthen_normal ?_
          refine AWP.ret ?_
          refine qblock_ret ?_
          refine qthen_ret ?_
          refine qthen_ret ?_
          obtain rfl := some_eq h
          obtain rfl := cont_ret hJ1
          replace h := on_ret hO1
          refine qblock_ret ?_
          refine qthen_ret ?_
          obtain rfl := some_eq h
          simp +decide -implicitDefEqProofs only [go_sem, mpE_nil, AVal.int.injEq, Int.natCast_zero, List.replicate_zero, List.length_take, List.length_drop, AVal.own.injEq, reduceCtorEq, Int.reduceAdd, nle2, nle1, nle0, nleA, nleL, Try.results35]
        replace h := bif_f h hc
        refine AWP.skip ?_
        refine qblock_normal ?_
        refine qthen_normal ?_
        refine AWP.region rfl ?_; intro K hK
        (try simp +decide -implicitDefEqProofs only [go_sem])
        refine hK _ _ ?_; clear hK K
        refine qthen_normal ?_
        obtain rfl := some_eq h
        refine ⟨(k1 + 1, (), ()), ⟨by dsimp only; omega, cont_next hJ1⟩, by dsimp only; omega, ?_, ?_⟩
        · (simp +decide -implicitDefEqProofs only [go_sem, mpE_nil, AVal.int.injEq, Int.natCast_zero, List.replicate_zero, List.length_take, List.length_drop, AVal.own.injEq, reduceCtorEq, Int.reduceAdd, hw1] <;> omega)
        · (simp +decide -implicitDefEqProofs only [go_sem, mpE_nil, AVal.int.injEq, Int.natCast_zero, List.replicate_zero, List.length_take, List.length_drop, AVal.own.injEq, reduceCtorEq, Int.reduceAdd, hw1] <;> omega)
      · replace h := bif_f h hc
        (try simp +decide -implicitDefEqProofs only [go_sem, hc, Bool.not_true])
        refine hK _ _ ?_; clear hK K
        refine qthen_normal ?_
        refine AWP.cond (acond_false ?_)
        refine AWP.skip ?_
        refine qblock_normal ?_
        refine qthen_normal ?_
        refine AWP.region rfl ?_; intro K hK
        (try simp +decide -implicitDefEqProofs only [go_sem])
        refine hK _ _ ?_; clear hK K
        refine qthen_normal ?_
        obtain rfl := some_eq h
        refine ⟨(k1 + 1, (), ()), ⟨by dsimp only; omega, cont_next hJ1⟩, by dsimp only; omega, ?_, ?_⟩
        · (simp +decide -implicitDefEqProofs only [go_sem, mpE_nil, AVal.int.injEq, Int.natCast_zero, List.replicate_zero, List.length_take, List.length_drop, AVal.own.injEq, reduceCtorEq, Int.reduceAdd, hw1] <;> omega)
        · (simp +decide -implicitDefEqProofs only [go_sem, mpE_nil, AVal.int.injEq, Int.natCast_zero, List.replicate_zero, List.length_take, List.length_drop, AVal.own.injEq, reduceCtorEq, Int.reduceAdd, hw1] <;> omega)
    · obtain rfl := for_nil hJ1 (fun hl => by have := of_decide_eq_false hc; omega)
      have h := on_next hO1; try dsimp only at h
      have hkl : s_.Runs.length = k1 := by have := of_decide_eq_false hc; omega
      subst hkl
      refine AWP.exit ?_
      refine qthen_exit ?_
      refine qthen_exit ?_
      refine qblock_same ?_
      refine qthen_normal ?_
      refine AWP.seq ?_
      refine AWP.seq ?_
      refine AWP.region rfl ?_; intro K hK
      (try simp +decide -implicitDefEqProofs only [go_sem])
      refine aguardK_split (fun hc => ?_) (fun hc => ?_)
      · replace h := bif_f h hc
        (try simp +decide -implicitDefEqProofs only [go_sem, hc])
        refine hK _ _ ?_; clear hK K
        refine qthen_normal ?_
        refine AWP.cond (acond_split (fun hc => ?_) (fun hc => ?_))
        · replace h := bif_t h hc
          refine AWP.seq ?_
          refine AWP.region rfl ?_; intro K hK
          (try simp +decide -implicitDefEqProofs only [go_sem])
          refine hK _ _ ?_; clear hK K
          refine qthen_normal ?_
          refine AWP.ret ?_
          refine qthen_ret ?_
          obtain rfl := some_eq h
          simp +decide -implicitDefEqProofs only [go_sem, mpE_nil, AVal.int.injEq, Int.natCast_zero, List.replicate_zero, List.length_take, List.length_drop, AVal.own.injEq, reduceCtorEq, Int.reduceAdd, nle2, nle1, nle0, nleA, nleL, Try.results35]
        replace h := bif_f h hc
        refine AWP.skip ?_
        refine qthen_normal ?_
        refine AWP.seq ?_
        refine AWP.region rfl ?_; intro K hK
        (try simp +decide -implicitDefEqProofs only [go_sem])
        obtain ⟨y7, hy7, h⟩ := bindE h
        refine ACall.pure Try.call48 (sweep_sweptRight_spec m s_ hy7) rfl fun _ hr => ?_
        subst hr
        (try simp +decide -implicitDefEqProofs only [go_sem])
        refine hK _ _ ?_; clear hK K
        refine qthen_normal ?_
        refine AWP.ret ?_
        obtain rfl := some_eq h
        simp +decide -implicitDefEqProofs only [go_sem, mpE_nil, AVal.int.injEq, Int.natCast_zero, List.replicate_zero, List.length_take, List.length_drop, AVal.own.injEq, reduceCtorEq, Int.reduceAdd, nle2, nle1, nle0, nleA, nleL, Try.results35]
      · replace h := bif_t h hc
        (try simp +decide -implicitDefEqProofs only [go_sem, hc, Bool.not_false])
        refine hK _ _ ?_; clear hK K
        refine qthen_normal ?_
        refine AWP.cond (acond_true ?_)
        refine AWP.seq ?_
        refine AWP.region rfl ?_; intro K hK
        (try simp +decide -implicitDefEqProofs only [go_sem])
        refine hK _ _ ?_; clear hK K
        refine qthen_normal ?_
        refine AWP.ret ?_
        refine qthen_ret ?_
        obtain rfl := some_eq h
        simp +decide -implicitDefEqProofs only [go_sem, mpE_nil, AVal.int.injEq, Int.natCast_zero, List.replicate_zero, List.length_take, List.length_drop, AVal.own.injEq, reduceCtorEq, Int.reduceAdd, nle2, nle1, nle0, nleA, nleL, Try.results35]

def sweep_Do (m : ApiMap) (s_ : ApiSweep) (open_ : List Int) (w : ApiSwept) : Option (ApiSweep × Int) :=
  (slices_Contains_sint_int open_ w.Run).bind fun y1 => (bif y1 then some ((ApiSweep.mk [] [] (0 : Int)), (13 : Int)) else (slices_Clone_sint_int s_.Runs).bind fun y2 => (slices_Clone_sapi_Swept_api_Swept s_.Swept).bind fun y3 => chk (y3.length + 1) ((sweep_Right m (ApiSweep.mk y2 (y3 ++ [w]) s_.Begun)).bind fun y4 => (bif (decide (y4 ≠ (0 : Int))) then some ((ApiSweep.mk [] [] (0 : Int)), y4) else some ((ApiSweep.mk y2 (y3 ++ [w]) s_.Begun), (0 : Int)))))

theorem sweep_Do_spec (m : ApiMap) (s_ : ApiSweep) (open_ : List Int) (w : ApiSwept) {r : ApiSweep × Int} (h : sweep_Do m s_ open_ w = some r) : PureFn Try.prog 11 [.agg (encApiMap m), .agg (encApiSweep s_), .sl 1 (open_.map intC), .agg (encApiSwept w)] (· = .tuple [.agg (encApiSweep r.1), .int .i64 r.2]) := by
  refine PureFn.nle (PureFn.intro Try.func11 rfl rfl (by show _ ≤ 37; simp) ?_)
  unfold sweep_Do at h
  (try simp +decide -implicitDefEqProofs only [go_sem])
  refine AWP.seq ?_
  refine AWP.region rfl ?_; intro K hK
  (try simp +decide -implicitDefEqProofs only [go_sem])
  refine hK _ _ ?_; clear hK K
  refine qthen_normal ?_
  refine AWP.seq ?_
  refine AWP.seq ?_
  refine AWP.region rfl ?_; intro K hK
  (try simp +decide -implicitDefEqProofs only [go_sem])
  obtain ⟨y1, hy1, h⟩ := bindE h
  refine ACall.pure Try.call33 (slices_Contains_sint_int_spec open_ w.Run hy1) rfl fun _ hr => ?_
  subst hr
  (try simp +decide -implicitDefEqProofs only [go_sem])
  refine hK _ _ ?_; clear hK K
  refine qthen_normal ?_
  refine AWP.cond (acond_split (fun hc => ?_) (fun hc => ?_))
  · replace h := bif_t h hc
    refine AWP.seq ?_
    refine AWP.region rfl ?_; intro K hK
    (try simp +decide -implicitDefEqProofs only [go_sem])
    refine hK _ _ ?_; clear hK K
    refine qthen_normal ?_
    refine AWP.ret ?_
    refine qthen_ret ?_
    obtain rfl := some_eq h
    simp +decide -implicitDefEqProofs only [go_sem, mpE_nil, AVal.int.injEq, Int.natCast_zero, List.replicate_zero, List.length_take, List.length_drop, AVal.own.injEq, reduceCtorEq, Int.reduceAdd, nle2, nle1, nle0, nleA, nleL, Try.results11]
  replace h := bif_f h hc
  refine AWP.skip ?_
  refine qthen_normal ?_
  refine AWP.seq ?_
  refine AWP.draw Try.mixed (by kernel_rfl) ?_; intro K hK
  (try simp +decide -implicitDefEqProofs only [go_sem])
  obtain ⟨y2, hy2, h⟩ := bindE h
  refine DCall.pure Try.call31 (slices_Clone_sint_int_spec s_.Runs hy2) rfl ?_
  (try simp +decide -implicitDefEqProofs only [go_sem])
  obtain ⟨y3, hy3, h⟩ := bindE h
  refine DCall.row Try.call34 (slices_Clone_sapi_Swept_api_Swept_own s_.Swept hy3) rfl ?_
  (try simp +decide -implicitDefEqProofs only [go_sem, List.length_map])
  obtain ⟨hk, h⟩ := chk_in h
  (repeat (refine ⟨by first | omega | (simp only [List.length_take, List.length_drop, List.length_append]; omega), ?_⟩)); try simp +decide -implicitDefEqProofs only [go_sem]
  refine hK _ _ _ (by kernel_rfl) ?_; clear hK K
  refine qthen_normal ?_
  refine AWP.seq ?_
  refine AWP.seq ?_
  refine AWP.region rfl ?_; intro K hK
  (try simp +decide -implicitDefEqProofs only [go_sem])
  obtain ⟨y4, hy4, h⟩ := bindE h
  refine ACall.snap Try.call35 (sweep_Right_spec m (ApiSweep.mk y2 (y3 ++ [w]) s_.Begun) hy4) (by simp +decide -implicitDefEqProofs only [go_sem]) (by rintro _ rfl; rfl) fun _ hr => ?_
  subst hr
  (try simp +decide -implicitDefEqProofs only [go_sem])
  refine hK _ _ ?_; clear hK K
  refine qthen_normal ?_
  refine AWP.seq ?_
  refine AWP.region rfl ?_; intro K hK
  (try simp +decide -implicitDefEqProofs only [go_sem])
  refine hK _ _ ?_; clear hK K
  refine qthen_normal ?_
  refine AWP.cond (acond_split (fun hc => ?_) (fun hc => ?_))
  · replace h := bif_t h hc
    refine AWP.seq ?_
    refine AWP.region rfl ?_; intro K hK
    (try simp +decide -implicitDefEqProofs only [go_sem])
    refine hK _ _ ?_; clear hK K
    refine qthen_normal ?_
    refine AWP.ret ?_
    refine qthen_ret ?_
    obtain rfl := some_eq h
    simp +decide -implicitDefEqProofs only [go_sem, mpE_nil, AVal.int.injEq, Int.natCast_zero, List.replicate_zero, List.length_take, List.length_drop, AVal.own.injEq, reduceCtorEq, Int.reduceAdd, nle2, nle1, nle0, nleA, nleL, Try.results11]
  replace h := bif_f h hc
  refine AWP.skip ?_
  refine qthen_normal ?_
  refine AWP.seq ?_
  refine AWP.region rfl ?_; intro K hK
  (try simp +decide -implicitDefEqProofs only [go_sem])
  refine hK _ _ ?_; clear hK K
  refine qthen_normal ?_
  refine AWP.ret ?_
  obtain rfl := some_eq h
  simp +decide -implicitDefEqProofs only [go_sem, mpE_nil, AVal.int.injEq, Int.natCast_zero, List.replicate_zero, List.length_take, List.length_drop, AVal.own.injEq, reduceCtorEq, Int.reduceAdd, nle2, nle1, nle0, nleA, nleL, Try.results11]

def sweep_Done_b1 (y1 : (List Int)) (k1 : Nat) (x_3 : Int) (sv : Unit) : Option (Out (Unit) (Bool)) :=
  (slices_Contains_sint_int y1 x_3).bind fun y4 => (bif (!y4) then some (Out.ret false) else some (Out.next ()))

def sweep_Done (s_ : ApiSweep) : Option (Bool) :=
  (sweep_swept s_).bind fun y1 => (forIx (sweep_Done_b1 y1) 0 s_.Runs ()).bind fun o1 => o1.on fun s1 => some true

theorem sweep_Done_spec (s_ : ApiSweep) {r : Bool} (h : sweep_Done s_ = some r) : PureFn Try.prog 13 [.agg (encApiSweep s_)] (· = .bool r) := by
  refine PureFn.nle (PureFn.intro Try.func13 rfl rfl (by show _ ≤ 20; simp) ?_)
  unfold sweep_Done at h
  (try simp +decide -implicitDefEqProofs only [go_sem])
  refine AWP.seq ?_
  refine AWP.region rfl ?_; intro K hK
  (try simp +decide -implicitDefEqProofs only [go_sem])
  refine hK _ _ ?_; clear hK K
  refine qthen_normal ?_
  refine AWP.seq ?_
  refine AWP.region rfl ?_; intro K hK
  (try simp +decide -implicitDefEqProofs only [go_sem])
  obtain ⟨y1, hy1, h⟩ := bindE h
  refine ACall.pure Try.call28 (sweep_swept_spec s_ hy1) rfl fun _ hr => ?_
  subst hr
  (try simp +decide -implicitDefEqProofs only [go_sem])
  refine hK _ _ ?_; clear hK K
  refine qthen_normal ?_
  refine AWP.seq ?_
  refine AWP.seq ?_
  refine AWP.region rfl ?_; intro K hK
  (try simp +decide -implicitDefEqProofs only [go_sem])
  intro hm
  refine hK _ _ ?_; clear hK K
  refine qthen_normal ?_
  refine AWP.block ?_
  obtain ⟨o1, hJ1, hO1⟩ := bindE h
  clear h
  refine AWP.loopW (ι := Nat × (Unit) × (Unit)) (fun zz => [(3, .sl 1 (y1.map intC)), (9, .sl 1 (s_.Runs.map intC)), (10, .int .i64 ((s_.Runs.length : Nat) : Int)), (11, .int .i64 ((zz.1 : Nat) : Int))]) (fun zz => []) (fun zz => zz.1 ≤ s_.Runs.length ∧ forIx (sweep_Done_b1 y1) zz.1 ((s_.Runs).drop zz.1) zz.2.1 = some o1) (fun zz => s_.Runs.length - zz.1) (0, (), ()) ⟨Nat.zero_le _, hJ1⟩ (by (simp +decide -implicitDefEqProofs only [go_sem, mpE_nil, AVal.int.injEq, Int.natCast_zero, List.replicate_zero, List.length_take, List.length_drop, AVal.own.injEq, reduceCtorEq, Int.reduceAdd] <;> omega)) (by (simp +decide -implicitDefEqProofs only [go_sem, mpE_nil, AVal.int.injEq, Int.natCast_zero, List.replicate_zero, List.length_take, List.length_drop, AVal.own.injEq, reduceCtorEq, Int.reduceAdd] <;> omega)) (fun x => ⟨rfl, rfl, rfl⟩) ?_
  clear hJ1
  rintro ⟨k1, ⟨⟩, ⟨⟩⟩ ⟨hk1, hJ1⟩
  dsimp only at hk1 hJ1 ⊢
  refine AWP.seq ?_
  refine AWP.region rfl ?_; intro K hK
  (try simp +decide -implicitDefEqProofs only [go_sem])
  refine hK _ _ ?_; clear hK K
  refine qthen_normal ?_
  refine AWP.seq ?_
  refine AWP.cond (acond_split (fun hc => ?_) (fun hc => ?_))
  · have hlt1 : k1 < s_.Runs.length := by have := of_decide_eq_true hc; omega
    obtain ⟨x_3, b1, hx1_, h, hJ1⟩ := for_cons hJ1 hlt1
    have hx1 := idxL_nat hx1_
    have hw1 : IntKind.i64.wrap (((k1 : Nat) : Int) + 1) = (((k1 : Nat) : Int) + (1 : Int)) := by rw [wrap_i64] <;> omega
    unfold sweep_Done_b1 at h; try dsimp only at h
    refine AWP.skip ?_
    refine qthen_normal ?_
    refine AWP.seq ?_
    refine AWP.block ?_
    refine AWP.seq ?_
    refine AWP.region rfl ?_; intro K hK
    (try simp +decide -implicitDefEqProofs only [go_sem])
    refine AIdx.of (f := intC) (l := s_.Runs) hx1 ?_
    (try simp +decide -implicitDefEqProofs only [go_sem])
    refine hK _ _ ?_; clear hK K
    refine qthen_normal ?_
    refine AWP.seq ?_
    refine AWP.region rfl ?_; intro K hK
    (try simp +decide -implicitDefEqProofs only [go_sem])
    obtain ⟨y4, hy4, h⟩ := bindE h
    refine ACall.pure Try.call33 (slices_Contains_sint_int_spec y1 x_3 hy4) rfl fun _ hr => ?_
    subst hr
    (try simp +decide -implicitDefEqProofs only [go_sem])
    refine hK _ _ ?_; clear hK K
    refine qthen_normal ?_
    refine AWP.cond (acond_split (fun hc => ?_) (fun hc => ?_))
    · replace h := bif_t h hc
      refine AWP.seq ?_
      refine AWP.region rfl ?_; intro K hK
      (try simp +decide -implicitDefEqProofs only [go_sem])
      refine hK _ _ ?_; clear hK K
      refine qthen_normal ?_
      refine AWP.ret ?_
      refine qblock_ret ?_
      refine qthen_ret ?_
      refine qthen_ret ?_
      obtain rfl := some_eq h
      obtain rfl := cont_ret hJ1
      replace h := on_ret hO1
      refine qblock_ret ?_
      refine qthen_ret ?_
      obtain rfl := some_eq h
      simp +decide -implicitDefEqProofs only [go_sem, mpE_nil, AVal.int.injEq, Int.natCast_zero, List.replicate_zero, List.length_take, List.length_drop, AVal.own.injEq, reduceCtorEq, Int.reduceAdd, nle2, nle1, nle0, nleA, nleL, Try.results13]
    replace h := bif_f h hc
    refine AWP.skip ?_
    refine qblock_normal ?_
    refine qthen_normal ?_
    refine AWP.region rfl ?_; intro K hK
    (try simp +decide -implicitDefEqProofs only [go_sem])
    refine hK _ _ ?_; clear hK K
    refine qthen_normal ?_
    obtain rfl := some_eq h
    refine ⟨(k1 + 1, (), ()), ⟨by dsimp only; omega, cont_next hJ1⟩, by dsimp only; omega, ?_, ?_⟩
    · (simp +decide -implicitDefEqProofs only [go_sem, mpE_nil, AVal.int.injEq, Int.natCast_zero, List.replicate_zero, List.length_take, List.length_drop, AVal.own.injEq, reduceCtorEq, Int.reduceAdd, hw1] <;> omega)
    · (simp +decide -implicitDefEqProofs only [go_sem, mpE_nil, AVal.int.injEq, Int.natCast_zero, List.replicate_zero, List.length_take, List.length_drop, AVal.own.injEq, reduceCtorEq, Int.reduceAdd, hw1] <;> omega)
  · obtain rfl := for_nil hJ1 (fun hl => by have := of_decide_eq_false hc; omega)
    have h := on_next hO1; try dsimp only at h
    have hkl : s_.Runs.length = k1 := by have := of_decide_eq_false hc; omega
    subst hkl
    refine AWP.exit ?_
    refine qthen_exit ?_
    refine qthen_exit ?_
    refine qblock_same ?_
    refine qthen_normal ?_
    refine AWP.seq ?_
    refine AWP.region rfl ?_; intro K hK
    (try simp +decide -implicitDefEqProofs only [go_sem])
    refine hK _ _ ?_; clear hK K
    refine qthen_normal ?_
    refine AWP.ret ?_
    obtain rfl := some_eq h
    simp +decide -implicitDefEqProofs only [go_sem, mpE_nil, AVal.int.injEq, Int.natCast_zero, List.replicate_zero, List.length_take, List.length_drop, AVal.own.injEq, reduceCtorEq, Int.reduceAdd, nle2, nle1, nle0, nleA, nleL, Try.results13]

def top_TopSweep_b7 (y21 : (List Int) × Int × Int) (x_24 : ApiSwept) (k24 : Nat) (x_26 : Int) (sv : Unit) : Option (Out (Unit) (Out (Unit) (Out ((List Int) × Int × (List Int) × (List ApiSwept) × Int) (Bool)))) :=
  (bif (decide (x_26 = x_24.Run)) then (idxL y21.1 ((k24 : Nat) : Int)).bind fun x_27 => (bif (decide (x_27 ≠ (0 : Int))) then some (Out.ret (Out.ret (Out.ret false))) else some (Out.next ())) else some (Out.next ()))

def top_TopSweep_b6 (runs : List Int) (y21 : (List Int) × Int × Int) (k22 : Nat) (x_24 : ApiSwept) (sv : Unit) : Option (Out (Unit) (Out ((List Int) × Int × (List Int) × (List ApiSwept) × Int) (Bool))) :=
  (forIx (top_TopSweep_b7 y21 x_24) 0 runs ()).bind fun o24 => o24.on fun s24 => some (Out.next ())

def top_TopSweep_j5 (m : ApiMap) (runs : List Int) (left8 : List Int) (gone9 : Int) (s_0_10 : List Int) (s_1_11 : List ApiSwept) (s_2_12 : Int) (k12 : Nat) (y15 : (List Int)) (k_16 : Int) (found18 : Int) : Option (Out ((List Int) × Int × (List Int) × (List ApiSwept) × Int) (Bool)) :=
  (bif (decide ((1000 : Int) < found18)) then some (Out.ret true) else (idxL y15 k_16).bind fun x_20 => (sweep_Push m (ApiSweep.mk s_0_10 s_1_11 s_2_12) left8 x_20).bind fun y21 => (bif (decide (y21.2.2 ≠ (0 : Int))) then some (Out.ret false) else (bif (decide (((y21.1.length : Nat) : Int) ≠ ((runs.length : Nat) : Int))) then some (Out.ret false) else (sweep_Do m (ApiSweep.mk s_0_10 s_1_11 s_2_12) [] (ApiSwept.mk x_20 (1 : Int) ((k12 : Nat) : Int) found18)).bind fun y22 => (bif (decide (y22.2 ≠ (0 : Int))) then some (Out.ret false) else (forIx (top_TopSweep_b6 runs y21) 0 y22.1.Swept ()).bind fun o22 => o22.on fun s22 => some (Out.next (y21.1, (IntKind.i64.wrap (gone9 + y21.2.1)), y22.1.Runs, y22.1.Swept, y22.1.Begun))))))

def top_TopSweep_b8 (left8 : List Int) (y15 : (List Int)) (k_16 : Int) (k28 : Nat) (x_30 : Int) (sv : Int) : Option (Out (Int) (Out ((List Int) × Int × (List Int) × (List ApiSwept) × Int) (Bool))) :=
  (idxL y15 k_16).bind fun x_31 => (bif (decide (x_30 = x_31)) then (idxL left8 ((k28 : Nat) : Int)).bind fun x_32 => some (Out.next x_32) else some (Out.next sv))

def top_TopSweep_j4 (m : ApiMap) (runs : List Int) (left8 : List Int) (gone9 : Int) (s_0_10 : List Int) (s_1_11 : List ApiSwept) (s_2_12 : Int) (k12 : Nat) (y15 : (List Int)) (k_16 : Int) : Option (Out ((List Int) × Int × (List Int) × (List ApiSwept) × Int) (Bool)) :=
  (forIx (top_TopSweep_b8 left8 y15 k_16) 0 runs (0 : Int)).bind fun o28 => o28.on fun s28 => top_TopSweep_j5 m runs left8 gone9 s_0_10 s_1_11 s_2_12 k12 y15 k_16 s28

def top_TopSweep_b3 (m : ApiMap) (runs : List Int) (choices : List Int) (k12 : Nat) (x_14 : Int) (sv : (List Int) × Int × (List Int) × (List ApiSwept) × Int) : Option (Out ((List Int) × Int × (List Int) × (List ApiSwept) × Int) (Bool)) :=
  (sweep_Next m (ApiSweep.mk sv.2.2.1 sv.2.2.2.1 sv.2.2.2.2)).bind fun y15 => (bif (decide (((y15.length : Nat) : Int) = (0 : Int))) then some (Out.ret false) else (bif (decide (((k12 : Nat) : Int) < ((choices.length : Nat) : Int))) then (idxL choices ((k12 : Nat) : Int)).bind fun x_33 => (bif (decide ((0 : Int) < x_33)) then nz ((y15.length : Nat) : Int) (top_TopSweep_j4 m runs sv.1 sv.2.1 sv.2.2.1 sv.2.2.2.1 sv.2.2.2.2 k12 y15 (Int.tmod x_33 ((y15.length : Nat) : Int))) else top_TopSweep_j4 m runs sv.1 sv.2.1 sv.2.2.1 sv.2.2.2.1 sv.2.2.2.2 k12 y15 (0 : Int)) else top_TopSweep_j4 m runs sv.1 sv.2.1 sv.2.2.1 sv.2.2.2.1 sv.2.2.2.2 k12 y15 (0 : Int)))

def top_TopSweep_j2 (m : ApiMap) (runs : List Int) (people : List Int) (choices : List Int) (sum4 : Int) : Option (Bool) :=
  chk people.length ((forIx (top_TopSweep_b3 m runs choices) 0 runs (people, (0 : Int), runs, [], (0 : Int))).bind fun o12 => o12.on fun s12 => (sweep_All m (ApiSweep.mk s12.2.2.1 s12.2.2.2.1 s12.2.2.2.2) people).bind fun y34 => (sweep_Done (ApiSweep.mk s12.2.2.1 s12.2.2.2.1 s12.2.2.2.2)).bind fun y35 => (bif y35 then (bif (decide (s12.2.1 = sum4)) then (bif (decide (y34.2.2 = (0 : Int))) then (bif (decide (y34.1 = sum4)) then some (decide (y34.2.1 = (0 : Int))) else some false) else some false) else some false) else some false))

def top_TopSweep_b10 (y38 : ApiRun × Bool) (k39 : Nat) (x_41 : Int) (sv : Bool) : Option (Out (Bool) (Out (Unit) (Bool))) :=
  (bif sv then some (Out.next true) else some (Out.next (decide (x_41 = y38.1.From))))

def top_TopSweep_b9 (m : ApiMap) (y6 : (List Int)) (k35 : Nat) (x_37 : Int) (sv : Unit) : Option (Out (Unit) (Bool)) :=
  (ref10_Run m x_37).bind fun y38 => (forIx (top_TopSweep_b10 y38) 0 y6 false).bind fun o39 => o39.on fun s39 => (bif (!s39) then some (Out.ret false) else some (Out.next ()))

def top_TopSweep_j1 (m : ApiMap) (runs : List Int) (people : List Int) (choices : List Int) (sum4 : Int) : Option (Bool) :=
  (ways_Home m runs).bind fun y6 => (forIx (top_TopSweep_b9 m y6) 0 runs ()).bind fun o35 => o35.on fun s35 => top_TopSweep_j2 m runs people choices sum4

def top_TopSweep_b11 (k42 : Nat) (x_44 : Int) (sv : Int) : Option (Out (Int) (Bool)) :=
  (bif (decide (x_44 < (0 : Int))) then some (Out.ret true) else (bif (decide ((1000 : Int) < x_44)) then some (Out.ret true) else some (Out.next (IntKind.i64.wrap (sv + x_44)))))

def top_TopSweep (m : ApiMap) (runs : List Int) (people : List Int) (choices : List Int) : Option (Bool) :=
  (top_sweepAlive).bind fun y1 => (bif (!y1) then some false else (bif (decide ((12 : Int) < ((m.Nodes.length : Nat) : Int))) then some true else (bif (decide ((12 : Int) < ((m.Runs.length : Nat) : Int))) then some true else (bif (decide ((12 : Int) < ((m.Lifts.length : Nat) : Int))) then some true else (bif (decide ((12 : Int) < ((runs.length : Nat) : Int))) then some true else (bif (decide ((12 : Int) < ((people.length : Nat) : Int))) then some true else (bif (decide ((60 : Int) < ((choices.length : Nat) : Int))) then some true else (ref10_Right m).bind fun y2 => (bif (decide (y2 ≠ (0 : Int))) then some true else (ref56_Right m (ApiSweep.mk runs [] (0 : Int))).bind fun y3 => (bif (decide (y3 ≠ (0 : Int))) then some true else (bif (decide (((people.length : Nat) : Int) ≠ ((runs.length : Nat) : Int))) then some true else (forIx top_TopSweep_b11 0 people (0 : Int)).bind fun o42 => o42.on fun s42 => top_TopSweep_j1 m runs people choices s42))))))))))

theorem top_TopSweep_spec (m : ApiMap) (runs : List Int) (people : List Int) (choices : List Int) {r : Bool} (h : top_TopSweep m runs people choices = some r) : PureFn Try.prog 3 [.agg (encApiMap m), .sl 1 (runs.map intC), .sl 1 (people.map intC), .sl 1 (choices.map intC)] (· = .bool r) := by
  refine PureFn.nle (PureFn.intro Try.func3 rfl rfl (by show _ ≤ 299; simp) ?_)
  unfold top_TopSweep at h
  (try simp +decide -implicitDefEqProofs only [go_sem])
  refine AWP.seq ?_
  refine AWP.region rfl ?_; intro K hK
  (try simp +decide -implicitDefEqProofs only [go_sem])
  refine hK _ _ ?_; clear hK K
  refine qthen_normal ?_
  refine AWP.seq ?_
  refine AWP.seq ?_
  refine AWP.region rfl ?_; intro K hK
  (try simp +decide -implicitDefEqProofs only [go_sem])
  obtain ⟨y1, hy1, h⟩ := bindE h
  refine ACall.pure Try.call4 (top_sweepAlive_spec hy1) rfl fun _ hr => ?_
  subst hr
  (try simp +decide -implicitDefEqProofs only [go_sem])
  refine hK _ _ ?_; clear hK K
  refine qthen_normal ?_
  refine AWP.cond (acond_split (fun hc => ?_) (fun hc => ?_))
  · replace h := bif_t h hc
    refine AWP.seq ?_
    refine AWP.region rfl ?_; intro K hK
    (try simp +decide -implicitDefEqProofs only [go_sem])
    refine hK _ _ ?_; clear hK K
    refine qthen_normal ?_
    refine AWP.ret ?_
    refine qthen_ret ?_
    obtain rfl := some_eq h
    simp +decide -implicitDefEqProofs only [go_sem, mpE_nil, AVal.int.injEq, Int.natCast_zero, List.replicate_zero, List.length_take, List.length_drop, AVal.own.injEq, reduceCtorEq, Int.reduceAdd, nle2, nle1, nle0, nleA, nleL, Try.results3]
  replace h := bif_f h hc
  refine AWP.skip ?_
  refine qthen_normal ?_
  refine AWP.seq ?_
  refine AWP.seq ?_
  refine AWP.region rfl ?_; intro K hK
  (try simp +decide -implicitDefEqProofs only [go_sem])
  intro hm
  refine aguardK_split (fun hc => ?_) (fun hc => ?_)
  · replace h := bif_f h hc
    (try simp +decide -implicitDefEqProofs only [go_sem, hc])
    intro hm
    refine aguardK_split (fun hc => ?_) (fun hc => ?_)
    · replace h := bif_f h hc
      (try simp +decide -implicitDefEqProofs only [go_sem, hc])
      intro hm
      refine aguardK_split (fun hc => ?_) (fun hc => ?_)
      · replace h := bif_f h hc
        (try simp +decide -implicitDefEqProofs only [go_sem, hc])
        intro hm
        refine aguardK_split (fun hc => ?_) (fun hc => ?_)
        · replace h := bif_f h hc
          (try simp +decide -implicitDefEqProofs only [go_sem, hc])
          intro hm
          refine aguardK_split (fun hc => ?_) (fun hc => ?_)
          · replace h := bif_f h hc
            (try simp +decide -implicitDefEqProofs only [go_sem, hc])
            intro hm
            refine aguardK_split (fun hc => ?_) (fun hc => ?_)
            · replace h := bif_f h hc
              (try simp +decide -implicitDefEqProofs only [go_sem, hc])
              obtain ⟨y2, hy2, h⟩ := bindE h
              refine ACall.pure Try.call5 (ref10_Right_spec m hy2) rfl fun _ hr => ?_
              subst hr
              (try simp +decide -implicitDefEqProofs only [go_sem])
              refine hK _ _ ?_; clear hK K
              refine qthen_normal ?_
              refine AWP.cond (acond_split (fun hc => ?_) (fun hc => ?_))
              · replace h := bif_t h hc
                refine AWP.seq ?_
                refine AWP.region rfl ?_; intro K hK
                (try simp +decide -implicitDefEqProofs only [go_sem])
                refine hK _ _ ?_; clear hK K
                refine qthen_normal ?_
                refine AWP.ret ?_
                refine qthen_ret ?_
                obtain rfl := some_eq h
                simp +decide -implicitDefEqProofs only [go_sem, mpE_nil, AVal.int.injEq, Int.natCast_zero, List.replicate_zero, List.length_take, List.length_drop, AVal.own.injEq, reduceCtorEq, Int.reduceAdd, nle2, nle1, nle0, nleA, nleL, Try.results3]
              replace h := bif_f h hc
              refine AWP.skip ?_
              refine qthen_normal ?_
              refine AWP.seq ?_
              refine AWP.region rfl ?_; intro K hK
              (try simp +decide -implicitDefEqProofs only [go_sem])
              refine hK _ _ ?_; clear hK K
              refine qthen_normal ?_
              refine AWP.seq ?_
              refine AWP.seq ?_
              refine AWP.region rfl ?_; intro K hK
              (try simp +decide -implicitDefEqProofs only [go_sem])
              obtain ⟨y3, hy3, h⟩ := bindE h
              refine ACall.pure Try.call6 (PureFn.argN (args := [.agg [.sl 2 (m.Nodes.map encApiNode), .sl 8 (m.Lifts.map encApiLift), .sl 7 (m.Runs.map encApiRun), .sl 1 (m.Bases.map intC)], .agg [.sl 1 (runs.map intC), .nils, .int .i64 (0 : Int)]]) (by simp +decide -implicitDefEqProofs only [go_sem, mpE_nil, AVal.int.injEq, Int.natCast_zero, List.replicate_zero, List.length_take, List.length_drop, AVal.own.injEq, reduceCtorEq, Int.reduceAdd, nle2, nle1, nle0, nleA, nleL]) (ref56_Right_spec m (ApiSweep.mk runs [] (0 : Int)) hy3)) rfl fun _ hr => ?_
              subst hr
              (try simp +decide -implicitDefEqProofs only [go_sem])
              refine aguardK_split (fun hc => ?_) (fun hc => ?_)
              · replace h := bif_f h hc
                (try simp +decide -implicitDefEqProofs only [go_sem, hc])
                intro hm
                intro hm
                refine hK _ _ ?_; clear hK K
                refine qthen_normal ?_
                refine AWP.cond (acond_split (fun hc => ?_) (fun hc => ?_))
                · replace h := bif_t h hc
                  refine AWP.seq ?_
                  refine AWP.region rfl ?_; intro K hK
                  (try simp +decide -implicitDefEqProofs only [go_sem])
                  refine hK _ _ ?_; clear hK K
                  refine qthen_normal ?_
                  refine AWP.ret ?_
                  refine qthen_ret ?_
                  obtain rfl := some_eq h
                  simp +decide -implicitDefEqProofs only [go_sem, mpE_nil, AVal.int.injEq, Int.natCast_zero, List.replicate_zero, List.length_take, List.length_drop, AVal.own.injEq, reduceCtorEq, Int.reduceAdd, nle2, nle1, nle0, nleA, nleL, Try.results3]
                replace h := bif_f h hc
                refine AWP.skip ?_
                refine qthen_normal ?_
                refine AWP.seq ?_
                refine AWP.region rfl ?_; intro K hK
                (try simp +decide -implicitDefEqProofs only [go_sem])
                refine hK _ _ ?_; clear hK K
                refine qthen_normal ?_
                refine AWP.seqJoin (ι := (Int) × (Unit)) (fun zz => [(1, .sl 1 (runs.map intC)), (2, .sl 1 (people.map intC)), (3, .sl 1 (choices.map intC)), (4, .ptr 0 0), (9, .ptr 1 0), (10, .int .i64 zz.1)]) (fun zz => [.box [.sl 2 (m.Nodes.map encApiNode), .sl 8 (m.Lifts.map encApiLift), .sl 7 (m.Runs.map encApiRun), .sl 1 (m.Bases.map intC)], .box [.sl 1 (runs.map intC), .nils, .int .i64 (0 : Int)]]) (fun zz => top_TopSweep_j1 m runs people choices zz.1 = some r) (fun zz => ⟨rfl, rfl, rfl⟩) ?_ ?_
                · refine AWP.seq ?_
                  refine AWP.region rfl ?_; intro K hK
                  (try simp +decide -implicitDefEqProofs only [go_sem])
                  refine hK _ _ ?_; clear hK K
                  refine qthen_normal ?_
                  refine AWP.block ?_
                  obtain ⟨o42, hJ42, hO42⟩ := bindE h
                  clear h
                  refine AWP.loopW (ι := Nat × (Int) × (Unit)) (fun zz => [(1, .sl 1 (runs.map intC)), (2, .sl 1 (people.map intC)), (3, .sl 1 (choices.map intC)), (4, .ptr 0 0), (9, .ptr 1 0), (10, .int .i64 zz.2.1), (11, .int .i64 ((zz.1 : Nat) : Int))]) (fun zz => [.box [.sl 2 (m.Nodes.map encApiNode), .sl 8 (m.Lifts.map encApiLift), .sl 7 (m.Runs.map encApiRun), .sl 1 (m.Bases.map intC)], .box [.sl 1 (runs.map intC), .nils, .int .i64 (0 : Int)]]) (fun zz => zz.1 ≤ people.length ∧ forIx top_TopSweep_b11 zz.1 ((people).drop zz.1) zz.2.1 = some o42) (fun zz => people.length - zz.1) (0, (0 : Int), ()) ⟨Nat.zero_le _, hJ42⟩ (by (simp +decide -implicitDefEqProofs only [go_sem, mpE_nil, AVal.int.injEq, Int.natCast_zero, List.replicate_zero, List.length_take, List.length_drop, AVal.own.injEq, reduceCtorEq, Int.reduceAdd] <;> omega)) (by (simp +decide -implicitDefEqProofs only [go_sem, mpE_nil, AVal.int.injEq, Int.natCast_zero, List.replicate_zero, List.length_take, List.length_drop, AVal.own.injEq, reduceCtorEq, Int.reduceAdd] <;> omega)) (fun x => ⟨rfl, rfl, rfl⟩) ?_
                  clear hJ42
                  rintro ⟨k42, sum42, ⟨⟩⟩ ⟨hk42, hJ42⟩
                  dsimp only at hk42 hJ42 ⊢
                  refine AWP.seq ?_
                  refine AWP.seq ?_
                  refine AWP.region rfl ?_; intro K hK
                  (try simp +decide -implicitDefEqProofs only [go_sem])
                  intro hm
                  refine hK _ _ ?_; clear hK K
                  refine qthen_normal ?_
                  refine AWP.cond (acond_split (fun hc => ?_) (fun hc => ?_))
                  · have hlt42 : k42 < people.length := by have := of_decide_eq_true hc; omega
                    obtain ⟨x_44, b42, hx42_, h, hJ42⟩ := for_cons hJ42 hlt42
                    have hx42 := idxL_nat hx42_
                    have hw42 : IntKind.i64.wrap (((k42 : Nat) : Int) + 1) = (((k42 : Nat) : Int) + (1 : Int)) := by rw [wrap_i64] <;> omega
                    unfold top_TopSweep_b11 at h; try dsimp only at h
                    refine AWP.skip ?_
                    refine qthen_normal ?_
                    refine AWP.seq ?_
                    refine AWP.block ?_
                    refine AWP.seq ?_
                    refine AWP.seq ?_
                    refine AWP.region rfl ?_; intro K hK
                    (try simp +decide -implicitDefEqProofs only [go_sem])
                    refine AIdx.of (f := intC) (l := people) hx42 ?_
                    (try simp +decide -implicitDefEqProofs only [go_sem])
                    refine aguardK_split (fun hc => ?_) (fun hc => ?_)
                    · replace h := bif_f h hc
                      (try simp +decide -implicitDefEqProofs only [go_sem, hc])
                      refine AIdx.of (f := intC) (l := people) hx42 ?_
                      (try simp +decide -implicitDefEqProofs only [go_sem])
                      refine hK _ _ ?_; clear hK K
                      refine qthen_normal ?_
                      refine AWP.cond (acond_split (fun hc => ?_) (fun hc => ?_))
                      · replace h := bif_t h hc
                        refine AWP.seq ?_
                        refine AWP.region rfl ?_; intro K hK
                        (try simp +decide -implicitDefEqProofs only [go_sem])
                        refine hK _ _ ?_; clear hK K
                        refine qthen_normal ?_
                        refine AWP.ret ?_
                        refine qthen_ret ?_
                        refine qblock_ret ?_
                        refine qthen_ret ?_
                        refine qthen_ret ?_
                        obtain rfl := some_eq h
                        obtain rfl := cont_ret hJ42
                        replace h := on_ret hO42
                        refine qblock_ret ?_
                        refine qthen_ret ?_
                        obtain rfl := some_eq h
                        simp +decide -implicitDefEqProofs only [go_sem, mpE_nil, AVal.int.injEq, Int.natCast_zero, List.replicate_zero, List.length_take, List.length_drop, AVal.own.injEq, reduceCtorEq, Int.reduceAdd, nle2, nle1, nle0, nleA, nleL, Try.results3]
                      replace h := bif_f h hc
                      refine AWP.skip ?_
                      refine qthen_normal ?_
                      refine AWP.region rfl ?_; intro K hK
                      (try simp +decide -implicitDefEqProofs only [go_sem])
                      refine AIdx.of (f := intC) (l := people) hx42 ?_
                      (try simp +decide -implicitDefEqProofs only [go_sem])
                      refine hK _ _ ?_; clear hK K
                      refine qblock_normal ?_
                      refine qthen_normal ?_
                      refine AWP.region rfl ?_; intro K hK
                      (try simp +decide -implicitDefEqProofs only [go_sem])
                      refine hK _ _ ?_; clear hK K
                      refine qthen_normal ?_
                      obtain rfl := some_eq h
                      refine ⟨(k42 + 1, (IntKind.i64.wrap (sum42 + x_44)), ()), ⟨by dsimp only; omega, cont_next hJ42⟩, by dsimp only; omega, ?_, ?_⟩
                      · (simp +decide -implicitDefEqProofs only [go_sem, mpE_nil, AVal.int.injEq, Int.natCast_zero, List.replicate_zero, List.length_take, List.length_drop, AVal.own.injEq, reduceCtorEq, Int.reduceAdd, hw42] <;> omega)
                      · (simp +decide -implicitDefEqProofs only [go_sem, mpE_nil, AVal.int.injEq, Int.natCast_zero, List.replicate_zero, List.length_take, List.length_drop, AVal.own.injEq, reduceCtorEq, Int.reduceAdd, hw42] <;> omega)
                    · replace h := bif_t h hc
                      (try simp +decide -implicitDefEqProofs only [go_sem, hc, Bool.not_false])
                      refine hK _ _ ?_; clear hK K
                      refine qthen_normal ?_
                      refine AWP.cond (acond_true ?_)
                      refine AWP.seq ?_
                      refine AWP.region rfl ?_; intro K hK
                      (try simp +decide -implicitDefEqProofs only [go_sem])
                      refine hK _ _ ?_; clear hK K
                      refine qthen_normal ?_
                      refine AWP.ret ?_
                      refine qthen_ret ?_
                      refine qblock_ret ?_
                      refine qthen_ret ?_
                      refine qthen_ret ?_
                      obtain rfl := some_eq h
                      obtain rfl := cont_ret hJ42
                      replace h := on_ret hO42
                      refine qblock_ret ?_
                      refine qthen_ret ?_
                      obtain rfl := some_eq h
                      simp +decide -implicitDefEqProofs only [go_sem, mpE_nil, AVal.int.injEq, Int.natCast_zero, List.replicate_zero, List.length_take, List.length_drop, AVal.own.injEq, reduceCtorEq, Int.reduceAdd, nle2, nle1, nle0, nleA, nleL, Try.results3]
                  · obtain rfl := for_nil hJ42 (fun hl => by have := of_decide_eq_false hc; omega)
                    have h := on_next hO42; try dsimp only at h
                    have hkl : people.length = k42 := by have := of_decide_eq_false hc; omega
                    subst hkl
                    refine AWP.exit ?_
                    refine qthen_exit ?_
                    refine qthen_exit ?_
                    refine qblock_same ?_
                    refine qthen_normal ?_
                    exact ⟨(sum42, ()), h, by (simp +decide -implicitDefEqProofs only [go_sem, mpE_nil, AVal.int.injEq, Int.natCast_zero, List.replicate_zero, List.length_take, List.length_drop, AVal.own.injEq, reduceCtorEq, Int.reduceAdd] <;> omega), by (simp +decide -implicitDefEqProofs only [go_sem, mpE_nil, AVal.int.injEq, Int.natCast_zero, List.replicate_zero, List.length_take, List.length_drop, AVal.own.injEq, reduceCtorEq, Int.reduceAdd] <;> omega)⟩
                · rintro ⟨sum4, ⟨⟩⟩ h
                  try dsimp only at h ⊢
                  unfold top_TopSweep_j1 at h; try dsimp only at h
                  refine AWP.seq ?_
                  refine AWP.region rfl ?_; intro K hK
                  (try simp +decide -implicitDefEqProofs only [go_sem])
                  obtain ⟨y6, hy6, h⟩ := bindE h
                  refine ACall.pure Try.call7 (ways_Home_spec m runs hy6) rfl fun _ hr => ?_
                  subst hr
                  (try simp +decide -implicitDefEqProofs only [go_sem])
                  refine hK _ _ ?_; clear hK K
                  refine qthen_normal ?_
                  refine AWP.seqJoin (ι := (Unit) × (Unit)) (fun zz => [(1, .sl 1 (runs.map intC)), (2, .sl 1 (people.map intC)), (3, .sl 1 (choices.map intC)), (4, .ptr 0 0), (9, .ptr 1 0), (10, .int .i64 sum4)]) (fun zz => [.box [.sl 2 (m.Nodes.map encApiNode), .sl 8 (m.Lifts.map encApiLift), .sl 7 (m.Runs.map encApiRun), .sl 1 (m.Bases.map intC)], .box [.sl 1 (runs.map intC), .nils, .int .i64 (0 : Int)]]) (fun zz => top_TopSweep_j2 m runs people choices sum4 = some r) (fun zz => ⟨rfl, rfl, rfl⟩) ?_ ?_
                  · refine AWP.seq ?_
                    refine AWP.region rfl ?_; intro K hK
                    (try simp +decide -implicitDefEqProofs only [go_sem])
                    refine hK _ _ ?_; clear hK K
                    refine qthen_normal ?_
                    refine AWP.block ?_
                    obtain ⟨o35, hJ35, hO35⟩ := bindE h
                    clear h
                    refine AWP.loopW (ι := Nat × (Unit) × (Unit)) (fun zz => [(1, .sl 1 (runs.map intC)), (2, .sl 1 (people.map intC)), (3, .sl 1 (choices.map intC)), (4, .ptr 0 0), (9, .ptr 1 0), (10, .int .i64 sum4), (12, .sl 1 (y6.map intC)), (13, .int .i64 ((zz.1 : Nat) : Int))]) (fun zz => [.box [.sl 2 (m.Nodes.map encApiNode), .sl 8 (m.Lifts.map encApiLift), .sl 7 (m.Runs.map encApiRun), .sl 1 (m.Bases.map intC)], .box [.sl 1 (runs.map intC), .nils, .int .i64 (0 : Int)]]) (fun zz => zz.1 ≤ runs.length ∧ forIx (top_TopSweep_b9 m y6) zz.1 ((runs).drop zz.1) zz.2.1 = some o35) (fun zz => runs.length - zz.1) (0, (), ()) ⟨Nat.zero_le _, hJ35⟩ (by (simp +decide -implicitDefEqProofs only [go_sem, mpE_nil, AVal.int.injEq, Int.natCast_zero, List.replicate_zero, List.length_take, List.length_drop, AVal.own.injEq, reduceCtorEq, Int.reduceAdd] <;> omega)) (by (simp +decide -implicitDefEqProofs only [go_sem, mpE_nil, AVal.int.injEq, Int.natCast_zero, List.replicate_zero, List.length_take, List.length_drop, AVal.own.injEq, reduceCtorEq, Int.reduceAdd] <;> omega)) (fun x => ⟨rfl, rfl, rfl⟩) ?_
                    clear hJ35
                    rintro ⟨k35, ⟨⟩, ⟨⟩⟩ ⟨hk35, hJ35⟩
                    dsimp only at hk35 hJ35 ⊢
                    refine AWP.seq ?_
                    refine AWP.seq ?_
                    refine AWP.region rfl ?_; intro K hK
                    (try simp +decide -implicitDefEqProofs only [go_sem])
                    intro hm
                    refine hK _ _ ?_; clear hK K
                    refine qthen_normal ?_
                    refine AWP.cond (acond_split (fun hc => ?_) (fun hc => ?_))
                    · have hlt35 : k35 < runs.length := by have := of_decide_eq_true hc; omega
                      obtain ⟨x_37, b35, hx35_, h, hJ35⟩ := for_cons hJ35 hlt35
                      have hx35 := idxL_nat hx35_
                      have hw35 : IntKind.i64.wrap (((k35 : Nat) : Int) + 1) = (((k35 : Nat) : Int) + (1 : Int)) := by rw [wrap_i64] <;> omega
                      unfold top_TopSweep_b9 at h; try dsimp only at h
                      refine AWP.skip ?_
                      refine qthen_normal ?_
                      refine AWP.seq ?_
                      refine AWP.block ?_
                      refine AWP.seq ?_
                      refine AWP.draw Try.mixed (by kernel_rfl) ?_; intro K hK
                      (try simp +decide -implicitDefEqProofs only [go_sem])
                      refine AIdx.of (f := intC) (l := runs) hx35 ?_
                      (try simp +decide -implicitDefEqProofs only [go_sem])
                      obtain ⟨y38, hy38, h⟩ := bindE h
                      refine DCall.pure Try.call8 (ref10_Run_spec m x_37 hy38) rfl ?_
                      (try simp +decide -implicitDefEqProofs only [go_sem])
                      refine hK _ _ _ (by kernel_rfl) ?_; clear hK K
                      refine qthen_normal ?_
                      refine AWP.seq ?_
                      refine AWP.region rfl ?_; intro K hK
                      (try simp +decide -implicitDefEqProofs only [go_sem])
                      refine hK _ _ ?_; clear hK K
                      refine qthen_normal ?_
                      refine AWP.seq ?_
                      refine AWP.seq ?_
                      refine AWP.region rfl ?_; intro K hK
                      (try simp +decide -implicitDefEqProofs only [go_sem])
                      refine hK _ _ ?_; clear hK K
                      refine qthen_normal ?_
                      refine AWP.block ?_
                      obtain ⟨o39, hJ39, hO39⟩ := bindE h
                      clear h
                      refine AWP.loopW (ι := Nat × (Bool) × (Unit)) (fun zz => [(1, .sl 1 (runs.map intC)), (2, .sl 1 (people.map intC)), (3, .sl 1 (choices.map intC)), (4, .ptr 0 0), (9, .ptr 1 0), (10, .int .i64 sum4), (12, .sl 1 (y6.map intC)), (13, .int .i64 ((k35 : Nat) : Int)), (14, .ptr 3 0), (16, .bool zz.2.1), (17, .int .i64 ((zz.1 : Nat) : Int))]) (fun zz => [.box [.sl 2 (m.Nodes.map encApiNode), .sl 8 (m.Lifts.map encApiLift), .sl 7 (m.Runs.map encApiRun), .sl 1 (m.Bases.map intC)], .box [.sl 1 (runs.map intC), .nils, .int .i64 (0 : Int)], .gone, .box [.int .i64 y38.1.ID, .int .i64 y38.1.Operator, .int .i64 y38.1.From, .int .i64 y38.1.To, .int .i64 y38.1.Grade, .int .i64 y38.1.Zone, .int .i64 y38.1.Length]]) (fun zz => zz.1 ≤ y6.length ∧ forIx (top_TopSweep_b10 y38) zz.1 ((y6).drop zz.1) zz.2.1 = some o39) (fun zz => y6.length - zz.1) (0, false, ()) ⟨Nat.zero_le _, hJ39⟩ (by (simp +decide -implicitDefEqProofs only [go_sem, mpE_nil, AVal.int.injEq, Int.natCast_zero, List.replicate_zero, List.length_take, List.length_drop, AVal.own.injEq, reduceCtorEq, Int.reduceAdd] <;> omega)) (by (simp +decide -implicitDefEqProofs only [go_sem, mpE_nil, AVal.int.injEq, Int.natCast_zero, List.replicate_zero, List.length_take, List.length_drop, AVal.own.injEq, reduceCtorEq, Int.reduceAdd] <;> omega)) (fun x => ⟨rfl, rfl, rfl⟩) ?_
                      clear hJ39
                      rintro ⟨k39, there39, ⟨⟩⟩ ⟨hk39, hJ39⟩
                      dsimp only at hk39 hJ39 ⊢
                      refine AWP.seq ?_
                      refine AWP.seq ?_
                      refine AWP.region rfl ?_; intro K hK
                      (try simp +decide -implicitDefEqProofs only [go_sem])
                      intro hm
                      refine hK _ _ ?_; clear hK K
                      refine qthen_normal ?_
                      refine AWP.cond (acond_split (fun hc => ?_) (fun hc => ?_))
                      · have hlt39 : k39 < y6.length := by have := of_decide_eq_true hc; omega
                        obtain ⟨x_41, b39, hx39_, h, hJ39⟩ := for_cons hJ39 hlt39
                        have hx39 := idxL_nat hx39_
                        have hw39 : IntKind.i64.wrap (((k39 : Nat) : Int) + 1) = (((k39 : Nat) : Int) + (1 : Int)) := by rw [wrap_i64] <;> omega
                        unfold top_TopSweep_b10 at h; try dsimp only at h
                        refine AWP.skip ?_
                        refine qthen_normal ?_
                        refine AWP.seq ?_
                        refine AWP.block ?_
                        refine AWP.draw Try.mixed (by kernel_rfl) ?_; intro K hK
                        (try simp +decide -implicitDefEqProofs only [go_sem])
                        refine aguardK_split (fun hc => ?_) (fun hc => ?_)
                        · replace h := bif_f h hc
                          (try simp +decide -implicitDefEqProofs only [go_sem, hc])
                          refine AIdx.of (f := intC) (l := y6) hx39 ?_
                          (try simp +decide -implicitDefEqProofs only [go_sem])
                          refine hK _ _ _ (by kernel_rfl) ?_; clear hK K
                          refine qblock_normal ?_
                          refine qthen_normal ?_
                          refine AWP.region rfl ?_; intro K hK
                          (try simp +decide -implicitDefEqProofs only [go_sem])
                          refine hK _ _ ?_; clear hK K
                          refine qthen_normal ?_
                          obtain rfl := some_eq h
                          refine ⟨(k39 + 1, (decide (x_41 = y38.1.From)), ()), ⟨by dsimp only; omega, cont_next hJ39⟩, by dsimp only; omega, ?_, ?_⟩
                          · (simp +decide -implicitDefEqProofs only [go_sem, mpE_nil, AVal.int.injEq, Int.natCast_zero, List.replicate_zero, List.length_take, List.length_drop, AVal.own.injEq, reduceCtorEq, Int.reduceAdd, hw39] <;> omega)
                          · (simp +decide -implicitDefEqProofs only [go_sem, mpE_nil, AVal.int.injEq, Int.natCast_zero, List.replicate_zero, List.length_take, List.length_drop, AVal.own.injEq, reduceCtorEq, Int.reduceAdd, hw39] <;> omega)
                        · replace h := bif_t h hc
                          (try simp +decide -implicitDefEqProofs only [go_sem, hc, Bool.not_false])
                          refine hK _ _ _ (by kernel_rfl) ?_; clear hK K
                          refine qblock_normal ?_
                          refine qthen_normal ?_
                          refine AWP.region rfl ?_; intro K hK
                          (try simp +decide -implicitDefEqProofs only [go_sem])
                          refine hK _ _ ?_; clear hK K
                          refine qthen_normal ?_
                          obtain rfl := some_eq h
                          refine ⟨(k39 + 1, true, ()), ⟨by dsimp only; omega, cont_next hJ39⟩, by dsimp only; omega, ?_, ?_⟩
                          · (simp +decide -implicitDefEqProofs only [go_sem, mpE_nil, AVal.int.injEq, Int.natCast_zero, List.replicate_zero, List.length_take, List.length_drop, AVal.own.injEq, reduceCtorEq, Int.reduceAdd, hw39] <;> omega)
                          · (simp +decide -implicitDefEqProofs only [go_sem, mpE_nil, AVal.int.injEq, Int.natCast_zero, List.replicate_zero, List.length_take, List.length_drop, AVal.own.injEq, reduceCtorEq, Int.reduceAdd, hw39] <;> omega)
                      · obtain rfl := for_nil hJ39 (fun hl => by have := of_decide_eq_false hc; omega)
                        have h := on_next hO39; try dsimp only at h
                        have hkl : y6.length = k39 := by have := of_decide_eq_false hc; omega
                        subst hkl
                        refine AWP.exit ?_
                        refine qthen_exit ?_
                        refine qthen_exit ?_
                        refine qblock_same ?_
                        refine qthen_normal ?_
                        refine AWP.seq ?_
                        refine AWP.region rfl ?_; intro K hK
                        (try simp +decide -implicitDefEqProofs only [go_sem])
                        refine hK _ _ ?_; clear hK K
                        refine qthen_normal ?_
                        refine AWP.cond (acond_split (fun hc => ?_) (fun hc => ?_))
                        · replace h := bif_t h hc
                          refine AWP.seq ?_
                          refine AWP.region rfl ?_; intro K hK
                          (try simp +decide -implicitDefEqProofs only [go_sem])
                          refine hK _ _ ?_; clear hK K
                          refine qthen_normal ?_
                          refine AWP.ret ?_
                          refine qblock_ret ?_
                          refine qthen_ret ?_
                          refine qthen_ret ?_
                          obtain rfl := some_eq h
                          obtain rfl := cont_ret hJ35
                          replace h := on_ret hO35
                          refine qblock_ret ?_
                          refine qthen_ret ?_
                          obtain rfl := some_eq h
                          simp +decide -implicitDefEqProofs only [go_sem, mpE_nil, AVal.int.injEq, Int.natCast_zero, List.replicate_zero, List.length_take, List.length_drop, AVal.own.injEq, reduceCtorEq, Int.reduceAdd, nle2, nle1, nle0, nleA, nleL, Try.results3]
                        replace h := bif_f h hc
                        refine AWP.skip ?_
                        refine qblock_normal ?_
                        refine qthen_normal ?_
                        refine AWP.region rfl ?_; intro K hK
                        (try simp +decide -implicitDefEqProofs only [go_sem])
                        refine hK _ _ ?_; clear hK K
                        refine qthen_normal ?_
                        obtain rfl := some_eq h
                        refine ⟨(k35 + 1, (), ()), ⟨by dsimp only; omega, cont_next hJ35⟩, by dsimp only; omega, ?_, ?_⟩
                        · (simp +decide -implicitDefEqProofs only [go_sem, mpE_nil, AVal.int.injEq, Int.natCast_zero, List.replicate_zero, List.length_take, List.length_drop, AVal.own.injEq, reduceCtorEq, Int.reduceAdd, hw35] <;> omega)
                        · (simp +decide -implicitDefEqProofs only [go_sem, mpE_nil, AVal.int.injEq, Int.natCast_zero, List.replicate_zero, List.length_take, List.length_drop, AVal.own.injEq, reduceCtorEq, Int.reduceAdd, hw35] <;> omega)
                    · obtain rfl := for_nil hJ35 (fun hl => by have := of_decide_eq_false hc; omega)
                      have h := on_next hO35; try dsimp only at h
                      have hkl : runs.length = k35 := by have := of_decide_eq_false hc; omega
                      subst hkl
                      refine AWP.exit ?_
                      refine qthen_exit ?_
                      refine qthen_exit ?_
                      refine qblock_same ?_
                      refine qthen_normal ?_
                      exact ⟨((), ()), h, by (simp +decide -implicitDefEqProofs only [go_sem, mpE_nil, AVal.int.injEq, Int.natCast_zero, List.replicate_zero, List.length_take, List.length_drop, AVal.own.injEq, reduceCtorEq, Int.reduceAdd] <;> omega), by (simp +decide -implicitDefEqProofs only [go_sem, mpE_nil, AVal.int.injEq, Int.natCast_zero, List.replicate_zero, List.length_take, List.length_drop, AVal.own.injEq, reduceCtorEq, Int.reduceAdd] <;> omega)⟩
                  · rintro ⟨⟨⟩, ⟨⟩⟩ h
                    try dsimp only at h ⊢
                    unfold top_TopSweep_j2 at h; try dsimp only at h
                    refine AWP.seq ?_
                    refine AWP.region rfl ?_; intro K hK
                    (try simp +decide -implicitDefEqProofs only [go_sem])
                    obtain ⟨hk, h⟩ := chk_in h
                    (repeat (refine ⟨by first | omega | (simp only [List.length_take, List.length_drop, List.length_append]; omega), ?_⟩)); try simp +decide -implicitDefEqProofs only [go_sem]
                    refine hK _ _ ?_; clear hK K
                    refine qthen_normal ?_
                    refine AWP.sub (Sub.freezeRow 2 rfl) ?_
                    (try simp +decide -implicitDefEqProofs only [go_sem])
                    refine AWP.seq ?_
                    refine AWP.region rfl ?_; intro K hK
                    (try simp +decide -implicitDefEqProofs only [go_sem])
                    refine hK _ _ ?_; clear hK K
                    refine qthen_normal ?_
                    refine AWP.seq ?_
                    refine AWP.seq ?_
                    refine AWP.region rfl ?_; intro K hK
                    (try simp +decide -implicitDefEqProofs only [go_sem])
                    refine hK _ _ ?_; clear hK K
                    refine qthen_normal ?_
                    refine AWP.block ?_
                    obtain ⟨o12, hJ12, hO12⟩ := bindE h
                    clear h
                    refine AWP.loopW (ι := Nat × ((List Int) × Int × (List Int) × (List ApiSwept) × Int) × (Unit)) (fun zz => [(1, .sl 1 (runs.map intC)), (2, .sl 1 (people.map intC)), (3, .sl 1 (choices.map intC)), (4, .ptr 0 0), (9, .ptr 1 0), (10, .int .i64 sum4), (18, .sl 1 (zz.2.1.1.map intC)), (19, .int .i64 zz.2.1.2.1), (20, .int .i64 ((zz.1 : Nat) : Int))]) (fun zz => [.box [.sl 2 (m.Nodes.map encApiNode), .sl 8 (m.Lifts.map encApiLift), .sl 7 (m.Runs.map encApiRun), .sl 1 (m.Bases.map intC)], .box [.sl 1 (zz.2.1.2.2.1.map intC), .sl 4 (zz.2.1.2.2.2.1.map encApiSwept), .int .i64 zz.2.1.2.2.2.2]]) (fun zz => zz.1 ≤ runs.length ∧ forIx (top_TopSweep_b3 m runs choices) zz.1 ((runs).drop zz.1) zz.2.1 = some o12) (fun zz => runs.length - zz.1) (0, (people, (0 : Int), runs, [], (0 : Int)), ()) ⟨Nat.zero_le _, hJ12⟩ (by (simp +decide -implicitDefEqProofs only [go_sem, mpE_nil, AVal.int.injEq, Int.natCast_zero, List.replicate_zero, List.length_take, List.length_drop, AVal.own.injEq, reduceCtorEq, Int.reduceAdd] <;> omega)) (by (simp +decide -implicitDefEqProofs only [go_sem, mpE_nil, AVal.int.injEq, Int.natCast_zero, List.replicate_zero, List.length_take, List.length_drop, AVal.own.injEq, reduceCtorEq, Int.reduceAdd] <;> omega)) (fun x => ⟨rfl, rfl, rfl⟩) ?_
                    clear hJ12
                    rintro ⟨k12, ⟨left8, gone9, s_0_10, s_1_11, s_2_12⟩, ⟨⟩⟩ ⟨hk12, hJ12⟩
                    dsimp only at hk12 hJ12 ⊢
                    refine AWP.seq ?_
                    refine AWP.seq ?_
                    refine AWP.region rfl ?_; intro K hK
                    (try simp +decide -implicitDefEqProofs only [go_sem])
                    intro hm
                    refine hK _ _ ?_; clear hK K
                    refine qthen_normal ?_
                    refine AWP.cond (acond_split (fun hc => ?_) (fun hc => ?_))
                    · have hlt12 : k12 < runs.length := by have := of_decide_eq_true hc; omega
                      obtain ⟨x_14, b12, hx12_, h, hJ12⟩ := for_cons hJ12 hlt12
                      have hx12 := idxL_nat hx12_
                      have hw12 : IntKind.i64.wrap (((k12 : Nat) : Int) + 1) = (((k12 : Nat) : Int) + (1 : Int)) := by rw [wrap_i64] <;> omega
                      unfold top_TopSweep_b3 at h; try dsimp only at h
                      refine AWP.skip ?_
                      refine qthen_normal ?_
                      refine AWP.seq ?_
                      refine AWP.block ?_
                      refine AWP.seq ?_
                      refine AWP.region rfl ?_; intro K hK
                      (try simp +decide -implicitDefEqProofs only [go_sem])
                      obtain ⟨y15, hy15, h⟩ := bindE h
                      refine ACall.pure Try.call9 (sweep_Next_spec m (ApiSweep.mk s_0_10 s_1_11 s_2_12) hy15) rfl fun _ hr => ?_
                      subst hr
                      (try simp +decide -implicitDefEqProofs only [go_sem])
                      refine hK _ _ ?_; clear hK K
                      refine qthen_normal ?_
                      refine AWP.seq ?_
                      refine AWP.seq ?_
                      refine AWP.region rfl ?_; intro K hK
                      (try simp +decide -implicitDefEqProofs only [go_sem])
                      intro hm
                      refine hK _ _ ?_; clear hK K
                      refine qthen_normal ?_
                      refine AWP.cond (acond_split (fun hc => ?_) (fun hc => ?_))
                      · replace h := bif_t h hc
                        refine AWP.seq ?_
                        refine AWP.region rfl ?_; intro K hK
                        (try simp +decide -implicitDefEqProofs only [go_sem])
                        refine hK _ _ ?_; clear hK K
                        refine qthen_normal ?_
                        refine AWP.ret ?_
                        refine qthen_ret ?_
                        refine qblock_ret ?_
                        refine qthen_ret ?_
                        refine qthen_ret ?_
                        obtain rfl := some_eq h
                        obtain rfl := cont_ret hJ12
                        replace h := on_ret hO12
                        refine qblock_ret ?_
                        refine qthen_ret ?_
                        obtain rfl := some_eq h
                        simp +decide -implicitDefEqProofs only [go_sem, mpE_nil, AVal.int.injEq, Int.natCast_zero, List.replicate_zero, List.length_take, List.length_drop, AVal.own.injEq, reduceCtorEq, Int.reduceAdd, nle2, nle1, nle0, nleA, nleL, Try.results3]
                      replace h := bif_f h hc
                      refine AWP.skip ?_
                      refine qthen_normal ?_
                      refine AWP.seq ?_
                      refine AWP.region rfl ?_; intro K hK
                      (try simp +decide -implicitDefEqProofs only [go_sem])
                      refine hK _ _ ?_; clear hK K
                      refine qthen_normal ?_
                      refine AWP.seqJoin (ι := (Int) × (Unit)) (fun zz => [(1, .sl 1 (runs.map intC)), (2, .sl 1 (people.map intC)), (3, .sl 1 (choices.map intC)), (4, .ptr 0 0), (9, .ptr 1 0), (10, .int .i64 sum4), (18, .sl 1 (left8.map intC)), (19, .int .i64 gone9), (20, .int .i64 ((k12 : Nat) : Int)), (21, .sl 1 (y15.map intC)), (22, .int .i64 zz.1)]) (fun zz => [.box [.sl 2 (m.Nodes.map encApiNode), .sl 8 (m.Lifts.map encApiLift), .sl 7 (m.Runs.map encApiRun), .sl 1 (m.Bases.map intC)], .box [.sl 1 (s_0_10.map intC), .sl 4 (s_1_11.map encApiSwept), .int .i64 s_2_12]]) (fun zz => top_TopSweep_j4 m runs left8 gone9 s_0_10 s_1_11 s_2_12 k12 y15 zz.1 = some b12) (fun zz => ⟨rfl, rfl, rfl⟩) ?_ ?_
                      · refine AWP.seq ?_
                        refine AWP.region rfl ?_; intro K hK
                        (try simp +decide -implicitDefEqProofs only [go_sem])
                        intro hm
                        refine aguardK_split (fun hc => ?_) (fun hc => ?_)
                        · replace h := bif_t h hc
                          (try simp +decide -implicitDefEqProofs only [go_sem, hc])
                          obtain ⟨x_33, hx_33, h⟩ := bindE h
                          refine AIdx.of (f := intC) (l := choices) hx_33 ?_
                          (try simp +decide -implicitDefEqProofs only [go_sem])
                          refine hK _ _ ?_; clear hK K
                          refine qthen_normal ?_
                          refine AWP.cond (acond_split (fun hc => ?_) (fun hc => ?_))
                          · replace h := bif_t h hc
                            refine AWP.region rfl ?_; intro K hK
                            (try simp +decide -implicitDefEqProofs only [go_sem])
                            refine AIdx.of (f := intC) (l := choices) hx_33 ?_
                            (try simp +decide -implicitDefEqProofs only [go_sem])
                            intro hm
                            obtain ⟨hk, h⟩ := nz_in h
                            refine ⟨hk, ?_⟩
                            refine hK _ _ ?_; clear hK K
                            refine qthen_normal ?_
                            exact ⟨((Int.tmod x_33 ((y15.length : Nat) : Int)), ()), h, by (simp +decide -implicitDefEqProofs only [go_sem, mpE_nil, AVal.int.injEq, Int.natCast_zero, List.replicate_zero, List.length_take, List.length_drop, AVal.own.injEq, reduceCtorEq, Int.reduceAdd] <;> omega), by (simp +decide -implicitDefEqProofs only [go_sem, mpE_nil, AVal.int.injEq, Int.natCast_zero, List.replicate_zero, List.length_take, List.length_drop, AVal.own.injEq, reduceCtorEq, Int.reduceAdd] <;> omega)⟩
                          replace h := bif_f h hc
                          refine AWP.skip ?_
                          refine qthen_normal ?_
                          exact ⟨((0 : Int), ()), h, by (simp +decide -implicitDefEqProofs only [go_sem, mpE_nil, AVal.int.injEq, Int.natCast_zero, List.replicate_zero, List.length_take, List.length_drop, AVal.own.injEq, reduceCtorEq, Int.reduceAdd] <;> omega), by (simp +decide -implicitDefEqProofs only [go_sem, mpE_nil, AVal.int.injEq, Int.natCast_zero, List.replicate_zero, List.length_take, List.length_drop, AVal.own.injEq, reduceCtorEq, Int.reduceAdd] <;> omega)⟩
                        · replace h := bif_f h hc
                          (try simp +decide -implicitDefEqProofs only [go_sem, hc, Bool.not_true])
                          refine hK _ _ ?_; clear hK K
                          refine qthen_normal ?_
                          refine AWP.cond (acond_false ?_)
                          refine AWP.skip ?_
                          refine qthen_normal ?_
                          exact ⟨((0 : Int), ()), h, by (simp +decide -implicitDefEqProofs only [go_sem, mpE_nil, AVal.int.injEq, Int.natCast_zero, List.replicate_zero, List.length_take, List.length_drop, AVal.own.injEq, reduceCtorEq, Int.reduceAdd] <;> omega), by (simp +decide -implicitDefEqProofs only [go_sem, mpE_nil, AVal.int.injEq, Int.natCast_zero, List.replicate_zero, List.length_take, List.length_drop, AVal.own.injEq, reduceCtorEq, Int.reduceAdd] <;> omega)⟩
                      · rintro ⟨k_16, ⟨⟩⟩ h
                        try dsimp only at h ⊢
                        unfold top_TopSweep_j4 at h; try dsimp only at h
                        refine AWP.seq ?_
                        refine AWP.region rfl ?_; intro K hK
                        (try simp +decide -implicitDefEqProofs only [go_sem])
                        refine hK _ _ ?_; clear hK K
                        refine qthen_normal ?_
                        refine AWP.seqJoin (ι := (Int) × (Unit)) (fun zz => [(1, .sl 1 (runs.map intC)), (2, .sl 1 (people.map intC)), (3, .sl 1 (choices.map intC)), (4, .ptr 0 0), (9, .ptr 1 0), (10, .int .i64 sum4), (18, .sl 1 (left8.map intC)), (19, .int .i64 gone9), (20, .int .i64 ((k12 : Nat) : Int)), (21, .sl 1 (y15.map intC)), (22, .int .i64 k_16), (23, .int .i64 zz.1)]) (fun zz => [.box [.sl 2 (m.Nodes.map encApiNode), .sl 8 (m.Lifts.map encApiLift), .sl 7 (m.Runs.map encApiRun), .sl 1 (m.Bases.map intC)], .box [.sl 1 (s_0_10.map intC), .sl 4 (s_1_11.map encApiSwept), .int .i64 s_2_12]]) (fun zz => top_TopSweep_j5 m runs left8 gone9 s_0_10 s_1_11 s_2_12 k12 y15 k_16 zz.1 = some b12) (fun zz => ⟨rfl, rfl, rfl⟩) ?_ ?_
                        · refine AWP.seq ?_
                          refine AWP.region rfl ?_; intro K hK
                          (try simp +decide -implicitDefEqProofs only [go_sem])
                          refine hK _ _ ?_; clear hK K
                          refine qthen_normal ?_
                          refine AWP.block ?_
                          obtain ⟨o28, hJ28, hO28⟩ := bindE h
                          clear h
                          refine AWP.loopW (ι := Nat × (Int) × (Unit)) (fun zz => [(1, .sl 1 (runs.map intC)), (2, .sl 1 (people.map intC)), (3, .sl 1 (choices.map intC)), (4, .ptr 0 0), (9, .ptr 1 0), (10, .int .i64 sum4), (18, .sl 1 (left8.map intC)), (19, .int .i64 gone9), (20, .int .i64 ((k12 : Nat) : Int)), (21, .sl 1 (y15.map intC)), (22, .int .i64 k_16), (23, .int .i64 zz.2.1), (24, .int .i64 ((zz.1 : Nat) : Int))]) (fun zz => [.box [.sl 2 (m.Nodes.map encApiNode), .sl 8 (m.Lifts.map encApiLift), .sl 7 (m.Runs.map encApiRun), .sl 1 (m.Bases.map intC)], .box [.sl 1 (s_0_10.map intC), .sl 4 (s_1_11.map encApiSwept), .int .i64 s_2_12]]) (fun zz => zz.1 ≤ runs.length ∧ forIx (top_TopSweep_b8 left8 y15 k_16) zz.1 ((runs).drop zz.1) zz.2.1 = some o28) (fun zz => runs.length - zz.1) (0, (0 : Int), ()) ⟨Nat.zero_le _, hJ28⟩ (by (simp +decide -implicitDefEqProofs only [go_sem, mpE_nil, AVal.int.injEq, Int.natCast_zero, List.replicate_zero, List.length_take, List.length_drop, AVal.own.injEq, reduceCtorEq, Int.reduceAdd] <;> omega)) (by (simp +decide -implicitDefEqProofs only [go_sem, mpE_nil, AVal.int.injEq, Int.natCast_zero, List.replicate_zero, List.length_take, List.length_drop, AVal.own.injEq, reduceCtorEq, Int.reduceAdd] <;> omega)) (fun x => ⟨rfl, rfl, rfl⟩) ?_
                          clear hJ28
                          rintro ⟨k28, found28, ⟨⟩⟩ ⟨hk28, hJ28⟩
                          dsimp only at hk28 hJ28 ⊢
                          refine AWP.seq ?_
                          refine AWP.seq ?_
                          refine AWP.region rfl ?_; intro K hK
                          (try simp +decide -implicitDefEqProofs only [go_sem])
                          intro hm
                          refine hK _ _ ?_; clear hK K
                          refine qthen_normal ?_
                          refine AWP.cond (acond_split (fun hc => ?_) (fun hc => ?_))
                          · have hlt28 : k28 < runs.length := by have := of_decide_eq_true hc; omega
                            obtain ⟨x_30, b28, hx28_, h, hJ28⟩ := for_cons hJ28 hlt28
                            have hx28 := idxL_nat hx28_
                            have hw28 : IntKind.i64.wrap (((k28 : Nat) : Int) + 1) = (((k28 : Nat) : Int) + (1 : Int)) := by rw [wrap_i64] <;> omega
                            unfold top_TopSweep_b8 at h; try dsimp only at h
                            refine AWP.skip ?_
                            refine qthen_normal ?_
                            refine AWP.seq ?_
                            refine AWP.block ?_
                            refine AWP.seq ?_
                            refine AWP.draw Try.mixed (by kernel_rfl) ?_; intro K hK
                            (try simp +decide -implicitDefEqProofs only [go_sem])
                            refine AIdx.of (f := intC) (l := runs) hx28 ?_
                            (try simp +decide -implicitDefEqProofs only [go_sem])
                            obtain ⟨x_31, hx_31, h⟩ := bindE h
                            refine AIdx.of (f := intC) (l := y15) hx_31 ?_
                            (try simp +decide -implicitDefEqProofs only [go_sem])
                            refine hK _ _ _ (by kernel_rfl) ?_; clear hK K
                            refine qthen_normal ?_
                            refine AWP.cond (acond_split (fun hc => ?_) (fun hc => ?_))
                            · replace h := bif_t h hc
                              refine AWP.region rfl ?_; intro K hK
                              (try simp +decide -implicitDefEqProofs only [go_sem])
                              obtain ⟨x_32, hx_32, h⟩ := bindE h
                              refine AIdx.of (f := intC) (l := left8) hx_32 ?_
                              (try simp +decide -implicitDefEqProofs only [go_sem])
                              refine hK _ _ ?_; clear hK K
                              refine qblock_normal ?_
                              refine qthen_normal ?_
                              refine AWP.region rfl ?_; intro K hK
                              (try simp +decide -implicitDefEqProofs only [go_sem])
                              refine hK _ _ ?_; clear hK K
                              refine qthen_normal ?_
                              obtain rfl := some_eq h
                              refine ⟨(k28 + 1, x_32, ()), ⟨by dsimp only; omega, cont_next hJ28⟩, by dsimp only; omega, ?_, ?_⟩
                              · (simp +decide -implicitDefEqProofs only [go_sem, mpE_nil, AVal.int.injEq, Int.natCast_zero, List.replicate_zero, List.length_take, List.length_drop, AVal.own.injEq, reduceCtorEq, Int.reduceAdd, hw28] <;> omega)
                              · (simp +decide -implicitDefEqProofs only [go_sem, mpE_nil, AVal.int.injEq, Int.natCast_zero, List.replicate_zero, List.length_take, List.length_drop, AVal.own.injEq, reduceCtorEq, Int.reduceAdd, hw28] <;> omega)
                            replace h := bif_f h hc
                            refine AWP.skip ?_
                            refine qblock_normal ?_
                            refine qthen_normal ?_
                            refine AWP.region rfl ?_; intro K hK
                            (try simp +decide -implicitDefEqProofs only [go_sem])
                            refine hK _ _ ?_; clear hK K
                            refine qthen_normal ?_
                            obtain rfl := some_eq h
                            refine ⟨(k28 + 1, found28, ()), ⟨by dsimp only; omega, cont_next hJ28⟩, by dsimp only; omega, ?_, ?_⟩
                            · (simp +decide -implicitDefEqProofs only [go_sem, mpE_nil, AVal.int.injEq, Int.natCast_zero, List.replicate_zero, List.length_take, List.length_drop, AVal.own.injEq, reduceCtorEq, Int.reduceAdd, hw28] <;> omega)
                            · (simp +decide -implicitDefEqProofs only [go_sem, mpE_nil, AVal.int.injEq, Int.natCast_zero, List.replicate_zero, List.length_take, List.length_drop, AVal.own.injEq, reduceCtorEq, Int.reduceAdd, hw28] <;> omega)
                          · obtain rfl := for_nil hJ28 (fun hl => by have := of_decide_eq_false hc; omega)
                            have h := on_next hO28; try dsimp only at h
                            have hkl : runs.length = k28 := by have := of_decide_eq_false hc; omega
                            subst hkl
                            refine AWP.exit ?_
                            refine qthen_exit ?_
                            refine qthen_exit ?_
                            refine qblock_same ?_
                            refine qthen_normal ?_
                            exact ⟨(found28, ()), h, by (simp +decide -implicitDefEqProofs only [go_sem, mpE_nil, AVal.int.injEq, Int.natCast_zero, List.replicate_zero, List.length_take, List.length_drop, AVal.own.injEq, reduceCtorEq, Int.reduceAdd] <;> omega), by (simp +decide -implicitDefEqProofs only [go_sem, mpE_nil, AVal.int.injEq, Int.natCast_zero, List.replicate_zero, List.length_take, List.length_drop, AVal.own.injEq, reduceCtorEq, Int.reduceAdd] <;> omega)⟩
                        · rintro ⟨found18, ⟨⟩⟩ h
                          try dsimp only at h ⊢
                          unfold top_TopSweep_j5 at h; try dsimp only at h
                          refine AWP.seq ?_
                          refine AWP.seq ?_
                          refine AWP.region rfl ?_; intro K hK
                          (try simp +decide -implicitDefEqProofs only [go_sem])
                          refine hK _ _ ?_; clear hK K
                          refine qthen_normal ?_
                          refine AWP.cond (acond_split (fun hc => ?_) (fun hc => ?_))
                          · replace h := bif_t h hc
                            refine AWP.seq ?_
                            refine AWP.region rfl ?_; intro K hK
                            (try simp +decide -implicitDefEqProofs only [go_sem])
                            refine hK _ _ ?_; clear hK K
                            refine qthen_normal ?_
                            refine AWP.ret ?_
                            refine qthen_ret ?_
                            refine qblock_ret ?_
                            refine qthen_ret ?_
                            refine qthen_ret ?_
                            obtain rfl := some_eq h
                            obtain rfl := cont_ret hJ12
                            replace h := on_ret hO12
                            refine qblock_ret ?_
                            refine qthen_ret ?_
                            obtain rfl := some_eq h
                            simp +decide -implicitDefEqProofs only [go_sem, mpE_nil, AVal.int.injEq, Int.natCast_zero, List.replicate_zero, List.length_take, List.length_drop, AVal.own.injEq, reduceCtorEq, Int.reduceAdd, nle2, nle1, nle0, nleA, nleL, Try.results3]
                          replace h := bif_f h hc
                          refine AWP.skip ?_
                          refine qthen_normal ?_
                          refine AWP.seq ?_
                          refine AWP.draw Try.mixed (by kernel_rfl) ?_; intro K hK
                          (try simp +decide -implicitDefEqProofs only [go_sem])
                          obtain ⟨x_20, hx_20, h⟩ := bindE h
                          refine AIdx.of (f := intC) (l := y15) hx_20 ?_
                          (try simp +decide -implicitDefEqProofs only [go_sem])
                          obtain ⟨y21, hy21, h⟩ := bindE h
                          refine DCall.pure Try.call10 (sweep_Push_spec m (ApiSweep.mk s_0_10 s_1_11 s_2_12) left8 x_20 hy21) rfl ?_
                          (try simp +decide -implicitDefEqProofs only [go_sem])
                          refine hK _ _ _ (by kernel_rfl) ?_; clear hK K
                          refine qthen_normal ?_
                          refine AWP.seq ?_
                          refine AWP.seq ?_
                          refine AWP.region rfl ?_; intro K hK
                          (try simp +decide -implicitDefEqProofs only [go_sem])
                          refine aguardK_split (fun hc => ?_) (fun hc => ?_)
                          · replace h := bif_f h hc
                            (try simp +decide -implicitDefEqProofs only [go_sem, hc])
                            intro hm
                            intro hm
                            refine hK _ _ ?_; clear hK K
                            refine qthen_normal ?_
                            refine AWP.cond (acond_split (fun hc => ?_) (fun hc => ?_))
                            · replace h := bif_t h hc
                              refine AWP.seq ?_
                              refine AWP.region rfl ?_; intro K hK
                              (try simp +decide -implicitDefEqProofs only [go_sem])
                              refine hK _ _ ?_; clear hK K
                              refine qthen_normal ?_
                              refine AWP.ret ?_
                              refine qthen_ret ?_
                              refine qblock_ret ?_
                              refine qthen_ret ?_
                              refine qthen_ret ?_
                              obtain rfl := some_eq h
                              obtain rfl := cont_ret hJ12
                              replace h := on_ret hO12
                              refine qblock_ret ?_
                              refine qthen_ret ?_
                              obtain rfl := some_eq h
                              simp +decide -implicitDefEqProofs only [go_sem, mpE_nil, AVal.int.injEq, Int.natCast_zero, List.replicate_zero, List.length_take, List.length_drop, AVal.own.injEq, reduceCtorEq, Int.reduceAdd, nle2, nle1, nle0, nleA, nleL, Try.results3]
                            replace h := bif_f h hc
                            refine AWP.skip ?_
                            refine qthen_normal ?_
                            refine AWP.seq ?_
                            refine AWP.region rfl ?_; intro K hK
                            (try simp +decide -implicitDefEqProofs only [go_sem])
                            refine hK _ _ ?_; clear hK K
                            refine qthen_normal ?_
                            refine AWP.seq ?_
                            refine AWP.region rfl ?_; intro K hK
                            (try simp +decide -implicitDefEqProofs only [go_sem])
                            refine hK _ _ ?_; clear hK K
                            refine qthen_normal ?_
                            refine AWP.seq ?_
                            refine AWP.draw Try.mixed (by kernel_rfl) ?_; intro K hK
                            (try simp +decide -implicitDefEqProofs only [go_sem])
                            refine AIdx.of (f := intC) (l := y15) hx_20 ?_
                            (try simp +decide -implicitDefEqProofs only [go_sem])
                            obtain ⟨y22, hy22, h⟩ := bindE h
                            refine DCall.pure Try.call11 (PureFn.argN (args := [.agg [.sl 2 (m.Nodes.map encApiNode), .sl 8 (m.Lifts.map encApiLift), .sl 7 (m.Runs.map encApiRun), .sl 1 (m.Bases.map intC)], .agg [.sl 1 (s_0_10.map intC), .sl 4 (s_1_11.map encApiSwept), .int .i64 s_2_12], .nils, .agg [.int .i64 x_20, .int .i64 (1 : Int), .int .i64 ((k12 : Nat) : Int), .int .i64 found18]]) (by simp +decide -implicitDefEqProofs only [go_sem, mpE_nil, AVal.int.injEq, Int.natCast_zero, List.replicate_zero, List.length_take, List.length_drop, AVal.own.injEq, reduceCtorEq, Int.reduceAdd, nle2, nle1, nle0, nleA, nleL]) (sweep_Do_spec m (ApiSweep.mk s_0_10 s_1_11 s_2_12) [] (ApiSwept.mk x_20 (1 : Int) ((k12 : Nat) : Int) found18) hy22)) rfl ?_
                            (try simp +decide -implicitDefEqProofs only [go_sem])
                            refine hK _ _ _ (by kernel_rfl) ?_; clear hK K
                            refine qthen_normal ?_
                            refine AWP.seq ?_
                            refine AWP.seq ?_
                            refine AWP.region rfl ?_; intro K hK
                            (try simp +decide -implicitDefEqProofs only [go_sem])
                            refine hK _ _ ?_; clear hK K
                            refine qthen_normal ?_
                            refine AWP.cond (acond_split (fun hc => ?_) (fun hc => ?_))
                            · replace h := bif_t h hc
                              refine AWP.seq ?_
                              refine AWP.region rfl ?_; intro K hK
                              (try simp +decide -implicitDefEqProofs only [go_sem])
                              refine hK _ _ ?_; clear hK K
                              refine qthen_normal ?_
                              refine AWP.ret ?_
                              refine qthen_ret ?_
                              refine qblock_ret ?_
                              refine qthen_ret ?_
                              refine qthen_ret ?_
                              obtain rfl := some_eq h
                              obtain rfl := cont_ret hJ12
                              replace h := on_ret hO12
                              refine qblock_ret ?_
                              refine qthen_ret ?_
                              obtain rfl := some_eq h
                              simp +decide -implicitDefEqProofs only [go_sem, mpE_nil, AVal.int.injEq, Int.natCast_zero, List.replicate_zero, List.length_take, List.length_drop, AVal.own.injEq, reduceCtorEq, Int.reduceAdd, nle2, nle1, nle0, nleA, nleL, Try.results3]
                            replace h := bif_f h hc
                            refine AWP.skip ?_
                            refine qthen_normal ?_
                            refine AWP.seq ?_
                            refine AWP.region rfl ?_; intro K hK
                            (try simp +decide -implicitDefEqProofs only [go_sem])
                            refine hK _ _ ?_; clear hK K
                            refine qthen_normal ?_
                            refine AWP.seq ?_
                            refine AWP.region rfl ?_; intro K hK
                            (try simp +decide -implicitDefEqProofs only [go_sem])
                            refine hK _ _ ?_; clear hK K
                            refine qthen_normal ?_
                            refine AWP.block ?_
                            obtain ⟨o22, hJ22, hO22⟩ := bindE h
                            clear h
                            refine AWP.loopW (ι := Nat × (Unit) × (Unit)) (fun zz => [(1, .sl 1 (runs.map intC)), (2, .sl 1 (people.map intC)), (3, .sl 1 (choices.map intC)), (4, .ptr 0 0), (9, .ptr 1 0), (10, .int .i64 sum4), (18, .sl 1 (y21.1.map intC)), (19, .int .i64 (IntKind.i64.wrap (gone9 + y21.2.1))), (20, .int .i64 ((k12 : Nat) : Int)), (29, .int .i64 ((zz.1 : Nat) : Int))]) (fun zz => [.box [.sl 2 (m.Nodes.map encApiNode), .sl 8 (m.Lifts.map encApiLift), .sl 7 (m.Runs.map encApiRun), .sl 1 (m.Bases.map intC)], .box [.sl 1 (y22.1.Runs.map intC), .sl 4 (y22.1.Swept.map encApiSwept), .int .i64 y22.1.Begun]]) (fun zz => zz.1 ≤ y22.1.Swept.length ∧ forIx (top_TopSweep_b6 runs y21) zz.1 ((y22.1.Swept).drop zz.1) zz.2.1 = some o22) (fun zz => y22.1.Swept.length - zz.1) (0, (), ()) ⟨Nat.zero_le _, hJ22⟩ (by (simp +decide -implicitDefEqProofs only [go_sem, mpE_nil, AVal.int.injEq, Int.natCast_zero, List.replicate_zero, List.length_take, List.length_drop, AVal.own.injEq, reduceCtorEq, Int.reduceAdd] <;> omega)) (by (simp +decide -implicitDefEqProofs only [go_sem, mpE_nil, AVal.int.injEq, Int.natCast_zero, List.replicate_zero, List.length_take, List.length_drop, AVal.own.injEq, reduceCtorEq, Int.reduceAdd] <;> omega)) (fun x => ⟨rfl, rfl, rfl⟩) ?_
                            clear hJ22
                            rintro ⟨k22, ⟨⟩, ⟨⟩⟩ ⟨hk22, hJ22⟩
                            dsimp only at hk22 hJ22 ⊢
                            refine AWP.seq ?_
                            refine AWP.seq ?_
                            refine AWP.region rfl ?_; intro K hK
                            (try simp +decide -implicitDefEqProofs only [go_sem])
                            intro hm
                            refine hK _ _ ?_; clear hK K
                            refine qthen_normal ?_
                            refine AWP.cond (acond_split (fun hc => ?_) (fun hc => ?_))
                            · have hlt22 : k22 < y22.1.Swept.length := by have := of_decide_eq_true hc; omega
                              obtain ⟨x_24, b22, hx22_, h, hJ22⟩ := for_cons hJ22 hlt22
                              have hx22 := idxL_nat hx22_
                              have hw22 : IntKind.i64.wrap (((k22 : Nat) : Int) + 1) = (((k22 : Nat) : Int) + (1 : Int)) := by rw [wrap_i64] <;> omega
                              unfold top_TopSweep_b6 at h; try dsimp only at h
                              refine AWP.skip ?_
                              refine qthen_normal ?_
                              refine AWP.seq ?_
                              refine AWP.block ?_
                              refine AWP.seq ?_
                              refine AWP.region rfl ?_; intro K hK
                              (try simp +decide -implicitDefEqProofs only [go_sem])
                              refine hK _ _ ?_; clear hK K
                              refine qthen_normal ?_
                              refine AWP.block ?_
                              obtain ⟨o24, hJ24, hO24⟩ := bindE h
                              clear h
                              refine AWP.loopW (ι := Nat × (Unit) × (Unit)) (fun zz => [(1, .sl 1 (runs.map intC)), (2, .sl 1 (people.map intC)), (3, .sl 1 (choices.map intC)), (4, .ptr 0 0), (9, .ptr 1 0), (10, .int .i64 sum4), (18, .sl 1 (y21.1.map intC)), (19, .int .i64 (IntKind.i64.wrap (gone9 + y21.2.1))), (20, .int .i64 ((k12 : Nat) : Int)), (29, .int .i64 ((k22 : Nat) : Int)), (30, .int .i64 ((zz.1 : Nat) : Int))]) (fun zz => [.box [.sl 2 (m.Nodes.map encApiNode), .sl 8 (m.Lifts.map encApiLift), .sl 7 (m.Runs.map encApiRun), .sl 1 (m.Bases.map intC)], .box [.sl 1 (y22.1.Runs.map intC), .sl 4 (y22.1.Swept.map encApiSwept), .int .i64 y22.1.Begun]]) (fun zz => zz.1 ≤ runs.length ∧ forIx (top_TopSweep_b7 y21 x_24) zz.1 ((runs).drop zz.1) zz.2.1 = some o24) (fun zz => runs.length - zz.1) (0, (), ()) ⟨Nat.zero_le _, hJ24⟩ (by (simp +decide -implicitDefEqProofs only [go_sem, mpE_nil, AVal.int.injEq, Int.natCast_zero, List.replicate_zero, List.length_take, List.length_drop, AVal.own.injEq, reduceCtorEq, Int.reduceAdd] <;> omega)) (by (simp +decide -implicitDefEqProofs only [go_sem, mpE_nil, AVal.int.injEq, Int.natCast_zero, List.replicate_zero, List.length_take, List.length_drop, AVal.own.injEq, reduceCtorEq, Int.reduceAdd] <;> omega)) (fun x => ⟨rfl, rfl, rfl⟩) ?_
                              clear hJ24
                              rintro ⟨k24, ⟨⟩, ⟨⟩⟩ ⟨hk24, hJ24⟩
                              dsimp only at hk24 hJ24 ⊢
                              refine AWP.seq ?_
                              refine AWP.seq ?_
                              refine AWP.region rfl ?_; intro K hK
                              (try simp +decide -implicitDefEqProofs only [go_sem])
                              intro hm
                              refine hK _ _ ?_; clear hK K
                              refine qthen_normal ?_
                              refine AWP.cond (acond_split (fun hc => ?_) (fun hc => ?_))
                              · have hlt24 : k24 < runs.length := by have := of_decide_eq_true hc; omega
                                obtain ⟨x_26, b24, hx24_, h, hJ24⟩ := for_cons hJ24 hlt24
                                have hx24 := idxL_nat hx24_
                                have hw24 : IntKind.i64.wrap (((k24 : Nat) : Int) + 1) = (((k24 : Nat) : Int) + (1 : Int)) := by rw [wrap_i64] <;> omega
                                unfold top_TopSweep_b7 at h; try dsimp only at h
                                refine AWP.skip ?_
                                refine qthen_normal ?_
                                refine AWP.seq ?_
                                refine AWP.block ?_
                                refine AWP.seq ?_
                                refine AWP.draw Try.mixed (by kernel_rfl) ?_; intro K hK
                                (try simp +decide -implicitDefEqProofs only [go_sem])
                                refine AIdx.of (f := intC) (l := runs) hx24 ?_
                                (try simp +decide -implicitDefEqProofs only [go_sem])
                                refine AIdx.of (f := encApiSwept) (l := y22.1.Swept) hx22 ?_
                                (try simp +decide -implicitDefEqProofs only [go_sem])
                                refine aguardK_split (fun hc => ?_) (fun hc => ?_)
                                · replace h := bif_t h hc
                                  (try simp +decide -implicitDefEqProofs only [go_sem, hc])
                                  obtain ⟨x_27, hx_27, h⟩ := bindE h
                                  refine AIdx.of (f := intC) (l := y21.1) hx_27 ?_
                                  (try simp +decide -implicitDefEqProofs only [go_sem])
                                  refine hK _ _ _ (by kernel_rfl) ?_; clear hK K
                                  refine qthen_normal ?_
                                  refine AWP.cond (acond_split (fun hc => ?_) (fun hc => ?_))
                                  · replace h := bif_t h hc
                                    refine AWP.seq ?_
                                    refine AWP.region rfl ?_; intro K hK
                                    (try simp +decide -implicitDefEqProofs only [go_sem])
                                    refine hK _ _ ?_; clear hK K
                                    refine qthen_normal ?_
                                    refine AWP.ret ?_
                                    refine qblock_ret ?_
                                    refine qthen_ret ?_
                                    refine qthen_ret ?_
                                    obtain rfl := some_eq h
                                    obtain rfl := cont_ret hJ24
                                    replace h := on_ret hO24
                                    refine qblock_ret ?_
                                    refine qblock_ret ?_
                                    refine qthen_ret ?_
                                    refine qthen_ret ?_
                                    obtain rfl := some_eq h
                                    obtain rfl := cont_ret hJ22
                                    replace h := on_ret hO22
                                    refine qblock_ret ?_
                                    refine qblock_ret ?_
                                    refine qthen_ret ?_
                                    refine qthen_ret ?_
                                    obtain rfl := some_eq h
                                    obtain rfl := cont_ret hJ12
                                    replace h := on_ret hO12
                                    refine qblock_ret ?_
                                    refine qthen_ret ?_
                                    obtain rfl := some_eq h
                                    simp +decide -implicitDefEqProofs only [go_sem, mpE_nil, AVal.int.injEq, Int.natCast_zero, List.replicate_zero, List.length_take, List.length_drop, AVal.own.injEq, reduceCtorEq, Int.reduceAdd, nle2, nle1, nle0, nleA, nleL, Try.results3]
                                  replace h := bif_f h hc
                                  refine AWP.skip ?_
                                  refine qblock_normal ?_
                                  refine qthen_normal ?_
                                  refine AWP.region rfl ?_; intro K hK
                                  (try simp +decide -implicitDefEqProofs only [go_sem])
                                  refine hK _ _ ?_; clear hK K
                                  refine qthen_normal ?_
                                  obtain rfl := some_eq h
                                  refine ⟨(k24 + 1, (), ()), ⟨by dsimp only; omega, cont_next hJ24⟩, by dsimp only; omega, ?_, ?_⟩
                                  · (simp +decide -implicitDefEqProofs only [go_sem, mpE_nil, AVal.int.injEq, Int.natCast_zero, List.replicate_zero, List.length_take, List.length_drop, AVal.own.injEq, reduceCtorEq, Int.reduceAdd, hw24] <;> omega)
                                  · (simp +decide -implicitDefEqProofs only [go_sem, mpE_nil, AVal.int.injEq, Int.natCast_zero, List.replicate_zero, List.length_take, List.length_drop, AVal.own.injEq, reduceCtorEq, Int.reduceAdd, hw24] <;> omega)
                                · replace h := bif_f h hc
                                  (try simp +decide -implicitDefEqProofs only [go_sem, hc, Bool.not_true])
                                  refine hK _ _ _ (by kernel_rfl) ?_; clear hK K
                                  refine qthen_normal ?_
                                  refine AWP.cond (acond_false ?_)
                                  refine AWP.skip ?_
                                  refine qblock_normal ?_
                                  refine qthen_normal ?_
                                  refine AWP.region rfl ?_; intro K hK
                                  (try simp +decide -implicitDefEqProofs only [go_sem])
                                  refine hK _ _ ?_; clear hK K
                                  refine qthen_normal ?_
                                  obtain rfl := some_eq h
                                  refine ⟨(k24 + 1, (), ()), ⟨by dsimp only; omega, cont_next hJ24⟩, by dsimp only; omega, ?_, ?_⟩
                                  · (simp +decide -implicitDefEqProofs only [go_sem, mpE_nil, AVal.int.injEq, Int.natCast_zero, List.replicate_zero, List.length_take, List.length_drop, AVal.own.injEq, reduceCtorEq, Int.reduceAdd, hw24] <;> omega)
                                  · (simp +decide -implicitDefEqProofs only [go_sem, mpE_nil, AVal.int.injEq, Int.natCast_zero, List.replicate_zero, List.length_take, List.length_drop, AVal.own.injEq, reduceCtorEq, Int.reduceAdd, hw24] <;> omega)
                              · obtain rfl := for_nil hJ24 (fun hl => by have := of_decide_eq_false hc; omega)
                                have h := on_next hO24; try dsimp only at h
                                have hkl : runs.length = k24 := by have := of_decide_eq_false hc; omega
                                subst hkl
                                refine AWP.exit ?_
                                refine qthen_exit ?_
                                refine qthen_exit ?_
                                refine qblock_same ?_
                                refine qblock_normal ?_
                                refine qthen_normal ?_
                                refine AWP.region rfl ?_; intro K hK
                                (try simp +decide -implicitDefEqProofs only [go_sem])
                                refine hK _ _ ?_; clear hK K
                                refine qthen_normal ?_
                                obtain rfl := some_eq h
                                refine ⟨(k22 + 1, (), ()), ⟨by dsimp only; omega, cont_next hJ22⟩, by dsimp only; omega, ?_, ?_⟩
                                · (simp +decide -implicitDefEqProofs only [go_sem, mpE_nil, AVal.int.injEq, Int.natCast_zero, List.replicate_zero, List.length_take, List.length_drop, AVal.own.injEq, reduceCtorEq, Int.reduceAdd, hw22] <;> omega)
                                · (simp +decide -implicitDefEqProofs only [go_sem, mpE_nil, AVal.int.injEq, Int.natCast_zero, List.replicate_zero, List.length_take, List.length_drop, AVal.own.injEq, reduceCtorEq, Int.reduceAdd, hw22] <;> omega)
                            · obtain rfl := for_nil hJ22 (fun hl => by have := of_decide_eq_false hc; omega)
                              have h := on_next hO22; try dsimp only at h
                              have hkl : y22.1.Swept.length = k22 := by have := of_decide_eq_false hc; omega
                              subst hkl
                              refine AWP.exit ?_
                              refine qthen_exit ?_
                              refine qthen_exit ?_
                              refine qblock_same ?_
                              refine qblock_normal ?_
                              refine qthen_normal ?_
                              refine AWP.region rfl ?_; intro K hK
                              (try simp +decide -implicitDefEqProofs only [go_sem])
                              refine hK _ _ ?_; clear hK K
                              refine qthen_normal ?_
                              obtain rfl := some_eq h
                              refine ⟨(k12 + 1, (y21.1, (IntKind.i64.wrap (gone9 + y21.2.1)), y22.1.Runs, y22.1.Swept, y22.1.Begun), ()), ⟨by dsimp only; omega, cont_next hJ12⟩, by dsimp only; omega, ?_, ?_⟩
                              · (simp +decide -implicitDefEqProofs only [go_sem, mpE_nil, AVal.int.injEq, Int.natCast_zero, List.replicate_zero, List.length_take, List.length_drop, AVal.own.injEq, reduceCtorEq, Int.reduceAdd, hw12] <;> omega)
                              · (simp +decide -implicitDefEqProofs only [go_sem, mpE_nil, AVal.int.injEq, Int.natCast_zero, List.replicate_zero, List.length_take, List.length_drop, AVal.own.injEq, reduceCtorEq, Int.reduceAdd, hw12] <;> omega)
                          · replace h := bif_t h hc
                            (try simp +decide -implicitDefEqProofs only [go_sem, hc, Bool.not_false])
                            refine hK _ _ ?_; clear hK K
                            refine qthen_normal ?_
                            refine AWP.cond (acond_true ?_)
                            refine AWP.seq ?_
                            refine AWP.region rfl ?_; intro K hK
                            (try simp +decide -implicitDefEqProofs only [go_sem])
                            refine hK _ _ ?_; clear hK K
                            refine qthen_normal ?_
                            refine AWP.ret ?_
                            refine qthen_ret ?_
                            refine qblock_ret ?_
                            refine qthen_ret ?_
                            refine qthen_ret ?_
                            obtain rfl := some_eq h
                            obtain rfl := cont_ret hJ12
                            replace h := on_ret hO12
                            refine qblock_ret ?_
                            refine qthen_ret ?_
                            obtain rfl := some_eq h
                            simp +decide -implicitDefEqProofs only [go_sem, mpE_nil, AVal.int.injEq, Int.natCast_zero, List.replicate_zero, List.length_take, List.length_drop, AVal.own.injEq, reduceCtorEq, Int.reduceAdd, nle2, nle1, nle0, nleA, nleL, Try.results3]
                    · obtain rfl := for_nil hJ12 (fun hl => by have := of_decide_eq_false hc; omega)
                      have h := on_next hO12; try dsimp only at h
                      have hkl : runs.length = k12 := by have := of_decide_eq_false hc; omega
                      subst hkl
                      refine AWP.exit ?_
                      refine qthen_exit ?_
                      refine qthen_exit ?_
                      refine qblock_same ?_
                      refine qthen_normal ?_
                      refine AWP.seq ?_
                      refine AWP.region rfl ?_; intro K hK
                      (try simp +decide -implicitDefEqProofs only [go_sem])
                      obtain ⟨y34, hy34, h⟩ := bindE h
                      refine ACall.pure Try.call12 (sweep_All_spec m (ApiSweep.mk s_0_10 s_1_11 s_2_12) people hy34) rfl fun _ hr => ?_
                      subst hr
                      (try simp +decide -implicitDefEqProofs only [go_sem])
                      refine hK _ _ ?_; clear hK K
                      refine qthen_normal ?_
                      refine AWP.seq ?_
                      refine AWP.region rfl ?_; intro K hK
                      (try simp +decide -implicitDefEqProofs only [go_sem])
                      obtain ⟨y35, hy35, h⟩ := bindE h
                      refine ACall.pure Try.call13 (sweep_Done_spec (ApiSweep.mk s_0_10 s_1_11 s_2_12) hy35) rfl fun _ hr => ?_
                      subst hr
                      (try simp +decide -implicitDefEqProofs only [go_sem])
                      refine aguardK_split (fun hc => ?_) (fun hc => ?_)
                      · replace h := bif_t h hc
                        (try simp +decide -implicitDefEqProofs only [go_sem, hc])
                        refine aguardK_split (fun hc => ?_) (fun hc => ?_)
                        · replace h := bif_t h hc
                          (try simp +decide -implicitDefEqProofs only [go_sem, hc])
                          refine aguardK_split (fun hc => ?_) (fun hc => ?_)
                          · replace h := bif_t h hc
                            (try simp +decide -implicitDefEqProofs only [go_sem, hc])
                            refine aguardK_split (fun hc => ?_) (fun hc => ?_)
                            · replace h := bif_t h hc
                              (try simp +decide -implicitDefEqProofs only [go_sem, hc])
                              refine hK _ _ ?_; clear hK K
                              refine qthen_normal ?_
                              refine AWP.ret ?_
                              obtain rfl := some_eq h
                              simp +decide -implicitDefEqProofs only [go_sem, mpE_nil, AVal.int.injEq, Int.natCast_zero, List.replicate_zero, List.length_take, List.length_drop, AVal.own.injEq, reduceCtorEq, Int.reduceAdd, nle2, nle1, nle0, nleA, nleL, Try.results3]
                            · replace h := bif_f h hc
                              (try simp +decide -implicitDefEqProofs only [go_sem, hc, Bool.not_true])
                              refine hK _ _ ?_; clear hK K
                              refine qthen_normal ?_
                              refine AWP.ret ?_
                              obtain rfl := some_eq h
                              simp +decide -implicitDefEqProofs only [go_sem, mpE_nil, AVal.int.injEq, Int.natCast_zero, List.replicate_zero, List.length_take, List.length_drop, AVal.own.injEq, reduceCtorEq, Int.reduceAdd, nle2, nle1, nle0, nleA, nleL, Try.results3]
                          · replace h := bif_f h hc
                            (try simp +decide -implicitDefEqProofs only [go_sem, hc, Bool.not_true])
                            refine hK _ _ ?_; clear hK K
                            refine qthen_normal ?_
                            refine AWP.ret ?_
                            obtain rfl := some_eq h
                            simp +decide -implicitDefEqProofs only [go_sem, mpE_nil, AVal.int.injEq, Int.natCast_zero, List.replicate_zero, List.length_take, List.length_drop, AVal.own.injEq, reduceCtorEq, Int.reduceAdd, nle2, nle1, nle0, nleA, nleL, Try.results3]
                        · replace h := bif_f h hc
                          (try simp +decide -implicitDefEqProofs only [go_sem, hc, Bool.not_true])
                          refine hK _ _ ?_; clear hK K
                          refine qthen_normal ?_
                          refine AWP.ret ?_
                          obtain rfl := some_eq h
                          simp +decide -implicitDefEqProofs only [go_sem, mpE_nil, AVal.int.injEq, Int.natCast_zero, List.replicate_zero, List.length_take, List.length_drop, AVal.own.injEq, reduceCtorEq, Int.reduceAdd, nle2, nle1, nle0, nleA, nleL, Try.results3]
                      · replace h := bif_f h hc
                        (try simp +decide -implicitDefEqProofs only [go_sem, hc, Bool.not_true])
                        refine hK _ _ ?_; clear hK K
                        refine qthen_normal ?_
                        refine AWP.ret ?_
                        obtain rfl := some_eq h
                        simp +decide -implicitDefEqProofs only [go_sem, mpE_nil, AVal.int.injEq, Int.natCast_zero, List.replicate_zero, List.length_take, List.length_drop, AVal.own.injEq, reduceCtorEq, Int.reduceAdd, nle2, nle1, nle0, nleA, nleL, Try.results3]
              · replace h := bif_t h hc
                (try simp +decide -implicitDefEqProofs only [go_sem, hc, Bool.not_false])
                refine hK _ _ ?_; clear hK K
                refine qthen_normal ?_
                refine AWP.cond (acond_true ?_)
                refine AWP.seq ?_
                refine AWP.region rfl ?_; intro K hK
                (try simp +decide -implicitDefEqProofs only [go_sem])
                refine hK _ _ ?_; clear hK K
                refine qthen_normal ?_
                refine AWP.ret ?_
                refine qthen_ret ?_
                obtain rfl := some_eq h
                simp +decide -implicitDefEqProofs only [go_sem, mpE_nil, AVal.int.injEq, Int.natCast_zero, List.replicate_zero, List.length_take, List.length_drop, AVal.own.injEq, reduceCtorEq, Int.reduceAdd, nle2, nle1, nle0, nleA, nleL, Try.results3]
            · replace h := bif_t h hc
              (try simp +decide -implicitDefEqProofs only [go_sem, hc, Bool.not_false])
              refine hK _ _ ?_; clear hK K
              refine qthen_normal ?_
              refine AWP.cond (acond_true ?_)
              refine AWP.seq ?_
              refine AWP.region rfl ?_; intro K hK
              (try simp +decide -implicitDefEqProofs only [go_sem])
              refine hK _ _ ?_; clear hK K
              refine qthen_normal ?_
              refine AWP.ret ?_
              refine qthen_ret ?_
              obtain rfl := some_eq h
              simp +decide -implicitDefEqProofs only [go_sem, mpE_nil, AVal.int.injEq, Int.natCast_zero, List.replicate_zero, List.length_take, List.length_drop, AVal.own.injEq, reduceCtorEq, Int.reduceAdd, nle2, nle1, nle0, nleA, nleL, Try.results3]
          · replace h := bif_t h hc
            (try simp +decide -implicitDefEqProofs only [go_sem, hc, Bool.not_false])
            refine hK _ _ ?_; clear hK K
            refine qthen_normal ?_
            refine AWP.cond (acond_true ?_)
            refine AWP.seq ?_
            refine AWP.region rfl ?_; intro K hK
            (try simp +decide -implicitDefEqProofs only [go_sem])
            refine hK _ _ ?_; clear hK K
            refine qthen_normal ?_
            refine AWP.ret ?_
            refine qthen_ret ?_
            obtain rfl := some_eq h
            simp +decide -implicitDefEqProofs only [go_sem, mpE_nil, AVal.int.injEq, Int.natCast_zero, List.replicate_zero, List.length_take, List.length_drop, AVal.own.injEq, reduceCtorEq, Int.reduceAdd, nle2, nle1, nle0, nleA, nleL, Try.results3]
        · replace h := bif_t h hc
          (try simp +decide -implicitDefEqProofs only [go_sem, hc, Bool.not_false])
          refine hK _ _ ?_; clear hK K
          refine qthen_normal ?_
          refine AWP.cond (acond_true ?_)
          refine AWP.seq ?_
          refine AWP.region rfl ?_; intro K hK
          (try simp +decide -implicitDefEqProofs only [go_sem])
          refine hK _ _ ?_; clear hK K
          refine qthen_normal ?_
          refine AWP.ret ?_
          refine qthen_ret ?_
          obtain rfl := some_eq h
          simp +decide -implicitDefEqProofs only [go_sem, mpE_nil, AVal.int.injEq, Int.natCast_zero, List.replicate_zero, List.length_take, List.length_drop, AVal.own.injEq, reduceCtorEq, Int.reduceAdd, nle2, nle1, nle0, nleA, nleL, Try.results3]
      · replace h := bif_t h hc
        (try simp +decide -implicitDefEqProofs only [go_sem, hc, Bool.not_false])
        refine hK _ _ ?_; clear hK K
        refine qthen_normal ?_
        refine AWP.cond (acond_true ?_)
        refine AWP.seq ?_
        refine AWP.region rfl ?_; intro K hK
        (try simp +decide -implicitDefEqProofs only [go_sem])
        refine hK _ _ ?_; clear hK K
        refine qthen_normal ?_
        refine AWP.ret ?_
        refine qthen_ret ?_
        obtain rfl := some_eq h
        simp +decide -implicitDefEqProofs only [go_sem, mpE_nil, AVal.int.injEq, Int.natCast_zero, List.replicate_zero, List.length_take, List.length_drop, AVal.own.injEq, reduceCtorEq, Int.reduceAdd, nle2, nle1, nle0, nleA, nleL, Try.results3]
    · replace h := bif_t h hc
      (try simp +decide -implicitDefEqProofs only [go_sem, hc, Bool.not_false])
      refine hK _ _ ?_; clear hK K
      refine qthen_normal ?_
      refine AWP.cond (acond_true ?_)
      refine AWP.seq ?_
      refine AWP.region rfl ?_; intro K hK
      (try simp +decide -implicitDefEqProofs only [go_sem])
      refine hK _ _ ?_; clear hK K
      refine qthen_normal ?_
      refine AWP.ret ?_
      refine qthen_ret ?_
      obtain rfl := some_eq h
      simp +decide -implicitDefEqProofs only [go_sem, mpE_nil, AVal.int.injEq, Int.natCast_zero, List.replicate_zero, List.length_take, List.length_drop, AVal.own.injEq, reduceCtorEq, Int.reduceAdd, nle2, nle1, nle0, nleA, nleL, Try.results3]
  · replace h := bif_t h hc
    (try simp +decide -implicitDefEqProofs only [go_sem, hc, Bool.not_false])
    refine hK _ _ ?_; clear hK K
    refine qthen_normal ?_
    refine AWP.cond (acond_true ?_)
    refine AWP.seq ?_
    refine AWP.region rfl ?_; intro K hK
    (try simp +decide -implicitDefEqProofs only [go_sem])
    refine hK _ _ ?_; clear hK K
    refine qthen_normal ?_
    refine AWP.ret ?_
    refine qthen_ret ?_
    obtain rfl := some_eq h
    simp +decide -implicitDefEqProofs only [go_sem, mpE_nil, AVal.int.injEq, Int.natCast_zero, List.replicate_zero, List.length_take, List.length_drop, AVal.own.injEq, reduceCtorEq, Int.reduceAdd, nle2, nle1, nle0, nleA, nleL, Try.results3]

end
end Go.Proofs.Ytooopbnnhbacjaa
