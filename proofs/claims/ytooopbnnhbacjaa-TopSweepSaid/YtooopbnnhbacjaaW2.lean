/-
  What functions of the program compute, as plain Lean functions, and the walks that prove it; printed by a small program of our own (wip/walk.py).
-/
import Derived.Test.YtooopbnnhbacjaaW1
namespace Go.Proofs.Ytooopbnnhbacjaa
open Go Go.Ab
attribute [local irreducible] AWP ACall DCall PureFn Go.Ab.Sub alist dlist AIdx AElem ALook ANext
set_option maxRecDepth 100000
set_option maxHeartbeats 4000000
set_option linter.unusedSimpArgs false
set_option linter.unusedVariables false
noncomputable section
def slices_Clone_sint_int (s_ : List Int) : Option (List Int) := chk s_.length (some s_)

theorem slices_Clone_sint_int_own (s_ : List Int) {r : List Int} (h : slices_Clone_sint_int s_ = some r) : OwnRow Try.prog 31 [.sl 1 (s_.map intC)] 1 (r.map intC) := by
  have hk := (chk_in h).1
  have hr : r = s_ := some_eq (chk_in h).2
  rw [hr]; clear hr h
  refine OwnRow.of ?_
  refine OwnFn.weak (R := fun q H => ∃ v rest, q = .own 0 v 0 (s_.map intC).length ∧ H = .row v 1 (s_.map intC) :: rest) (OwnFn.intro Try.func31 rfl rfl (by show _ ≤ 8; simp) ?_) (fun q H hq => ?_)
  · (try simp +decide -implicitDefEqProofs only [go_sem])
    refine AWP.seq ?_
    refine AWP.region rfl ?_; intro K hK
    (try simp +decide -implicitDefEqProofs only [go_sem])
    refine hK _ _ ?_; clear hK K
    refine qthen_normal ?_
    refine AWP.seq ?_
    refine AWP.seq ?_
    refine AWP.region rfl ?_; intro K hK
    (try simp +decide -implicitDefEqProofs only [go_sem])
    intro bnil hb
    (try simp +decide -implicitDefEqProofs only [go_sem])
    refine hK _ _ ?_; clear hK K
    refine qthen_normal ?_
    refine AWP.cond (acond_split (fun hc => ?_) (fun hc => ?_))
    · have hx0 : s_ = [] := Classical.byContradiction fun hne => by have := hb (by simpa using hne); simp [this] at hc
      subst hx0
      refine AWP.seq ?_
      refine AWP.region rfl ?_; intro K hK
      (try simp +decide -implicitDefEqProofs only [go_sem])
      refine hK _ _ ?_; clear hK K
      refine qthen_normal ?_
      refine AWP.ghost 2 1 rfl (by decide) ?_
      (try simp +decide -implicitDefEqProofs only [go_sem])
      refine AWP.ret ?_
      refine qthen_ret ?_
      (try simp +decide -implicitDefEqProofs only [go_sem, Try.results31])
      refine ⟨_, _, ?_, rfl⟩
      (try simp +decide -implicitDefEqProofs only [go_sem, List.length_map, List.length_append, List.length_cons, List.length_nil, List.length_set, List.length_replicate]); try rfl
    · clear hc
      refine AWP.skip ?_
      refine qthen_normal ?_
      refine AWP.seq ?_
      refine AWP.region rfl ?_; intro K hK
      (try simp +decide -implicitDefEqProofs only [go_sem])
      (repeat (refine ⟨by first | omega | (simp only [List.length_take, List.length_drop, List.length_append]; omega), ?_⟩)); try simp +decide -implicitDefEqProofs only [go_sem]
      refine hK _ _ ?_; clear hK K
      refine qthen_normal ?_
      refine AWP.ret ?_
      (try simp +decide -implicitDefEqProofs only [go_sem, Try.results31])
      refine ⟨_, _, ?_, rfl⟩
      (try simp +decide -implicitDefEqProofs only [go_sem, List.length_map, List.length_append, List.length_cons, List.length_nil, List.length_set, List.length_replicate]); try rfl
  · obtain ⟨v, rest, rfl, rfl⟩ := hq
    exact ⟨[.row v 1 (s_.map intC)], ⟨⟨rfl, rfl, rfl⟩, by cases rest <;> trivial⟩, rfl, rfl, ⟨v, rfl, rfl⟩⟩
theorem slices_Clone_sint_int_fresh (s_ : List Int) {r : List Int} (h : slices_Clone_sint_int s_ = some r) : FreshFn Try.prog 31 [.sl 1 (s_.map intC)] (· = .sl 1 (r.map intC)) := FreshFn.nle (OwnFn.fresh (OwnFn.mono (slices_Clone_sint_int_own s_ h) fun q H => by rintro ⟨rfl, rfl⟩; simp +decide -implicitDefEqProofs only [go_sem, mpE_nil, AVal.int.injEq, Int.natCast_zero, List.replicate_zero, List.length_take, List.length_drop, AVal.own.injEq, reduceCtorEq, Int.reduceAdd, nle2, nle1, nle0, nleA, nleL, List.length_map]))
theorem slices_Clone_sint_int_spec (s_ : List Int) {r : List Int} (h : slices_Clone_sint_int s_ = some r) : PureFn Try.prog 31 [.sl 1 (s_.map intC)] (· = .sl 1 (r.map intC)) := (slices_Clone_sint_int_fresh s_ h).pure

def sweep_below_b1 (m : ApiMap) (run : Int) (k0 : Nat) (x_2 : Int) (sv : Unit) : Option (Out (Unit) (Int)) :=
  (sweep_before m run x_2).bind fun y3 => (bif y3 then some (Out.ret ((k0 : Nat) : Int)) else some (Out.next ()))

def sweep_below (m : ApiMap) (s_ : ApiSweep) (run : Int) : Option (Int) :=
  (forIx (sweep_below_b1 m run) 0 s_.Runs ()).bind fun o0 => o0.on fun s0 => some (-1 : Int)

theorem sweep_below_spec (m : ApiMap) (s_ : ApiSweep) (run : Int) {r : Int} (h : sweep_below m s_ run = some r) : PureFn Try.prog 47 [.agg (encApiMap m), .agg (encApiSweep s_), .int .i64 run] (· = .int .i64 r) := by
  refine PureFn.nle (PureFn.intro Try.func47 rfl rfl (by show _ ≤ 11; simp) ?_)
  unfold sweep_below at h
  (try simp +decide -implicitDefEqProofs only [go_sem])
  refine AWP.seq ?_
  refine AWP.region rfl ?_; intro K hK
  (try simp +decide -implicitDefEqProofs only [go_sem])
  refine hK _ _ ?_; clear hK K
  refine qthen_normal ?_
  refine AWP.seq ?_
  refine AWP.region rfl ?_; intro K hK
  (try simp +decide -implicitDefEqProofs only [go_sem])
  refine ACall.inline Try.call52 Try.func52 rfl rfl (by show _ ≤ 19; simp) ?_
  (try simp +decide -implicitDefEqProofs only [go_sem])
  refine AWP.seq ?_
  refine AWP.region rfl ?_; intro K hK
  (try simp +decide -implicitDefEqProofs only [go_sem])
  refine hK _ _ ?_; clear hK K
  refine qthen_normal ?_
  refine AWP.seq ?_
  refine AWP.seq ?_
  refine AWP.region rfl ?_; intro K hK
  (try simp +decide -implicitDefEqProofs only [go_sem])
  intro hm
  refine hK _ _ ?_; clear hK K
  refine qthen_normal ?_
  refine AWP.block ?_
  obtain ⟨o0, hJ0, hO0⟩ := bindE h
  clear h
  refine AWP.loopW (ι := Nat × (Unit) × (Unit)) (fun zz => [(0, .sl 1 (s_.Runs.map intC)), (1, .func 53 [.ptr 0 0, .ptr 2 0]), (7, .int .i64 ((s_.Runs.length : Nat) : Int)), (8, .int .i64 ((zz.1 : Nat) : Int))]) (fun zz => [.box [.sl 2 (m.Nodes.map encApiNode), .sl 8 (m.Lifts.map encApiLift), .sl 7 (m.Runs.map encApiRun), .sl 1 (m.Bases.map intC)], .box [.sl 1 (s_.Runs.map intC), .sl 4 (s_.Swept.map encApiSwept), .int .i64 s_.Begun], .box [.int .i64 run]]) (fun zz => zz.1 ≤ s_.Runs.length ∧ forIx (sweep_below_b1 m run) zz.1 ((s_.Runs).drop zz.1) zz.2.1 = some o0) (fun zz => s_.Runs.length - zz.1) (0, (), ()) ⟨Nat.zero_le _, hJ0⟩ (by (simp +decide -implicitDefEqProofs only [go_sem, mpE_nil, AVal.int.injEq, Int.natCast_zero, List.replicate_zero, List.length_take, List.length_drop, AVal.own.injEq, reduceCtorEq, Int.reduceAdd] <;> omega)) (by (simp +decide -implicitDefEqProofs only [go_sem, mpE_nil, AVal.int.injEq, Int.natCast_zero, List.replicate_zero, List.length_take, List.length_drop, AVal.own.injEq, reduceCtorEq, Int.reduceAdd] <;> omega)) (fun x => ⟨rfl, rfl, rfl⟩) ?_
  clear hJ0
  rintro ⟨k0, ⟨⟩, ⟨⟩⟩ ⟨hk0, hJ0⟩
  dsimp only at hk0 hJ0 ⊢
  refine AWP.seq ?_
  refine AWP.region rfl ?_; intro K hK
  (try simp +decide -implicitDefEqProofs only [go_sem])
  refine hK _ _ ?_; clear hK K
  refine qthen_normal ?_
  refine AWP.seq ?_
  refine AWP.cond (acond_split (fun hc => ?_) (fun hc => ?_))
  · have hlt0 : k0 < s_.Runs.length := by have := of_decide_eq_true hc; omega
    obtain ⟨x_2, b0, hx0_, h, hJ0⟩ := for_cons hJ0 hlt0
    have hx0 := idxL_nat hx0_
    have hw0 : IntKind.i64.wrap (((k0 : Nat) : Int) + 1) = (((k0 : Nat) : Int) + (1 : Int)) := by rw [wrap_i64] <;> omega
    unfold sweep_below_b1 at h; try dsimp only at h
    refine AWP.skip ?_
    refine qthen_normal ?_
    refine AWP.seq ?_
    refine AWP.block ?_
    refine AWP.seq ?_
    refine AWP.region rfl ?_; intro K hK
    (try simp +decide -implicitDefEqProofs only [go_sem])
    refine hK _ _ ?_; clear hK K
    refine qthen_normal ?_
    refine AWP.seq ?_
    refine AWP.region rfl ?_; intro K hK
    (try simp +decide -implicitDefEqProofs only [go_sem])
    refine AIdx.of (f := intC) (l := s_.Runs) hx0 ?_
    (try simp +decide -implicitDefEqProofs only [go_sem])
    refine ACall.inline Try.call53 Try.func53 rfl rfl (by show _ ≤ 9; simp) ?_
    (try simp +decide -implicitDefEqProofs only [go_sem])
    refine AWP.seq ?_
    refine AWP.region rfl ?_; intro K hK
    (try simp +decide -implicitDefEqProofs only [go_sem])
    refine hK _ _ ?_; clear hK K
    refine qthen_normal ?_
    refine AWP.seq ?_
    refine AWP.region rfl ?_; intro K hK
    (try simp +decide -implicitDefEqProofs only [go_sem])
    obtain ⟨y3, hy3, h⟩ := bindE h
    refine ACall.pure Try.call51 (sweep_before_spec m run x_2 hy3) rfl fun _ hr => ?_
    subst hr
    (try simp +decide -implicitDefEqProofs only [go_sem])
    refine hK _ _ ?_; clear hK K
    refine qthen_normal ?_
    refine AWP.ret ?_
    (try simp +decide -implicitDefEqProofs only [go_sem, Try.results53])
    refine hK _ _ ?_; clear hK K
    refine qthen_normal ?_
    refine AWP.cond (acond_split (fun hc => ?_) (fun hc => ?_))
    · replace h := bif_t h hc
      refine AWP.seq ?_
      refine AWP.region rfl ?_; intro K hK
      (try simp +decide -implicitDefEqProofs only [go_sem])
      refine hK _ _ ?_; clear hK K
      refine qthen_normal ?_
      refine AWP.ret ?_
      refine qblock_ret ?_
      refine qthen_ret ?_
      refine qthen_ret ?_
      obtain rfl := some_eq h
      obtain rfl := cont_ret hJ0
      replace h := on_ret hO0
      refine qblock_ret ?_
      refine qthen_ret ?_
      (try simp +decide -implicitDefEqProofs only [go_sem, Try.results52])
      refine hK _ _ ?_; clear hK K
      refine qthen_normal ?_
      refine AWP.ret ?_
      obtain rfl := some_eq h
      simp +decide -implicitDefEqProofs only [go_sem, mpE_nil, AVal.int.injEq, Int.natCast_zero, List.replicate_zero, List.length_take, List.length_drop, AVal.own.injEq, reduceCtorEq, Int.reduceAdd, nle2, nle1, nle0, nleA, nleL, Try.results47]
    replace h := bif_f h hc
    refine AWP.skip ?_
    refine qblock_normal ?_
    refine qthen_normal ?_
    refine AWP.region rfl ?_; intro K hK
    (try simp +decide -implicitDefEqProofs only [go_sem])
    refine hK _ _ ?_; clear hK K
    refine qthen_normal ?_
    obtain rfl := some_eq h
    refine ⟨(k0 + 1, (), ()), ⟨by dsimp only; omega, cont_next hJ0⟩, by dsimp only; omega, ?_, ?_⟩
    · (simp +decide -implicitDefEqProofs only [go_sem, mpE_nil, AVal.int.injEq, Int.natCast_zero, List.replicate_zero, List.length_take, List.length_drop, AVal.own.injEq, reduceCtorEq, Int.reduceAdd, hw0] <;> omega)
    · (simp +decide -implicitDefEqProofs only [go_sem, mpE_nil, AVal.int.injEq, Int.natCast_zero, List.replicate_zero, List.length_take, List.length_drop, AVal.own.injEq, reduceCtorEq, Int.reduceAdd, hw0] <;> omega)
  · obtain rfl := for_nil hJ0 (fun hl => by have := of_decide_eq_false hc; omega)
    have h := on_next hO0; try dsimp only at h
    have hkl : s_.Runs.length = k0 := by have := of_decide_eq_false hc; omega
    subst hkl
    refine AWP.exit ?_
    refine qthen_exit ?_
    refine qthen_exit ?_
    refine qblock_same ?_
    refine qthen_normal ?_
    refine AWP.seq ?_
    refine AWP.region rfl ?_; intro K hK
    (try simp +decide -implicitDefEqProofs only [go_sem])
    refine hK _ _ ?_; clear hK K
    refine qthen_normal ?_
    refine AWP.ret ?_
    (try simp +decide -implicitDefEqProofs only [go_sem, Try.results52])
    refine hK _ _ ?_; clear hK K
    refine qthen_normal ?_
    refine AWP.ret ?_
    obtain rfl := some_eq h
    simp +decide -implicitDefEqProofs only [go_sem, mpE_nil, AVal.int.injEq, Int.natCast_zero, List.replicate_zero, List.length_take, List.length_drop, AVal.own.injEq, reduceCtorEq, Int.reduceAdd, nle2, nle1, nle0, nleA, nleL, Try.results47]

def sweep_All_b2 (k7 : Nat) (x_9 : Int) (sv : Int) : Option (Out (Int) (Int × Int × Int)) :=
  some (Out.next (IntKind.i64.wrap (sv + x_9)))

def sweep_All_j1 (left3 : Int) (rest4 : List Int) : Option (Int × Int × Int) :=
  (forIx sweep_All_b2 0 rest4 (0 : Int)).bind fun o7 => o7.on fun s7 => some (left3, (s7, (0 : Int)))

def sweep_All_b3 (m : ApiMap) (s_ : ApiSweep) (k13 : Nat) (x_15 : Int) (sv : Int × (List Int)) : Option (Out (Int × (List Int)) (Int × Int × Int)) :=
  (slices_Index_sint_int s_.Runs x_15).bind fun y16 => ((idxL sv.2 y16).bind fun x_18 => (idxL s_.Runs y16).bind fun x_19 => (terrain_Run m x_19).bind fun y20 => (slices_Contains_sint_int m.Bases y20.1.To).bind fun y21 => (bif y21 then some (x_18, (sv.2.set y16.toNat (0 : Int))) else (sweep_below m s_ x_19).bind fun y23 => (bif (decide ((0 : Int) ≤ y23)) then (idxL (sv.2.set y16.toNat (0 : Int)) y23).bind fun x_25 => some ((0 : Int), ((sv.2.set y16.toNat (0 : Int)).set y23.toNat (IntKind.i64.wrap (x_25 + x_18)))) else some ((0 : Int), sv.2)))).bind fun y27 => okB (decide (y27.2.length = sv.2.length)) (some (Out.next ((IntKind.i64.wrap (sv.1 + y27.1)), y27.2)))

def sweep_All (m : ApiMap) (s_ : ApiSweep) (people : List Int) : Option (Int × Int × Int) :=
  (sweep_formed s_ people).bind fun y1 => (bif (!y1) then some ((0 : Int), ((0 : Int), (3 : Int))) else (slices_Clone_sint_int people).bind fun y2 => (sweep_Order m s_).bind fun y10 => (forIx (sweep_All_b3 m s_) 0 y10 ((0 : Int), y2)).bind fun o13 => o13.on fun s13 => sweep_All_j1 s13.1 s13.2)

theorem sweep_All_spec (m : ApiMap) (s_ : ApiSweep) (people : List Int) {r : Int × Int × Int} (h : sweep_All m s_ people = some r) : PureFn Try.prog 12 [.agg (encApiMap m), .agg (encApiSweep s_), .sl 1 (people.map intC)] (· = .tuple [.int .i64 r.1, .int .i64 r.2.1, .int .i64 r.2.2]) := by
  refine PureFn.nle (PureFn.intro Try.func12 rfl rfl (by show _ ≤ 53; simp) ?_)
  unfold sweep_All at h
  (try simp +decide -implicitDefEqProofs only [go_sem])
  refine AWP.seq ?_
  refine AWP.region rfl ?_; intro K hK
  (try simp +decide -implicitDefEqProofs only [go_sem])
  refine hK _ _ ?_; clear hK K
  refine qthen_normal ?_
  refine AWP.seq ?_
  refine AWP.seq ?_
  refine AWP.region rfl ?_; intro K hK
  (try simp +decide -implicitDefEqProofs only [go_sem])
  obtain ⟨y1, hy1, h⟩ := bindE h
  refine ACall.pure Try.call29 (sweep_formed_spec s_ people hy1) rfl fun _ hr => ?_
  subst hr
  (try simp +decide -implicitDefEqProofs only [go_sem])
  refine hK _ _ ?_; clear hK K
  refine qthen_normal ?_
  refine AWP.cond (acond_split (fun hc => ?_) (fun hc => ?_))
  · replace h := bif_t h hc
    refine AWP.seq ?_
    refine AWP.region rfl ?_; intro K hK
    (try simp +decide -implicitDefEqProofs only [go_sem])
    refine hK _ _ ?_; clear hK K
    refine qthen_normal ?_
    refine AWP.ret ?_
    refine qthen_ret ?_
    obtain rfl := some_eq h
    simp +decide -implicitDefEqProofs only [go_sem, mpE_nil, AVal.int.injEq, Int.natCast_zero, List.replicate_zero, List.length_take, List.length_drop, AVal.own.injEq, reduceCtorEq, Int.reduceAdd, nle2, nle1, nle0, nleA, nleL, Try.results12]
  replace h := bif_f h hc
  refine AWP.skip ?_
  refine qthen_normal ?_
  refine AWP.seq ?_
  refine AWP.region rfl ?_; intro K hK
  (try simp +decide -implicitDefEqProofs only [go_sem])
  obtain ⟨y2, hy2, h⟩ := bindE h
  refine ACall.row Try.call31 (slices_Clone_sint_int_own people hy2) rfl 2 rfl ?_
  (try simp +decide -implicitDefEqProofs only [go_sem, List.length_map])
  refine hK _ _ ?_; clear hK K
  refine qthen_normal ?_
  refine AWP.seq ?_
  refine AWP.region rfl ?_; intro K hK
  (try simp +decide -implicitDefEqProofs only [go_sem])
  refine hK _ _ ?_; clear hK K
  refine qthen_normal ?_
  refine AWP.seqJoin (ι := (Int × (List Int)) × (Nat)) (fun zz => [(9, .own 2 zz.2 0 zz.1.2.length), (10, .int .i64 zz.1.1)]) (fun zz => [.gone, .gone, .row zz.2 1 (zz.1.2.map intC)]) (fun zz => sweep_All_j1 zz.1.1 zz.1.2 = some r) (fun zz => ⟨rfl, rfl, rfl⟩) ?_ ?_
  · refine AWP.seq ?_
    refine AWP.region rfl ?_; intro K hK
    (try simp +decide -implicitDefEqProofs only [go_sem])
    obtain ⟨y10, hy10, h⟩ := bindE h
    refine ACall.pure Try.call14 (sweep_Order_spec m s_ hy10) rfl fun _ hr => ?_
    subst hr
    (try simp +decide -implicitDefEqProofs only [go_sem])
    intro hm
    refine hK _ _ ?_; clear hK K
    refine qthen_normal ?_
    refine AWP.block ?_
    obtain ⟨o13, hJ13, hO13⟩ := bindE h
    clear h
    refine AWP.loopW (ι := Nat × (Int × (List Int)) × (Nat)) (fun zz => [(3, .ptr 0 0), (4, .ptr 1 0), (9, .own 2 zz.2.2 0 zz.2.1.2.length), (10, .int .i64 zz.2.1.1), (24, .sl 1 (y10.map intC)), (25, .int .i64 ((y10.length : Nat) : Int)), (26, .int .i64 ((zz.1 : Nat) : Int))]) (fun zz => [.box [.sl 2 (m.Nodes.map encApiNode), .sl 8 (m.Lifts.map encApiLift), .sl 7 (m.Runs.map encApiRun), .sl 1 (m.Bases.map intC)], .box [.sl 1 (s_.Runs.map intC), .sl 4 (s_.Swept.map encApiSwept), .int .i64 s_.Begun], .row zz.2.2 1 (zz.2.1.2.map intC)]) (fun zz => zz.1 ≤ y10.length ∧ forIx (sweep_All_b3 m s_) zz.1 ((y10).drop zz.1) zz.2.1 = some o13) (fun zz => y10.length - zz.1) (0, ((0 : Int), y2), 0) ⟨Nat.zero_le _, hJ13⟩ (by (simp +decide -implicitDefEqProofs only [go_sem, mpE_nil, AVal.int.injEq, Int.natCast_zero, List.replicate_zero, List.length_take, List.length_drop, AVal.own.injEq, reduceCtorEq, Int.reduceAdd] <;> omega)) (by (simp +decide -implicitDefEqProofs only [go_sem, mpE_nil, AVal.int.injEq, Int.natCast_zero, List.replicate_zero, List.length_take, List.length_drop, AVal.own.injEq, reduceCtorEq, Int.reduceAdd] <;> omega)) (fun x => ⟨rfl, rfl, rfl⟩) ?_
    clear hJ13
    rintro ⟨k13, ⟨left11, rest12⟩, ver13⟩ ⟨hk13, hJ13⟩
    dsimp only at hk13 hJ13 ⊢
    refine AWP.seq ?_
    refine AWP.region rfl ?_; intro K hK
    (try simp +decide -implicitDefEqProofs only [go_sem])
    refine hK _ _ ?_; clear hK K
    refine qthen_normal ?_
    refine AWP.seq ?_
    refine AWP.cond (acond_split (fun hc => ?_) (fun hc => ?_))
    · have hlt13 : k13 < y10.length := by have := of_decide_eq_true hc; omega
      obtain ⟨x_15, b13, hx13_, h, hJ13⟩ := for_cons hJ13 hlt13
      have hx13 := idxL_nat hx13_
      have hw13 : IntKind.i64.wrap (((k13 : Nat) : Int) + 1) = (((k13 : Nat) : Int) + (1 : Int)) := by rw [wrap_i64] <;> omega
      unfold sweep_All_b3 at h; try dsimp only at h
      refine AWP.skip ?_
      refine qthen_normal ?_
      refine AWP.seq ?_
      refine AWP.block ?_
      refine AWP.seq ?_
      refine AWP.region rfl ?_; intro K hK
      (try simp +decide -implicitDefEqProofs only [go_sem])
      refine AIdx.of (f := intC) (l := y10) hx13 ?_
      (try simp +decide -implicitDefEqProofs only [go_sem])
      refine hK _ _ ?_; clear hK K
      refine qthen_normal ?_
      refine AWP.draw Try.mixed (by kernel_rfl) ?_; intro K hK
      (try simp +decide -implicitDefEqProofs only [go_sem])
      obtain ⟨y16, hy16, h⟩ := bindE h
      refine DCall.pure Try.call30 (slices_Index_sint_int_spec s_.Runs x_15 hy16) rfl ?_
      (try simp +decide -implicitDefEqProofs only [go_sem])
      obtain ⟨y27, hy27, h⟩ := bindE h
      obtain ⟨hL, h⟩ := okB_in h
      refine DCall.effC (r := .int .i64 y27.1) 2 ver13 1 (y27.2.map intC) (rest12.map intC) Try.call32 rfl rfl rfl (fun st H' hlen hag => ?_) ?_
      · replace h := hy27
        obtain ⟨ox17_0, T0, rfl, hl0⟩ := lenCons hlen
        obtain ⟨ox17_1, T1, rfl, hl1⟩ := lenCons hl0
        obtain ⟨ox17_2, T2, rfl, hl2⟩ := lenCons hl1
        obtain ⟨ox17_3, T3, rfl, hl3⟩ := lenCons hl2
        obtain ⟨ox17_4, T4, rfl, hl4⟩ := lenCons hl3
        obtain rfl := lenNil hl4
        obtain rfl := Option.some.inj hag
        (try simp +decide -implicitDefEqProofs only [go_sem])
        refine ACall.inline Try.call32 Try.func32 rfl rfl (by show _ ≤ 56; simp) ?_
        (try simp +decide -implicitDefEqProofs only [go_sem])
        refine AWP.seq ?_
        refine AWP.region rfl ?_; intro K hK
        (try simp +decide -implicitDefEqProofs only [go_sem])
        refine hK _ _ ?_; clear hK K
        refine qthen_normal ?_
        refine AWP.seq ?_
        refine AWP.region rfl ?_; intro K hK
        (try simp +decide -implicitDefEqProofs only [go_sem])
        obtain ⟨x_18, hx_18, h⟩ := bindE h
        refine own_in hx_18 (by first | rfl | exact (sortI_len _).symm | (simp only [List.length_append, List.length_cons, List.length_nil, List.length_set, List.length_replicate] <;> omega)) ?_
        (try simp +decide -implicitDefEqProofs only [go_sem])
        refine AElem.of (f := intC) (l := rest12) (n := y16) hx_18 ?_
        (try simp +decide -implicitDefEqProofs only [go_sem])
        refine hK _ _ ?_; clear hK K
        refine qthen_normal ?_
        refine AWP.seq ?_
        refine AWP.draw Try.mixed (by kernel_rfl) ?_; intro K hK
        (try simp +decide -implicitDefEqProofs only [go_sem])
        obtain ⟨x_19, hx_19, h⟩ := bindE h
        refine AIdx.of (f := intC) (l := s_.Runs) hx_19 ?_
        (try simp +decide -implicitDefEqProofs only [go_sem])
        obtain ⟨y20, hy20, h⟩ := bindE h
        refine DCall.pure Try.call46 (terrain_Run_spec m x_19 hy20) rfl ?_
        (try simp +decide -implicitDefEqProofs only [go_sem])
        refine hK _ _ _ (by kernel_rfl) ?_; clear hK K
        refine qthen_normal ?_
        refine AWP.seq ?_
        refine AWP.seq ?_
        refine AWP.region rfl ?_; intro K hK
        (try simp +decide -implicitDefEqProofs only [go_sem])
        obtain ⟨y21, hy21, h⟩ := bindE h
        refine ACall.pure Try.call33 (slices_Contains_sint_int_spec m.Bases y20.1.To hy21) rfl fun _ hr => ?_
        subst hr
        (try simp +decide -implicitDefEqProofs only [go_sem])
        refine hK _ _ ?_; clear hK K
        refine qthen_normal ?_
        refine AWP.cond (acond_split (fun hc => ?_) (fun hc => ?_))
        · replace h := bif_t h hc
          refine AWP.seq ?_
          refine AWP.region rfl ?_; intro K hK
          (try simp +decide -implicitDefEqProofs only [go_sem])
          refine own_in hx_18 (by first | rfl | exact (sortI_len _).symm | (simp only [List.length_append, List.length_cons, List.length_nil, List.length_set, List.length_replicate] <;> omega)) ?_
          (try simp +decide -implicitDefEqProofs only [go_sem])
          refine AElem.of (f := intC) (l := rest12) (n := y16) hx_18 ?_
          have hs22 := idxL_set (y := (0 : Int)) hx_18
          (try simp +decide -implicitDefEqProofs only [go_sem])
          refine hK _ _ ?_; clear hK K
          refine qthen_normal ?_
          refine AWP.seq ?_
          refine AWP.region rfl ?_; intro K hK
          (try simp +decide -implicitDefEqProofs only [go_sem])
          refine hK _ _ ?_; clear hK K
          refine qthen_normal ?_
          refine AWP.ret ?_
          refine qthen_ret ?_
          obtain rfl := some_eq h
          (try simp +decide -implicitDefEqProofs only [go_sem, Try.results32])
          first | exact ⟨_, rfl⟩ | exact ⟨rfl, _, rfl⟩
        replace h := bif_f h hc
        refine AWP.skip ?_
        refine qthen_normal ?_
        refine AWP.seq ?_
        refine AWP.seq ?_
        refine AWP.draw Try.mixed (by kernel_rfl) ?_; intro K hK
        (try simp +decide -implicitDefEqProofs only [go_sem])
        refine AIdx.of (f := intC) (l := s_.Runs) hx_19 ?_
        (try simp +decide -implicitDefEqProofs only [go_sem])
        obtain ⟨y23, hy23, h⟩ := bindE h
        refine DCall.pure Try.call47 (sweep_below_spec m s_ x_19 hy23) rfl ?_
        (try simp +decide -implicitDefEqProofs only [go_sem])
        refine hK _ _ _ (by kernel_rfl) ?_; clear hK K
        refine qthen_normal ?_
        refine AWP.seq ?_
        refine AWP.region rfl ?_; intro K hK
        (try simp +decide -implicitDefEqProofs only [go_sem])
        refine hK _ _ ?_; clear hK K
        refine qthen_normal ?_
        refine AWP.cond (acond_split (fun hc => ?_) (fun hc => ?_))
        · replace h := bif_t h hc
          refine AWP.seq ?_
          refine AWP.region rfl ?_; intro K hK
          (try simp +decide -implicitDefEqProofs only [go_sem])
          refine own_in hx_18 (by first | rfl | exact (sortI_len _).symm | (simp only [List.length_append, List.length_cons, List.length_nil, List.length_set, List.length_replicate] <;> omega)) ?_
          (try simp +decide -implicitDefEqProofs only [go_sem])
          refine AElem.of (f := intC) (l := rest12) (n := y16) hx_18 ?_
          have hs24 := idxL_set (y := (0 : Int)) hx_18
          (try simp +decide -implicitDefEqProofs only [go_sem])
          refine hK _ _ ?_; clear hK K
          refine qthen_normal ?_
          refine AWP.region rfl ?_; intro K hK
          (try simp +decide -implicitDefEqProofs only [go_sem])
          obtain ⟨x_25, hx_25, h⟩ := bindE h
          refine own_in hx_25 (by first | rfl | exact (sortI_len _).symm | (simp only [List.length_append, List.length_cons, List.length_nil, List.length_set, List.length_replicate] <;> omega)) ?_
          (try simp +decide -implicitDefEqProofs only [go_sem])
          refine AElem.of (f := intC) (l := (rest12.set y16.toNat (0 : Int))) (n := y23) hx_25 ?_
          (try simp +decide -implicitDefEqProofs only [go_sem])
          refine own_in hx_25 (by first | rfl | exact (sortI_len _).symm | (simp only [List.length_append, List.length_cons, List.length_nil, List.length_set, List.length_replicate] <;> omega)) ?_
          (try simp +decide -implicitDefEqProofs only [go_sem])
          refine AElem.of (f := intC) (l := (rest12.set y16.toNat (0 : Int))) (n := y23) hx_25 ?_
          have hs26 := idxL_set (y := (IntKind.i64.wrap (x_25 + x_18))) hx_25
          (try simp +decide -implicitDefEqProofs only [go_sem])
          refine hK _ _ ?_; clear hK K
          refine qthen_normal ?_
          refine AWP.seq ?_
          refine AWP.region rfl ?_; intro K hK
          (try simp +decide -implicitDefEqProofs only [go_sem])
          refine hK _ _ ?_; clear hK K
          refine qthen_normal ?_
          refine AWP.ret ?_
          obtain rfl := some_eq h
          (try simp +decide -implicitDefEqProofs only [go_sem, Try.results32])
          first | exact ⟨_, rfl⟩ | exact ⟨rfl, _, rfl⟩
        replace h := bif_f h hc
        refine AWP.skip ?_
        refine qthen_normal ?_
        refine AWP.seq ?_
        refine AWP.region rfl ?_; intro K hK
        (try simp +decide -implicitDefEqProofs only [go_sem])
        refine hK _ _ ?_; clear hK K
        refine qthen_normal ?_
        refine AWP.ret ?_
        obtain rfl := some_eq h
        (try simp +decide -implicitDefEqProofs only [go_sem, Try.results32])
        first | exact ⟨_, rfl⟩ | exact ⟨rfl, _, rfl⟩
      (try simp +decide -implicitDefEqProofs only [go_sem])
      try rw [← hL]
      refine hK _ _ _ (by kernel_rfl) ?_; clear hK K
      refine qblock_normal ?_
      refine qthen_normal ?_
      refine AWP.region rfl ?_; intro K hK
      (try simp +decide -implicitDefEqProofs only [go_sem])
      refine hK _ _ ?_; clear hK K
      refine qthen_normal ?_
      obtain rfl := some_eq h
      refine ⟨(k13 + 1, ((IntKind.i64.wrap (left11 + y27.1)), y27.2), ver13), ⟨by dsimp only; omega, cont_next hJ13⟩, by dsimp only; omega, ?_, ?_⟩
      · (simp +decide -implicitDefEqProofs only [go_sem, mpE_nil, AVal.int.injEq, Int.natCast_zero, List.replicate_zero, List.length_take, List.length_drop, AVal.own.injEq, reduceCtorEq, Int.reduceAdd, hw13] <;> omega)
      · (simp +decide -implicitDefEqProofs only [go_sem, mpE_nil, AVal.int.injEq, Int.natCast_zero, List.replicate_zero, List.length_take, List.length_drop, AVal.own.injEq, reduceCtorEq, Int.reduceAdd, hw13] <;> omega)
    · obtain rfl := for_nil hJ13 (fun hl => by have := of_decide_eq_false hc; omega)
      have h := on_next hO13; try dsimp only at h
      have hkl : y10.length = k13 := by have := of_decide_eq_false hc; omega
      subst hkl
      refine AWP.exit ?_
      refine qthen_exit ?_
      refine qthen_exit ?_
      refine qblock_same ?_
      refine qthen_normal ?_
      exact ⟨((left11, rest12), ver13), h, by (simp +decide -implicitDefEqProofs only [go_sem, mpE_nil, AVal.int.injEq, Int.natCast_zero, List.replicate_zero, List.length_take, List.length_drop, AVal.own.injEq, reduceCtorEq, Int.reduceAdd] <;> omega), by (simp +decide -implicitDefEqProofs only [go_sem, mpE_nil, AVal.int.injEq, Int.natCast_zero, List.replicate_zero, List.length_take, List.length_drop, AVal.own.injEq, reduceCtorEq, Int.reduceAdd] <;> omega)⟩
  · rintro ⟨⟨left3, rest4⟩, ver5⟩ h
    try dsimp only at h ⊢
    unfold sweep_All_j1 at h; try dsimp only at h
    refine AWP.seq ?_
    refine AWP.region rfl ?_; intro K hK
    (try simp +decide -implicitDefEqProofs only [go_sem])
    refine hK _ _ ?_; clear hK K
    refine qthen_normal ?_
    refine AWP.seq ?_
    refine AWP.seq ?_
    refine AWP.region rfl ?_; intro K hK
    (try simp +decide -implicitDefEqProofs only [go_sem])
    intro hm
    refine hK _ _ ?_; clear hK K
    refine qthen_normal ?_
    refine AWP.block ?_
    obtain ⟨o7, hJ7, hO7⟩ := bindE h
    clear h
    refine AWP.loopW (ι := Nat × (Int) × (Unit)) (fun zz => [(10, .int .i64 left3), (13, .int .i64 zz.2.1), (41, .own 2 ver5 0 rest4.length), (42, .int .i64 ((rest4.length : Nat) : Int)), (43, .int .i64 ((zz.1 : Nat) : Int))]) (fun zz => [.gone, .gone, .row ver5 1 (rest4.map intC)]) (fun zz => zz.1 ≤ rest4.length ∧ forIx sweep_All_b2 zz.1 ((rest4).drop zz.1) zz.2.1 = some o7) (fun zz => rest4.length - zz.1) (0, (0 : Int), ()) ⟨Nat.zero_le _, hJ7⟩ (by (simp +decide -implicitDefEqProofs only [go_sem, mpE_nil, AVal.int.injEq, Int.natCast_zero, List.replicate_zero, List.length_take, List.length_drop, AVal.own.injEq, reduceCtorEq, Int.reduceAdd] <;> omega)) (by (simp +decide -implicitDefEqProofs only [go_sem, mpE_nil, AVal.int.injEq, Int.natCast_zero, List.replicate_zero, List.length_take, List.length_drop, AVal.own.injEq, reduceCtorEq, Int.reduceAdd] <;> omega)) (fun x => ⟨rfl, rfl, rfl⟩) ?_
    clear hJ7
    rintro ⟨k7, still7, ⟨⟩⟩ ⟨hk7, hJ7⟩
    dsimp only at hk7 hJ7 ⊢
    refine AWP.seq ?_
    refine AWP.region rfl ?_; intro K hK
    (try simp +decide -implicitDefEqProofs only [go_sem])
    refine hK _ _ ?_; clear hK K
    refine qthen_normal ?_
    refine AWP.seq ?_
    refine AWP.cond (acond_split (fun hc => ?_) (fun hc => ?_))
    · have hlt7 : k7 < rest4.length := by have := of_decide_eq_true hc; omega
      obtain ⟨x_9, b7, hx7_, h, hJ7⟩ := for_cons hJ7 hlt7
      have hx7 := idxL_nat hx7_
      have hw7 : IntKind.i64.wrap (((k7 : Nat) : Int) + 1) = (((k7 : Nat) : Int) + (1 : Int)) := by rw [wrap_i64] <;> omega
      unfold sweep_All_b2 at h; try dsimp only at h
      refine AWP.skip ?_
      refine qthen_normal ?_
      refine AWP.seq ?_
      refine AWP.block ?_
      refine AWP.seq ?_
      refine AWP.region rfl ?_; intro K hK
      (try simp +decide -implicitDefEqProofs only [go_sem])
      refine own_in hx7 (by first | rfl | exact (sortI_len _).symm | (simp only [List.length_append, List.length_cons, List.length_nil, List.length_set, List.length_replicate] <;> omega)) ?_
      (try simp +decide -implicitDefEqProofs only [go_sem])
      refine AElem.ofNat (f := intC) (l := rest4) (n := k7) hx7 ?_
      (try simp +decide -implicitDefEqProofs only [go_sem])
      refine hK _ _ ?_; clear hK K
      refine qthen_normal ?_
      refine AWP.region rfl ?_; intro K hK
      (try simp +decide -implicitDefEqProofs only [go_sem])
      refine hK _ _ ?_; clear hK K
      refine qblock_normal ?_
      refine qthen_normal ?_
      refine AWP.region rfl ?_; intro K hK
      (try simp +decide -implicitDefEqProofs only [go_sem])
      refine hK _ _ ?_; clear hK K
      refine qthen_normal ?_
      obtain rfl := some_eq h
      refine ⟨(k7 + 1, (IntKind.i64.wrap (still7 + x_9)), ()), ⟨by dsimp only; omega, cont_next hJ7⟩, by dsimp only; omega, ?_, ?_⟩
      · (simp +decide -implicitDefEqProofs only [go_sem, mpE_nil, AVal.int.injEq, Int.natCast_zero, List.replicate_zero, List.length_take, List.length_drop, AVal.own.injEq, reduceCtorEq, Int.reduceAdd, hw7] <;> omega)
      · (simp +decide -implicitDefEqProofs only [go_sem, mpE_nil, AVal.int.injEq, Int.natCast_zero, List.replicate_zero, List.length_take, List.length_drop, AVal.own.injEq, reduceCtorEq, Int.reduceAdd, hw7] <;> omega)
    · obtain rfl := for_nil hJ7 (fun hl => by have := of_decide_eq_false hc; omega)
      have h := on_next hO7; try dsimp only at h
      have hkl : rest4.length = k7 := by have := of_decide_eq_false hc; omega
      subst hkl
      refine AWP.exit ?_
      refine qthen_exit ?_
      refine qthen_exit ?_
      refine qblock_same ?_
      refine qthen_normal ?_
      refine AWP.seq ?_
      refine AWP.region rfl ?_; intro K hK
      (try simp +decide -implicitDefEqProofs only [go_sem])
      refine hK _ _ ?_; clear hK K
      refine qthen_normal ?_
      refine AWP.ret ?_
      obtain rfl := some_eq h
      simp +decide -implicitDefEqProofs only [go_sem, mpE_nil, AVal.int.injEq, Int.natCast_zero, List.replicate_zero, List.length_take, List.length_drop, AVal.own.injEq, reduceCtorEq, Int.reduceAdd, nle2, nle1, nle0, nleA, nleL, Try.results12]

def top_sweepAlive : Option (Bool) :=
  (sweep_Order (ApiMap.mk [(ApiNode.mk (1 : Int) (1000 : Int)), (ApiNode.mk (2 : Int) (1500 : Int)), (ApiNode.mk (3 : Int) (2000 : Int))] [] [(ApiRun.mk (1 : Int) (1 : Int) (2 : Int) (1 : Int) (1 : Int) (1 : Int) (100 : Int)), (ApiRun.mk (2 : Int) (1 : Int) (3 : Int) (2 : Int) (1 : Int) (1 : Int) (100 : Int))] [(1 : Int)]) (ApiSweep.mk [(1 : Int), (2 : Int)] [] (0 : Int))).bind fun y1 => (sweep_All (ApiMap.mk [(ApiNode.mk (1 : Int) (1000 : Int)), (ApiNode.mk (2 : Int) (1500 : Int)), (ApiNode.mk (3 : Int) (2000 : Int))] [] [(ApiRun.mk (1 : Int) (1 : Int) (2 : Int) (1 : Int) (1 : Int) (1 : Int) (100 : Int)), (ApiRun.mk (2 : Int) (1 : Int) (3 : Int) (2 : Int) (1 : Int) (1 : Int) (100 : Int))] [(1 : Int)]) (ApiSweep.mk [(1 : Int), (2 : Int)] [] (0 : Int)) [(3 : Int), (4 : Int)]).bind fun y2 => (bif (decide (((y1.length : Nat) : Int) = (2 : Int))) then (idxL y1 (0 : Int)).bind fun x_3 => (bif (decide (x_3 = (2 : Int))) then (bif (decide (y2.2.2 = (0 : Int))) then (bif (decide (y2.1 = (7 : Int))) then some (decide (y2.2.1 = (0 : Int))) else some false) else some false) else some false) else some false)

theorem top_sweepAlive_spec {r : Bool} (h : top_sweepAlive = some r) : PureFn Try.prog 4 [] (· = .bool r) := by
  refine PureFn.nle (PureFn.intro Try.func4 rfl rfl (by show _ ≤ 50; simp) ?_)
  unfold top_sweepAlive at h
  (try simp +decide -implicitDefEqProofs only [go_sem])
  refine AWP.seq ?_
  refine AWP.region rfl ?_; intro K hK
  (try simp +decide -implicitDefEqProofs only [go_sem])
  refine hK _ _ ?_; clear hK K
  refine qthen_normal ?_
  refine AWP.seq ?_
  refine AWP.region rfl ?_; intro K hK
  (try simp +decide -implicitDefEqProofs only [go_sem])
  refine hK _ _ ?_; clear hK K
  refine qthen_normal ?_
  refine AWP.seq ?_
  refine AWP.region rfl ?_; intro K hK
  (try simp +decide -implicitDefEqProofs only [go_sem])
  refine hK _ _ ?_; clear hK K
  refine qthen_normal ?_
  refine AWP.seq ?_
  refine AWP.region rfl ?_; intro K hK
  (try simp +decide -implicitDefEqProofs only [go_sem])
  obtain ⟨y1, hy1, h⟩ := bindE h
  refine ACall.snapF Try.call14 (FreshFn.argN (args := [.agg [.sl 2 ([(ApiNode.mk (1 : Int) (1000 : Int)), (ApiNode.mk (2 : Int) (1500 : Int)), (ApiNode.mk (3 : Int) (2000 : Int))].map encApiNode), .nils, .sl 7 ([(ApiRun.mk (1 : Int) (1 : Int) (2 : Int) (1 : Int) (1 : Int) (1 : Int) (100 : Int)), (ApiRun.mk (2 : Int) (1 : Int) (3 : Int) (2 : Int) (1 : Int) (1 : Int) (100 : Int))].map encApiRun), .sl 1 ([(1 : Int)].map intC)], .agg [.sl 1 ([(1 : Int), (2 : Int)].map intC), .nils, .int .i64 (0 : Int)]]) (by simp +decide -implicitDefEqProofs only [go_sem, mpE_nil, AVal.int.injEq, Int.natCast_zero, List.replicate_zero, List.length_take, List.length_drop, AVal.own.injEq, reduceCtorEq, Int.reduceAdd, nle2, nle1, nle0, nleA, nleL]) (sweep_Order_fresh (ApiMap.mk [(ApiNode.mk (1 : Int) (1000 : Int)), (ApiNode.mk (2 : Int) (1500 : Int)), (ApiNode.mk (3 : Int) (2000 : Int))] [] [(ApiRun.mk (1 : Int) (1 : Int) (2 : Int) (1 : Int) (1 : Int) (1 : Int) (100 : Int)), (ApiRun.mk (2 : Int) (1 : Int) (3 : Int) (2 : Int) (1 : Int) (1 : Int) (100 : Int))] [(1 : Int)]) (ApiSweep.mk [(1 : Int), (2 : Int)] [] (0 : Int)) hy1)) (by simp +decide -implicitDefEqProofs only [go_sem]) fun _ hr => ?_
  subst hr
  (try simp +decide -implicitDefEqProofs only [go_sem])
  refine hK _ _ ?_; clear hK K
  refine qthen_normal ?_
  refine AWP.seq ?_
  refine AWP.region rfl ?_; intro K hK
  (try simp +decide -implicitDefEqProofs only [go_sem])
  obtain ⟨y2, hy2, h⟩ := bindE h
  refine ACall.snap Try.call12 (PureFn.argN (args := [.agg [.sl 2 ([(ApiNode.mk (1 : Int) (1000 : Int)), (ApiNode.mk (2 : Int) (1500 : Int)), (ApiNode.mk (3 : Int) (2000 : Int))].map encApiNode), .nils, .sl 7 ([(ApiRun.mk (1 : Int) (1 : Int) (2 : Int) (1 : Int) (1 : Int) (1 : Int) (100 : Int)), (ApiRun.mk (2 : Int) (1 : Int) (3 : Int) (2 : Int) (1 : Int) (1 : Int) (100 : Int))].map encApiRun), .sl 1 ([(1 : Int)].map intC)], .agg [.sl 1 ([(1 : Int), (2 : Int)].map intC), .nils, .int .i64 (0 : Int)], .sl 1 ([(3 : Int), (4 : Int)].map intC)]) (by simp +decide -implicitDefEqProofs only [go_sem, mpE_nil, AVal.int.injEq, Int.natCast_zero, List.replicate_zero, List.length_take, List.length_drop, AVal.own.injEq, reduceCtorEq, Int.reduceAdd, nle2, nle1, nle0, nleA, nleL]) (sweep_All_spec (ApiMap.mk [(ApiNode.mk (1 : Int) (1000 : Int)), (ApiNode.mk (2 : Int) (1500 : Int)), (ApiNode.mk (3 : Int) (2000 : Int))] [] [(ApiRun.mk (1 : Int) (1 : Int) (2 : Int) (1 : Int) (1 : Int) (1 : Int) (100 : Int)), (ApiRun.mk (2 : Int) (1 : Int) (3 : Int) (2 : Int) (1 : Int) (1 : Int) (100 : Int))] [(1 : Int)]) (ApiSweep.mk [(1 : Int), (2 : Int)] [] (0 : Int)) [(3 : Int), (4 : Int)] hy2)) (by simp +decide -implicitDefEqProofs only [go_sem]) (by rintro _ rfl; rfl) fun _ hr => ?_
  subst hr
  (try simp +decide -implicitDefEqProofs only [go_sem])
  refine hK _ _ ?_; clear hK K
  refine qthen_normal ?_
  refine AWP.seq ?_
  refine AWP.region rfl ?_; intro K hK
  (try simp +decide -implicitDefEqProofs only [go_sem])
  intro hm
  refine aguardK_split (fun hc => ?_) (fun hc => ?_)
  · replace h := bif_t h hc
    (try simp +decide -implicitDefEqProofs only [go_sem, hc])
    obtain ⟨x_3, hx_3, h⟩ := bindE h
    refine AIdx.of (f := intC) (l := y1) hx_3 ?_
    (try simp +decide -implicitDefEqProofs only [go_sem])
    refine aguardK_split (fun hc => ?_) (fun hc => ?_)
    · replace h := bif_t h hc
      (try simp +decide -implicitDefEqProofs only [go_sem, hc])
      refine aguardK_split (fun hc => ?_) (fun hc => ?_)
      · replace h := bif_t h hc
        (try simp +decide -implicitDefEqProofs only [go_sem, hc])
        refine aguardK_split (fun hc => ?_) (fun hc => ?_)
        · replace h := bif_t h hc
          (try simp +decide -implicitDefEqProofs only [go_sem, hc])
          refine hK _ _ ?_; clear hK K
          refine qthen_normal ?_
          refine AWP.ret ?_
          obtain rfl := some_eq h
          simp +decide -implicitDefEqProofs only [go_sem, mpE_nil, AVal.int.injEq, Int.natCast_zero, List.replicate_zero, List.length_take, List.length_drop, AVal.own.injEq, reduceCtorEq, Int.reduceAdd, nle2, nle1, nle0, nleA, nleL, Try.results4]
        · replace h := bif_f h hc
          (try simp +decide -implicitDefEqProofs only [go_sem, hc, Bool.not_true])
          refine hK _ _ ?_; clear hK K
          refine qthen_normal ?_
          refine AWP.ret ?_
          obtain rfl := some_eq h
          simp +decide -implicitDefEqProofs only [go_sem, mpE_nil, AVal.int.injEq, Int.natCast_zero, List.replicate_zero, List.length_take, List.length_drop, AVal.own.injEq, reduceCtorEq, Int.reduceAdd, nle2, nle1, nle0, nleA, nleL, Try.results4]
      · replace h := bif_f h hc
        (try simp +decide -implicitDefEqProofs only [go_sem, hc, Bool.not_true])
        refine hK _ _ ?_; clear hK K
        refine qthen_normal ?_
        refine AWP.ret ?_
        obtain rfl := some_eq h
        simp +decide -implicitDefEqProofs only [go_sem, mpE_nil, AVal.int.injEq, Int.natCast_zero, List.replicate_zero, List.length_take, List.length_drop, AVal.own.injEq, reduceCtorEq, Int.reduceAdd, nle2, nle1, nle0, nleA, nleL, Try.results4]
    · replace h := bif_f h hc
      (try simp +decide -implicitDefEqProofs only [go_sem, hc, Bool.not_true])
      refine hK _ _ ?_; clear hK K
      refine qthen_normal ?_
      refine AWP.ret ?_
      obtain rfl := some_eq h
      simp +decide -implicitDefEqProofs only [go_sem, mpE_nil, AVal.int.injEq, Int.natCast_zero, List.replicate_zero, List.length_take, List.length_drop, AVal.own.injEq, reduceCtorEq, Int.reduceAdd, nle2, nle1, nle0, nleA, nleL, Try.results4]
  · replace h := bif_f h hc
    (try simp +decide -implicitDefEqProofs only [go_sem, hc, Bool.not_true])
    refine hK _ _ ?_; clear hK K
    refine qthen_normal ?_
    refine AWP.ret ?_
    obtain rfl := some_eq h
    simp +decide -implicitDefEqProofs only [go_sem, mpE_nil, AVal.int.injEq, Int.natCast_zero, List.replicate_zero, List.length_take, List.length_drop, AVal.own.injEq, reduceCtorEq, Int.reduceAdd, nle2, nle1, nle0, nleA, nleL, Try.results4]

def ref10_in (n_ : Int) (lo : Int) (hi : Int) : Option (Bool) :=
  (bif (decide (lo ≤ n_)) then some (decide (n_ ≤ hi)) else some false)

theorem ref10_in_spec (n_ : Int) (lo : Int) (hi : Int) {r : Bool} (h : ref10_in n_ lo hi = some r) : PureFn Try.prog 36 [.int .i64 n_, .int .i64 lo, .int .i64 hi] (· = .bool r) := by
  refine PureFn.nle (PureFn.intro Try.func36 rfl rfl (by show _ ≤ 15; simp) ?_)
  unfold ref10_in at h
  (try simp +decide -implicitDefEqProofs only [go_sem])
  refine AWP.seq ?_
  refine AWP.region rfl ?_; intro K hK
  (try simp +decide -implicitDefEqProofs only [go_sem])
  refine hK _ _ ?_; clear hK K
  refine qthen_normal ?_
  refine AWP.seq ?_
  refine AWP.region rfl ?_; intro K hK
  (try simp +decide -implicitDefEqProofs only [go_sem])
  refine aguardK_split (fun hc => ?_) (fun hc => ?_)
  · replace h := bif_t h hc
    (try simp +decide -implicitDefEqProofs only [go_sem, hc])
    refine hK _ _ ?_; clear hK K
    refine qthen_normal ?_
    refine AWP.ret ?_
    obtain rfl := some_eq h
    simp +decide -implicitDefEqProofs only [go_sem, mpE_nil, AVal.int.injEq, Int.natCast_zero, List.replicate_zero, List.length_take, List.length_drop, AVal.own.injEq, reduceCtorEq, Int.reduceAdd, nle2, nle1, nle0, nleA, nleL, Try.results36]
  · replace h := bif_f h hc
    (try simp +decide -implicitDefEqProofs only [go_sem, hc, Bool.not_true])
    refine hK _ _ ?_; clear hK K
    refine qthen_normal ?_
    refine AWP.ret ?_
    obtain rfl := some_eq h
    simp +decide -implicitDefEqProofs only [go_sem, mpE_nil, AVal.int.injEq, Int.natCast_zero, List.replicate_zero, List.length_take, List.length_drop, AVal.own.injEq, reduceCtorEq, Int.reduceAdd, nle2, nle1, nle0, nleA, nleL, Try.results36]

def ref10_nodes_b1 (l : List ApiNode) (k0 : Nat) (x_2 : ApiNode) (sv : Unit) : Option (Out (Unit) (Int)) :=
  (ref10_in x_2.ID (1 : Int) (9999 : Int)).bind fun y3 => (bif (!y3) then some (Out.ret (2 : Int)) else (ref10_in x_2.Alt (0 : Int) (5000 : Int)).bind fun y4 => (bif (!y4) then some (Out.ret (2 : Int)) else (bif (decide ((0 : Int) < ((k0 : Nat) : Int))) then (idxL l (IntKind.i64.wrap (((k0 : Nat) : Int) - (1 : Int)))).bind fun x_5 => (bif (decide (x_2.ID ≤ x_5.ID)) then some (Out.ret (7 : Int)) else some (Out.next ())) else some (Out.next ()))))

def ref10_nodes (l : List ApiNode) : Option (Int) :=
  (forIx (ref10_nodes_b1 l) 0 l ()).bind fun o0 => o0.on fun s0 => some (0 : Int)

theorem ref10_nodes_spec (l : List ApiNode) {r : Int} (h : ref10_nodes l = some r) : PureFn Try.prog 15 [.sl 2 (l.map encApiNode)] (· = .int .i64 r) := by
  refine PureFn.nle (PureFn.intro Try.func15 rfl rfl (by show _ ≤ 42; simp) ?_)
  unfold ref10_nodes at h
  (try simp +decide -implicitDefEqProofs only [go_sem])
  refine AWP.seq ?_
  refine AWP.region rfl ?_; intro K hK
  (try simp +decide -implicitDefEqProofs only [go_sem])
  refine hK _ _ ?_; clear hK K
  refine qthen_normal ?_
  refine AWP.seq ?_
  refine AWP.seq ?_
  refine AWP.region rfl ?_; intro K hK
  (try simp +decide -implicitDefEqProofs only [go_sem])
  refine hK _ _ ?_; clear hK K
  refine qthen_normal ?_
  refine AWP.block ?_
  obtain ⟨o0, hJ0, hO0⟩ := bindE h
  clear h
  refine AWP.loopW (ι := Nat × (Unit) × (Unit)) (fun zz => [(0, .sl 2 (l.map encApiNode)), (3, .int .i64 ((zz.1 : Nat) : Int))]) (fun zz => []) (fun zz => zz.1 ≤ l.length ∧ forIx (ref10_nodes_b1 l) zz.1 ((l).drop zz.1) zz.2.1 = some o0) (fun zz => l.length - zz.1) (0, (), ()) ⟨Nat.zero_le _, hJ0⟩ (by (simp +decide -implicitDefEqProofs only [go_sem, mpE_nil, AVal.int.injEq, Int.natCast_zero, List.replicate_zero, List.length_take, List.length_drop, AVal.own.injEq, reduceCtorEq, Int.reduceAdd] <;> omega)) (by (simp +decide -implicitDefEqProofs only [go_sem, mpE_nil, AVal.int.injEq, Int.natCast_zero, List.replicate_zero, List.length_take, List.length_drop, AVal.own.injEq, reduceCtorEq, Int.reduceAdd] <;> omega)) (fun x => ⟨rfl, rfl, rfl⟩) ?_
  clear hJ0
  rintro ⟨k0, ⟨⟩, ⟨⟩⟩ ⟨hk0, hJ0⟩
  dsimp only at hk0 hJ0 ⊢
  refine AWP.seq ?_
  refine AWP.seq ?_
  refine AWP.region rfl ?_; intro K hK
  (try simp +decide -implicitDefEqProofs only [go_sem])
  intro hm
  refine hK _ _ ?_; clear hK K
  refine qthen_normal ?_
  refine AWP.cond (acond_split (fun hc => ?_) (fun hc => ?_))
  · have hlt0 : k0 < l.length := by have := of_decide_eq_true hc; omega
    obtain ⟨x_2, b0, hx0_, h, hJ0⟩ := for_cons hJ0 hlt0
    have hx0 := idxL_nat hx0_
    have hw0 : IntKind.i64.wrap (((k0 : Nat) : Int) + 1) = (((k0 : Nat) : Int) + (1 : Int)) := by rw [wrap_i64] <;> omega
    unfold ref10_nodes_b1 at h; try dsimp only at h
    refine AWP.skip ?_
    refine qthen_normal ?_
    refine AWP.seq ?_
    refine AWP.block ?_
    refine AWP.seq ?_
    refine AWP.seq ?_
    refine AWP.region rfl ?_; intro K hK
    (try simp +decide -implicitDefEqProofs only [go_sem])
    refine AIdx.of (f := encApiNode) (l := l) hx0 ?_
    (try simp +decide -implicitDefEqProofs only [go_sem])
    obtain ⟨y3, hy3, h⟩ := bindE h
    refine ACall.pure Try.call36 (ref10_in_spec x_2.ID (1 : Int) (9999 : Int) hy3) rfl fun _ hr => ?_
    subst hr
    (try simp +decide -implicitDefEqProofs only [go_sem])
    refine aguardK_split (fun hc => ?_) (fun hc => ?_)
    · replace h := bif_f h hc
      (try simp +decide -implicitDefEqProofs only [go_sem, hc])
      refine AIdx.of (f := encApiNode) (l := l) hx0 ?_
      (try simp +decide -implicitDefEqProofs only [go_sem])
      obtain ⟨y4, hy4, h⟩ := bindE h
      refine ACall.pure Try.call36 (ref10_in_spec x_2.Alt (0 : Int) (5000 : Int) hy4) rfl fun _ hr => ?_
      subst hr
      (try simp +decide -implicitDefEqProofs only [go_sem])
      refine hK _ _ ?_; clear hK K
      refine qthen_normal ?_
      refine AWP.cond (acond_split (fun hc => ?_) (fun hc => ?_))
      · replace h := bif_t h hc
        refine AWP.seq ?_
        refine AWP.region rfl ?_; intro K hK
        (try simp +decide -implicitDefEqProofs only [go_sem])
        refine hK _ _ ?_; clear hK K
        refine qthen_normal ?_
        refine AWP.ret ?_
        refine qthen_ret ?_
        refine qblock_ret ?_
        refine qthen_ret ?_
        refine qthen_ret ?_
        obtain rfl := some_eq h
        obtain rfl := cont_ret hJ0
        replace h := on_ret hO0
        refine qblock_ret ?_
        refine qthen_ret ?_
        obtain rfl := some_eq h
        simp +decide -implicitDefEqProofs only [go_sem, mpE_nil, AVal.int.injEq, Int.natCast_zero, List.replicate_zero, List.length_take, List.length_drop, AVal.own.injEq, reduceCtorEq, Int.reduceAdd, nle2, nle1, nle0, nleA, nleL, Try.results15]
      replace h := bif_f h hc
      refine AWP.skip ?_
      refine qthen_normal ?_
      refine AWP.seq ?_
      refine AWP.draw Try.mixed (by kernel_rfl) ?_; intro K hK
      (try simp +decide -implicitDefEqProofs only [go_sem])
      refine aguardK_split (fun hc => ?_) (fun hc => ?_)
      · replace h := bif_t h hc
        (try simp +decide -implicitDefEqProofs only [go_sem, hc])
        refine AIdx.of (f := encApiNode) (l := l) hx0 ?_
        (try simp +decide -implicitDefEqProofs only [go_sem])
        obtain ⟨x_5, hx_5, h⟩ := bindE h
        refine AIdx.of (f := encApiNode) (l := l) hx_5 ?_
        (try simp +decide -implicitDefEqProofs only [go_sem])
        refine hK _ _ _ (by kernel_rfl) ?_; clear hK K
        refine qthen_normal ?_
        refine AWP.cond (acond_split (fun hc => ?_) (fun hc => ?_))
        · replace h := bif_t h hc
          refine AWP.seq ?_
          refine AWP.region rfl ?_; intro K hK
          (try simp +decide -implicitDefEqProofs only [go_sem])
          refine hK _ _ ?_; clear hK K
          refine qthen_normal ?_
          refine AWP.ret ?_
          refine qblock_ret ?_
          refine qthen_ret ?_
          refine qthen_ret ?_
          obtain rfl := some_eq h
          obtain rfl := cont_ret hJ0
          replace h := on_ret hO0
          refine qblock_ret ?_
          refine qthen_ret ?_
          obtain rfl := some_eq h
          simp +decide -implicitDefEqProofs only [go_sem, mpE_nil, AVal.int.injEq, Int.natCast_zero, List.replicate_zero, List.length_take, List.length_drop, AVal.own.injEq, reduceCtorEq, Int.reduceAdd, nle2, nle1, nle0, nleA, nleL, Try.results15]
        replace h := bif_f h hc
        refine AWP.skip ?_
        refine qblock_normal ?_
        refine qthen_normal ?_
        refine AWP.region rfl ?_; intro K hK
        (try simp +decide -implicitDefEqProofs only [go_sem])
        refine hK _ _ ?_; clear hK K
        refine qthen_normal ?_
        obtain rfl := some_eq h
        refine ⟨(k0 + 1, (), ()), ⟨by dsimp only; omega, cont_next hJ0⟩, by dsimp only; omega, ?_, ?_⟩
        · (simp +decide -implicitDefEqProofs only [go_sem, mpE_nil, AVal.int.injEq, Int.natCast_zero, List.replicate_zero, List.length_take, List.length_drop, AVal.own.injEq, reduceCtorEq, Int.reduceAdd, hw0] <;> omega)
        · (simp +decide -implicitDefEqProofs only [go_sem, mpE_nil, AVal.int.injEq, Int.natCast_zero, List.replicate_zero, List.length_take, List.length_drop, AVal.own.injEq, reduceCtorEq, Int.reduceAdd, hw0] <;> omega)
      · replace h := bif_f h hc
        (try simp +decide -implicitDefEqProofs only [go_sem, hc, Bool.not_true])
        refine hK _ _ _ (by kernel_rfl) ?_; clear hK K
        refine qthen_normal ?_
        refine AWP.cond (acond_false ?_)
        refine AWP.skip ?_
        refine qblock_normal ?_
        refine qthen_normal ?_
        refine AWP.region rfl ?_; intro K hK
        (try simp +decide -implicitDefEqProofs only [go_sem])
        refine hK _ _ ?_; clear hK K
        refine qthen_normal ?_
        obtain rfl := some_eq h
        refine ⟨(k0 + 1, (), ()), ⟨by dsimp only; omega, cont_next hJ0⟩, by dsimp only; omega, ?_, ?_⟩
        · (simp +decide -implicitDefEqProofs only [go_sem, mpE_nil, AVal.int.injEq, Int.natCast_zero, List.replicate_zero, List.length_take, List.length_drop, AVal.own.injEq, reduceCtorEq, Int.reduceAdd, hw0] <;> omega)
        · (simp +decide -implicitDefEqProofs only [go_sem, mpE_nil, AVal.int.injEq, Int.natCast_zero, List.replicate_zero, List.length_take, List.length_drop, AVal.own.injEq, reduceCtorEq, Int.reduceAdd, hw0] <;> omega)
    · replace h := bif_t h hc
      (try simp +decide -implicitDefEqProofs only [go_sem, hc, Bool.not_false])
      refine hK _ _ ?_; clear hK K
      refine qthen_normal ?_
      refine AWP.cond (acond_true ?_)
      refine AWP.seq ?_
      refine AWP.region rfl ?_; intro K hK
      (try simp +decide -implicitDefEqProofs only [go_sem])
      refine hK _ _ ?_; clear hK K
      refine qthen_normal ?_
      refine AWP.ret ?_
      refine qthen_ret ?_
      refine qblock_ret ?_
      refine qthen_ret ?_
      refine qthen_ret ?_
      obtain rfl := some_eq h
      obtain rfl := cont_ret hJ0
      replace h := on_ret hO0
      refine qblock_ret ?_
      refine qthen_ret ?_
      obtain rfl := some_eq h
      simp +decide -implicitDefEqProofs only [go_sem, mpE_nil, AVal.int.injEq, Int.natCast_zero, List.replicate_zero, List.length_take, List.length_drop, AVal.own.injEq, reduceCtorEq, Int.reduceAdd, nle2, nle1, nle0, nleA, nleL, Try.results15]
  · obtain rfl := for_nil hJ0 (fun hl => by have := of_decide_eq_false hc; omega)
    have h := on_next hO0; try dsimp only at h
    have hkl : l.length = k0 := by have := of_decide_eq_false hc; omega
    subst hkl
    refine AWP.exit ?_
    refine qthen_exit ?_
    refine qthen_exit ?_
    refine qblock_same ?_
    refine qthen_normal ?_
    refine AWP.seq ?_
    refine AWP.region rfl ?_; intro K hK
    (try simp +decide -implicitDefEqProofs only [go_sem])
    refine hK _ _ ?_; clear hK K
    refine qthen_normal ?_
    refine AWP.ret ?_
    obtain rfl := some_eq h
    simp +decide -implicitDefEqProofs only [go_sem, mpE_nil, AVal.int.injEq, Int.natCast_zero, List.replicate_zero, List.length_take, List.length_drop, AVal.own.injEq, reduceCtorEq, Int.reduceAdd, nle2, nle1, nle0, nleA, nleL, Try.results15]

def ref10_Node_b1 (id_ : Int) (k0 : Nat) (x_2 : ApiNode) (sv : Unit) : Option (Out (Unit) (ApiNode × Bool)) :=
  (bif (decide (x_2.ID = id_)) then some (Out.ret (x_2, true)) else some (Out.next ()))

def ref10_Node (m : ApiMap) (id_ : Int) : Option (ApiNode × Bool) :=
  (forIx (ref10_Node_b1 id_) 0 m.Nodes ()).bind fun o0 => o0.on fun s0 => some ((ApiNode.mk (0 : Int) (0 : Int)), false)

theorem ref10_Node_spec (m : ApiMap) (id_ : Int) {r : ApiNode × Bool} (h : ref10_Node m id_ = some r) : PureFn Try.prog 39 [.agg (encApiMap m), .int .i64 id_] (· = .tuple [.agg (encApiNode r.1), .bool r.2]) := by
  refine PureFn.nle (PureFn.intro Try.func39 rfl rfl (by show _ ≤ 28; simp) ?_)
  unfold ref10_Node at h
  (try simp +decide -implicitDefEqProofs only [go_sem])
  refine AWP.seq ?_
  refine AWP.region rfl ?_; intro K hK
  (try simp +decide -implicitDefEqProofs only [go_sem])
  refine hK _ _ ?_; clear hK K
  refine qthen_normal ?_
  refine AWP.seq ?_
  refine AWP.seq ?_
  refine AWP.region rfl ?_; intro K hK
  (try simp +decide -implicitDefEqProofs only [go_sem])
  refine hK _ _ ?_; clear hK K
  refine qthen_normal ?_
  refine AWP.block ?_
  obtain ⟨o0, hJ0, hO0⟩ := bindE h
  clear h
  refine AWP.loopW (ι := Nat × (Unit) × (Unit)) (fun zz => [(1, .int .i64 id_), (2, .ptr 0 0), (4, .ptr 1 0), (6, .int .i64 ((zz.1 : Nat) : Int))]) (fun zz => [.box [.sl 2 (m.Nodes.map encApiNode), .sl 8 (m.Lifts.map encApiLift), .sl 7 (m.Runs.map encApiRun), .sl 1 (m.Bases.map intC)], .box [.int .i64 (0 : Int), .int .i64 (0 : Int)]]) (fun zz => zz.1 ≤ m.Nodes.length ∧ forIx (ref10_Node_b1 id_) zz.1 ((m.Nodes).drop zz.1) zz.2.1 = some o0) (fun zz => m.Nodes.length - zz.1) (0, (), ()) ⟨Nat.zero_le _, hJ0⟩ (by (simp +decide -implicitDefEqProofs only [go_sem, mpE_nil, AVal.int.injEq, Int.natCast_zero, List.replicate_zero, List.length_take, List.length_drop, AVal.own.injEq, reduceCtorEq, Int.reduceAdd] <;> omega)) (by (simp +decide -implicitDefEqProofs only [go_sem, mpE_nil, AVal.int.injEq, Int.natCast_zero, List.replicate_zero, List.length_take, List.length_drop, AVal.own.injEq, reduceCtorEq, Int.reduceAdd] <;> omega)) (fun x => ⟨rfl, rfl, rfl⟩) ?_
  clear hJ0
  rintro ⟨k0, ⟨⟩, ⟨⟩⟩ ⟨hk0, hJ0⟩
  dsimp only at hk0 hJ0 ⊢
  refine AWP.seq ?_
  refine AWP.seq ?_
  refine AWP.region rfl ?_; intro K hK
  (try simp +decide -implicitDefEqProofs only [go_sem])
  intro hm
  refine hK _ _ ?_; clear hK K
  refine qthen_normal ?_
  refine AWP.cond (acond_split (fun hc => ?_) (fun hc => ?_))
  · have hlt0 : k0 < m.Nodes.length := by have := of_decide_eq_true hc; omega
    obtain ⟨x_2, b0, hx0_, h, hJ0⟩ := for_cons hJ0 hlt0
    have hx0 := idxL_nat hx0_
    have hw0 : IntKind.i64.wrap (((k0 : Nat) : Int) + 1) = (((k0 : Nat) : Int) + (1 : Int)) := by rw [wrap_i64] <;> omega
    unfold ref10_Node_b1 at h; try dsimp only at h
    refine AWP.skip ?_
    refine qthen_normal ?_
    refine AWP.seq ?_
    refine AWP.block ?_
    refine AWP.seq ?_
    refine AWP.region rfl ?_; intro K hK
    (try simp +decide -implicitDefEqProofs only [go_sem])
    refine AIdx.of (f := encApiNode) (l := m.Nodes) hx0 ?_
    (try simp +decide -implicitDefEqProofs only [go_sem])
    refine hK _ _ ?_; clear hK K
    refine qthen_normal ?_
    refine AWP.cond (acond_split (fun hc => ?_) (fun hc => ?_))
    · replace h := bif_t h hc
      refine AWP.seq ?_
      refine AWP.region rfl ?_; intro K hK
      (try simp +decide -implicitDefEqProofs only [go_sem])
      refine AIdx.of (f := encApiNode) (l := m.Nodes) hx0 ?_
      (try simp +decide -implicitDefEqProofs only [go_sem])
      refine hK _ _ ?_; clear hK K
      refine qthen_normal ?_
      refine AWP.ret ?_
      refine qblock_ret ?_
      refine qthen_ret ?_
      refine qthen_ret ?_
      obtain rfl := some_eq h
      obtain rfl := cont_ret hJ0
      replace h := on_ret hO0
      refine qblock_ret ?_
      refine qthen_ret ?_
      obtain rfl := some_eq h
      simp +decide -implicitDefEqProofs only [go_sem, mpE_nil, AVal.int.injEq, Int.natCast_zero, List.replicate_zero, List.length_take, List.length_drop, AVal.own.injEq, reduceCtorEq, Int.reduceAdd, nle2, nle1, nle0, nleA, nleL, Try.results39]
    replace h := bif_f h hc
    refine AWP.skip ?_
    refine qblock_normal ?_
    refine qthen_normal ?_
    refine AWP.region rfl ?_; intro K hK
    (try simp +decide -implicitDefEqProofs only [go_sem])
    refine hK _ _ ?_; clear hK K
    refine qthen_normal ?_
    obtain rfl := some_eq h
    refine ⟨(k0 + 1, (), ()), ⟨by dsimp only; omega, cont_next hJ0⟩, by dsimp only; omega, ?_, ?_⟩
    · (simp +decide -implicitDefEqProofs only [go_sem, mpE_nil, AVal.int.injEq, Int.natCast_zero, List.replicate_zero, List.length_take, List.length_drop, AVal.own.injEq, reduceCtorEq, Int.reduceAdd, hw0] <;> omega)
    · (simp +decide -implicitDefEqProofs only [go_sem, mpE_nil, AVal.int.injEq, Int.natCast_zero, List.replicate_zero, List.length_take, List.length_drop, AVal.own.injEq, reduceCtorEq, Int.reduceAdd, hw0] <;> omega)
  · obtain rfl := for_nil hJ0 (fun hl => by have := of_decide_eq_false hc; omega)
    have h := on_next hO0; try dsimp only at h
    have hkl : m.Nodes.length = k0 := by have := of_decide_eq_false hc; omega
    subst hkl
    refine AWP.exit ?_
    refine qthen_exit ?_
    refine qthen_exit ?_
    refine qblock_same ?_
    refine qthen_normal ?_
    refine AWP.seq ?_
    refine AWP.region rfl ?_; intro K hK
    (try simp +decide -implicitDefEqProofs only [go_sem])
    refine hK _ _ ?_; clear hK K
    refine qthen_normal ?_
    refine AWP.ret ?_
    obtain rfl := some_eq h
    simp +decide -implicitDefEqProofs only [go_sem, mpE_nil, AVal.int.injEq, Int.natCast_zero, List.replicate_zero, List.length_take, List.length_drop, AVal.own.injEq, reduceCtorEq, Int.reduceAdd, nle2, nle1, nle0, nleA, nleL, Try.results39]

def ref10_rises (m : ApiMap) (from_ : Int) (to_ : Int) : Option (Int) :=
  (ref10_Node m from_).bind fun y1 => (ref10_Node m to_).bind fun y2 => (bif (!y1.2) then some (8 : Int) else (bif (!y2.2) then some (8 : Int) else (bif (decide (y2.1.Alt ≤ y1.1.Alt)) then some (11 : Int) else some (0 : Int))))

theorem ref10_rises_spec (m : ApiMap) (from_ : Int) (to_ : Int) {r : Int} (h : ref10_rises m from_ to_ = some r) : PureFn Try.prog 37 [.agg (encApiMap m), .int .i64 from_, .int .i64 to_] (· = .int .i64 r) := by
  refine PureFn.nle (PureFn.intro Try.func37 rfl rfl (by show _ ≤ 34; simp) ?_)
  unfold ref10_rises at h
  (try simp +decide -implicitDefEqProofs only [go_sem])
  refine AWP.seq ?_
  refine AWP.region rfl ?_; intro K hK
  (try simp +decide -implicitDefEqProofs only [go_sem])
  refine hK _ _ ?_; clear hK K
  refine qthen_normal ?_
  refine AWP.seq ?_
  refine AWP.region rfl ?_; intro K hK
  (try simp +decide -implicitDefEqProofs only [go_sem])
  obtain ⟨y1, hy1, h⟩ := bindE h
  refine ACall.pure Try.call39 (ref10_Node_spec m from_ hy1) rfl fun _ hr => ?_
  subst hr
  (try simp +decide -implicitDefEqProofs only [go_sem])
  refine hK _ _ ?_; clear hK K
  refine qthen_normal ?_
  refine AWP.seq ?_
  refine AWP.region rfl ?_; intro K hK
  (try simp +decide -implicitDefEqProofs only [go_sem])
  obtain ⟨y2, hy2, h⟩ := bindE h
  refine ACall.pure Try.call39 (ref10_Node_spec m to_ hy2) rfl fun _ hr => ?_
  subst hr
  (try simp +decide -implicitDefEqProofs only [go_sem])
  refine hK _ _ ?_; clear hK K
  refine qthen_normal ?_
  refine AWP.seq ?_
  refine AWP.seq ?_
  refine AWP.region rfl ?_; intro K hK
  (try simp +decide -implicitDefEqProofs only [go_sem])
  refine aguardK_split (fun hc => ?_) (fun hc => ?_)
  · replace h := bif_f h hc
    (try simp +decide -implicitDefEqProofs only [go_sem, hc])
    refine hK _ _ ?_; clear hK K
    refine qthen_normal ?_
    refine AWP.cond (acond_split (fun hc => ?_) (fun hc => ?_))
    · replace h := bif_t h hc
      refine AWP.seq ?_
      refine AWP.region rfl ?_; intro K hK
      (try simp +decide -implicitDefEqProofs only [go_sem])
      refine hK _ _ ?_; clear hK K
      refine qthen_normal ?_
      refine AWP.ret ?_
      refine qthen_ret ?_
      obtain rfl := some_eq h
      simp +decide -implicitDefEqProofs only [go_sem, mpE_nil, AVal.int.injEq, Int.natCast_zero, List.replicate_zero, List.length_take, List.length_drop, AVal.own.injEq, reduceCtorEq, Int.reduceAdd, nle2, nle1, nle0, nleA, nleL, Try.results37]
    replace h := bif_f h hc
    refine AWP.skip ?_
    refine qthen_normal ?_
    refine AWP.seq ?_
    refine AWP.seq ?_
    refine AWP.region rfl ?_; intro K hK
    (try simp +decide -implicitDefEqProofs only [go_sem])
    refine hK _ _ ?_; clear hK K
    refine qthen_normal ?_
    refine AWP.cond (acond_split (fun hc => ?_) (fun hc => ?_))
    · replace h := bif_t h hc
      refine AWP.seq ?_
      refine AWP.region rfl ?_; intro K hK
      (try simp +decide -implicitDefEqProofs only [go_sem])
      refine hK _ _ ?_; clear hK K
      refine qthen_normal ?_
      refine AWP.ret ?_
      refine qthen_ret ?_
      obtain rfl := some_eq h
      simp +decide -implicitDefEqProofs only [go_sem, mpE_nil, AVal.int.injEq, Int.natCast_zero, List.replicate_zero, List.length_take, List.length_drop, AVal.own.injEq, reduceCtorEq, Int.reduceAdd, nle2, nle1, nle0, nleA, nleL, Try.results37]
    replace h := bif_f h hc
    refine AWP.skip ?_
    refine qthen_normal ?_
    refine AWP.seq ?_
    refine AWP.region rfl ?_; intro K hK
    (try simp +decide -implicitDefEqProofs only [go_sem])
    refine hK _ _ ?_; clear hK K
    refine qthen_normal ?_
    refine AWP.ret ?_
    obtain rfl := some_eq h
    simp +decide -implicitDefEqProofs only [go_sem, mpE_nil, AVal.int.injEq, Int.natCast_zero, List.replicate_zero, List.length_take, List.length_drop, AVal.own.injEq, reduceCtorEq, Int.reduceAdd, nle2, nle1, nle0, nleA, nleL, Try.results37]
  · replace h := bif_t h hc
    (try simp +decide -implicitDefEqProofs only [go_sem, hc, Bool.not_false])
    refine hK _ _ ?_; clear hK K
    refine qthen_normal ?_
    refine AWP.cond (acond_true ?_)
    refine AWP.seq ?_
    refine AWP.region rfl ?_; intro K hK
    (try simp +decide -implicitDefEqProofs only [go_sem])
    refine hK _ _ ?_; clear hK K
    refine qthen_normal ?_
    refine AWP.ret ?_
    refine qthen_ret ?_
    obtain rfl := some_eq h
    simp +decide -implicitDefEqProofs only [go_sem, mpE_nil, AVal.int.injEq, Int.natCast_zero, List.replicate_zero, List.length_take, List.length_drop, AVal.own.injEq, reduceCtorEq, Int.reduceAdd, nle2, nle1, nle0, nleA, nleL, Try.results37]

end
end Go.Proofs.Ytooopbnnhbacjaa
