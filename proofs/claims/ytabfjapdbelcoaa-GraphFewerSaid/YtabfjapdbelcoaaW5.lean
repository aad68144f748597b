/-
  What functions of the program compute, as plain Lean functions, and the walks that prove it; printed by a small program of our own (wip/walk.py).
-/
import Derived.Test.YtabfjapdbelcoaaW4
namespace Go.Proofs.Ytabfjapdbelcoaa
open Go Go.Ab
attribute [local irreducible] AWP ACall DCall PureFn Go.Ab.Sub alist dlist AIdx AElem ALook ANext
set_option maxRecDepth 100000
set_option maxHeartbeats 4000000
set_option linter.unusedSimpArgs false
set_option linter.unusedVariables false
noncomputable section
def ref05_Shortest_b2 (y1 : (List Skiref05Label)) (at_0_3 : Int) (at_1_4 : Int) (at_2_5 : Int) (at_3_6 : Bool) (out7 : List Int) (k9 : Nat) (x_11 : ApiEdge) (sv : Unit) : Option (Out (Unit) (Out (Int × Int × Int × Bool × (List Int)) ((List Int) × Int × Bool))) :=
  (ref05_find y1 x_11.To).bind fun y12 => (ref05_through x_11 y12).bind fun y13 => (bif ((decide (y13.node = at_0_3)) && ((decide (y13.cost = at_1_4)) && ((decide (y13.edges = at_2_5)) && (y13.ok == at_3_6)))) then chk (out7.length + 1) (some (Out.ret (Out.next (y12.node, y12.cost, y12.edges, y12.ok, (out7 ++ [x_11.ID]))))) else some (Out.next ()))

def ref05_Shortest_b1 (l : List ApiEdge) (y1 : (List Skiref05Label)) (y2 : Skiref05Label) (sv : Int × Int × Int × Bool × (List Int)) : Option (Out (Int × Int × Int × Bool × (List Int)) ((List Int) × Int × Bool)) :=
  (bif (decide ((0 : Int) < sv.2.2.1)) then (forIx (ref05_Shortest_b2 y1 sv.1 sv.2.1 sv.2.2.1 sv.2.2.2.1 sv.2.2.2.2) 0 l ()).bind fun o9 => o9.on fun s9 => some (Out.next (sv.1, sv.2.1, sv.2.2.1, sv.2.2.2.1, sv.2.2.2.2)) else some (Out.ret (sv.2.2.2.2, (y2.cost, true))))

def ref05_Shortest (l : List ApiEdge) (from_ : Int) (to_ : Int) : Option ((List Int) × Int × Bool) :=
  (ref05_labels l to_).bind fun y1 => (ref05_find y1 from_).bind fun y2 => (bif (!y2.ok) then some ([], ((0 : Int), false)) else (whileN (ref05_Shortest_b1 l y1 y2) fuel (y2.node, y2.cost, y2.edges, y2.ok, [])).bind fun o8 => o8.on fun _ => none)

theorem ref05_Shortest_fresh (l : List ApiEdge) (from_ : Int) (to_ : Int) {r : (List Int) × Int × Bool} (h : ref05_Shortest l from_ to_ = some r) : FreshFn Try.prog 23 [.sl 4 (l.map encApiEdge), .int .i64 from_, .int .i64 to_] (· = .tuple [.sl 1 (r.1.map intC), .int .i64 r.2.1, .bool r.2.2]) := by
  refine FreshFn.nle (FreshFn.intro Try.func23 rfl rfl (by show _ ≤ 62; simp) ?_)
  unfold ref05_Shortest at h
  (try simp +decide -implicitDefEqProofs only [go_sem])
  refine AWP.seq ?_
  refine AWP.region rfl ?_; intro K hK
  (try simp +decide -implicitDefEqProofs only [go_sem])
  refine hK _ _ ?_; clear hK K
  refine qthen_normal ?_
  refine AWP.seq ?_
  refine AWP.region rfl ?_; intro K hK
  (try simp +decide -implicitDefEqProofs only [go_sem])
  obtain ⟨y1, hy1, h⟩ := bindE h
  refine ACall.pure Try.call44 (ref05_labels_spec l to_ hy1) rfl fun _ hr => ?_
  subst hr
  (try simp +decide -implicitDefEqProofs only [go_sem])
  refine hK _ _ ?_; clear hK K
  refine qthen_normal ?_
  refine AWP.seq ?_
  refine AWP.region rfl ?_; intro K hK
  (try simp +decide -implicitDefEqProofs only [go_sem])
  obtain ⟨y2, hy2, h⟩ := bindE h
  refine ACall.pure Try.call45 (ref05_find_spec y1 from_ hy2) rfl fun _ hr => ?_
  subst hr
  (try simp +decide -implicitDefEqProofs only [go_sem])
  refine hK _ _ ?_; clear hK K
  refine qthen_normal ?_
  refine AWP.seq ?_
  refine AWP.seq ?_
  refine AWP.region rfl ?_; intro K hK
  (try simp +decide -implicitDefEqProofs only [go_sem])
  refine hK _ _ ?_; clear hK K
  refine qthen_normal ?_
  refine AWP.cond (acond_split (fun hc => ?_) (fun hc => ?_))
  · replace h := bif_t h hc
    refine AWP.seq ?_
    refine AWP.region rfl ?_; intro K hK
    (try simp +decide -implicitDefEqProofs only [go_sem])
    refine hK _ _ ?_; clear hK K
    refine qthen_normal ?_
    refine AWP.ret ?_
    refine qthen_ret ?_
    obtain rfl := some_eq h
    simp +decide -implicitDefEqProofs only [go_sem, mpE_nil, Int.natCast_zero, List.replicate_zero, List.length_take, List.length_drop, AVal.own.injEq, reduceCtorEq, Int.reduceAdd, nle2, nle1, nle0, nleA, nleL, Try.results23]
  replace h := bif_f h hc
  refine AWP.skip ?_
  refine qthen_normal ?_
  refine AWP.seq ?_
  refine AWP.region rfl ?_; intro K hK
  (try simp +decide -implicitDefEqProofs only [go_sem])
  refine hK _ _ ?_; clear hK K
  refine qthen_normal ?_
  refine AWP.seq ?_
  refine AWP.seq ?_
  refine AWP.region rfl ?_; intro K hK
  (try simp +decide -implicitDefEqProofs only [go_sem])
  refine hK _ _ ?_; clear hK K
  refine qthen_normal ?_
  refine AWP.block ?_
  refine AWP.ghost 11 1 rfl (by decide) ?_
  obtain ⟨o8, hJ8, hO8⟩ := bindE h
  clear h
  refine AWP.loopS (ι := Nat × (Int × Int × Int × Bool × (List Int)) × (Nat)) (fun zz => [(0, .sl 4 (l.map encApiEdge)), (9, .sl 4 (y1.map encSkiref05Label)), (10, .ptr 0 0), (11, .own 2 zz.2.2 0 zz.2.1.2.2.2.2.length), (12, .ptr 1 0)]) (fun zz => [.box [.int .i64 y2.node, .int .i64 y2.cost, .int .i64 y2.edges, .bool y2.ok], .box [.int .i64 zz.2.1.1, .int .i64 zz.2.1.2.1, .int .i64 zz.2.1.2.2.1, .bool zz.2.1.2.2.2.1], .row zz.2.2 1 (zz.2.1.2.2.2.2.map intC)]) (fun zz => whileN (ref05_Shortest_b1 l y1 y2) zz.1 zz.2.1 = some o8) (fun zz => zz.1) (fuel, (y2.node, y2.cost, y2.edges, y2.ok, []), 0) hJ8 (by (simp +decide -implicitDefEqProofs only [go_sem, mpE_nil, Int.natCast_zero, List.replicate_zero, List.length_take, List.length_drop, AVal.own.injEq, reduceCtorEq, Int.reduceAdd] <;> omega)) (by (simp +decide -implicitDefEqProofs only [go_sem, mpE_nil, Int.natCast_zero, List.replicate_zero, List.length_take, List.length_drop, AVal.own.injEq, reduceCtorEq, Int.reduceAdd] <;> omega)) (fun x => ⟨rfl, rfl, rfl⟩) ?_
  clear hJ8
  rintro ⟨n8, ⟨at_0_3, at_1_4, at_2_5, at_3_6, out7⟩, ver8⟩ hJ8
  dsimp only at hJ8 ⊢
  obtain ⟨m8, b8, rfl, h, hJ8⟩ := while_step hJ8
  unfold ref05_Shortest_b1 at h; try dsimp only at h
  refine AWP.seq ?_
  refine AWP.seq ?_
  refine AWP.region rfl ?_; intro K hK
  (try simp +decide -implicitDefEqProofs only [go_sem])
  refine hK _ _ ?_; clear hK K
  refine qthen_normal ?_
  refine AWP.cond (acond_split (fun hc => ?_) (fun hc => ?_))
  · replace h := bif_t h hc
    refine AWP.skip ?_
    refine qthen_normal ?_
    refine AWP.seq ?_
    refine AWP.block ?_
    refine AWP.seq ?_
    refine AWP.region rfl ?_; intro K hK
    (try simp +decide -implicitDefEqProofs only [go_sem])
    refine hK _ _ ?_; clear hK K
    refine qthen_normal ?_
    refine AWP.block ?_
    obtain ⟨o9, hJ9, hO9⟩ := bindE h
    clear h
    refine AWP.loopW (ι := Nat × (Unit) × (Unit)) (fun zz => [(0, .sl 4 (l.map encApiEdge)), (9, .sl 4 (y1.map encSkiref05Label)), (10, .ptr 0 0), (11, .own 2 ver8 0 out7.length), (12, .ptr 1 0), (13, .int .i64 ((zz.1 : Nat) : Int))]) (fun zz => [.box [.int .i64 y2.node, .int .i64 y2.cost, .int .i64 y2.edges, .bool y2.ok], .box [.int .i64 at_0_3, .int .i64 at_1_4, .int .i64 at_2_5, .bool at_3_6], .row ver8 1 (out7.map intC)]) (fun zz => zz.1 ≤ l.length ∧ forIx (ref05_Shortest_b2 y1 at_0_3 at_1_4 at_2_5 at_3_6 out7) zz.1 ((l).drop zz.1) zz.2.1 = some o9) (fun zz => l.length - zz.1) (0, (), ()) ⟨Nat.zero_le _, hJ9⟩ (by (simp +decide -implicitDefEqProofs only [go_sem, mpE_nil, Int.natCast_zero, List.replicate_zero, List.length_take, List.length_drop, AVal.own.injEq, reduceCtorEq, Int.reduceAdd] <;> omega)) (by (simp +decide -implicitDefEqProofs only [go_sem, mpE_nil, Int.natCast_zero, List.replicate_zero, List.length_take, List.length_drop, AVal.own.injEq, reduceCtorEq, Int.reduceAdd] <;> omega)) (fun x => ⟨rfl, rfl, rfl⟩) ?_
    clear hJ9
    rintro ⟨k9, ⟨⟩, ⟨⟩⟩ ⟨hk9, hJ9⟩
    dsimp only at hk9 hJ9 ⊢
    refine AWP.seq ?_
    refine AWP.seq ?_
    refine AWP.region rfl ?_; intro K hK
    (try simp +decide -implicitDefEqProofs only [go_sem])
    intro hm
    refine hK _ _ ?_; clear hK K
    refine qthen_normal ?_
    refine AWP.cond (acond_split (fun hc => ?_) (fun hc => ?_))
    · have hlt9 : k9 < l.length := by have := of_decide_eq_true hc; omega
      obtain ⟨x_11, b9, hx9_, h, hJ9⟩ := for_cons hJ9 hlt9
      have hx9 := idxL_nat hx9_
      have hw9 : IntKind.i64.wrap (((k9 : Nat) : Int) + 1) = (((k9 : Nat) : Int) + (1 : Int)) := by rw [wrap_i64] <;> omega
      unfold ref05_Shortest_b2 at h; try dsimp only at h
      refine AWP.skip ?_
      refine qthen_normal ?_
      refine AWP.seq ?_
      refine AWP.block ?_
      refine AWP.seq ?_
      refine AWP.region rfl ?_; intro K hK
      (try simp +decide -implicitDefEqProofs only [go_sem])
      refine AIdx.of (f := encApiEdge) (l := l) hx9 ?_
      (try simp +decide -implicitDefEqProofs only [go_sem])
      obtain ⟨y12, hy12, h⟩ := bindE h
      refine ACall.pure Try.call45 (ref05_find_spec y1 x_11.To hy12) rfl fun _ hr => ?_
      subst hr
      (try simp +decide -implicitDefEqProofs only [go_sem])
      refine hK _ _ ?_; clear hK K
      refine qthen_normal ?_
      refine AWP.seq ?_
      refine AWP.draw Try.mixed (by kernel_rfl) ?_; intro K hK
      (try simp +decide -implicitDefEqProofs only [go_sem])
      refine AIdx.of (f := encApiEdge) (l := l) hx9 ?_
      (try simp +decide -implicitDefEqProofs only [go_sem])
      obtain ⟨y13, hy13, h⟩ := bindE h
      refine DCall.pure Try.call46 (ref05_through_spec x_11 y12 hy13) rfl ?_
      (try simp +decide -implicitDefEqProofs only [go_sem])
      refine hK _ _ _ (by kernel_rfl) ?_; clear hK K
      refine qthen_normal ?_
      refine AWP.cond (acond_split (fun hc => ?_) (fun hc => ?_))
      · replace h := bif_t h hc
        refine AWP.seq ?_
        refine AWP.region rfl ?_; intro K hK
        (try simp +decide -implicitDefEqProofs only [go_sem])
        refine AIdx.of (f := encApiEdge) (l := l) hx9 ?_
        (try simp +decide -implicitDefEqProofs only [go_sem])
        obtain ⟨hk, h⟩ := chk_in h
        (repeat (refine ⟨by first | omega | (simp only [List.length_take, List.length_drop, List.length_append]; omega), ?_⟩)); try simp +decide -implicitDefEqProofs only [go_sem]
        refine hK _ _ ?_; clear hK K
        refine qthen_normal ?_
        refine AWP.seq ?_
        refine AWP.region rfl ?_; intro K hK
        (try simp +decide -implicitDefEqProofs only [go_sem])
        refine hK _ _ ?_; clear hK K
        refine qthen_normal ?_
        refine AWP.exit ?_
        refine qblock_other (by decide) ?_
        refine qthen_exit ?_
        refine qthen_exit ?_
        obtain rfl := some_eq h
        obtain rfl := cont_ret hJ9
        replace h := on_ret hO9
        refine qblock_same ?_
        refine qblock_normal ?_
        refine qthen_normal ?_
        refine AWP.seq ?_
        refine AWP.region rfl ?_; intro K hK
        (try simp +decide -implicitDefEqProofs only [go_sem])
        refine hK _ _ ?_; clear hK K
        refine qthen_normal ?_
        refine AWP.region rfl ?_; intro K hK
        (try simp +decide -implicitDefEqProofs only [go_sem])
        refine hK _ _ ?_; clear hK K
        refine qthen_normal ?_
        obtain rfl := some_eq h
        refine ⟨(m8, (y12.node, y12.cost, y12.edges, y12.ok, (out7 ++ [x_11.ID])), (ver8 + 1)), cont_next hJ8, by dsimp only; omega, _, _, Sub.swap 6 1 rfl rfl rfl, ?_, ?_⟩
        · (simp +decide -implicitDefEqProofs only [go_sem, mpE_nil, Int.natCast_zero, List.replicate_zero, List.length_take, List.length_drop, AVal.own.injEq, reduceCtorEq, Int.reduceAdd] <;> omega)
        · (simp +decide -implicitDefEqProofs only [go_sem, mpE_nil, Int.natCast_zero, List.replicate_zero, List.length_take, List.length_drop, AVal.own.injEq, reduceCtorEq, Int.reduceAdd] <;> omega)
      replace h := bif_f h hc
      refine AWP.skip ?_
      refine qblock_normal ?_
      refine qthen_normal ?_
      refine AWP.region rfl ?_; intro K hK
      (try simp +decide -implicitDefEqProofs only [go_sem])
      refine hK _ _ ?_; clear hK K
      refine qthen_normal ?_
      obtain rfl := some_eq h
      refine ⟨(k9 + 1, (), ()), ⟨by dsimp only; omega, cont_next hJ9⟩, by dsimp only; omega, ?_, ?_⟩
      · (simp +decide -implicitDefEqProofs only [go_sem, mpE_nil, Int.natCast_zero, List.replicate_zero, List.length_take, List.length_drop, AVal.own.injEq, reduceCtorEq, Int.reduceAdd, hw9] <;> omega)
      · (simp +decide -implicitDefEqProofs only [go_sem, mpE_nil, Int.natCast_zero, List.replicate_zero, List.length_take, List.length_drop, AVal.own.injEq, reduceCtorEq, Int.reduceAdd, hw9] <;> omega)
    · obtain rfl := for_nil hJ9 (fun hl => by have := of_decide_eq_false hc; omega)
      have h := on_next hO9; try dsimp only at h
      have hkl : l.length = k9 := by have := of_decide_eq_false hc; omega
      subst hkl
      refine AWP.exit ?_
      refine qthen_exit ?_
      refine qthen_exit ?_
      refine qblock_same ?_
      refine qblock_normal ?_
      refine qthen_normal ?_
      refine AWP.seq ?_
      refine AWP.region rfl ?_; intro K hK
      (try simp +decide -implicitDefEqProofs only [go_sem])
      refine hK _ _ ?_; clear hK K
      refine qthen_normal ?_
      refine AWP.region rfl ?_; intro K hK
      (try simp +decide -implicitDefEqProofs only [go_sem])
      refine hK _ _ ?_; clear hK K
      refine qthen_normal ?_
      obtain rfl := some_eq h
      refine ⟨(m8, (at_0_3, at_1_4, at_2_5, at_3_6, out7), ver8), cont_next hJ8, by dsimp only; omega, _, _, Sub.swap 3 1 rfl rfl rfl, ?_, ?_⟩
      · (simp +decide -implicitDefEqProofs only [go_sem, mpE_nil, Int.natCast_zero, List.replicate_zero, List.length_take, List.length_drop, AVal.own.injEq, reduceCtorEq, Int.reduceAdd] <;> omega)
      · (simp +decide -implicitDefEqProofs only [go_sem, mpE_nil, Int.natCast_zero, List.replicate_zero, List.length_take, List.length_drop, AVal.own.injEq, reduceCtorEq, Int.reduceAdd] <;> omega)
  replace h := bif_f h hc
  refine AWP.exit ?_
  refine qthen_exit ?_
  refine qthen_exit ?_
  obtain rfl := some_eq h
  obtain rfl := cont_ret hJ8
  replace h := on_ret hO8
  refine qblock_same ?_
  refine qthen_normal ?_
  refine AWP.seq ?_
  refine AWP.draw Try.mixed (by kernel_rfl) ?_; intro K hK
  (try simp +decide -implicitDefEqProofs only [go_sem])
  refine hK _ _ _ (by kernel_rfl) ?_; clear hK K
  refine qthen_normal ?_
  refine AWP.ret ?_
  obtain rfl := some_eq h
  simp +decide -implicitDefEqProofs only [go_sem, mpE_nil, Int.natCast_zero, List.replicate_zero, List.length_take, List.length_drop, AVal.own.injEq, reduceCtorEq, Int.reduceAdd, nle2, nle1, nle0, nleA, nleL, Try.results23]
theorem ref05_Shortest_spec (l : List ApiEdge) (from_ : Int) (to_ : Int) {r : (List Int) × Int × Bool} (h : ref05_Shortest l from_ to_ = some r) : PureFn Try.prog 23 [.sl 4 (l.map encApiEdge), .int .i64 from_, .int .i64 to_] (· = .tuple [.sl 1 (r.1.map intC), .int .i64 r.2.1, .bool r.2.2]) := (ref05_Shortest_fresh l from_ to_ h).pure

def law05_GraphPaths (l : List ApiEdge) (from_ : Int) (to_ : Int) : Option (Bool) :=
  (law05_alive).bind fun y1 => (bif (!y1) then some false else (law05_right l).bind fun y2 => (bif (!y2) then some true else (graph_Shortest l from_ to_).bind fun y3 => (ref05_Shortest l from_ to_).bind fun y4 => (ref05_Same y3.1 y4.1).bind fun y5 => (bif y5 then (bif (decide (y3.2.1 = y4.2.1)) then some (y3.2.2 == y4.2.2) else some false) else some false)))

theorem law05_GraphPaths_spec (l : List ApiEdge) (from_ : Int) (to_ : Int) {r : Bool} (h : law05_GraphPaths l from_ to_ = some r) : PureFn Try.prog 6 [.sl 4 (l.map encApiEdge), .int .i64 from_, .int .i64 to_] (· = .bool r) := by
  refine PureFn.nle (PureFn.intro Try.func6 rfl rfl (by show _ ≤ 47; simp) ?_)
  unfold law05_GraphPaths at h
  (try simp +decide -implicitDefEqProofs only [go_sem])
  refine AWP.seq ?_
  refine AWP.region rfl ?_; intro K hK
  (try simp +decide -implicitDefEqProofs only [go_sem])
  refine hK _ _ ?_; clear hK K
  refine qthen_normal ?_
  refine AWP.seq ?_
  refine AWP.seq ?_
  refine AWP.region rfl ?_; intro K hK
  (try simp +decide -implicitDefEqProofs only [go_sem])
  obtain ⟨y1, hy1, h⟩ := bindE h
  refine ACall.pure Try.call11 (law05_alive_spec hy1) rfl fun _ hr => ?_
  subst hr
  (try simp +decide -implicitDefEqProofs only [go_sem])
  refine hK _ _ ?_; clear hK K
  refine qthen_normal ?_
  refine AWP.cond (acond_split (fun hc => ?_) (fun hc => ?_))
  · replace h := bif_t h hc
    refine AWP.seq ?_
    refine AWP.region rfl ?_; intro K hK
    (try simp +decide -implicitDefEqProofs only [go_sem])
    refine hK _ _ ?_; clear hK K
    refine qthen_normal ?_
    refine AWP.ret ?_
    refine qthen_ret ?_
    obtain rfl := some_eq h
    simp +decide -implicitDefEqProofs only [go_sem, mpE_nil, Int.natCast_zero, List.replicate_zero, List.length_take, List.length_drop, AVal.own.injEq, reduceCtorEq, Int.reduceAdd, nle2, nle1, nle0, nleA, nleL, Try.results6]
  replace h := bif_f h hc
  refine AWP.skip ?_
  refine qthen_normal ?_
  refine AWP.seq ?_
  refine AWP.seq ?_
  refine AWP.region rfl ?_; intro K hK
  (try simp +decide -implicitDefEqProofs only [go_sem])
  obtain ⟨y2, hy2, h⟩ := bindE h
  refine ACall.pure Try.call14 (law05_right_spec l hy2) rfl fun _ hr => ?_
  subst hr
  (try simp +decide -implicitDefEqProofs only [go_sem])
  refine hK _ _ ?_; clear hK K
  refine qthen_normal ?_
  refine AWP.cond (acond_split (fun hc => ?_) (fun hc => ?_))
  · replace h := bif_t h hc
    refine AWP.seq ?_
    refine AWP.region rfl ?_; intro K hK
    (try simp +decide -implicitDefEqProofs only [go_sem])
    refine hK _ _ ?_; clear hK K
    refine qthen_normal ?_
    refine AWP.ret ?_
    refine qthen_ret ?_
    obtain rfl := some_eq h
    simp +decide -implicitDefEqProofs only [go_sem, mpE_nil, Int.natCast_zero, List.replicate_zero, List.length_take, List.length_drop, AVal.own.injEq, reduceCtorEq, Int.reduceAdd, nle2, nle1, nle0, nleA, nleL, Try.results6]
  replace h := bif_f h hc
  refine AWP.skip ?_
  refine qthen_normal ?_
  refine AWP.seq ?_
  refine AWP.region rfl ?_; intro K hK
  (try simp +decide -implicitDefEqProofs only [go_sem])
  obtain ⟨y3, hy3, h⟩ := bindE h
  refine ACall.pure Try.call22 (graph_Shortest_spec l from_ to_ hy3) rfl fun _ hr => ?_
  subst hr
  (try simp +decide -implicitDefEqProofs only [go_sem])
  refine hK _ _ ?_; clear hK K
  refine qthen_normal ?_
  refine AWP.seq ?_
  refine AWP.region rfl ?_; intro K hK
  (try simp +decide -implicitDefEqProofs only [go_sem])
  obtain ⟨y4, hy4, h⟩ := bindE h
  refine ACall.pure Try.call23 (ref05_Shortest_spec l from_ to_ hy4) rfl fun _ hr => ?_
  subst hr
  (try simp +decide -implicitDefEqProofs only [go_sem])
  refine hK _ _ ?_; clear hK K
  refine qthen_normal ?_
  refine AWP.seq ?_
  refine AWP.region rfl ?_; intro K hK
  (try simp +decide -implicitDefEqProofs only [go_sem])
  obtain ⟨y5, hy5, h⟩ := bindE h
  refine ACall.pure Try.call15 (ref05_Same_spec y3.1 y4.1 hy5) rfl fun _ hr => ?_
  subst hr
  (try simp +decide -implicitDefEqProofs only [go_sem])
  refine aguardK_split (fun hc => ?_) (fun hc => ?_)
  · replace h := bif_t h hc
    (try simp +decide -implicitDefEqProofs only [go_sem, hc])
    refine aguardK_split (fun hc => ?_) (fun hc => ?_)
    · replace h := bif_t h hc
      (try simp +decide -implicitDefEqProofs only [go_sem, hc])
      refine hK _ _ ?_; clear hK K
      refine qthen_normal ?_
      refine AWP.ret ?_
      obtain rfl := some_eq h
      simp +decide -implicitDefEqProofs only [go_sem, mpE_nil, Int.natCast_zero, List.replicate_zero, List.length_take, List.length_drop, AVal.own.injEq, reduceCtorEq, Int.reduceAdd, nle2, nle1, nle0, nleA, nleL, Try.results6]
    · replace h := bif_f h hc
      (try simp +decide -implicitDefEqProofs only [go_sem, hc, Bool.not_true])
      refine hK _ _ ?_; clear hK K
      refine qthen_normal ?_
      refine AWP.ret ?_
      obtain rfl := some_eq h
      simp +decide -implicitDefEqProofs only [go_sem, mpE_nil, Int.natCast_zero, List.replicate_zero, List.length_take, List.length_drop, AVal.own.injEq, reduceCtorEq, Int.reduceAdd, nle2, nle1, nle0, nleA, nleL, Try.results6]
  · replace h := bif_f h hc
    (try simp +decide -implicitDefEqProofs only [go_sem, hc, Bool.not_true])
    refine hK _ _ ?_; clear hK K
    refine qthen_normal ?_
    refine AWP.ret ?_
    obtain rfl := some_eq h
    simp +decide -implicitDefEqProofs only [go_sem, mpE_nil, Int.natCast_zero, List.replicate_zero, List.length_take, List.length_drop, AVal.own.injEq, reduceCtorEq, Int.reduceAdd, nle2, nle1, nle0, nleA, nleL, Try.results6]

def law05_edge_b1 (id_ : Int) (k0 : Nat) (x_2 : ApiEdge) (sv : Unit) : Option (Out (Unit) (ApiEdge × Bool)) :=
  (bif (decide (x_2.ID = id_)) then some (Out.ret (x_2, true)) else some (Out.next ()))

def law05_edge (l : List ApiEdge) (id_ : Int) : Option (ApiEdge × Bool) :=
  (forIx (law05_edge_b1 id_) 0 l ()).bind fun o0 => o0.on fun s0 => some ((ApiEdge.mk (0 : Int) (0 : Int) (0 : Int) (0 : Int)), false)

theorem law05_edge_spec (l : List ApiEdge) (id_ : Int) {r : ApiEdge × Bool} (h : law05_edge l id_ = some r) : PureFn Try.prog 47 [.sl 4 (l.map encApiEdge), .int .i64 id_] (· = .tuple [.agg (encApiEdge r.1), .bool r.2]) := by
  refine PureFn.nle (PureFn.intro Try.func47 rfl rfl (by show _ ≤ 25; simp) ?_)
  unfold law05_edge at h
  (try simp +decide -implicitDefEqProofs only [go_sem])
  refine AWP.seq ?_
  refine AWP.region rfl ?_; intro K hK
  (try simp +decide -implicitDefEqProofs only [go_sem])
  refine hK _ _ ?_; clear hK K
  refine qthen_normal ?_
  refine AWP.seq ?_
  refine AWP.seq ?_
  refine AWP.region rfl ?_; intro K hK
  (try simp +decide -implicitDefEqProofs only [go_sem])
  refine hK _ _ ?_; clear hK K
  refine qthen_normal ?_
  refine AWP.block ?_
  obtain ⟨o0, hJ0, hO0⟩ := bindE h
  clear h
  refine AWP.loopW (ι := Nat × (Unit) × (Unit)) (fun zz => [(0, .sl 4 (l.map encApiEdge)), (1, .int .i64 id_), (4, .ptr 0 0), (6, .int .i64 ((zz.1 : Nat) : Int))]) (fun zz => [.box [.int .i64 (0 : Int), .int .i64 (0 : Int), .int .i64 (0 : Int), .int .i64 (0 : Int)]]) (fun zz => zz.1 ≤ l.length ∧ forIx (law05_edge_b1 id_) zz.1 ((l).drop zz.1) zz.2.1 = some o0) (fun zz => l.length - zz.1) (0, (), ()) ⟨Nat.zero_le _, hJ0⟩ (by (simp +decide -implicitDefEqProofs only [go_sem, mpE_nil, Int.natCast_zero, List.replicate_zero, List.length_take, List.length_drop, AVal.own.injEq, reduceCtorEq, Int.reduceAdd] <;> omega)) (by (simp +decide -implicitDefEqProofs only [go_sem, mpE_nil, Int.natCast_zero, List.replicate_zero, List.length_take, List.length_drop, AVal.own.injEq, reduceCtorEq, Int.reduceAdd] <;> omega)) (fun x => ⟨rfl, rfl, rfl⟩) ?_
  clear hJ0
  rintro ⟨k0, ⟨⟩, ⟨⟩⟩ ⟨hk0, hJ0⟩
  dsimp only at hk0 hJ0 ⊢
  refine AWP.seq ?_
  refine AWP.seq ?_
  refine AWP.region rfl ?_; intro K hK
  (try simp +decide -implicitDefEqProofs only [go_sem])
  intro hm
  refine hK _ _ ?_; clear hK K
  refine qthen_normal ?_
  refine AWP.cond (acond_split (fun hc => ?_) (fun hc => ?_))
  · have hlt0 : k0 < l.length := by have := of_decide_eq_true hc; omega
    obtain ⟨x_2, b0, hx0_, h, hJ0⟩ := for_cons hJ0 hlt0
    have hx0 := idxL_nat hx0_
    have hw0 : IntKind.i64.wrap (((k0 : Nat) : Int) + 1) = (((k0 : Nat) : Int) + (1 : Int)) := by rw [wrap_i64] <;> omega
    unfold law05_edge_b1 at h; try dsimp only at h
    refine AWP.skip ?_
    refine qthen_normal ?_
    refine AWP.seq ?_
    refine AWP.block ?_
    refine AWP.seq ?_
    refine AWP.region rfl ?_; intro K hK
    (try simp +decide -implicitDefEqProofs only [go_sem])
    refine AIdx.of (f := encApiEdge) (l := l) hx0 ?_
    (try simp +decide -implicitDefEqProofs only [go_sem])
    refine hK _ _ ?_; clear hK K
    refine qthen_normal ?_
    refine AWP.cond (acond_split (fun hc => ?_) (fun hc => ?_))
    · replace h := bif_t h hc
      refine AWP.seq ?_
      refine AWP.region rfl ?_; intro K hK
      (try simp +decide -implicitDefEqProofs only [go_sem])
      refine AIdx.of (f := encApiEdge) (l := l) hx0 ?_
      (try simp +decide -implicitDefEqProofs only [go_sem])
      refine hK _ _ ?_; clear hK K
      refine qthen_normal ?_
      refine AWP.ret ?_
      refine qblock_ret ?_
      refine qthen_ret ?_
      refine qthen_ret ?_
      obtain rfl := some_eq h
      obtain rfl := cont_ret hJ0
      replace h := on_ret hO0
      refine qblock_ret ?_
      refine qthen_ret ?_
      obtain rfl := some_eq h
      simp +decide -implicitDefEqProofs only [go_sem, mpE_nil, Int.natCast_zero, List.replicate_zero, List.length_take, List.length_drop, AVal.own.injEq, reduceCtorEq, Int.reduceAdd, nle2, nle1, nle0, nleA, nleL, Try.results47]
    replace h := bif_f h hc
    refine AWP.skip ?_
    refine qblock_normal ?_
    refine qthen_normal ?_
    refine AWP.region rfl ?_; intro K hK
    (try simp +decide -implicitDefEqProofs only [go_sem])
    refine hK _ _ ?_; clear hK K
    refine qthen_normal ?_
    obtain rfl := some_eq h
    refine ⟨(k0 + 1, (), ()), ⟨by dsimp only; omega, cont_next hJ0⟩, by dsimp only; omega, ?_, ?_⟩
    · (simp +decide -implicitDefEqProofs only [go_sem, mpE_nil, Int.natCast_zero, List.replicate_zero, List.length_take, List.length_drop, AVal.own.injEq, reduceCtorEq, Int.reduceAdd, hw0] <;> omega)
    · (simp +decide -implicitDefEqProofs only [go_sem, mpE_nil, Int.natCast_zero, List.replicate_zero, List.length_take, List.length_drop, AVal.own.injEq, reduceCtorEq, Int.reduceAdd, hw0] <;> omega)
  · obtain rfl := for_nil hJ0 (fun hl => by have := of_decide_eq_false hc; omega)
    have h := on_next hO0; try dsimp only at h
    have hkl : l.length = k0 := by have := of_decide_eq_false hc; omega
    subst hkl
    refine AWP.exit ?_
    refine qthen_exit ?_
    refine qthen_exit ?_
    refine qblock_same ?_
    refine qthen_normal ?_
    refine AWP.seq ?_
    refine AWP.region rfl ?_; intro K hK
    (try simp +decide -implicitDefEqProofs only [go_sem])
    refine hK _ _ ?_; clear hK K
    refine qthen_normal ?_
    refine AWP.ret ?_
    obtain rfl := some_eq h
    simp +decide -implicitDefEqProofs only [go_sem, mpE_nil, Int.natCast_zero, List.replicate_zero, List.length_take, List.length_drop, AVal.own.injEq, reduceCtorEq, Int.reduceAdd, nle2, nle1, nle0, nleA, nleL, Try.results47]

def law05_walk_b1 (l : List ApiEdge) (k2 : Nat) (x_4 : Int) (sv : Int × Int) : Option (Out (Int × Int) (Int × Bool)) :=
  (law05_edge l x_4).bind fun y5 => (bif (!y5.2) then some (Out.ret ((0 : Int), false)) else (bif (decide (y5.1.From ≠ sv.2)) then some (Out.ret ((0 : Int), false)) else some (Out.next ((IntKind.i64.wrap (sv.1 + y5.1.Cost)), y5.1.To))))

def law05_walk (l : List ApiEdge) (ids : List Int) (from_ : Int) (to_ : Int) : Option (Int × Bool) :=
  (forIx (law05_walk_b1 l) 0 ids ((0 : Int), from_)).bind fun o2 => o2.on fun s2 => some (s2.1, (decide (s2.2 = to_)))

theorem law05_walk_spec (l : List ApiEdge) (ids : List Int) (from_ : Int) (to_ : Int) {r : Int × Bool} (h : law05_walk l ids from_ to_ = some r) : PureFn Try.prog 25 [.sl 4 (l.map encApiEdge), .sl 1 (ids.map intC), .int .i64 from_, .int .i64 to_] (· = .tuple [.int .i64 r.1, .bool r.2]) := by
  refine PureFn.nle (PureFn.intro Try.func25 rfl rfl (by show _ ≤ 49; simp) ?_)
  unfold law05_walk at h
  (try simp +decide -implicitDefEqProofs only [go_sem])
  refine AWP.seq ?_
  refine AWP.region rfl ?_; intro K hK
  (try simp +decide -implicitDefEqProofs only [go_sem])
  refine hK _ _ ?_; clear hK K
  refine qthen_normal ?_
  refine AWP.seq ?_
  refine AWP.region rfl ?_; intro K hK
  (try simp +decide -implicitDefEqProofs only [go_sem])
  refine hK _ _ ?_; clear hK K
  refine qthen_normal ?_
  refine AWP.seq ?_
  refine AWP.seq ?_
  refine AWP.region rfl ?_; intro K hK
  (try simp +decide -implicitDefEqProofs only [go_sem])
  refine hK _ _ ?_; clear hK K
  refine qthen_normal ?_
  refine AWP.block ?_
  obtain ⟨o2, hJ2, hO2⟩ := bindE h
  clear h
  refine AWP.loopW (ι := Nat × (Int × Int) × (Unit)) (fun zz => [(0, .sl 4 (l.map encApiEdge)), (1, .sl 1 (ids.map intC)), (3, .int .i64 to_), (10, .int .i64 zz.2.1.1), (11, .int .i64 zz.2.1.2), (12, .int .i64 ((zz.1 : Nat) : Int))]) (fun zz => []) (fun zz => zz.1 ≤ ids.length ∧ forIx (law05_walk_b1 l) zz.1 ((ids).drop zz.1) zz.2.1 = some o2) (fun zz => ids.length - zz.1) (0, ((0 : Int), from_), ()) ⟨Nat.zero_le _, hJ2⟩ (by (simp +decide -implicitDefEqProofs only [go_sem, mpE_nil, Int.natCast_zero, List.replicate_zero, List.length_take, List.length_drop, AVal.own.injEq, reduceCtorEq, Int.reduceAdd] <;> omega)) (by (simp +decide -implicitDefEqProofs only [go_sem, mpE_nil, Int.natCast_zero, List.replicate_zero, List.length_take, List.length_drop, AVal.own.injEq, reduceCtorEq, Int.reduceAdd] <;> omega)) (fun x => ⟨rfl, rfl, rfl⟩) ?_
  clear hJ2
  rintro ⟨k2, ⟨n_1, at_2⟩, ⟨⟩⟩ ⟨hk2, hJ2⟩
  dsimp only at hk2 hJ2 ⊢
  refine AWP.seq ?_
  refine AWP.seq ?_
  refine AWP.region rfl ?_; intro K hK
  (try simp +decide -implicitDefEqProofs only [go_sem])
  intro hm
  refine hK _ _ ?_; clear hK K
  refine qthen_normal ?_
  refine AWP.cond (acond_split (fun hc => ?_) (fun hc => ?_))
  · have hlt2 : k2 < ids.length := by have := of_decide_eq_true hc; omega
    obtain ⟨x_4, b2, hx2_, h, hJ2⟩ := for_cons hJ2 hlt2
    have hx2 := idxL_nat hx2_
    have hw2 : IntKind.i64.wrap (((k2 : Nat) : Int) + 1) = (((k2 : Nat) : Int) + (1 : Int)) := by rw [wrap_i64] <;> omega
    unfold law05_walk_b1 at h; try dsimp only at h
    refine AWP.skip ?_
    refine qthen_normal ?_
    refine AWP.seq ?_
    refine AWP.block ?_
    refine AWP.seq ?_
    refine AWP.region rfl ?_; intro K hK
    (try simp +decide -implicitDefEqProofs only [go_sem])
    refine AIdx.of (f := intC) (l := ids) hx2 ?_
    (try simp +decide -implicitDefEqProofs only [go_sem])
    obtain ⟨y5, hy5, h⟩ := bindE h
    refine ACall.pure Try.call47 (law05_edge_spec l x_4 hy5) rfl fun _ hr => ?_
    subst hr
    (try simp +decide -implicitDefEqProofs only [go_sem])
    refine hK _ _ ?_; clear hK K
    refine qthen_normal ?_
    refine AWP.seq ?_
    refine AWP.seq ?_
    refine AWP.region rfl ?_; intro K hK
    (try simp +decide -implicitDefEqProofs only [go_sem])
    refine aguardK_split (fun hc => ?_) (fun hc => ?_)
    · replace h := bif_f h hc
      (try simp +decide -implicitDefEqProofs only [go_sem, hc])
      refine hK _ _ ?_; clear hK K
      refine qthen_normal ?_
      refine AWP.cond (acond_split (fun hc => ?_) (fun hc => ?_))
      · replace h := bif_t h hc
        refine AWP.seq ?_
        refine AWP.region rfl ?_; intro K hK
        (try simp +decide -implicitDefEqProofs only [go_sem])
        refine hK _ _ ?_; clear hK K
        refine qthen_normal ?_
        refine AWP.ret ?_
        refine qthen_ret ?_
        refine qblock_ret ?_
        refine qthen_ret ?_
        refine qthen_ret ?_
        obtain rfl := some_eq h
        obtain rfl := cont_ret hJ2
        replace h := on_ret hO2
        refine qblock_ret ?_
        refine qthen_ret ?_
        obtain rfl := some_eq h
        simp +decide -implicitDefEqProofs only [go_sem, mpE_nil, Int.natCast_zero, List.replicate_zero, List.length_take, List.length_drop, AVal.own.injEq, reduceCtorEq, Int.reduceAdd, nle2, nle1, nle0, nleA, nleL, Try.results25]
      replace h := bif_f h hc
      refine AWP.skip ?_
      refine qthen_normal ?_
      refine AWP.draw Try.mixed (by kernel_rfl) ?_; intro K hK
      (try simp +decide -implicitDefEqProofs only [go_sem])
      refine hK _ _ _ (by kernel_rfl) ?_; clear hK K
      refine qblock_normal ?_
      refine qthen_normal ?_
      refine AWP.region rfl ?_; intro K hK
      (try simp +decide -implicitDefEqProofs only [go_sem])
      refine hK _ _ ?_; clear hK K
      refine qthen_normal ?_
      obtain rfl := some_eq h
      refine ⟨(k2 + 1, ((IntKind.i64.wrap (n_1 + y5.1.Cost)), y5.1.To), ()), ⟨by dsimp only; omega, cont_next hJ2⟩, by dsimp only; omega, ?_, ?_⟩
      · (simp +decide -implicitDefEqProofs only [go_sem, mpE_nil, Int.natCast_zero, List.replicate_zero, List.length_take, List.length_drop, AVal.own.injEq, reduceCtorEq, Int.reduceAdd, hw2] <;> omega)
      · (simp +decide -implicitDefEqProofs only [go_sem, mpE_nil, Int.natCast_zero, List.replicate_zero, List.length_take, List.length_drop, AVal.own.injEq, reduceCtorEq, Int.reduceAdd, hw2] <;> omega)
    · replace h := bif_t h hc
      (try simp +decide -implicitDefEqProofs only [go_sem, hc, Bool.not_false])
      refine hK _ _ ?_; clear hK K
      refine qthen_normal ?_
      refine AWP.cond (acond_true ?_)
      refine AWP.seq ?_
      refine AWP.region rfl ?_; intro K hK
      (try simp +decide -implicitDefEqProofs only [go_sem])
      refine hK _ _ ?_; clear hK K
      refine qthen_normal ?_
      refine AWP.ret ?_
      refine qthen_ret ?_
      refine qblock_ret ?_
      refine qthen_ret ?_
      refine qthen_ret ?_
      obtain rfl := some_eq h
      obtain rfl := cont_ret hJ2
      replace h := on_ret hO2
      refine qblock_ret ?_
      refine qthen_ret ?_
      obtain rfl := some_eq h
      simp +decide -implicitDefEqProofs only [go_sem, mpE_nil, Int.natCast_zero, List.replicate_zero, List.length_take, List.length_drop, AVal.own.injEq, reduceCtorEq, Int.reduceAdd, nle2, nle1, nle0, nleA, nleL, Try.results25]
  · obtain rfl := for_nil hJ2 (fun hl => by have := of_decide_eq_false hc; omega)
    have h := on_next hO2; try dsimp only at h
    have hkl : ids.length = k2 := by have := of_decide_eq_false hc; omega
    subst hkl
    refine AWP.exit ?_
    refine qthen_exit ?_
    refine qthen_exit ?_
    refine qblock_same ?_
    refine qthen_normal ?_
    refine AWP.seq ?_
    refine AWP.region rfl ?_; intro K hK
    (try simp +decide -implicitDefEqProofs only [go_sem])
    refine hK _ _ ?_; clear hK K
    refine qthen_normal ?_
    refine AWP.ret ?_
    obtain rfl := some_eq h
    simp +decide -implicitDefEqProofs only [go_sem, mpE_nil, Int.natCast_zero, List.replicate_zero, List.length_take, List.length_drop, AVal.own.injEq, reduceCtorEq, Int.reduceAdd, nle2, nle1, nle0, nleA, nleL, Try.results25]

def law05_GraphShortest (l : List ApiEdge) (ends : Arr2Int) (other : List Int) : Option (Bool) :=
  (law05_alive).bind fun y1 => (bif (!y1) then some false else (law05_right l).bind fun y2 => (bif (!y2) then some true else (bif (decide ((300 : Int) < ((other.length : Nat) : Int))) then some true else (graph_Shortest l ends.e0 ends.e1).bind fun y3 => (graph_Reach l [ends.e0]).bind fun y4 => (ref05_Has y4 ends.e1).bind fun y5 => (bif (y3.2.2 != y5) then some false else (graph_Back l [ends.e1]).bind fun y6 => (ref05_Has y6 ends.e0).bind fun y7 => (bif (y3.2.2 != y7) then some false else (law05_walk l y3.1 ends.e0 ends.e1).bind fun y8 => (bif y3.2.2 then (bif (!y8.2) then some false else (bif (decide (y8.1 ≠ y3.2.1)) then some false else (law05_walk l other ends.e0 ends.e1).bind fun y9 => (bif (!y9.2) then some true else (bif (decide (y3.2.1 < y9.1)) then some true else (bif (decide (y3.2.1 = y9.1)) then some (decide (((y3.1.length : Nat) : Int) ≤ ((other.length : Nat) : Int))) else some false))))) else (bif (decide (((y3.1.length : Nat) : Int) ≠ (0 : Int))) then some false else (bif (decide (y3.2.1 ≠ (0 : Int))) then some false else (law05_walk l other ends.e0 ends.e1).bind fun y10 => (bif (!y10.2) then some true else some false)))))))))

theorem law05_GraphShortest_spec (l : List ApiEdge) (ends : Arr2Int) (other : List Int) {r : Bool} (h : law05_GraphShortest l ends other = some r) : PureFn Try.prog 7 [.sl 4 (l.map encApiEdge), .agg (encArr2Int ends), .sl 1 (other.map intC)] (· = .bool r) := by
  refine PureFn.nle (PureFn.intro Try.func7 rfl rfl (by show _ ≤ 117; simp) ?_)
  unfold law05_GraphShortest at h
  (try simp +decide -implicitDefEqProofs only [go_sem])
  refine AWP.seq ?_
  refine AWP.region rfl ?_; intro K hK
  (try simp +decide -implicitDefEqProofs only [go_sem])
  refine hK _ _ ?_; clear hK K
  refine qthen_normal ?_
  refine AWP.seq ?_
  refine AWP.seq ?_
  refine AWP.region rfl ?_; intro K hK
  (try simp +decide -implicitDefEqProofs only [go_sem])
  obtain ⟨y1, hy1, h⟩ := bindE h
  refine ACall.pure Try.call11 (law05_alive_spec hy1) rfl fun _ hr => ?_
  subst hr
  (try simp +decide -implicitDefEqProofs only [go_sem])
  refine hK _ _ ?_; clear hK K
  refine qthen_normal ?_
  refine AWP.cond (acond_split (fun hc => ?_) (fun hc => ?_))
  · replace h := bif_t h hc
    refine AWP.seq ?_
    refine AWP.region rfl ?_; intro K hK
    (try simp +decide -implicitDefEqProofs only [go_sem])
    refine hK _ _ ?_; clear hK K
    refine qthen_normal ?_
    refine AWP.ret ?_
    refine qthen_ret ?_
    obtain rfl := some_eq h
    simp +decide -implicitDefEqProofs only [go_sem, mpE_nil, Int.natCast_zero, List.replicate_zero, List.length_take, List.length_drop, AVal.own.injEq, reduceCtorEq, Int.reduceAdd, nle2, nle1, nle0, nleA, nleL, Try.results7]
  replace h := bif_f h hc
  refine AWP.skip ?_
  refine qthen_normal ?_
  refine AWP.seq ?_
  refine AWP.seq ?_
  refine AWP.region rfl ?_; intro K hK
  (try simp +decide -implicitDefEqProofs only [go_sem])
  obtain ⟨y2, hy2, h⟩ := bindE h
  refine ACall.pure Try.call14 (law05_right_spec l hy2) rfl fun _ hr => ?_
  subst hr
  (try simp +decide -implicitDefEqProofs only [go_sem])
  refine aguardK_split (fun hc => ?_) (fun hc => ?_)
  · replace h := bif_f h hc
    (try simp +decide -implicitDefEqProofs only [go_sem, hc])
    intro hm
    refine hK _ _ ?_; clear hK K
    refine qthen_normal ?_
    refine AWP.cond (acond_split (fun hc => ?_) (fun hc => ?_))
    · replace h := bif_t h hc
      refine AWP.seq ?_
      refine AWP.region rfl ?_; intro K hK
      (try simp +decide -implicitDefEqProofs only [go_sem])
      refine hK _ _ ?_; clear hK K
      refine qthen_normal ?_
      refine AWP.ret ?_
      refine qthen_ret ?_
      obtain rfl := some_eq h
      simp +decide -implicitDefEqProofs only [go_sem, mpE_nil, Int.natCast_zero, List.replicate_zero, List.length_take, List.length_drop, AVal.own.injEq, reduceCtorEq, Int.reduceAdd, nle2, nle1, nle0, nleA, nleL, Try.results7]
    replace h := bif_f h hc
    refine AWP.skip ?_
    refine qthen_normal ?_
    refine AWP.seq ?_
    refine AWP.draw Try.mixed (by kernel_rfl) ?_; intro K hK
    (try simp +decide -implicitDefEqProofs only [go_sem])
    refine hK _ _ _ (by kernel_rfl) ?_; clear hK K
    refine qthen_normal ?_
    refine AWP.seq ?_
    refine AWP.region rfl ?_; intro K hK
    (try simp +decide -implicitDefEqProofs only [go_sem])
    obtain ⟨y3, hy3, h⟩ := bindE h
    refine ACall.pure Try.call22 (graph_Shortest_spec l ends.e0 ends.e1 hy3) rfl fun _ hr => ?_
    subst hr
    (try simp +decide -implicitDefEqProofs only [go_sem])
    refine hK _ _ ?_; clear hK K
    refine qthen_normal ?_
    refine AWP.seq ?_
    refine AWP.seq ?_
    refine AWP.region rfl ?_; intro K hK
    (try simp +decide -implicitDefEqProofs only [go_sem])
    obtain ⟨y4, hy4, h⟩ := bindE h
    refine ACall.snapF Try.call16 (graph_Reach_fresh l [ends.e0] hy4) (by simp +decide -implicitDefEqProofs only [go_sem]) fun _ hr => ?_
    subst hr
    (try simp +decide -implicitDefEqProofs only [go_sem])
    obtain ⟨y5, hy5, h⟩ := bindE h
    refine ACall.pure Try.call24 (ref05_Has_spec y4 ends.e1 hy5) rfl fun _ hr => ?_
    subst hr
    (try simp +decide -implicitDefEqProofs only [go_sem])
    refine aguardK_split (fun hc => ?_) (fun hc => ?_)
    · replace h := bif_f h hc
      (try simp +decide -implicitDefEqProofs only [go_sem, hc])
      obtain ⟨y6, hy6, h⟩ := bindE h
      refine ACall.freezeRow 2 rfl ?_
      (try simp +decide -implicitDefEqProofs only [go_sem])
      refine ACall.pure Try.call18 (graph_Back_spec l [ends.e1] hy6) rfl fun _ hr => ?_
      subst hr
      (try simp +decide -implicitDefEqProofs only [go_sem])
      obtain ⟨y7, hy7, h⟩ := bindE h
      refine ACall.pure Try.call24 (ref05_Has_spec y6 ends.e0 hy7) rfl fun _ hr => ?_
      subst hr
      (try simp +decide -implicitDefEqProofs only [go_sem])
      refine hK _ _ ?_; clear hK K
      refine qthen_normal ?_
      refine AWP.cond (acond_split (fun hc => ?_) (fun hc => ?_))
      · replace h := bif_t h hc
        refine AWP.seq ?_
        refine AWP.region rfl ?_; intro K hK
        (try simp +decide -implicitDefEqProofs only [go_sem])
        refine hK _ _ ?_; clear hK K
        refine qthen_normal ?_
        refine AWP.ret ?_
        refine qthen_ret ?_
        obtain rfl := some_eq h
        simp +decide -implicitDefEqProofs only [go_sem, mpE_nil, Int.natCast_zero, List.replicate_zero, List.length_take, List.length_drop, AVal.own.injEq, reduceCtorEq, Int.reduceAdd, nle2, nle1, nle0, nleA, nleL, Try.results7]
      replace h := bif_f h hc
      refine AWP.skip ?_
      refine qthen_normal ?_
      refine AWP.seq ?_
      refine AWP.region rfl ?_; intro K hK
      (try simp +decide -implicitDefEqProofs only [go_sem])
      obtain ⟨y8, hy8, h⟩ := bindE h
      refine ACall.pure Try.call25 (law05_walk_spec l y3.1 ends.e0 ends.e1 hy8) rfl fun _ hr => ?_
      subst hr
      (try simp +decide -implicitDefEqProofs only [go_sem])
      refine hK _ _ ?_; clear hK K
      refine qthen_normal ?_
      refine AWP.seq ?_
      refine AWP.seq ?_
      refine AWP.region rfl ?_; intro K hK
      (try simp +decide -implicitDefEqProofs only [go_sem])
      refine aguardK_split (fun hc => ?_) (fun hc => ?_)
      · replace h := bif_t h hc
        (try simp +decide -implicitDefEqProofs only [go_sem, hc])
        refine aguardK_split (fun hc => ?_) (fun hc => ?_)
        · replace h := bif_f h hc
          (try simp +decide -implicitDefEqProofs only [go_sem, hc])
          refine aguardK_split (fun hc => ?_) (fun hc => ?_)
          · replace h := bif_f h hc
            (try simp +decide -implicitDefEqProofs only [go_sem, hc])
            refine hK _ _ ?_; clear hK K
            refine qthen_normal ?_
            refine AWP.cond (acond_false ?_)
            refine AWP.skip ?_
            refine qthen_normal ?_
            refine AWP.seq ?_
            refine AWP.region rfl ?_; intro K hK
            (try simp +decide -implicitDefEqProofs only [go_sem])
            obtain ⟨y9, hy9, h⟩ := bindE h
            refine ACall.pure Try.call25 (law05_walk_spec l other ends.e0 ends.e1 hy9) rfl fun _ hr => ?_
            subst hr
            (try simp +decide -implicitDefEqProofs only [go_sem])
            refine hK _ _ ?_; clear hK K
            refine qthen_normal ?_
            refine AWP.seq ?_
            refine AWP.region rfl ?_; intro K hK
            (try simp +decide -implicitDefEqProofs only [go_sem])
            refine aguardK_split (fun hc => ?_) (fun hc => ?_)
            · replace h := bif_f h hc
              (try simp +decide -implicitDefEqProofs only [go_sem, hc])
              refine aguardK_split (fun hc => ?_) (fun hc => ?_)
              · replace h := bif_f h hc
                (try simp +decide -implicitDefEqProofs only [go_sem, hc])
                refine aguardK_split (fun hc => ?_) (fun hc => ?_)
                · replace h := bif_t h hc
                  (try simp +decide -implicitDefEqProofs only [go_sem, hc])
                  intro hm
                  intro hm
                  refine hK _ _ ?_; clear hK K
                  refine qthen_normal ?_
                  refine AWP.ret ?_
                  obtain rfl := some_eq h
                  simp +decide -implicitDefEqProofs only [go_sem, mpE_nil, Int.natCast_zero, List.replicate_zero, List.length_take, List.length_drop, AVal.own.injEq, reduceCtorEq, Int.reduceAdd, nle2, nle1, nle0, nleA, nleL, Try.results7]
                · replace h := bif_f h hc
                  (try simp +decide -implicitDefEqProofs only [go_sem, hc, Bool.not_true])
                  refine hK _ _ ?_; clear hK K
                  refine qthen_normal ?_
                  refine AWP.ret ?_
                  obtain rfl := some_eq h
                  simp +decide -implicitDefEqProofs only [go_sem, mpE_nil, Int.natCast_zero, List.replicate_zero, List.length_take, List.length_drop, AVal.own.injEq, reduceCtorEq, Int.reduceAdd, nle2, nle1, nle0, nleA, nleL, Try.results7]
              · replace h := bif_t h hc
                (try simp +decide -implicitDefEqProofs only [go_sem, hc, Bool.not_false])
                refine hK _ _ ?_; clear hK K
                refine qthen_normal ?_
                refine AWP.ret ?_
                obtain rfl := some_eq h
                simp +decide -implicitDefEqProofs only [go_sem, mpE_nil, Int.natCast_zero, List.replicate_zero, List.length_take, List.length_drop, AVal.own.injEq, reduceCtorEq, Int.reduceAdd, nle2, nle1, nle0, nleA, nleL, Try.results7]
            · replace h := bif_t h hc
              (try simp +decide -implicitDefEqProofs only [go_sem, hc, Bool.not_false])
              refine hK _ _ ?_; clear hK K
              refine qthen_normal ?_
              refine AWP.ret ?_
              obtain rfl := some_eq h
              simp +decide -implicitDefEqProofs only [go_sem, mpE_nil, Int.natCast_zero, List.replicate_zero, List.length_take, List.length_drop, AVal.own.injEq, reduceCtorEq, Int.reduceAdd, nle2, nle1, nle0, nleA, nleL, Try.results7]
          · replace h := bif_t h hc
            (try simp +decide -implicitDefEqProofs only [go_sem, hc, Bool.not_false])
            refine hK _ _ ?_; clear hK K
            refine qthen_normal ?_
            refine AWP.cond (acond_true ?_)
            refine AWP.seq ?_
            refine AWP.region rfl ?_; intro K hK
            (try simp +decide -implicitDefEqProofs only [go_sem])
            refine hK _ _ ?_; clear hK K
            refine qthen_normal ?_
            refine AWP.ret ?_
            refine qthen_ret ?_
            obtain rfl := some_eq h
            simp +decide -implicitDefEqProofs only [go_sem, mpE_nil, Int.natCast_zero, List.replicate_zero, List.length_take, List.length_drop, AVal.own.injEq, reduceCtorEq, Int.reduceAdd, nle2, nle1, nle0, nleA, nleL, Try.results7]
        · replace h := bif_t h hc
          (try simp +decide -implicitDefEqProofs only [go_sem, hc, Bool.not_false])
          refine hK _ _ ?_; clear hK K
          refine qthen_normal ?_
          refine AWP.cond (acond_true ?_)
          refine AWP.seq ?_
          refine AWP.region rfl ?_; intro K hK
          (try simp +decide -implicitDefEqProofs only [go_sem])
          refine hK _ _ ?_; clear hK K
          refine qthen_normal ?_
          refine AWP.ret ?_
          refine qthen_ret ?_
          obtain rfl := some_eq h
          simp +decide -implicitDefEqProofs only [go_sem, mpE_nil, Int.natCast_zero, List.replicate_zero, List.length_take, List.length_drop, AVal.own.injEq, reduceCtorEq, Int.reduceAdd, nle2, nle1, nle0, nleA, nleL, Try.results7]
      · replace h := bif_f h hc
        (try simp +decide -implicitDefEqProofs only [go_sem, hc, Bool.not_true])
        intro hm
        refine aguardK_split (fun hc => ?_) (fun hc => ?_)
        · replace h := bif_f h hc
          (try simp +decide -implicitDefEqProofs only [go_sem, hc])
          refine hK _ _ ?_; clear hK K
          refine qthen_normal ?_
          refine AWP.cond (acond_split (fun hc => ?_) (fun hc => ?_))
          · replace h := bif_t h hc
            refine AWP.seq ?_
            refine AWP.region rfl ?_; intro K hK
            (try simp +decide -implicitDefEqProofs only [go_sem])
            refine hK _ _ ?_; clear hK K
            refine qthen_normal ?_
            refine AWP.ret ?_
            refine qthen_ret ?_
            obtain rfl := some_eq h
            simp +decide -implicitDefEqProofs only [go_sem, mpE_nil, Int.natCast_zero, List.replicate_zero, List.length_take, List.length_drop, AVal.own.injEq, reduceCtorEq, Int.reduceAdd, nle2, nle1, nle0, nleA, nleL, Try.results7]
          replace h := bif_f h hc
          refine AWP.skip ?_
          refine qthen_normal ?_
          refine AWP.seq ?_
          refine AWP.region rfl ?_; intro K hK
          (try simp +decide -implicitDefEqProofs only [go_sem])
          obtain ⟨y10, hy10, h⟩ := bindE h
          refine ACall.pure Try.call25 (law05_walk_spec l other ends.e0 ends.e1 hy10) rfl fun _ hr => ?_
          subst hr
          (try simp +decide -implicitDefEqProofs only [go_sem])
          refine hK _ _ ?_; clear hK K
          refine qthen_normal ?_
          refine AWP.seq ?_
          refine AWP.region rfl ?_; intro K hK
          (try simp +decide -implicitDefEqProofs only [go_sem])
          refine aguardK_split (fun hc => ?_) (fun hc => ?_)
          · replace h := bif_f h hc
            (try simp +decide -implicitDefEqProofs only [go_sem, hc])
            refine hK _ _ ?_; clear hK K
            refine qthen_normal ?_
            refine AWP.ret ?_
            obtain rfl := some_eq h
            simp +decide -implicitDefEqProofs only [go_sem, mpE_nil, Int.natCast_zero, List.replicate_zero, List.length_take, List.length_drop, AVal.own.injEq, reduceCtorEq, Int.reduceAdd, nle2, nle1, nle0, nleA, nleL, Try.results7]
          · replace h := bif_t h hc
            (try simp +decide -implicitDefEqProofs only [go_sem, hc, Bool.not_false])
            refine hK _ _ ?_; clear hK K
            refine qthen_normal ?_
            refine AWP.ret ?_
            obtain rfl := some_eq h
            simp +decide -implicitDefEqProofs only [go_sem, mpE_nil, Int.natCast_zero, List.replicate_zero, List.length_take, List.length_drop, AVal.own.injEq, reduceCtorEq, Int.reduceAdd, nle2, nle1, nle0, nleA, nleL, Try.results7]
        · replace h := bif_t h hc
          (try simp +decide -implicitDefEqProofs only [go_sem, hc, Bool.not_false])
          refine hK _ _ ?_; clear hK K
          refine qthen_normal ?_
          refine AWP.cond (acond_true ?_)
          refine AWP.seq ?_
          refine AWP.region rfl ?_; intro K hK
          (try simp +decide -implicitDefEqProofs only [go_sem])
          refine hK _ _ ?_; clear hK K
          refine qthen_normal ?_
          refine AWP.ret ?_
          refine qthen_ret ?_
          obtain rfl := some_eq h
          simp +decide -implicitDefEqProofs only [go_sem, mpE_nil, Int.natCast_zero, List.replicate_zero, List.length_take, List.length_drop, AVal.own.injEq, reduceCtorEq, Int.reduceAdd, nle2, nle1, nle0, nleA, nleL, Try.results7]
    · replace h := bif_t h hc
      (try simp +decide -implicitDefEqProofs only [go_sem, hc, Bool.not_false])
      refine hK _ _ ?_; clear hK K
      refine qthen_normal ?_
      refine AWP.cond (acond_true ?_)
      refine AWP.seq ?_
      refine AWP.region rfl ?_; intro K hK
      (try simp +decide -implicitDefEqProofs only [go_sem])
      refine hK _ _ ?_; clear hK K
      refine qthen_normal ?_
      refine AWP.ret ?_
      refine qthen_ret ?_
      obtain rfl := some_eq h
      simp +decide -implicitDefEqProofs only [go_sem, mpE_nil, Int.natCast_zero, List.replicate_zero, List.length_take, List.length_drop, AVal.own.injEq, reduceCtorEq, Int.reduceAdd, nle2, nle1, nle0, nleA, nleL, Try.results7]
  · replace h := bif_t h hc
    (try simp +decide -implicitDefEqProofs only [go_sem, hc, Bool.not_false])
    refine hK _ _ ?_; clear hK K
    refine qthen_normal ?_
    refine AWP.cond (acond_true ?_)
    refine AWP.seq ?_
    refine AWP.region rfl ?_; intro K hK
    (try simp +decide -implicitDefEqProofs only [go_sem])
    refine hK _ _ ?_; clear hK K
    refine qthen_normal ?_
    refine AWP.ret ?_
    refine qthen_ret ?_
    obtain rfl := some_eq h
    simp +decide -implicitDefEqProofs only [go_sem, mpE_nil, Int.natCast_zero, List.replicate_zero, List.length_take, List.length_drop, AVal.own.injEq, reduceCtorEq, Int.reduceAdd, nle2, nle1, nle0, nleA, nleL, Try.results7]

def law05_place_b1 (n_ : Int) (k0 : Nat) (x_2 : Int) (sv : Unit) : Option (Out (Unit) (Int)) :=
  (bif (decide (x_2 = n_)) then some (Out.ret ((k0 : Nat) : Int)) else some (Out.next ()))

def law05_place (l : List Int) (n_ : Int) : Option (Int) :=
  (forIx (law05_place_b1 n_) 0 l ()).bind fun o0 => o0.on fun s0 => some (-1 : Int)

theorem law05_place_spec (l : List Int) (n_ : Int) {r : Int} (h : law05_place l n_ = some r) : PureFn Try.prog 26 [.sl 1 (l.map intC), .int .i64 n_] (· = .int .i64 r) := by
  refine PureFn.nle (PureFn.intro Try.func26 rfl rfl (by show _ ≤ 19; simp) ?_)
  unfold law05_place at h
  (try simp +decide -implicitDefEqProofs only [go_sem])
  refine AWP.seq ?_
  refine AWP.region rfl ?_; intro K hK
  (try simp +decide -implicitDefEqProofs only [go_sem])
  refine hK _ _ ?_; clear hK K
  refine qthen_normal ?_
  refine AWP.seq ?_
  refine AWP.seq ?_
  refine AWP.region rfl ?_; intro K hK
  (try simp +decide -implicitDefEqProofs only [go_sem])
  refine hK _ _ ?_; clear hK K
  refine qthen_normal ?_
  refine AWP.block ?_
  obtain ⟨o0, hJ0, hO0⟩ := bindE h
  clear h
  refine AWP.loopW (ι := Nat × (Unit) × (Unit)) (fun zz => [(0, .sl 1 (l.map intC)), (1, .int .i64 n_), (5, .int .i64 ((zz.1 : Nat) : Int))]) (fun zz => []) (fun zz => zz.1 ≤ l.length ∧ forIx (law05_place_b1 n_) zz.1 ((l).drop zz.1) zz.2.1 = some o0) (fun zz => l.length - zz.1) (0, (), ()) ⟨Nat.zero_le _, hJ0⟩ (by (simp +decide -implicitDefEqProofs only [go_sem, mpE_nil, Int.natCast_zero, List.replicate_zero, List.length_take, List.length_drop, AVal.own.injEq, reduceCtorEq, Int.reduceAdd] <;> omega)) (by (simp +decide -implicitDefEqProofs only [go_sem, mpE_nil, Int.natCast_zero, List.replicate_zero, List.length_take, List.length_drop, AVal.own.injEq, reduceCtorEq, Int.reduceAdd] <;> omega)) (fun x => ⟨rfl, rfl, rfl⟩) ?_
  clear hJ0
  rintro ⟨k0, ⟨⟩, ⟨⟩⟩ ⟨hk0, hJ0⟩
  dsimp only at hk0 hJ0 ⊢
  refine AWP.seq ?_
  refine AWP.seq ?_
  refine AWP.region rfl ?_; intro K hK
  (try simp +decide -implicitDefEqProofs only [go_sem])
  intro hm
  refine hK _ _ ?_; clear hK K
  refine qthen_normal ?_
  refine AWP.cond (acond_split (fun hc => ?_) (fun hc => ?_))
  · have hlt0 : k0 < l.length := by have := of_decide_eq_true hc; omega
    obtain ⟨x_2, b0, hx0_, h, hJ0⟩ := for_cons hJ0 hlt0
    have hx0 := idxL_nat hx0_
    have hw0 : IntKind.i64.wrap (((k0 : Nat) : Int) + 1) = (((k0 : Nat) : Int) + (1 : Int)) := by rw [wrap_i64] <;> omega
    unfold law05_place_b1 at h; try dsimp only at h
    refine AWP.skip ?_
    refine qthen_normal ?_
    refine AWP.seq ?_
    refine AWP.block ?_
    refine AWP.seq ?_
    refine AWP.region rfl ?_; intro K hK
    (try simp +decide -implicitDefEqProofs only [go_sem])
    refine AIdx.of (f := intC) (l := l) hx0 ?_
    (try simp +decide -implicitDefEqProofs only [go_sem])
    refine hK _ _ ?_; clear hK K
    refine qthen_normal ?_
    refine AWP.cond (acond_split (fun hc => ?_) (fun hc => ?_))
    · replace h := bif_t h hc
      refine AWP.seq ?_
      refine AWP.region rfl ?_; intro K hK
      (try simp +decide -implicitDefEqProofs only [go_sem])
      refine hK _ _ ?_; clear hK K
      refine qthen_normal ?_
      refine AWP.ret ?_
      refine qblock_ret ?_
      refine qthen_ret ?_
      refine qthen_ret ?_
      obtain rfl := some_eq h
      obtain rfl := cont_ret hJ0
      replace h := on_ret hO0
      refine qblock_ret ?_
      refine qthen_ret ?_
      obtain rfl := some_eq h
      simp +decide -implicitDefEqProofs only [go_sem, mpE_nil, Int.natCast_zero, List.replicate_zero, List.length_take, List.length_drop, AVal.own.injEq, reduceCtorEq, Int.reduceAdd, nle2, nle1, nle0, nleA, nleL, Try.results26]
    replace h := bif_f h hc
    refine AWP.skip ?_
    refine qblock_normal ?_
    refine qthen_normal ?_
    refine AWP.region rfl ?_; intro K hK
    (try simp +decide -implicitDefEqProofs only [go_sem])
    refine hK _ _ ?_; clear hK K
    refine qthen_normal ?_
    obtain rfl := some_eq h
    refine ⟨(k0 + 1, (), ()), ⟨by dsimp only; omega, cont_next hJ0⟩, by dsimp only; omega, ?_, ?_⟩
    · (simp +decide -implicitDefEqProofs only [go_sem, mpE_nil, Int.natCast_zero, List.replicate_zero, List.length_take, List.length_drop, AVal.own.injEq, reduceCtorEq, Int.reduceAdd, hw0] <;> omega)
    · (simp +decide -implicitDefEqProofs only [go_sem, mpE_nil, Int.natCast_zero, List.replicate_zero, List.length_take, List.length_drop, AVal.own.injEq, reduceCtorEq, Int.reduceAdd, hw0] <;> omega)
  · obtain rfl := for_nil hJ0 (fun hl => by have := of_decide_eq_false hc; omega)
    have h := on_next hO0; try dsimp only at h
    have hkl : l.length = k0 := by have := of_decide_eq_false hc; omega
    subst hkl
    refine AWP.exit ?_
    refine qthen_exit ?_
    refine qthen_exit ?_
    refine qblock_same ?_
    refine qthen_normal ?_
    refine AWP.seq ?_
    refine AWP.region rfl ?_; intro K hK
    (try simp +decide -implicitDefEqProofs only [go_sem])
    refine hK _ _ ?_; clear hK K
    refine qthen_normal ?_
    refine AWP.ret ?_
    obtain rfl := some_eq h
    simp +decide -implicitDefEqProofs only [go_sem, mpE_nil, Int.natCast_zero, List.replicate_zero, List.length_take, List.length_drop, AVal.own.injEq, reduceCtorEq, Int.reduceAdd, nle2, nle1, nle0, nleA, nleL, Try.results26]

def law05_GraphLater_b3 (y3 : (List Int) × Int) (k6 : Nat) (x_8 : Int) (sv : Unit) : Option (Out (Unit) (Bool)) :=
  (law05_place y3.1 x_8).bind fun y9 => (bif (decide (y9 ≠ ((k6 : Nat) : Int))) then some (Out.ret false) else some (Out.next ()))

def law05_GraphLater_j2 (y3 : (List Int) × Int) : Option (Bool) :=
  (forIx (law05_GraphLater_b3 y3) 0 y3.1 ()).bind fun o6 => o6.on fun s6 => some true

def law05_GraphLater_b4 (y3 : (List Int) × Int) (k9 : Nat) (x_11 : ApiEdge) (sv : Unit) : Option (Out (Unit) (Bool)) :=
  (law05_place y3.1 x_11.From).bind fun y12 => (bif (decide (y12 < (0 : Int))) then some (Out.ret false) else (law05_place y3.1 x_11.From).bind fun y13 => (law05_place y3.1 x_11.To).bind fun y14 => (bif (decide (y14 ≤ y13)) then some (Out.ret false) else some (Out.next ())))

def law05_GraphLater_j1 (l : List ApiEdge) (y3 : (List Int) × Int) (loop4 : Bool) : Option (Bool) :=
  (bif (decide (y3.2 ≠ (0 : Int))) then (bif loop4 then (bif (decide (y3.2 = (16 : Int))) then some (decide (((y3.1.length : Nat) : Int) = (0 : Int))) else some false) else some false) else (bif loop4 then some false else (bif (decide ((IntKind.i64.wrap ((2 : Int) * ((l.length : Nat) : Int))) < ((y3.1.length : Nat) : Int))) then some false else (forIx (law05_GraphLater_b4 y3) 0 l ()).bind fun o9 => o9.on fun s9 => law05_GraphLater_j2 y3)))

def law05_GraphLater_b5 (l : List ApiEdge) (k15 : Nat) (x_17 : ApiEdge) (sv : Bool) : Option (Out (Bool) (Bool)) :=
  (bif sv then some (Out.next true) else (graph_Reach l [x_17.To]).bind fun y18 => (ref05_Has y18 x_17.From).bind fun y19 => some (Out.next y19))

def law05_GraphLater (l : List ApiEdge) : Option (Bool) :=
  (law05_alive).bind fun y1 => (bif (!y1) then some false else (law05_right l).bind fun y2 => (bif (!y2) then some true else (bif (decide ((60 : Int) < ((l.length : Nat) : Int))) then some true else (graph_Order l).bind fun y3 => (forIx (law05_GraphLater_b5 l) 0 l false).bind fun o15 => o15.on fun s15 => law05_GraphLater_j1 l y3 s15)))

theorem law05_GraphLater_spec (l : List ApiEdge) {r : Bool} (h : law05_GraphLater l = some r) : PureFn Try.prog 8 [.sl 4 (l.map encApiEdge)] (· = .bool r) := by
  refine PureFn.nle (PureFn.intro Try.func8 rfl rfl (by show _ ≤ 113; simp) ?_)
  unfold law05_GraphLater at h
  (try simp +decide -implicitDefEqProofs only [go_sem])
  refine AWP.seq ?_
  refine AWP.region rfl ?_; intro K hK
  (try simp +decide -implicitDefEqProofs only [go_sem])
  refine hK _ _ ?_; clear hK K
  refine qthen_normal ?_
  refine AWP.seq ?_
  refine AWP.seq ?_
  refine AWP.region rfl ?_; intro K hK
  (try simp +decide -implicitDefEqProofs only [go_sem])
  obtain ⟨y1, hy1, h⟩ := bindE h
  refine ACall.pure Try.call11 (law05_alive_spec hy1) rfl fun _ hr => ?_
  subst hr
  (try simp +decide -implicitDefEqProofs only [go_sem])
  refine hK _ _ ?_; clear hK K
  refine qthen_normal ?_
  refine AWP.cond (acond_split (fun hc => ?_) (fun hc => ?_))
  · replace h := bif_t h hc
    refine AWP.seq ?_
    refine AWP.region rfl ?_; intro K hK
    (try simp +decide -implicitDefEqProofs only [go_sem])
    refine hK _ _ ?_; clear hK K
    refine qthen_normal ?_
    refine AWP.ret ?_
    refine qthen_ret ?_
    obtain rfl := some_eq h
    simp +decide -implicitDefEqProofs only [go_sem, mpE_nil, Int.natCast_zero, List.replicate_zero, List.length_take, List.length_drop, AVal.own.injEq, reduceCtorEq, Int.reduceAdd, nle2, nle1, nle0, nleA, nleL, Try.results8]
  replace h := bif_f h hc
  refine AWP.skip ?_
  refine qthen_normal ?_
  refine AWP.seq ?_
  refine AWP.seq ?_
  refine AWP.region rfl ?_; intro K hK
  (try simp +decide -implicitDefEqProofs only [go_sem])
  obtain ⟨y2, hy2, h⟩ := bindE h
  refine ACall.pure Try.call14 (law05_right_spec l hy2) rfl fun _ hr => ?_
  subst hr
  (try simp +decide -implicitDefEqProofs only [go_sem])
  refine aguardK_split (fun hc => ?_) (fun hc => ?_)
  · replace h := bif_f h hc
    (try simp +decide -implicitDefEqProofs only [go_sem, hc])
    intro hm
    refine hK _ _ ?_; clear hK K
    refine qthen_normal ?_
    refine AWP.cond (acond_split (fun hc => ?_) (fun hc => ?_))
    · replace h := bif_t h hc
      refine AWP.seq ?_
      refine AWP.region rfl ?_; intro K hK
      (try simp +decide -implicitDefEqProofs only [go_sem])
      refine hK _ _ ?_; clear hK K
      refine qthen_normal ?_
      refine AWP.ret ?_
      refine qthen_ret ?_
      obtain rfl := some_eq h
      simp +decide -implicitDefEqProofs only [go_sem, mpE_nil, Int.natCast_zero, List.replicate_zero, List.length_take, List.length_drop, AVal.own.injEq, reduceCtorEq, Int.reduceAdd, nle2, nle1, nle0, nleA, nleL, Try.results8]
    replace h := bif_f h hc
    refine AWP.skip ?_
    refine qthen_normal ?_
    refine AWP.seq ?_
    refine AWP.region rfl ?_; intro K hK
    (try simp +decide -implicitDefEqProofs only [go_sem])
    obtain ⟨y3, hy3, h⟩ := bindE h
    refine ACall.pure Try.call20 (graph_Order_spec l hy3) rfl fun _ hr => ?_
    subst hr
    (try simp +decide -implicitDefEqProofs only [go_sem])
    refine hK _ _ ?_; clear hK K
    refine qthen_normal ?_
    refine AWP.seq ?_
    refine AWP.region rfl ?_; intro K hK
    (try simp +decide -implicitDefEqProofs only [go_sem])
    refine hK _ _ ?_; clear hK K
    refine qthen_normal ?_
    refine AWP.seqJoin (ι := (Bool) × (Unit)) (fun zz => [(0, .sl 4 (l.map encApiEdge)), (3, .sl 1 (y3.1.map intC)), (4, .int .i64 y3.2), (5, .bool zz.1)]) (fun zz => []) (fun zz => law05_GraphLater_j1 l y3 zz.1 = some r) (fun zz => ⟨rfl, rfl, rfl⟩) ?_ ?_
    · refine AWP.seq ?_
      refine AWP.region rfl ?_; intro K hK
      (try simp +decide -implicitDefEqProofs only [go_sem])
      refine hK _ _ ?_; clear hK K
      refine qthen_normal ?_
      refine AWP.block ?_
      obtain ⟨o15, hJ15, hO15⟩ := bindE h
      clear h
      refine AWP.loopW (ι := Nat × (Bool) × (Unit)) (fun zz => [(0, .sl 4 (l.map encApiEdge)), (3, .sl 1 (y3.1.map intC)), (4, .int .i64 y3.2), (5, .bool zz.2.1), (6, .int .i64 ((zz.1 : Nat) : Int))]) (fun zz => []) (fun zz => zz.1 ≤ l.length ∧ forIx (law05_GraphLater_b5 l) zz.1 ((l).drop zz.1) zz.2.1 = some o15) (fun zz => l.length - zz.1) (0, false, ()) ⟨Nat.zero_le _, hJ15⟩ (by (simp +decide -implicitDefEqProofs only [go_sem, mpE_nil, Int.natCast_zero, List.replicate_zero, List.length_take, List.length_drop, AVal.own.injEq, reduceCtorEq, Int.reduceAdd] <;> omega)) (by (simp +decide -implicitDefEqProofs only [go_sem, mpE_nil, Int.natCast_zero, List.replicate_zero, List.length_take, List.length_drop, AVal.own.injEq, reduceCtorEq, Int.reduceAdd] <;> omega)) (fun x => ⟨rfl, rfl, rfl⟩) ?_
      clear hJ15
      rintro ⟨k15, loop15, ⟨⟩⟩ ⟨hk15, hJ15⟩
      dsimp only at hk15 hJ15 ⊢
      refine AWP.seq ?_
      refine AWP.seq ?_
      refine AWP.region rfl ?_; intro K hK
      (try simp +decide -implicitDefEqProofs only [go_sem])
      intro hm
      refine hK _ _ ?_; clear hK K
      refine qthen_normal ?_
      refine AWP.cond (acond_split (fun hc => ?_) (fun hc => ?_))
      · have hlt15 : k15 < l.length := by have := of_decide_eq_true hc; omega
        obtain ⟨x_17, b15, hx15_, h, hJ15⟩ := for_cons hJ15 hlt15
        have hx15 := idxL_nat hx15_
        have hw15 : IntKind.i64.wrap (((k15 : Nat) : Int) + 1) = (((k15 : Nat) : Int) + (1 : Int)) := by rw [wrap_i64] <;> omega
        unfold law05_GraphLater_b5 at h; try dsimp only at h
        refine AWP.skip ?_
        refine qthen_normal ?_
        refine AWP.seq ?_
        refine AWP.block ?_
        refine AWP.draw Try.mixed (by kernel_rfl) ?_; intro K hK
        (try simp +decide -implicitDefEqProofs only [go_sem])
        refine aguardK_split (fun hc => ?_) (fun hc => ?_)
        · replace h := bif_f h hc
          (try simp +decide -implicitDefEqProofs only [go_sem, hc])
          refine AIdx.of (f := encApiEdge) (l := l) hx15 ?_
          (try simp +decide -implicitDefEqProofs only [go_sem])
          obtain ⟨y18, hy18, h⟩ := bindE h
          refine DCall.snapF Try.call16 (graph_Reach_fresh l [x_17.To] hy18) (by simp +decide -implicitDefEqProofs only [go_sem]) ?_
          (try simp +decide -implicitDefEqProofs only [go_sem])
          refine AIdx.of (f := encApiEdge) (l := l) hx15 ?_
          (try simp +decide -implicitDefEqProofs only [go_sem])
          obtain ⟨y19, hy19, h⟩ := bindE h
          refine DCall.pure Try.call24 (ref05_Has_spec y18 x_17.From hy19) rfl ?_
          (try simp +decide -implicitDefEqProofs only [go_sem])
          refine hK _ _ _ (by kernel_rfl) ?_; clear hK K
          refine qblock_normal ?_
          refine qthen_normal ?_
          refine AWP.region rfl ?_; intro K hK
          (try simp +decide -implicitDefEqProofs only [go_sem])
          refine hK _ _ ?_; clear hK K
          refine qthen_normal ?_
          obtain rfl := some_eq h
          refine ⟨(k15 + 1, y19, ()), ⟨by dsimp only; omega, cont_next hJ15⟩, by dsimp only; omega, ?_, ?_⟩
          · (simp +decide -implicitDefEqProofs only [go_sem, mpE_nil, Int.natCast_zero, List.replicate_zero, List.length_take, List.length_drop, AVal.own.injEq, reduceCtorEq, Int.reduceAdd, hw15] <;> omega)
          · (simp +decide -implicitDefEqProofs only [go_sem, mpE_nil, Int.natCast_zero, List.replicate_zero, List.length_take, List.length_drop, AVal.own.injEq, reduceCtorEq, Int.reduceAdd, hw15] <;> omega)
        · replace h := bif_t h hc
          (try simp +decide -implicitDefEqProofs only [go_sem, hc, Bool.not_false])
          refine hK _ _ _ (by kernel_rfl) ?_; clear hK K
          refine qblock_normal ?_
          refine qthen_normal ?_
          refine AWP.region rfl ?_; intro K hK
          (try simp +decide -implicitDefEqProofs only [go_sem])
          refine hK _ _ ?_; clear hK K
          refine qthen_normal ?_
          obtain rfl := some_eq h
          refine ⟨(k15 + 1, true, ()), ⟨by dsimp only; omega, cont_next hJ15⟩, by dsimp only; omega, ?_, ?_⟩
          · (simp +decide -implicitDefEqProofs only [go_sem, mpE_nil, Int.natCast_zero, List.replicate_zero, List.length_take, List.length_drop, AVal.own.injEq, reduceCtorEq, Int.reduceAdd, hw15] <;> omega)
          · (simp +decide -implicitDefEqProofs only [go_sem, mpE_nil, Int.natCast_zero, List.replicate_zero, List.length_take, List.length_drop, AVal.own.injEq, reduceCtorEq, Int.reduceAdd, hw15] <;> omega)
      · obtain rfl := for_nil hJ15 (fun hl => by have := of_decide_eq_false hc; omega)
        have h := on_next hO15; try dsimp only at h
        have hkl : l.length = k15 := by have := of_decide_eq_false hc; omega
        subst hkl
        refine AWP.exit ?_
        refine qthen_exit ?_
        refine qthen_exit ?_
        refine qblock_same ?_
        refine qthen_normal ?_
        exact ⟨(loop15, ()), h, by (simp +decide -implicitDefEqProofs only [go_sem, mpE_nil, Int.natCast_zero, List.replicate_zero, List.length_take, List.length_drop, AVal.own.injEq, reduceCtorEq, Int.reduceAdd] <;> omega), by (simp +decide -implicitDefEqProofs only [go_sem, mpE_nil, Int.natCast_zero, List.replicate_zero, List.length_take, List.length_drop, AVal.own.injEq, reduceCtorEq, Int.reduceAdd] <;> omega)⟩
    · rintro ⟨loop4, ⟨⟩⟩ h
      try dsimp only at h ⊢
      unfold law05_GraphLater_j1 at h; try dsimp only at h
      refine AWP.seq ?_
      refine AWP.seq ?_
      refine AWP.region rfl ?_; intro K hK
      (try simp +decide -implicitDefEqProofs only [go_sem])
      refine hK _ _ ?_; clear hK K
      refine qthen_normal ?_
      refine AWP.cond (acond_split (fun hc => ?_) (fun hc => ?_))
      · replace h := bif_t h hc
        refine AWP.seq ?_
        refine AWP.region rfl ?_; intro K hK
        (try simp +decide -implicitDefEqProofs only [go_sem])
        refine aguardK_split (fun hc => ?_) (fun hc => ?_)
        · replace h := bif_t h hc
          (try simp +decide -implicitDefEqProofs only [go_sem, hc])
          refine aguardK_split (fun hc => ?_) (fun hc => ?_)
          · replace h := bif_t h hc
            (try simp +decide -implicitDefEqProofs only [go_sem, hc])
            intro hm
            refine hK _ _ ?_; clear hK K
            refine qthen_normal ?_
            refine AWP.ret ?_
            refine qthen_ret ?_
            obtain rfl := some_eq h
            simp +decide -implicitDefEqProofs only [go_sem, mpE_nil, Int.natCast_zero, List.replicate_zero, List.length_take, List.length_drop, AVal.own.injEq, reduceCtorEq, Int.reduceAdd, nle2, nle1, nle0, nleA, nleL, Try.results8]
          · replace h := bif_f h hc
            (try simp +decide -implicitDefEqProofs only [go_sem, hc, Bool.not_true])
            refine hK _ _ ?_; clear hK K
            refine qthen_normal ?_
            refine AWP.ret ?_
            refine qthen_ret ?_
            obtain rfl := some_eq h
            simp +decide -implicitDefEqProofs only [go_sem, mpE_nil, Int.natCast_zero, List.replicate_zero, List.length_take, List.length_drop, AVal.own.injEq, reduceCtorEq, Int.reduceAdd, nle2, nle1, nle0, nleA, nleL, Try.results8]
        · replace h := bif_f h hc
          (try simp +decide -implicitDefEqProofs only [go_sem, hc, Bool.not_true])
          refine hK _ _ ?_; clear hK K
          refine qthen_normal ?_
          refine AWP.ret ?_
          refine qthen_ret ?_
          obtain rfl := some_eq h
          simp +decide -implicitDefEqProofs only [go_sem, mpE_nil, Int.natCast_zero, List.replicate_zero, List.length_take, List.length_drop, AVal.own.injEq, reduceCtorEq, Int.reduceAdd, nle2, nle1, nle0, nleA, nleL, Try.results8]
      replace h := bif_f h hc
      refine AWP.skip ?_
      refine qthen_normal ?_
      refine AWP.seq ?_
      refine AWP.seq ?_
      refine AWP.region rfl ?_; intro K hK
      (try simp +decide -implicitDefEqProofs only [go_sem])
      refine aguardK_split (fun hc => ?_) (fun hc => ?_)
      · replace h := bif_f h hc
        (try simp +decide -implicitDefEqProofs only [go_sem, hc])
        intro hm
        intro hm
        refine hK _ _ ?_; clear hK K
        refine qthen_normal ?_
        refine AWP.cond (acond_split (fun hc => ?_) (fun hc => ?_))
        · replace h := bif_t h hc
          refine AWP.seq ?_
          refine AWP.region rfl ?_; intro K hK
          (try simp +decide -implicitDefEqProofs only [go_sem])
          refine hK _ _ ?_; clear hK K
          refine qthen_normal ?_
          refine AWP.ret ?_
          refine qthen_ret ?_
          obtain rfl := some_eq h
          simp +decide -implicitDefEqProofs only [go_sem, mpE_nil, Int.natCast_zero, List.replicate_zero, List.length_take, List.length_drop, AVal.own.injEq, reduceCtorEq, Int.reduceAdd, nle2, nle1, nle0, nleA, nleL, Try.results8]
        replace h := bif_f h hc
        refine AWP.skip ?_
        refine qthen_normal ?_
        refine AWP.seqJoin (ι := (Unit) × (Unit)) (fun zz => [(3, .sl 1 (y3.1.map intC))]) (fun zz => []) (fun zz => law05_GraphLater_j2 y3 = some r) (fun zz => ⟨rfl, rfl, rfl⟩) ?_ ?_
        · refine AWP.seq ?_
          refine AWP.region rfl ?_; intro K hK
          (try simp +decide -implicitDefEqProofs only [go_sem])
          refine hK _ _ ?_; clear hK K
          refine qthen_normal ?_
          refine AWP.block ?_
          obtain ⟨o9, hJ9, hO9⟩ := bindE h
          clear h
          refine AWP.loopW (ι := Nat × (Unit) × (Unit)) (fun zz => [(0, .sl 4 (l.map encApiEdge)), (3, .sl 1 (y3.1.map intC)), (7, .int .i64 ((zz.1 : Nat) : Int))]) (fun zz => []) (fun zz => zz.1 ≤ l.length ∧ forIx (law05_GraphLater_b4 y3) zz.1 ((l).drop zz.1) zz.2.1 = some o9) (fun zz => l.length - zz.1) (0, (), ()) ⟨Nat.zero_le _, hJ9⟩ (by (simp +decide -implicitDefEqProofs only [go_sem, mpE_nil, Int.natCast_zero, List.replicate_zero, List.length_take, List.length_drop, AVal.own.injEq, reduceCtorEq, Int.reduceAdd] <;> omega)) (by (simp +decide -implicitDefEqProofs only [go_sem, mpE_nil, Int.natCast_zero, List.replicate_zero, List.length_take, List.length_drop, AVal.own.injEq, reduceCtorEq, Int.reduceAdd] <;> omega)) (fun x => ⟨rfl, rfl, rfl⟩) ?_
          clear hJ9
          rintro ⟨k9, ⟨⟩, ⟨⟩⟩ ⟨hk9, hJ9⟩
          dsimp only at hk9 hJ9 ⊢
          refine AWP.seq ?_
          refine AWP.seq ?_
          refine AWP.region rfl ?_; intro K hK
          (try simp +decide -implicitDefEqProofs only [go_sem])
          intro hm
          refine hK _ _ ?_; clear hK K
          refine qthen_normal ?_
          refine AWP.cond (acond_split (fun hc => ?_) (fun hc => ?_))
          · have hlt9 : k9 < l.length := by have := of_decide_eq_true hc; omega
            obtain ⟨x_11, b9, hx9_, h, hJ9⟩ := for_cons hJ9 hlt9
            have hx9 := idxL_nat hx9_
            have hw9 : IntKind.i64.wrap (((k9 : Nat) : Int) + 1) = (((k9 : Nat) : Int) + (1 : Int)) := by rw [wrap_i64] <;> omega
            unfold law05_GraphLater_b4 at h; try dsimp only at h
            refine AWP.skip ?_
            refine qthen_normal ?_
            refine AWP.seq ?_
            refine AWP.block ?_
            refine AWP.seq ?_
            refine AWP.draw Try.mixed (by kernel_rfl) ?_; intro K hK
            (try simp +decide -implicitDefEqProofs only [go_sem])
            refine AIdx.of (f := encApiEdge) (l := l) hx9 ?_
            (try simp +decide -implicitDefEqProofs only [go_sem])
            obtain ⟨y12, hy12, h⟩ := bindE h
            refine DCall.pure Try.call26 (law05_place_spec y3.1 x_11.From hy12) rfl ?_
            (try simp +decide -implicitDefEqProofs only [go_sem])
            refine aguardK_split (fun hc => ?_) (fun hc => ?_)
            · replace h := bif_f h hc
              (try simp +decide -implicitDefEqProofs only [go_sem, hc])
              refine AIdx.of (f := encApiEdge) (l := l) hx9 ?_
              (try simp +decide -implicitDefEqProofs only [go_sem])
              obtain ⟨y13, hy13, h⟩ := bindE h
              refine DCall.pure Try.call26 (law05_place_spec y3.1 x_11.From hy13) rfl ?_
              (try simp +decide -implicitDefEqProofs only [go_sem])
              refine AIdx.of (f := encApiEdge) (l := l) hx9 ?_
              (try simp +decide -implicitDefEqProofs only [go_sem])
              obtain ⟨y14, hy14, h⟩ := bindE h
              refine DCall.pure Try.call26 (law05_place_spec y3.1 x_11.To hy14) rfl ?_
              (try simp +decide -implicitDefEqProofs only [go_sem])
              refine hK _ _ _ (by kernel_rfl) ?_; clear hK K
              refine qthen_normal ?_
              refine AWP.cond (acond_split (fun hc => ?_) (fun hc => ?_))
              · replace h := bif_t h hc
                refine AWP.seq ?_
                refine AWP.region rfl ?_; intro K hK
                (try simp +decide -implicitDefEqProofs only [go_sem])
                refine hK _ _ ?_; clear hK K
                refine qthen_normal ?_
                refine AWP.ret ?_
                refine qblock_ret ?_
                refine qthen_ret ?_
                refine qthen_ret ?_
                obtain rfl := some_eq h
                obtain rfl := cont_ret hJ9
                replace h := on_ret hO9
                refine qblock_ret ?_
                refine qthen_ret ?_
                obtain rfl := some_eq h
                simp +decide -implicitDefEqProofs only [go_sem, mpE_nil, Int.natCast_zero, List.replicate_zero, List.length_take, List.length_drop, AVal.own.injEq, reduceCtorEq, Int.reduceAdd, nle2, nle1, nle0, nleA, nleL, Try.results8]
              replace h := bif_f h hc
              refine AWP.skip ?_
              refine qblock_normal ?_
              refine qthen_normal ?_
              refine AWP.region rfl ?_; intro K hK
              (try simp +decide -implicitDefEqProofs only [go_sem])
              refine hK _ _ ?_; clear hK K
              refine qthen_normal ?_
              obtain rfl := some_eq h
              refine ⟨(k9 + 1, (), ()), ⟨by dsimp only; omega, cont_next hJ9⟩, by dsimp only; omega, ?_, ?_⟩
              · (simp +decide -implicitDefEqProofs only [go_sem, mpE_nil, Int.natCast_zero, List.replicate_zero, List.length_take, List.length_drop, AVal.own.injEq, reduceCtorEq, Int.reduceAdd, hw9] <;> omega)
              · (simp +decide -implicitDefEqProofs only [go_sem, mpE_nil, Int.natCast_zero, List.replicate_zero, List.length_take, List.length_drop, AVal.own.injEq, reduceCtorEq, Int.reduceAdd, hw9] <;> omega)
            · replace h := bif_t h hc
              (try simp +decide -implicitDefEqProofs only [go_sem, hc, Bool.not_false])
              refine hK _ _ _ (by kernel_rfl) ?_; clear hK K
              refine qthen_normal ?_
              refine AWP.cond (acond_true ?_)
              refine AWP.seq ?_
              refine AWP.region rfl ?_; intro K hK
              (try simp +decide -implicitDefEqProofs only [go_sem])
              refine hK _ _ ?_; clear hK K
              refine qthen_normal ?_
              refine AWP.ret ?_
              refine qblock_ret ?_
              refine qthen_ret ?_
              refine qthen_ret ?_
              obtain rfl := some_eq h
              obtain rfl := cont_ret hJ9
              replace h := on_ret hO9
              refine qblock_ret ?_
              refine qthen_ret ?_
              obtain rfl := some_eq h
              simp +decide -implicitDefEqProofs only [go_sem, mpE_nil, Int.natCast_zero, List.replicate_zero, List.length_take, List.length_drop, AVal.own.injEq, reduceCtorEq, Int.reduceAdd, nle2, nle1, nle0, nleA, nleL, Try.results8]
          · obtain rfl := for_nil hJ9 (fun hl => by have := of_decide_eq_false hc; omega)
            have h := on_next hO9; try dsimp only at h
            have hkl : l.length = k9 := by have := of_decide_eq_false hc; omega
            subst hkl
            refine AWP.exit ?_
            refine qthen_exit ?_
            refine qthen_exit ?_
            refine qblock_same ?_
            refine qthen_normal ?_
            exact ⟨((), ()), h, by (simp +decide -implicitDefEqProofs only [go_sem, mpE_nil, Int.natCast_zero, List.replicate_zero, List.length_take, List.length_drop, AVal.own.injEq, reduceCtorEq, Int.reduceAdd] <;> omega), by (simp +decide -implicitDefEqProofs only [go_sem, mpE_nil, Int.natCast_zero, List.replicate_zero, List.length_take, List.length_drop, AVal.own.injEq, reduceCtorEq, Int.reduceAdd] <;> omega)⟩
        · rintro ⟨⟨⟩, ⟨⟩⟩ h
          try dsimp only at h ⊢
          unfold law05_GraphLater_j2 at h; try dsimp only at h
          refine AWP.seq ?_
          refine AWP.seq ?_
          refine AWP.region rfl ?_; intro K hK
          (try simp +decide -implicitDefEqProofs only [go_sem])
          refine hK _ _ ?_; clear hK K
          refine qthen_normal ?_
          refine AWP.block ?_
          obtain ⟨o6, hJ6, hO6⟩ := bindE h
          clear h
          refine AWP.loopW (ι := Nat × (Unit) × (Unit)) (fun zz => [(3, .sl 1 (y3.1.map intC)), (8, .int .i64 ((zz.1 : Nat) : Int))]) (fun zz => []) (fun zz => zz.1 ≤ y3.1.length ∧ forIx (law05_GraphLater_b3 y3) zz.1 ((y3.1).drop zz.1) zz.2.1 = some o6) (fun zz => y3.1.length - zz.1) (0, (), ()) ⟨Nat.zero_le _, hJ6⟩ (by (simp +decide -implicitDefEqProofs only [go_sem, mpE_nil, Int.natCast_zero, List.replicate_zero, List.length_take, List.length_drop, AVal.own.injEq, reduceCtorEq, Int.reduceAdd] <;> omega)) (by (simp +decide -implicitDefEqProofs only [go_sem, mpE_nil, Int.natCast_zero, List.replicate_zero, List.length_take, List.length_drop, AVal.own.injEq, reduceCtorEq, Int.reduceAdd] <;> omega)) (fun x => ⟨rfl, rfl, rfl⟩) ?_
          clear hJ6
          rintro ⟨k6, ⟨⟩, ⟨⟩⟩ ⟨hk6, hJ6⟩
          dsimp only at hk6 hJ6 ⊢
          refine AWP.seq ?_
          refine AWP.seq ?_
          refine AWP.region rfl ?_; intro K hK
          (try simp +decide -implicitDefEqProofs only [go_sem])
          intro hm
          refine hK _ _ ?_; clear hK K
          refine qthen_normal ?_
          refine AWP.cond (acond_split (fun hc => ?_) (fun hc => ?_))
          · have hlt6 : k6 < y3.1.length := by have := of_decide_eq_true hc; omega
            obtain ⟨x_8, b6, hx6_, h, hJ6⟩ := for_cons hJ6 hlt6
            have hx6 := idxL_nat hx6_
            have hw6 : IntKind.i64.wrap (((k6 : Nat) : Int) + 1) = (((k6 : Nat) : Int) + (1 : Int)) := by rw [wrap_i64] <;> omega
            unfold law05_GraphLater_b3 at h; try dsimp only at h
            refine AWP.skip ?_
            refine qthen_normal ?_
            refine AWP.seq ?_
            refine AWP.block ?_
            refine AWP.seq ?_
            refine AWP.region rfl ?_; intro K hK
            (try simp +decide -implicitDefEqProofs only [go_sem])
            refine AIdx.of (f := intC) (l := y3.1) hx6 ?_
            (try simp +decide -implicitDefEqProofs only [go_sem])
            obtain ⟨y9, hy9, h⟩ := bindE h
            refine ACall.pure Try.call26 (law05_place_spec y3.1 x_8 hy9) rfl fun _ hr => ?_
            subst hr
            (try simp +decide -implicitDefEqProofs only [go_sem])
            refine hK _ _ ?_; clear hK K
            refine qthen_normal ?_
            refine AWP.cond (acond_split (fun hc => ?_) (fun hc => ?_))
            · replace h := bif_t h hc
              refine AWP.seq ?_
              refine AWP.region rfl ?_; intro K hK
              (try simp +decide -implicitDefEqProofs only [go_sem])
              refine hK _ _ ?_; clear hK K
              refine qthen_normal ?_
              refine AWP.ret ?_
              refine qblock_ret ?_
              refine qthen_ret ?_
              refine qthen_ret ?_
              obtain rfl := some_eq h
              obtain rfl := cont_ret hJ6
              replace h := on_ret hO6
              refine qblock_ret ?_
              refine qthen_ret ?_
              obtain rfl := some_eq h
              simp +decide -implicitDefEqProofs only [go_sem, mpE_nil, Int.natCast_zero, List.replicate_zero, List.length_take, List.length_drop, AVal.own.injEq, reduceCtorEq, Int.reduceAdd, nle2, nle1, nle0, nleA, nleL, Try.results8]
            replace h := bif_f h hc
            refine AWP.skip ?_
            refine qblock_normal ?_
            refine qthen_normal ?_
            refine AWP.region rfl ?_; intro K hK
            (try simp +decide -implicitDefEqProofs only [go_sem])
            refine hK _ _ ?_; clear hK K
            refine qthen_normal ?_
            obtain rfl := some_eq h
            refine ⟨(k6 + 1, (), ()), ⟨by dsimp only; omega, cont_next hJ6⟩, by dsimp only; omega, ?_, ?_⟩
            · (simp +decide -implicitDefEqProofs only [go_sem, mpE_nil, Int.natCast_zero, List.replicate_zero, List.length_take, List.length_drop, AVal.own.injEq, reduceCtorEq, Int.reduceAdd, hw6] <;> omega)
            · (simp +decide -implicitDefEqProofs only [go_sem, mpE_nil, Int.natCast_zero, List.replicate_zero, List.length_take, List.length_drop, AVal.own.injEq, reduceCtorEq, Int.reduceAdd, hw6] <;> omega)
          · obtain rfl := for_nil hJ6 (fun hl => by have := of_decide_eq_false hc; omega)
            have h := on_next hO6; try dsimp only at h
            have hkl : y3.1.length = k6 := by have := of_decide_eq_false hc; omega
            subst hkl
            refine AWP.exit ?_
            refine qthen_exit ?_
            refine qthen_exit ?_
            refine qblock_same ?_
            refine qthen_normal ?_
            refine AWP.seq ?_
            refine AWP.region rfl ?_; intro K hK
            (try simp +decide -implicitDefEqProofs only [go_sem])
            refine hK _ _ ?_; clear hK K
            refine qthen_normal ?_
            refine AWP.ret ?_
            obtain rfl := some_eq h
            simp +decide -implicitDefEqProofs only [go_sem, mpE_nil, Int.natCast_zero, List.replicate_zero, List.length_take, List.length_drop, AVal.own.injEq, reduceCtorEq, Int.reduceAdd, nle2, nle1, nle0, nleA, nleL, Try.results8]
      · replace h := bif_t h hc
        (try simp +decide -implicitDefEqProofs only [go_sem, hc, Bool.not_false])
        refine hK _ _ ?_; clear hK K
        refine qthen_normal ?_
        refine AWP.cond (acond_true ?_)
        refine AWP.seq ?_
        refine AWP.region rfl ?_; intro K hK
        (try simp +decide -implicitDefEqProofs only [go_sem])
        refine hK _ _ ?_; clear hK K
        refine qthen_normal ?_
        refine AWP.ret ?_
        refine qthen_ret ?_
        obtain rfl := some_eq h
        simp +decide -implicitDefEqProofs only [go_sem, mpE_nil, Int.natCast_zero, List.replicate_zero, List.length_take, List.length_drop, AVal.own.injEq, reduceCtorEq, Int.reduceAdd, nle2, nle1, nle0, nleA, nleL, Try.results8]
  · replace h := bif_t h hc
    (try simp +decide -implicitDefEqProofs only [go_sem, hc, Bool.not_false])
    refine hK _ _ ?_; clear hK K
    refine qthen_normal ?_
    refine AWP.cond (acond_true ?_)
    refine AWP.seq ?_
    refine AWP.region rfl ?_; intro K hK
    (try simp +decide -implicitDefEqProofs only [go_sem])
    refine hK _ _ ?_; clear hK K
    refine qthen_normal ?_
    refine AWP.ret ?_
    refine qthen_ret ?_
    obtain rfl := some_eq h
    simp +decide -implicitDefEqProofs only [go_sem, mpE_nil, Int.natCast_zero, List.replicate_zero, List.length_take, List.length_drop, AVal.own.injEq, reduceCtorEq, Int.reduceAdd, nle2, nle1, nle0, nleA, nleL, Try.results8]

def law05_GraphTurned_b3 (y13 : (List Int)) (k14 : Nat) (x_16 : Int) (sv : Unit) : Option (Out (Unit) (Bool)) :=
  (ref05_Has y13 x_16).bind fun y17 => (bif (!y17) then some (Out.ret false) else some (Out.next ()))

def law05_GraphTurned_j2 (y11 : (List Int)) (y13 : (List Int)) : Option (Bool) :=
  (forIx (law05_GraphTurned_b3 y13) 0 y11 ()).bind fun o14 => o14.on fun s14 => some true

def law05_GraphTurned_b4 (y11 : (List Int)) (y12 : (List Int)) (y13 : (List Int)) (k17 : Nat) (x_19 : Int) (sv : Unit) : Option (Out (Unit) (Bool)) :=
  (ref05_Has y11 x_19).bind fun y20 => (bif (!y20) then (ref05_Has y12 x_19).bind fun y21 => (bif (!y21) then some (Out.ret false) else (bif (decide ((0 : Int) < ((k17 : Nat) : Int))) then (idxL y13 (IntKind.i64.wrap (((k17 : Nat) : Int) - (1 : Int)))).bind fun x_22 => (bif (decide (x_19 ≤ x_22)) then some (Out.ret false) else some (Out.next ())) else some (Out.next ()))) else (bif (decide ((0 : Int) < ((k17 : Nat) : Int))) then (idxL y13 (IntKind.i64.wrap (((k17 : Nat) : Int) - (1 : Int)))).bind fun x_23 => (bif (decide (x_19 ≤ x_23)) then some (Out.ret false) else some (Out.next ())) else some (Out.next ())))

def law05_GraphTurned_j1 (l : List ApiEdge) (a : Int) (b : Int) (t3 : List ApiEdge) : Option (Bool) :=
  (graph_Shortest l a b).bind fun y6 => (graph_Shortest t3 b a).bind fun y7 => (bif (decide (y6.2.1 ≠ y7.2.1)) then some false else (bif (y6.2.2 != y7.2.2) then some false else (graph_Back l [a, b]).bind fun y8 => (graph_Reach t3 [b, a, b]).bind fun y9 => (ref05_Same y8 y9).bind fun y10 => (bif (!y10) then some false else (graph_Reach l [a]).bind fun y11 => (graph_Reach l [b]).bind fun y12 => (graph_Reach l [a, b]).bind fun y13 => (forIx (law05_GraphTurned_b4 y11 y12 y13) 0 y13 ()).bind fun o17 => o17.on fun s17 => law05_GraphTurned_j2 y11 y13)))

def law05_GraphTurned_b5 (k25 : Nat) (x_27 : ApiEdge) (sv : (List ApiEdge)) : Option (Out ((List ApiEdge)) (Bool)) :=
  chk (sv.length + 1) (some (Out.next (sv ++ [(ApiEdge.mk x_27.ID x_27.To x_27.From x_27.Cost)])))

def law05_GraphTurned (l : List ApiEdge) (a : Int) (b : Int) : Option (Bool) :=
  (law05_alive).bind fun y1 => (bif (!y1) then some false else (law05_right l).bind fun y2 => (bif (!y2) then some true else (forIx law05_GraphTurned_b5 0 l []).bind fun o25 => o25.on fun s25 => law05_GraphTurned_j1 l a b s25))

theorem law05_GraphTurned_spec (l : List ApiEdge) (a : Int) (b : Int) {r : Bool} (h : law05_GraphTurned l a b = some r) : PureFn Try.prog 9 [.sl 4 (l.map encApiEdge), .int .i64 a, .int .i64 b] (· = .bool r) := by
  refine PureFn.nle (PureFn.intro Try.func9 rfl rfl (by show _ ≤ 158; simp) ?_)
  unfold law05_GraphTurned at h
  (try simp +decide -implicitDefEqProofs only [go_sem])
  refine AWP.seq ?_
  refine AWP.region rfl ?_; intro K hK
  (try simp +decide -implicitDefEqProofs only [go_sem])
  refine hK _ _ ?_; clear hK K
  refine qthen_normal ?_
  refine AWP.seq ?_
  refine AWP.seq ?_
  refine AWP.region rfl ?_; intro K hK
  (try simp +decide -implicitDefEqProofs only [go_sem])
  obtain ⟨y1, hy1, h⟩ := bindE h
  refine ACall.pure Try.call11 (law05_alive_spec hy1) rfl fun _ hr => ?_
  subst hr
  (try simp +decide -implicitDefEqProofs only [go_sem])
  refine hK _ _ ?_; clear hK K
  refine qthen_normal ?_
  refine AWP.cond (acond_split (fun hc => ?_) (fun hc => ?_))
  · replace h := bif_t h hc
    refine AWP.seq ?_
    refine AWP.region rfl ?_; intro K hK
    (try simp +decide -implicitDefEqProofs only [go_sem])
    refine hK _ _ ?_; clear hK K
    refine qthen_normal ?_
    refine AWP.ret ?_
    refine qthen_ret ?_
    obtain rfl := some_eq h
    simp +decide -implicitDefEqProofs only [go_sem, mpE_nil, Int.natCast_zero, List.replicate_zero, List.length_take, List.length_drop, AVal.own.injEq, reduceCtorEq, Int.reduceAdd, nle2, nle1, nle0, nleA, nleL, Try.results9]
  replace h := bif_f h hc
  refine AWP.skip ?_
  refine qthen_normal ?_
  refine AWP.seq ?_
  refine AWP.seq ?_
  refine AWP.region rfl ?_; intro K hK
  (try simp +decide -implicitDefEqProofs only [go_sem])
  obtain ⟨y2, hy2, h⟩ := bindE h
  refine ACall.pure Try.call14 (law05_right_spec l hy2) rfl fun _ hr => ?_
  subst hr
  (try simp +decide -implicitDefEqProofs only [go_sem])
  refine hK _ _ ?_; clear hK K
  refine qthen_normal ?_
  refine AWP.cond (acond_split (fun hc => ?_) (fun hc => ?_))
  · replace h := bif_t h hc
    refine AWP.seq ?_
    refine AWP.region rfl ?_; intro K hK
    (try simp +decide -implicitDefEqProofs only [go_sem])
    refine hK _ _ ?_; clear hK K
    refine qthen_normal ?_
    refine AWP.ret ?_
    refine qthen_ret ?_
    obtain rfl := some_eq h
    simp +decide -implicitDefEqProofs only [go_sem, mpE_nil, Int.natCast_zero, List.replicate_zero, List.length_take, List.length_drop, AVal.own.injEq, reduceCtorEq, Int.reduceAdd, nle2, nle1, nle0, nleA, nleL, Try.results9]
  replace h := bif_f h hc
  refine AWP.skip ?_
  refine qthen_normal ?_
  refine AWP.seq ?_
  refine AWP.region rfl ?_; intro K hK
  (try simp +decide -implicitDefEqProofs only [go_sem])
  refine hK _ _ ?_; clear hK K
  refine qthen_normal ?_
  refine AWP.seqJoin (ι := ((List ApiEdge)) × (Nat)) (fun zz => [(0, .sl 4 (l.map encApiEdge)), (1, .int .i64 a), (2, .int .i64 b), (7, .own 0 zz.2 0 zz.1.length)]) (fun zz => [.row zz.2 4 (zz.1.map encApiEdge)]) (fun zz => law05_GraphTurned_j1 l a b zz.1 = some r) (fun zz => ⟨rfl, rfl, rfl⟩) ?_ ?_
  · refine AWP.seq ?_
    refine AWP.region rfl ?_; intro K hK
    (try simp +decide -implicitDefEqProofs only [go_sem])
    refine hK _ _ ?_; clear hK K
    refine qthen_normal ?_
    refine AWP.block ?_
    refine AWP.ghost 7 4 rfl (by decide) ?_
    obtain ⟨o25, hJ25, hO25⟩ := bindE h
    clear h
    refine AWP.loopW (ι := Nat × ((List ApiEdge)) × (Nat)) (fun zz => [(0, .sl 4 (l.map encApiEdge)), (1, .int .i64 a), (2, .int .i64 b), (7, .own 0 zz.2.2 0 zz.2.1.length), (8, .int .i64 ((zz.1 : Nat) : Int))]) (fun zz => [.row zz.2.2 4 (zz.2.1.map encApiEdge)]) (fun zz => zz.1 ≤ l.length ∧ forIx law05_GraphTurned_b5 zz.1 ((l).drop zz.1) zz.2.1 = some o25) (fun zz => l.length - zz.1) (0, [], 0) ⟨Nat.zero_le _, hJ25⟩ (by (simp +decide -implicitDefEqProofs only [go_sem, mpE_nil, Int.natCast_zero, List.replicate_zero, List.length_take, List.length_drop, AVal.own.injEq, reduceCtorEq, Int.reduceAdd] <;> omega)) (by (simp +decide -implicitDefEqProofs only [go_sem, mpE_nil, Int.natCast_zero, List.replicate_zero, List.length_take, List.length_drop, AVal.own.injEq, reduceCtorEq, Int.reduceAdd] <;> omega)) (fun x => ⟨rfl, rfl, rfl⟩) ?_
    clear hJ25
    rintro ⟨k25, t24, ver25⟩ ⟨hk25, hJ25⟩
    dsimp only at hk25 hJ25 ⊢
    refine AWP.seq ?_
    refine AWP.seq ?_
    refine AWP.region rfl ?_; intro K hK
    (try simp +decide -implicitDefEqProofs only [go_sem])
    intro hm
    refine hK _ _ ?_; clear hK K
    refine qthen_normal ?_
    refine AWP.cond (acond_split (fun hc => ?_) (fun hc => ?_))
    · have hlt25 : k25 < l.length := by have := of_decide_eq_true hc; omega
      obtain ⟨x_27, b25, hx25_, h, hJ25⟩ := for_cons hJ25 hlt25
      have hx25 := idxL_nat hx25_
      have hw25 : IntKind.i64.wrap (((k25 : Nat) : Int) + 1) = (((k25 : Nat) : Int) + (1 : Int)) := by rw [wrap_i64] <;> omega
      unfold law05_GraphTurned_b5 at h; try dsimp only at h
      refine AWP.skip ?_
      refine qthen_normal ?_
      refine AWP.seq ?_
      refine AWP.block ?_
      refine AWP.draw Try.mixed (by kernel_rfl) ?_; intro K hK
      (try simp +decide -implicitDefEqProofs only [go_sem])
      refine AIdx.of (f := encApiEdge) (l := l) hx25 ?_
      (try simp +decide -implicitDefEqProofs only [go_sem])
      refine AIdx.of (f := encApiEdge) (l := l) hx25 ?_
      (try simp +decide -implicitDefEqProofs only [go_sem])
      refine AIdx.of (f := encApiEdge) (l := l) hx25 ?_
      (try simp +decide -implicitDefEqProofs only [go_sem])
      refine AIdx.of (f := encApiEdge) (l := l) hx25 ?_
      (try simp +decide -implicitDefEqProofs only [go_sem])
      obtain ⟨hk, h⟩ := chk_in h
      (repeat (refine ⟨by first | omega | (simp only [List.length_take, List.length_drop, List.length_append]; omega), ?_⟩)); try simp +decide -implicitDefEqProofs only [go_sem]
      refine hK _ _ _ (by kernel_rfl) ?_; clear hK K
      refine qblock_normal ?_
      refine qthen_normal ?_
      refine AWP.region rfl ?_; intro K hK
      (try simp +decide -implicitDefEqProofs only [go_sem])
      refine hK _ _ ?_; clear hK K
      refine qthen_normal ?_
      obtain rfl := some_eq h
      refine ⟨(k25 + 1, (t24 ++ [(ApiEdge.mk x_27.ID x_27.To x_27.From x_27.Cost)]), (ver25 + 1)), ⟨by dsimp only; omega, cont_next hJ25⟩, by dsimp only; omega, ?_, ?_⟩
      · (simp +decide -implicitDefEqProofs only [go_sem, mpE_nil, Int.natCast_zero, List.replicate_zero, List.length_take, List.length_drop, AVal.own.injEq, reduceCtorEq, Int.reduceAdd, hw25] <;> omega)
      · (simp +decide -implicitDefEqProofs only [go_sem, mpE_nil, Int.natCast_zero, List.replicate_zero, List.length_take, List.length_drop, AVal.own.injEq, reduceCtorEq, Int.reduceAdd, hw25] <;> omega)
    · obtain rfl := for_nil hJ25 (fun hl => by have := of_decide_eq_false hc; omega)
      have h := on_next hO25; try dsimp only at h
      have hkl : l.length = k25 := by have := of_decide_eq_false hc; omega
      subst hkl
      refine AWP.exit ?_
      refine qthen_exit ?_
      refine qthen_exit ?_
      refine qblock_same ?_
      refine qthen_normal ?_
      exact ⟨(t24, ver25), h, by (simp +decide -implicitDefEqProofs only [go_sem, mpE_nil, Int.natCast_zero, List.replicate_zero, List.length_take, List.length_drop, AVal.own.injEq, reduceCtorEq, Int.reduceAdd] <;> omega), by (simp +decide -implicitDefEqProofs only [go_sem, mpE_nil, Int.natCast_zero, List.replicate_zero, List.length_take, List.length_drop, AVal.own.injEq, reduceCtorEq, Int.reduceAdd] <;> omega)⟩
  · rintro ⟨t3, ver4⟩ h
    try dsimp only at h ⊢
    unfold law05_GraphTurned_j1 at h; try dsimp only at h
    refine AWP.seq ?_
    refine AWP.region rfl ?_; intro K hK
    (try simp +decide -implicitDefEqProofs only [go_sem])
    obtain ⟨y6, hy6, h⟩ := bindE h
    refine ACall.pure Try.call22 (graph_Shortest_spec l a b hy6) rfl fun _ hr => ?_
    subst hr
    (try simp +decide -implicitDefEqProofs only [go_sem])
    refine hK _ _ ?_; clear hK K
    refine qthen_normal ?_
    refine AWP.seq ?_
    refine AWP.region rfl ?_; intro K hK
    (try simp +decide -implicitDefEqProofs only [go_sem])
    obtain ⟨y7, hy7, h⟩ := bindE h
    refine ACall.snapF Try.call22 (graph_Shortest_fresh t3 b a hy7) (by simp +decide -implicitDefEqProofs only [go_sem]) fun _ hr => ?_
    subst hr
    (try simp +decide -implicitDefEqProofs only [go_sem])
    refine hK _ _ ?_; clear hK K
    refine qthen_normal ?_
    refine AWP.seq ?_
    refine AWP.seq ?_
    refine AWP.region rfl ?_; intro K hK
    (try simp +decide -implicitDefEqProofs only [go_sem])
    refine aguardK_split (fun hc => ?_) (fun hc => ?_)
    · replace h := bif_f h hc
      (try simp +decide -implicitDefEqProofs only [go_sem, hc])
      refine aguardK_split (fun hc => ?_) (fun hc => ?_)
      · replace h := bif_f h hc
        (try simp +decide -implicitDefEqProofs only [go_sem, hc])
        obtain ⟨y8, hy8, h⟩ := bindE h
        refine ACall.freezeRow 1 rfl ?_
        (try simp +decide -implicitDefEqProofs only [go_sem])
        refine ACall.pure Try.call18 (graph_Back_spec l [a, b] hy8) rfl fun _ hr => ?_
        subst hr
        (try simp +decide -implicitDefEqProofs only [go_sem])
        obtain ⟨y9, hy9, h⟩ := bindE h
        refine ACall.snapF Try.call16 (graph_Reach_fresh t3 [b, a, b] hy9) (by simp +decide -implicitDefEqProofs only [go_sem]) fun _ hr => ?_
        subst hr
        (try simp +decide -implicitDefEqProofs only [go_sem])
        obtain ⟨y10, hy10, h⟩ := bindE h
        refine ACall.pure Try.call15 (ref05_Same_spec y8 y9 hy10) rfl fun _ hr => ?_
        subst hr
        (try simp +decide -implicitDefEqProofs only [go_sem])
        refine hK _ _ ?_; clear hK K
        refine qthen_normal ?_
        refine AWP.cond (acond_split (fun hc => ?_) (fun hc => ?_))
        · replace h := bif_t h hc
          refine AWP.seq ?_
          refine AWP.region rfl ?_; intro K hK
          (try simp +decide -implicitDefEqProofs only [go_sem])
          refine hK _ _ ?_; clear hK K
          refine qthen_normal ?_
          refine AWP.ret ?_
          refine qthen_ret ?_
          obtain rfl := some_eq h
          simp +decide -implicitDefEqProofs only [go_sem, mpE_nil, Int.natCast_zero, List.replicate_zero, List.length_take, List.length_drop, AVal.own.injEq, reduceCtorEq, Int.reduceAdd, nle2, nle1, nle0, nleA, nleL, Try.results9]
        replace h := bif_f h hc
        refine AWP.skip ?_
        refine qthen_normal ?_
        refine AWP.seq ?_
        refine AWP.region rfl ?_; intro K hK
        (try simp +decide -implicitDefEqProofs only [go_sem])
        obtain ⟨y11, hy11, h⟩ := bindE h
        refine ACall.snapF Try.call16 (graph_Reach_fresh l [a] hy11) (by simp +decide -implicitDefEqProofs only [go_sem]) fun _ hr => ?_
        subst hr
        (try simp +decide -implicitDefEqProofs only [go_sem])
        obtain ⟨y12, hy12, h⟩ := bindE h
        refine ACall.snapF Try.call16 (graph_Reach_fresh l [b] hy12) (by simp +decide -implicitDefEqProofs only [go_sem]) fun _ hr => ?_
        subst hr
        (try simp +decide -implicitDefEqProofs only [go_sem])
        obtain ⟨y13, hy13, h⟩ := bindE h
        refine ACall.snapF Try.call16 (graph_Reach_fresh l [a, b] hy13) (by simp +decide -implicitDefEqProofs only [go_sem]) fun _ hr => ?_
        subst hr
        (try simp +decide -implicitDefEqProofs only [go_sem])
        refine hK _ _ ?_; clear hK K
        refine qthen_normal ?_
        refine AWP.seqJoin (ι := (Unit) × (Unit)) (fun zz => [(15, .sl 1 (y11.map intC)), (17, .sl 1 (y13.map intC))]) (fun zz => []) (fun zz => law05_GraphTurned_j2 y11 y13 = some r) (fun zz => ⟨rfl, rfl, rfl⟩) ?_ ?_
        · refine AWP.seq ?_
          refine AWP.region rfl ?_; intro K hK
          (try simp +decide -implicitDefEqProofs only [go_sem])
          refine hK _ _ ?_; clear hK K
          refine qthen_normal ?_
          refine AWP.block ?_
          obtain ⟨o17, hJ17, hO17⟩ := bindE h
          clear h
          refine AWP.loopW (ι := Nat × (Unit) × (Unit)) (fun zz => [(15, .sl 1 (y11.map intC)), (16, .sl 1 (y12.map intC)), (17, .sl 1 (y13.map intC)), (18, .int .i64 ((zz.1 : Nat) : Int))]) (fun zz => []) (fun zz => zz.1 ≤ y13.length ∧ forIx (law05_GraphTurned_b4 y11 y12 y13) zz.1 ((y13).drop zz.1) zz.2.1 = some o17) (fun zz => y13.length - zz.1) (0, (), ()) ⟨Nat.zero_le _, hJ17⟩ (by (simp +decide -implicitDefEqProofs only [go_sem, mpE_nil, Int.natCast_zero, List.replicate_zero, List.length_take, List.length_drop, AVal.own.injEq, reduceCtorEq, Int.reduceAdd] <;> omega)) (by (simp +decide -implicitDefEqProofs only [go_sem, mpE_nil, Int.natCast_zero, List.replicate_zero, List.length_take, List.length_drop, AVal.own.injEq, reduceCtorEq, Int.reduceAdd] <;> omega)) (fun x => ⟨rfl, rfl, rfl⟩) ?_
          clear hJ17
          rintro ⟨k17, ⟨⟩, ⟨⟩⟩ ⟨hk17, hJ17⟩
          dsimp only at hk17 hJ17 ⊢
          refine AWP.seq ?_
          refine AWP.seq ?_
          refine AWP.region rfl ?_; intro K hK
          (try simp +decide -implicitDefEqProofs only [go_sem])
          intro hm
          refine hK _ _ ?_; clear hK K
          refine qthen_normal ?_
          refine AWP.cond (acond_split (fun hc => ?_) (fun hc => ?_))
          · have hlt17 : k17 < y13.length := by have := of_decide_eq_true hc; omega
            obtain ⟨x_19, b17, hx17_, h, hJ17⟩ := for_cons hJ17 hlt17
            have hx17 := idxL_nat hx17_
            have hw17 : IntKind.i64.wrap (((k17 : Nat) : Int) + 1) = (((k17 : Nat) : Int) + (1 : Int)) := by rw [wrap_i64] <;> omega
            unfold law05_GraphTurned_b4 at h; try dsimp only at h
            refine AWP.skip ?_
            refine qthen_normal ?_
            refine AWP.seq ?_
            refine AWP.block ?_
            refine AWP.seq ?_
            refine AWP.draw Try.mixed (by kernel_rfl) ?_; intro K hK
            (try simp +decide -implicitDefEqProofs only [go_sem])
            refine AIdx.of (f := intC) (l := y13) hx17 ?_
            (try simp +decide -implicitDefEqProofs only [go_sem])
            obtain ⟨y20, hy20, h⟩ := bindE h
            refine DCall.pure Try.call24 (ref05_Has_spec y11 x_19 hy20) rfl ?_
            (try simp +decide -implicitDefEqProofs only [go_sem])
            refine aguardK_split (fun hc => ?_) (fun hc => ?_)
            · replace h := bif_t h hc
              (try simp +decide -implicitDefEqProofs only [go_sem, hc])
              refine AIdx.of (f := intC) (l := y13) hx17 ?_
              (try simp +decide -implicitDefEqProofs only [go_sem])
              obtain ⟨y21, hy21, h⟩ := bindE h
              refine DCall.pure Try.call24 (ref05_Has_spec y12 x_19 hy21) rfl ?_
              (try simp +decide -implicitDefEqProofs only [go_sem])
              refine aguardK_split (fun hc => ?_) (fun hc => ?_)
              · replace h := bif_f h hc
                (try simp +decide -implicitDefEqProofs only [go_sem, hc])
                refine aguardK_split (fun hc => ?_) (fun hc => ?_)
                · replace h := bif_t h hc
                  (try simp +decide -implicitDefEqProofs only [go_sem, hc])
                  refine AIdx.of (f := intC) (l := y13) hx17 ?_
                  (try simp +decide -implicitDefEqProofs only [go_sem])
                  obtain ⟨x_22, hx_22, h⟩ := bindE h
                  refine AIdx.of (f := intC) (l := y13) hx_22 ?_
                  (try simp +decide -implicitDefEqProofs only [go_sem])
                  refine hK _ _ _ (by kernel_rfl) ?_; clear hK K
                  refine qthen_normal ?_
                  refine AWP.cond (acond_split (fun hc => ?_) (fun hc => ?_))
                  · replace h := bif_t h hc
                    refine AWP.seq ?_
                    refine AWP.region rfl ?_; intro K hK
                    (try simp +decide -implicitDefEqProofs only [go_sem])
                    refine hK _ _ ?_; clear hK K
                    refine qthen_normal ?_
                    refine AWP.ret ?_
                    refine qblock_ret ?_
                    refine qthen_ret ?_
                    refine qthen_ret ?_
                    obtain rfl := some_eq h
                    obtain rfl := cont_ret hJ17
                    replace h := on_ret hO17
                    refine qblock_ret ?_
                    refine qthen_ret ?_
                    obtain rfl := some_eq h
                    simp +decide -implicitDefEqProofs only [go_sem, mpE_nil, Int.natCast_zero, List.replicate_zero, List.length_take, List.length_drop, AVal.own.injEq, reduceCtorEq, Int.reduceAdd, nle2, nle1, nle0, nleA, nleL, Try.results9]
                  replace h := bif_f h hc
                  refine AWP.skip ?_
                  refine qblock_normal ?_
                  refine qthen_normal ?_
                  refine AWP.region rfl ?_; intro K hK
                  (try simp +decide -implicitDefEqProofs only [go_sem])
                  refine hK _ _ ?_; clear hK K
                  refine qthen_normal ?_
                  obtain rfl := some_eq h
                  refine ⟨(k17 + 1, (), ()), ⟨by dsimp only; omega, cont_next hJ17⟩, by dsimp only; omega, ?_, ?_⟩
                  · (simp +decide -implicitDefEqProofs only [go_sem, mpE_nil, Int.natCast_zero, List.replicate_zero, List.length_take, List.length_drop, AVal.own.injEq, reduceCtorEq, Int.reduceAdd, hw17] <;> omega)
                  · (simp +decide -implicitDefEqProofs only [go_sem, mpE_nil, Int.natCast_zero, List.replicate_zero, List.length_take, List.length_drop, AVal.own.injEq, reduceCtorEq, Int.reduceAdd, hw17] <;> omega)
                · replace h := bif_f h hc
                  (try simp +decide -implicitDefEqProofs only [go_sem, hc, Bool.not_true])
                  refine hK _ _ _ (by kernel_rfl) ?_; clear hK K
                  refine qthen_normal ?_
                  refine AWP.cond (acond_false ?_)
                  refine AWP.skip ?_
                  refine qblock_normal ?_
                  refine qthen_normal ?_
                  refine AWP.region rfl ?_; intro K hK
                  (try simp +decide -implicitDefEqProofs only [go_sem])
                  refine hK _ _ ?_; clear hK K
                  refine qthen_normal ?_
                  obtain rfl := some_eq h
                  refine ⟨(k17 + 1, (), ()), ⟨by dsimp only; omega, cont_next hJ17⟩, by dsimp only; omega, ?_, ?_⟩
                  · (simp +decide -implicitDefEqProofs only [go_sem, mpE_nil, Int.natCast_zero, List.replicate_zero, List.length_take, List.length_drop, AVal.own.injEq, reduceCtorEq, Int.reduceAdd, hw17] <;> omega)
                  · (simp +decide -implicitDefEqProofs only [go_sem, mpE_nil, Int.natCast_zero, List.replicate_zero, List.length_take, List.length_drop, AVal.own.injEq, reduceCtorEq, Int.reduceAdd, hw17] <;> omega)
              · replace h := bif_t h hc
                (try simp +decide -implicitDefEqProofs only [go_sem, hc, Bool.not_false])
                refine hK _ _ _ (by kernel_rfl) ?_; clear hK K
                refine qthen_normal ?_
                refine AWP.cond (acond_true ?_)
                refine AWP.seq ?_
                refine AWP.region rfl ?_; intro K hK
                (try simp +decide -implicitDefEqProofs only [go_sem])
                refine hK _ _ ?_; clear hK K
                refine qthen_normal ?_
                refine AWP.ret ?_
                refine qblock_ret ?_
                refine qthen_ret ?_
                refine qthen_ret ?_
                obtain rfl := some_eq h
                obtain rfl := cont_ret hJ17
                replace h := on_ret hO17
                refine qblock_ret ?_
                refine qthen_ret ?_
                obtain rfl := some_eq h
                simp +decide -implicitDefEqProofs only [go_sem, mpE_nil, Int.natCast_zero, List.replicate_zero, List.length_take, List.length_drop, AVal.own.injEq, reduceCtorEq, Int.reduceAdd, nle2, nle1, nle0, nleA, nleL, Try.results9]
            · replace h := bif_f h hc
              (try simp +decide -implicitDefEqProofs only [go_sem, hc, Bool.not_true])
              refine aguardK_split (fun hc => ?_) (fun hc => ?_)
              · replace h := bif_t h hc
                (try simp +decide -implicitDefEqProofs only [go_sem, hc])
                refine AIdx.of (f := intC) (l := y13) hx17 ?_
                (try simp +decide -implicitDefEqProofs only [go_sem])
                obtain ⟨x_23, hx_23, h⟩ := bindE h
                refine AIdx.of (f := intC) (l := y13) hx_23 ?_
                (try simp +decide -implicitDefEqProofs only [go_sem])
                refine hK _ _ _ (by kernel_rfl) ?_; clear hK K
                refine qthen_normal ?_
                refine AWP.cond (acond_split (fun hc => ?_) (fun hc => ?_))
                · replace h := bif_t h hc
                  refine AWP.seq ?_
                  refine AWP.region rfl ?_; intro K hK
                  (try simp +decide -implicitDefEqProofs only [go_sem])
                  refine hK _ _ ?_; clear hK K
                  refine qthen_normal ?_
                  refine AWP.ret ?_
                  refine qblock_ret ?_
                  refine qthen_ret ?_
                  refine qthen_ret ?_
                  obtain rfl := some_eq h
                  obtain rfl := cont_ret hJ17
                  replace h := on_ret hO17
                  refine qblock_ret ?_
                  refine qthen_ret ?_
                  obtain rfl := some_eq h
                  simp +decide -implicitDefEqProofs only [go_sem, mpE_nil, Int.natCast_zero, List.replicate_zero, List.length_take, List.length_drop, AVal.own.injEq, reduceCtorEq, Int.reduceAdd, nle2, nle1, nle0, nleA, nleL, Try.results9]
                replace h := bif_f h hc
                refine AWP.skip ?_
                refine qblock_normal ?_
                refine qthen_normal ?_
                refine AWP.region rfl ?_; intro K hK
                (try simp +decide -implicitDefEqProofs only [go_sem])
                refine hK _ _ ?_; clear hK K
                refine qthen_normal ?_
                obtain rfl := some_eq h
                refine ⟨(k17 + 1, (), ()), ⟨by dsimp only; omega, cont_next hJ17⟩, by dsimp only; omega, ?_, ?_⟩
                · (simp +decide -implicitDefEqProofs only [go_sem, mpE_nil, Int.natCast_zero, List.replicate_zero, List.length_take, List.length_drop, AVal.own.injEq, reduceCtorEq, Int.reduceAdd, hw17] <;> omega)
                · (simp +decide -implicitDefEqProofs only [go_sem, mpE_nil, Int.natCast_zero, List.replicate_zero, List.length_take, List.length_drop, AVal.own.injEq, reduceCtorEq, Int.reduceAdd, hw17] <;> omega)
              · replace h := bif_f h hc
                (try simp +decide -implicitDefEqProofs only [go_sem, hc, Bool.not_true])
                refine hK _ _ _ (by kernel_rfl) ?_; clear hK K
                refine qthen_normal ?_
                refine AWP.cond (acond_false ?_)
                refine AWP.skip ?_
                refine qblock_normal ?_
                refine qthen_normal ?_
                refine AWP.region rfl ?_; intro K hK
                (try simp +decide -implicitDefEqProofs only [go_sem])
                refine hK _ _ ?_; clear hK K
                refine qthen_normal ?_
                obtain rfl := some_eq h
                refine ⟨(k17 + 1, (), ()), ⟨by dsimp only; omega, cont_next hJ17⟩, by dsimp only; omega, ?_, ?_⟩
                · (simp +decide -implicitDefEqProofs only [go_sem, mpE_nil, Int.natCast_zero, List.replicate_zero, List.length_take, List.length_drop, AVal.own.injEq, reduceCtorEq, Int.reduceAdd, hw17] <;> omega)
                · (simp +decide -implicitDefEqProofs only [go_sem, mpE_nil, Int.natCast_zero, List.replicate_zero, List.length_take, List.length_drop, AVal.own.injEq, reduceCtorEq, Int.reduceAdd, hw17] <;> omega)
          · obtain rfl := for_nil hJ17 (fun hl => by have := of_decide_eq_false hc; omega)
            have h := on_next hO17; try dsimp only at h
            have hkl : y13.length = k17 := by have := of_decide_eq_false hc; omega
            subst hkl
            refine AWP.exit ?_
            refine qthen_exit ?_
            refine qthen_exit ?_
            refine qblock_same ?_
            refine qthen_normal ?_
            exact ⟨((), ()), h, by (simp +decide -implicitDefEqProofs only [go_sem, mpE_nil, Int.natCast_zero, List.replicate_zero, List.length_take, List.length_drop, AVal.own.injEq, reduceCtorEq, Int.reduceAdd] <;> omega), by (simp +decide -implicitDefEqProofs only [go_sem, mpE_nil, Int.natCast_zero, List.replicate_zero, List.length_take, List.length_drop, AVal.own.injEq, reduceCtorEq, Int.reduceAdd] <;> omega)⟩
        · rintro ⟨⟨⟩, ⟨⟩⟩ h
          try dsimp only at h ⊢
          unfold law05_GraphTurned_j2 at h; try dsimp only at h
          refine AWP.seq ?_
          refine AWP.seq ?_
          refine AWP.region rfl ?_; intro K hK
          (try simp +decide -implicitDefEqProofs only [go_sem])
          refine hK _ _ ?_; clear hK K
          refine qthen_normal ?_
          refine AWP.block ?_
          obtain ⟨o14, hJ14, hO14⟩ := bindE h
          clear h
          refine AWP.loopW (ι := Nat × (Unit) × (Unit)) (fun zz => [(15, .sl 1 (y11.map intC)), (17, .sl 1 (y13.map intC)), (19, .int .i64 ((zz.1 : Nat) : Int))]) (fun zz => []) (fun zz => zz.1 ≤ y11.length ∧ forIx (law05_GraphTurned_b3 y13) zz.1 ((y11).drop zz.1) zz.2.1 = some o14) (fun zz => y11.length - zz.1) (0, (), ()) ⟨Nat.zero_le _, hJ14⟩ (by (simp +decide -implicitDefEqProofs only [go_sem, mpE_nil, Int.natCast_zero, List.replicate_zero, List.length_take, List.length_drop, AVal.own.injEq, reduceCtorEq, Int.reduceAdd] <;> omega)) (by (simp +decide -implicitDefEqProofs only [go_sem, mpE_nil, Int.natCast_zero, List.replicate_zero, List.length_take, List.length_drop, AVal.own.injEq, reduceCtorEq, Int.reduceAdd] <;> omega)) (fun x => ⟨rfl, rfl, rfl⟩) ?_
          clear hJ14
          rintro ⟨k14, ⟨⟩, ⟨⟩⟩ ⟨hk14, hJ14⟩
          dsimp only at hk14 hJ14 ⊢
          refine AWP.seq ?_
          refine AWP.seq ?_
          refine AWP.region rfl ?_; intro K hK
          (try simp +decide -implicitDefEqProofs only [go_sem])
          intro hm
          refine hK _ _ ?_; clear hK K
          refine qthen_normal ?_
          refine AWP.cond (acond_split (fun hc => ?_) (fun hc => ?_))
          · have hlt14 : k14 < y11.length := by have := of_decide_eq_true hc; omega
            obtain ⟨x_16, b14, hx14_, h, hJ14⟩ := for_cons hJ14 hlt14
            have hx14 := idxL_nat hx14_
            have hw14 : IntKind.i64.wrap (((k14 : Nat) : Int) + 1) = (((k14 : Nat) : Int) + (1 : Int)) := by rw [wrap_i64] <;> omega
            unfold law05_GraphTurned_b3 at h; try dsimp only at h
            refine AWP.skip ?_
            refine qthen_normal ?_
            refine AWP.seq ?_
            refine AWP.block ?_
            refine AWP.seq ?_
            refine AWP.region rfl ?_; intro K hK
            (try simp +decide -implicitDefEqProofs only [go_sem])
            refine AIdx.of (f := intC) (l := y11) hx14 ?_
            (try simp +decide -implicitDefEqProofs only [go_sem])
            obtain ⟨y17, hy17, h⟩ := bindE h
            refine ACall.pure Try.call24 (ref05_Has_spec y13 x_16 hy17) rfl fun _ hr => ?_
            subst hr
            (try simp +decide -implicitDefEqProofs only [go_sem])
            refine hK _ _ ?_; clear hK K
            refine qthen_normal ?_
            refine AWP.cond (acond_split (fun hc => ?_) (fun hc => ?_))
            · replace h := bif_t h hc
              refine AWP.seq ?_
              refine AWP.region rfl ?_; intro K hK
              (try simp +decide -implicitDefEqProofs only [go_sem])
              refine hK _ _ ?_; clear hK K
              refine qthen_normal ?_
              refine AWP.ret ?_
              refine qblock_ret ?_
              refine qthen_ret ?_
              refine qthen_ret ?_
              obtain rfl := some_eq h
              obtain rfl := cont_ret hJ14
              replace h := on_ret hO14
              refine qblock_ret ?_
              refine qthen_ret ?_
              obtain rfl := some_eq h
              simp +decide -implicitDefEqProofs only [go_sem, mpE_nil, Int.natCast_zero, List.replicate_zero, List.length_take, List.length_drop, AVal.own.injEq, reduceCtorEq, Int.reduceAdd, nle2, nle1, nle0, nleA, nleL, Try.results9]
            replace h := bif_f h hc
            refine AWP.skip ?_
            refine qblock_normal ?_
            refine qthen_normal ?_
            refine AWP.region rfl ?_; intro K hK
            (try simp +decide -implicitDefEqProofs only [go_sem])
            refine hK _ _ ?_; clear hK K
            refine qthen_normal ?_
            obtain rfl := some_eq h
            refine ⟨(k14 + 1, (), ()), ⟨by dsimp only; omega, cont_next hJ14⟩, by dsimp only; omega, ?_, ?_⟩
            · (simp +decide -implicitDefEqProofs only [go_sem, mpE_nil, Int.natCast_zero, List.replicate_zero, List.length_take, List.length_drop, AVal.own.injEq, reduceCtorEq, Int.reduceAdd, hw14] <;> omega)
            · (simp +decide -implicitDefEqProofs only [go_sem, mpE_nil, Int.natCast_zero, List.replicate_zero, List.length_take, List.length_drop, AVal.own.injEq, reduceCtorEq, Int.reduceAdd, hw14] <;> omega)
          · obtain rfl := for_nil hJ14 (fun hl => by have := of_decide_eq_false hc; omega)
            have h := on_next hO14; try dsimp only at h
            have hkl : y11.length = k14 := by have := of_decide_eq_false hc; omega
            subst hkl
            refine AWP.exit ?_
            refine qthen_exit ?_
            refine qthen_exit ?_
            refine qblock_same ?_
            refine qthen_normal ?_
            refine AWP.seq ?_
            refine AWP.region rfl ?_; intro K hK
            (try simp +decide -implicitDefEqProofs only [go_sem])
            refine hK _ _ ?_; clear hK K
            refine qthen_normal ?_
            refine AWP.ret ?_
            obtain rfl := some_eq h
            simp +decide -implicitDefEqProofs only [go_sem, mpE_nil, Int.natCast_zero, List.replicate_zero, List.length_take, List.length_drop, AVal.own.injEq, reduceCtorEq, Int.reduceAdd, nle2, nle1, nle0, nleA, nleL, Try.results9]
      · replace h := bif_t h hc
        (try simp +decide -implicitDefEqProofs only [go_sem, hc, Bool.not_false])
        refine hK _ _ ?_; clear hK K
        refine qthen_normal ?_
        refine AWP.cond (acond_true ?_)
        refine AWP.seq ?_
        refine AWP.region rfl ?_; intro K hK
        (try simp +decide -implicitDefEqProofs only [go_sem])
        refine hK _ _ ?_; clear hK K
        refine qthen_normal ?_
        refine AWP.ret ?_
        refine qthen_ret ?_
        obtain rfl := some_eq h
        simp +decide -implicitDefEqProofs only [go_sem, mpE_nil, Int.natCast_zero, List.replicate_zero, List.length_take, List.length_drop, AVal.own.injEq, reduceCtorEq, Int.reduceAdd, nle2, nle1, nle0, nleA, nleL, Try.results9]
    · replace h := bif_t h hc
      (try simp +decide -implicitDefEqProofs only [go_sem, hc, Bool.not_false])
      refine hK _ _ ?_; clear hK K
      refine qthen_normal ?_
      refine AWP.cond (acond_true ?_)
      refine AWP.seq ?_
      refine AWP.region rfl ?_; intro K hK
      (try simp +decide -implicitDefEqProofs only [go_sem])
      refine hK _ _ ?_; clear hK K
      refine qthen_normal ?_
      refine AWP.ret ?_
      refine qthen_ret ?_
      obtain rfl := some_eq h
      simp +decide -implicitDefEqProofs only [go_sem, mpE_nil, Int.natCast_zero, List.replicate_zero, List.length_take, List.length_drop, AVal.own.injEq, reduceCtorEq, Int.reduceAdd, nle2, nle1, nle0, nleA, nleL, Try.results9]

end
end Go.Proofs.Ytabfjapdbelcoaa
