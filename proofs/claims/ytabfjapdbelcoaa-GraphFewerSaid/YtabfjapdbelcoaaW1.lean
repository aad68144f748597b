/-
  What functions of the program compute, as plain Lean functions, and the walks that prove it; printed by a small program of our own (wip/walk.py).
-/
import Derived.Test.YtabfjapdbelcoaaData
import Derived.Test.YtabfjapdbelcoaaLib
import Derived.Test.YtabfjapdbelcoaaSkZC
namespace Go.Proofs.Ytabfjapdbelcoaa
open Go Go.Ab
attribute [local irreducible] AWP ACall DCall PureFn Go.Ab.Sub alist dlist AIdx AElem ALook ANext
set_option maxRecDepth 100000
set_option maxHeartbeats 4000000
set_option linter.unusedSimpArgs false
set_option linter.unusedVariables false
noncomputable section
def law05_sample : Option ((List ApiEdge)) :=
  some [(ApiEdge.mk (11 : Int) (1 : Int) (2 : Int) (5 : Int)), (ApiEdge.mk (12 : Int) (2 : Int) (3 : Int) (5 : Int)), (ApiEdge.mk (13 : Int) (1 : Int) (3 : Int) (10 : Int)), (ApiEdge.mk (14 : Int) (3 : Int) (4 : Int) (1 : Int)), (ApiEdge.mk (15 : Int) (5 : Int) (1 : Int) (0 : Int))]

theorem law05_sample_fresh {r : (List ApiEdge)} (h : law05_sample = some r) : FreshFn Try.prog 30 [] (· = .sl 4 (r.map encApiEdge)) := by
  refine FreshFn.nle (FreshFn.intro Try.func30 rfl rfl (by show _ ≤ 7; simp) ?_)
  unfold law05_sample at h
  (try simp +decide -implicitDefEqProofs only [go_sem])
  refine AWP.seq ?_
  refine AWP.region rfl ?_; intro K hK
  (try simp +decide -implicitDefEqProofs only [go_sem])
  refine hK _ _ ?_; clear hK K
  refine qthen_normal ?_
  refine AWP.seq ?_
  refine AWP.region rfl ?_; intro K hK
  (try simp +decide -implicitDefEqProofs only [go_sem])
  refine hK _ _ ?_; clear hK K
  refine qthen_normal ?_
  refine AWP.ret ?_
  obtain rfl := some_eq h
  simp +decide -implicitDefEqProofs only [go_sem, mpE_nil, Int.natCast_zero, List.replicate_zero, List.length_take, List.length_drop, AVal.own.injEq, reduceCtorEq, Int.reduceAdd, nle2, nle1, nle0, nleA, nleL, Try.results30]
theorem law05_sample_spec {r : (List ApiEdge)} (h : law05_sample = some r) : PureFn Try.prog 30 [] (· = .sl 4 (r.map encApiEdge)) := (law05_sample_fresh h).pure

theorem law05_sample_own {r : (List ApiEdge)} (h : law05_sample = some r) : OwnRow Try.prog 30 [] 4 (r.map encApiEdge) := by
  refine OwnRow.of ?_
  refine OwnFn.weak (R := fun q H => ∃ v0 rest, q = .own 0 v0 0 (r.map encApiEdge).length ∧ H = .row v0 4 (r.map encApiEdge) :: rest) (OwnFn.intro Try.func30 rfl rfl (by show _ ≤ 7; simp) ?_) (fun q H hq => ?_)
  · unfold law05_sample at h
    (try simp +decide -implicitDefEqProofs only [go_sem])
    refine AWP.seq ?_
    refine AWP.region rfl ?_; intro K hK
    (try simp +decide -implicitDefEqProofs only [go_sem])
    refine hK _ _ ?_; clear hK K
    refine qthen_normal ?_
    refine AWP.seq ?_
    refine AWP.region rfl ?_; intro K hK
    (try simp +decide -implicitDefEqProofs only [go_sem])
    refine hK _ _ ?_; clear hK K
    refine qthen_normal ?_
    refine AWP.ret ?_
    obtain rfl := some_eq h
    (try simp +decide -implicitDefEqProofs only [go_sem, Try.results30])
    refine ⟨_, _, ?_, rfl⟩
    (try simp +decide -implicitDefEqProofs only [go_sem, List.length_map, List.length_append, List.length_cons, List.length_nil, List.length_set, List.length_replicate]); try rfl
  · obtain ⟨v0, rest, rfl, rfl⟩ := hq
    refine ⟨[.row v0 4 (r.map encApiEdge)], ?_, ?_, ?_, ⟨v0, rfl, rfl⟩⟩
    all_goals (simp +decide -implicitDefEqProofs only [go_sem, mpE_nil, Int.natCast_zero, List.replicate_zero, List.length_take, List.length_drop, AVal.own.injEq, reduceCtorEq, Int.reduceAdd] <;> omega)

def graph_free_b1 (p2 : Int × Int) (sv : Int × Bool) : Option (Out (Int × Bool) (Int × Bool)) :=
  (bif (decide (p2.2 = (0 : Int))) then (bif (!sv.2) then some (Out.next (p2.1, true)) else (bif (decide (p2.1 < sv.1)) then some (Out.next (p2.1, true)) else some (Out.next (sv.1, sv.2)))) else some (Out.next (sv.1, sv.2)))

def graph_free (waiting : List (Int × Int)) : Option (Int × Bool) :=
  (allPerm waiting fun ord => forE graph_free_b1 ord ((0 : Int), false)).bind fun o2 => o2.on fun s2 => some (s2.1, s2.2)

theorem graph_free_spec (waiting : List (Int × Int)) {r : Int × Bool} (h : graph_free waiting = some r) : PureFn Try.prog 38 [.vmap (mpE intV waiting)] (· = .tuple [.int .i64 r.1, .bool r.2]) := by
  refine PureFn.nle (PureFn.intro Try.func38 rfl rfl (by show _ ≤ 29; simp) ?_)
  unfold graph_free at h
  (try simp +decide -implicitDefEqProofs only [go_sem])
  refine AWP.seq ?_
  refine AWP.region rfl ?_; intro K hK
  (try simp +decide -implicitDefEqProofs only [go_sem])
  refine hK _ _ ?_; clear hK K
  refine qthen_normal ?_
  refine AWP.seq ?_
  refine AWP.region rfl ?_; intro K hK
  (try simp +decide -implicitDefEqProofs only [go_sem])
  refine hK _ _ ?_; clear hK K
  refine qthen_normal ?_
  refine AWP.seq ?_
  refine AWP.seq ?_
  refine AWP.region rfl ?_; intro K hK
  (try simp +decide -implicitDefEqProofs only [go_sem])
  refine hK _ _ ?_; clear hK K
  refine qthen_normal ?_
  refine AWP.block ?_
  obtain ⟨o2, hJ2, hO2⟩ := bindE h
  clear h
  replace hJ2 := allPerm_in hJ2
  refine AWP.loopW (ι := List (Int × Int) × (Int × Bool) × Option (Int × AVal) × (Unit)) (fun zz => [(4, .int .i64 zz.2.1.1), (5, .bool zz.2.1.2), (9, .iter 0)]) (fun zz => [.it (mpE intV zz.1) zz.2.2.1]) (fun zz => ∀ ord : List (Int × Int), ord.Perm zz.1 → forE graph_free_b1 ord zz.2.1 = some o2) (fun zz => zz.1.length) (waiting, ((0 : Int), false), none, ()) hJ2 (by (simp +decide -implicitDefEqProofs only [go_sem, mpE_nil, Int.natCast_zero, List.replicate_zero, List.length_take, List.length_drop, AVal.own.injEq, reduceCtorEq, Int.reduceAdd] <;> omega)) (by (simp +decide -implicitDefEqProofs only [go_sem, mpE_nil, Int.natCast_zero, List.replicate_zero, List.length_take, List.length_drop, AVal.own.injEq, reduceCtorEq, Int.reduceAdd] <;> omega)) (fun x => ⟨rfl, rfl, rfl⟩) ?_
  clear hJ2
  rintro ⟨left2, ⟨least1, found2⟩, cur2, ⟨⟩⟩ hJ2
  dsimp only at hJ2 ⊢
  refine AWP.seq ?_
  refine AWP.region rfl ?_; intro K hK
  (try simp +decide -implicitDefEqProofs only [go_sem])
  refine ANext.of (f := intV) (left := left2) (fun hl => ?_) (fun l1_2 p2 l2_2 hl => ?_)
  · subst hl
    obtain rfl := forE_nil (hJ2 _ (List.Perm.refl _))
    have h := on_next hO2; try dsimp only at h
    (try simp +decide -implicitDefEqProofs only [go_sem])
    refine hK _ _ ?_; clear hK K
    refine qthen_normal ?_
    refine AWP.seq ?_
    refine AWP.cond (acond_false ?_)
    refine AWP.exit ?_
    refine qthen_exit ?_
    refine qthen_exit ?_
    refine qblock_same ?_
    refine qthen_normal ?_
    refine AWP.seq ?_
    refine AWP.region rfl ?_; intro K hK
    (try simp +decide -implicitDefEqProofs only [go_sem])
    refine hK _ _ ?_; clear hK K
    refine qthen_normal ?_
    refine AWP.ret ?_
    obtain rfl := some_eq h
    simp +decide -implicitDefEqProofs only [go_sem, mpE_nil, Int.natCast_zero, List.replicate_zero, List.length_take, List.length_drop, AVal.own.injEq, reduceCtorEq, Int.reduceAdd, nle2, nle1, nle0, nleA, nleL, Try.results38]
  · subst hl
    obtain ⟨b2, h, hJ2⟩ := forE_pick hJ2
    unfold graph_free_b1 at h; try dsimp only at h
    (try simp +decide -implicitDefEqProofs only [go_sem])
    refine hK _ _ ?_; clear hK K
    refine qthen_normal ?_
    refine AWP.seq ?_
    refine AWP.cond (acond_true ?_)
    refine AWP.skip ?_
    refine qthen_normal ?_
    refine AWP.block ?_
    refine AWP.seq ?_
    refine AWP.region rfl ?_; intro K hK
    (try simp +decide -implicitDefEqProofs only [go_sem])
    refine hK _ _ ?_; clear hK K
    refine qthen_normal ?_
    refine AWP.seq ?_
    refine AWP.region rfl ?_; intro K hK
    (try simp +decide -implicitDefEqProofs only [go_sem])
    refine aguardK_split (fun hc => ?_) (fun hc => ?_)
    · replace h := bif_t h hc
      (try simp +decide -implicitDefEqProofs only [go_sem, hc])
      refine aguardK_split (fun hc => ?_) (fun hc => ?_)
      · replace h := bif_f h hc
        (try simp +decide -implicitDefEqProofs only [go_sem, hc])
        refine hK _ _ ?_; clear hK K
        refine qthen_normal ?_
        refine AWP.cond (acond_split (fun hc => ?_) (fun hc => ?_))
        · replace h := bif_t h hc
          refine AWP.region rfl ?_; intro K hK
          (try simp +decide -implicitDefEqProofs only [go_sem])
          refine hK _ _ ?_; clear hK K
          refine qblock_normal ?_
          refine qthen_normal ?_
          obtain rfl := some_eq h
          refine ⟨(l1_2 ++ l2_2, (p2.1, true), some (p2.1, intV p2.2), ()), fun ord ho => cont_next (hJ2 ord ho), by simp only [List.length_append, List.length_cons]; omega, ?_, ?_⟩
          · (simp +decide -implicitDefEqProofs only [go_sem, mpE_nil, Int.natCast_zero, List.replicate_zero, List.length_take, List.length_drop, AVal.own.injEq, reduceCtorEq, Int.reduceAdd] <;> omega)
          · (simp +decide -implicitDefEqProofs only [go_sem, mpE_nil, Int.natCast_zero, List.replicate_zero, List.length_take, List.length_drop, AVal.own.injEq, reduceCtorEq, Int.reduceAdd] <;> omega)
        replace h := bif_f h hc
        refine AWP.skip ?_
        refine qblock_normal ?_
        refine qthen_normal ?_
        obtain rfl := some_eq h
        refine ⟨(l1_2 ++ l2_2, (least1, found2), some (p2.1, intV p2.2), ()), fun ord ho => cont_next (hJ2 ord ho), by simp only [List.length_append, List.length_cons]; omega, ?_, ?_⟩
        · (simp +decide -implicitDefEqProofs only [go_sem, mpE_nil, Int.natCast_zero, List.replicate_zero, List.length_take, List.length_drop, AVal.own.injEq, reduceCtorEq, Int.reduceAdd] <;> omega)
        · (simp +decide -implicitDefEqProofs only [go_sem, mpE_nil, Int.natCast_zero, List.replicate_zero, List.length_take, List.length_drop, AVal.own.injEq, reduceCtorEq, Int.reduceAdd] <;> omega)
      · replace h := bif_t h hc
        (try simp +decide -implicitDefEqProofs only [go_sem, hc, Bool.not_false])
        refine hK _ _ ?_; clear hK K
        refine qthen_normal ?_
        refine AWP.cond (acond_true ?_)
        refine AWP.region rfl ?_; intro K hK
        (try simp +decide -implicitDefEqProofs only [go_sem])
        refine hK _ _ ?_; clear hK K
        refine qblock_normal ?_
        refine qthen_normal ?_
        obtain rfl := some_eq h
        refine ⟨(l1_2 ++ l2_2, (p2.1, true), some (p2.1, intV p2.2), ()), fun ord ho => cont_next (hJ2 ord ho), by simp only [List.length_append, List.length_cons]; omega, ?_, ?_⟩
        · (simp +decide -implicitDefEqProofs only [go_sem, mpE_nil, Int.natCast_zero, List.replicate_zero, List.length_take, List.length_drop, AVal.own.injEq, reduceCtorEq, Int.reduceAdd] <;> omega)
        · (simp +decide -implicitDefEqProofs only [go_sem, mpE_nil, Int.natCast_zero, List.replicate_zero, List.length_take, List.length_drop, AVal.own.injEq, reduceCtorEq, Int.reduceAdd] <;> omega)
    · replace h := bif_f h hc
      (try simp +decide -implicitDefEqProofs only [go_sem, hc, Bool.not_true])
      refine hK _ _ ?_; clear hK K
      refine qthen_normal ?_
      refine AWP.cond (acond_false ?_)
      refine AWP.skip ?_
      refine qblock_normal ?_
      refine qthen_normal ?_
      obtain rfl := some_eq h
      refine ⟨(l1_2 ++ l2_2, (least1, found2), some (p2.1, intV p2.2), ()), fun ord ho => cont_next (hJ2 ord ho), by simp only [List.length_append, List.length_cons]; omega, ?_, ?_⟩
      · (simp +decide -implicitDefEqProofs only [go_sem, mpE_nil, Int.natCast_zero, List.replicate_zero, List.length_take, List.length_drop, AVal.own.injEq, reduceCtorEq, Int.reduceAdd] <;> omega)
      · (simp +decide -implicitDefEqProofs only [go_sem, mpE_nil, Int.natCast_zero, List.replicate_zero, List.length_take, List.length_drop, AVal.own.injEq, reduceCtorEq, Int.reduceAdd] <;> omega)

def graph_Order_b3 (y7 : Int × Bool) (k8 : Nat) (x_10 : ApiEdge) (sv : (List (Int × Int))) : Option (Out ((List (Int × Int))) (Out ((List (Int × Int)) × (List Int)) ((List Int) × Int))) :=
  (bif (decide (x_10.From = y7.1)) then some (Out.next (mset sv x_10.To (IntKind.i64.wrap ((mget (0 : Int) sv x_10.To) - (1 : Int))))) else some (Out.next sv))

def graph_Order_b2 (l : List ApiEdge) (sv : (List (Int × Int)) × (List Int)) : Option (Out ((List (Int × Int)) × (List Int)) ((List Int) × Int)) :=
  (bif (decide ((0 : Int) < ((sv.1.length : Nat) : Int))) then (graph_free sv.1).bind fun y7 => (bif (!y7.2) then some (Out.ret ([], (16 : Int))) else chk (sv.2.length + 1) ((forIx (graph_Order_b3 y7) 0 l (mdel sv.1 y7.1)).bind fun o8 => o8.on fun s8 => some (Out.next (s8, (sv.2 ++ [y7.1]))))) else some (Out.ret (sv.2, (0 : Int))))

def graph_Order_j1 (l : List ApiEdge) (waiting1 : List (Int × Int)) : Option ((List Int) × Int) :=
  (whileN (graph_Order_b2 l) fuel (waiting1, [])).bind fun o5 => o5.on fun _ => none

def graph_Order_b4 (k11 : Nat) (x_13 : ApiEdge) (sv : (List (Int × Int))) : Option (Out ((List (Int × Int))) ((List Int) × Int)) :=
  some (Out.next (mset (mset sv x_13.From (IntKind.i64.wrap ((mget (0 : Int) sv x_13.From) + (0 : Int)))) x_13.To (IntKind.i64.wrap ((mget (0 : Int) (mset sv x_13.From (IntKind.i64.wrap ((mget (0 : Int) sv x_13.From) + (0 : Int)))) x_13.To) + (1 : Int)))))

def graph_Order (l : List ApiEdge) : Option ((List Int) × Int) :=
  (forIx graph_Order_b4 0 l []).bind fun o11 => o11.on fun s11 => graph_Order_j1 l s11

theorem graph_Order_fresh (l : List ApiEdge) {r : (List Int) × Int} (h : graph_Order l = some r) : FreshFn Try.prog 20 [.sl 4 (l.map encApiEdge)] (· = .tuple [.sl 1 (r.1.map intC), .int .i64 r.2]) := by
  refine FreshFn.nle (FreshFn.intro Try.func20 rfl rfl (by show _ ≤ 63; simp) ?_)
  unfold graph_Order at h
  (try simp +decide -implicitDefEqProofs only [go_sem])
  refine AWP.seq ?_
  refine AWP.region rfl ?_; intro K hK
  (try simp +decide -implicitDefEqProofs only [go_sem])
  refine hK _ _ ?_; clear hK K
  refine qthen_normal ?_
  refine AWP.seq ?_
  refine AWP.region rfl ?_; intro K hK
  (try simp +decide -implicitDefEqProofs only [go_sem])
  refine hK _ _ ?_; clear hK K
  refine qthen_normal ?_
  refine AWP.seqJoin (ι := ((List (Int × Int))) × (Unit)) (fun zz => [(0, .sl 4 (l.map encApiEdge)), (4, .map 0)]) (fun zz => [.mp (mpE intV zz.1)]) (fun zz => graph_Order_j1 l zz.1 = some r) (fun zz => ⟨rfl, rfl, rfl⟩) ?_ ?_
  · refine AWP.seq ?_
    refine AWP.region rfl ?_; intro K hK
    (try simp +decide -implicitDefEqProofs only [go_sem])
    intro hm
    refine hK _ _ ?_; clear hK K
    refine qthen_normal ?_
    refine AWP.block ?_
    obtain ⟨o11, hJ11, hO11⟩ := bindE h
    clear h
    refine AWP.loopW (ι := Nat × ((List (Int × Int))) × (Unit)) (fun zz => [(0, .sl 4 (l.map encApiEdge)), (4, .map 0), (13, .sl 4 (l.map encApiEdge)), (14, .int .i64 ((l.length : Nat) : Int)), (15, .int .i64 ((zz.1 : Nat) : Int))]) (fun zz => [.mp (mpE intV zz.2.1)]) (fun zz => zz.1 ≤ l.length ∧ forIx graph_Order_b4 zz.1 ((l).drop zz.1) zz.2.1 = some o11) (fun zz => l.length - zz.1) (0, [], ()) ⟨Nat.zero_le _, hJ11⟩ (by (simp +decide -implicitDefEqProofs only [go_sem, mpE_nil, Int.natCast_zero, List.replicate_zero, List.length_take, List.length_drop, AVal.own.injEq, reduceCtorEq, Int.reduceAdd] <;> omega)) (by (simp +decide -implicitDefEqProofs only [go_sem, mpE_nil, Int.natCast_zero, List.replicate_zero, List.length_take, List.length_drop, AVal.own.injEq, reduceCtorEq, Int.reduceAdd] <;> omega)) (fun x => ⟨rfl, rfl, rfl⟩) ?_
    clear hJ11
    rintro ⟨k11, waiting11, ⟨⟩⟩ ⟨hk11, hJ11⟩
    dsimp only at hk11 hJ11 ⊢
    refine AWP.seq ?_
    refine AWP.region rfl ?_; intro K hK
    (try simp +decide -implicitDefEqProofs only [go_sem])
    refine hK _ _ ?_; clear hK K
    refine qthen_normal ?_
    refine AWP.seq ?_
    refine AWP.cond (acond_split (fun hc => ?_) (fun hc => ?_))
    · have hlt11 : k11 < l.length := by have := of_decide_eq_true hc; omega
      obtain ⟨x_13, b11, hx11_, h, hJ11⟩ := for_cons hJ11 hlt11
      have hx11 := idxL_nat hx11_
      have hw11 : IntKind.i64.wrap (((k11 : Nat) : Int) + 1) = (((k11 : Nat) : Int) + (1 : Int)) := by rw [wrap_i64] <;> omega
      unfold graph_Order_b4 at h; try dsimp only at h
      refine AWP.skip ?_
      refine qthen_normal ?_
      refine AWP.seq ?_
      refine AWP.block ?_
      refine AWP.seq ?_
      refine AWP.region rfl ?_; intro K hK
      (try simp +decide -implicitDefEqProofs only [go_sem])
      refine AIdx.of (f := encApiEdge) (l := l) hx11 ?_
      (try simp +decide -implicitDefEqProofs only [go_sem])
      refine hK _ _ ?_; clear hK K
      refine qthen_normal ?_
      refine AWP.seq ?_
      refine AWP.region rfl ?_; intro K hK
      (try simp +decide -implicitDefEqProofs only [go_sem])
      refine ALook.of (f := intV) (m := waiting11) (d := (0 : Int)) rfl ?_
      (try simp +decide -implicitDefEqProofs only [go_sem])
      refine hK _ _ ?_; clear hK K
      refine qthen_normal ?_
      refine AWP.region rfl ?_; intro K hK
      (try simp +decide -implicitDefEqProofs only [go_sem])
      refine ALook.of (f := intV) (m := (mset waiting11 x_13.From (IntKind.i64.wrap ((mget (0 : Int) waiting11 x_13.From) + (0 : Int))))) (d := (0 : Int)) rfl ?_
      (try simp +decide -implicitDefEqProofs only [go_sem])
      refine hK _ _ ?_; clear hK K
      refine qblock_normal ?_
      refine qthen_normal ?_
      refine AWP.region rfl ?_; intro K hK
      (try simp +decide -implicitDefEqProofs only [go_sem])
      refine hK _ _ ?_; clear hK K
      refine qthen_normal ?_
      obtain rfl := some_eq h
      refine ⟨(k11 + 1, (mset (mset waiting11 x_13.From (IntKind.i64.wrap ((mget (0 : Int) waiting11 x_13.From) + (0 : Int)))) x_13.To (IntKind.i64.wrap ((mget (0 : Int) (mset waiting11 x_13.From (IntKind.i64.wrap ((mget (0 : Int) waiting11 x_13.From) + (0 : Int)))) x_13.To) + (1 : Int)))), ()), ⟨by dsimp only; omega, cont_next hJ11⟩, by dsimp only; omega, ?_, ?_⟩
      · (simp +decide -implicitDefEqProofs only [go_sem, mpE_nil, Int.natCast_zero, List.replicate_zero, List.length_take, List.length_drop, AVal.own.injEq, reduceCtorEq, Int.reduceAdd, hw11] <;> omega)
      · (simp +decide -implicitDefEqProofs only [go_sem, mpE_nil, Int.natCast_zero, List.replicate_zero, List.length_take, List.length_drop, AVal.own.injEq, reduceCtorEq, Int.reduceAdd, hw11] <;> omega)
    · obtain rfl := for_nil hJ11 (fun hl => by have := of_decide_eq_false hc; omega)
      have h := on_next hO11; try dsimp only at h
      have hkl : l.length = k11 := by have := of_decide_eq_false hc; omega
      subst hkl
      refine AWP.exit ?_
      refine qthen_exit ?_
      refine qthen_exit ?_
      refine qblock_same ?_
      refine qthen_normal ?_
      exact ⟨(waiting11, ()), h, by (simp +decide -implicitDefEqProofs only [go_sem, mpE_nil, Int.natCast_zero, List.replicate_zero, List.length_take, List.length_drop, AVal.own.injEq, reduceCtorEq, Int.reduceAdd] <;> omega), by (simp +decide -implicitDefEqProofs only [go_sem, mpE_nil, Int.natCast_zero, List.replicate_zero, List.length_take, List.length_drop, AVal.own.injEq, reduceCtorEq, Int.reduceAdd] <;> omega)⟩
  · rintro ⟨waiting1, ⟨⟩⟩ h
    try dsimp only at h ⊢
    unfold graph_Order_j1 at h; try dsimp only at h
    refine AWP.seq ?_
    refine AWP.region rfl ?_; intro K hK
    (try simp +decide -implicitDefEqProofs only [go_sem])
    refine hK _ _ ?_; clear hK K
    refine qthen_normal ?_
    refine AWP.seq ?_
    refine AWP.block ?_
    refine AWP.ghost 7 1 rfl (by decide) ?_
    obtain ⟨o5, hJ5, hO5⟩ := bindE h
    clear h
    refine AWP.loopW (ι := Nat × ((List (Int × Int)) × (List Int)) × (Nat)) (fun zz => [(0, .sl 4 (l.map encApiEdge)), (4, .map 0), (7, .own 1 zz.2.2 0 zz.2.1.2.length)]) (fun zz => [.mp (mpE intV zz.2.1.1), .row zz.2.2 1 (zz.2.1.2.map intC)]) (fun zz => whileN (graph_Order_b2 l) zz.1 zz.2.1 = some o5) (fun zz => zz.1) (fuel, (waiting1, []), 0) hJ5 (by (simp +decide -implicitDefEqProofs only [go_sem, mpE_nil, Int.natCast_zero, List.replicate_zero, List.length_take, List.length_drop, AVal.own.injEq, reduceCtorEq, Int.reduceAdd] <;> omega)) (by (simp +decide -implicitDefEqProofs only [go_sem, mpE_nil, Int.natCast_zero, List.replicate_zero, List.length_take, List.length_drop, AVal.own.injEq, reduceCtorEq, Int.reduceAdd] <;> omega)) (fun x => ⟨rfl, rfl, rfl⟩) ?_
    clear hJ5
    rintro ⟨n5, ⟨waiting3, out4⟩, ver5⟩ hJ5
    dsimp only at hJ5 ⊢
    obtain ⟨m5, b5, rfl, h, hJ5⟩ := while_step hJ5
    unfold graph_Order_b2 at h; try dsimp only at h
    refine AWP.seq ?_
    refine AWP.seq ?_
    refine AWP.region rfl ?_; intro K hK
    (try simp +decide -implicitDefEqProofs only [go_sem])
    refine hK _ _ ?_; clear hK K
    refine qthen_normal ?_
    refine AWP.cond (acond_split (fun hc => ?_) (fun hc => ?_))
    · replace h := bif_t h hc
      refine AWP.skip ?_
      refine qthen_normal ?_
      refine AWP.block ?_
      refine AWP.seq ?_
      refine AWP.region rfl ?_; intro K hK
      (try simp +decide -implicitDefEqProofs only [go_sem])
      obtain ⟨y7, hy7, h⟩ := bindE h
      refine ACall.snap Try.call38 (graph_free_spec waiting3 hy7) (by simp +decide -implicitDefEqProofs only [go_sem]) (by rintro _ rfl; rfl) fun _ hr => ?_
      subst hr
      (try simp +decide -implicitDefEqProofs only [go_sem])
      refine hK _ _ ?_; clear hK K
      refine qthen_normal ?_
      refine AWP.seq ?_
      refine AWP.seq ?_
      refine AWP.region rfl ?_; intro K hK
      (try simp +decide -implicitDefEqProofs only [go_sem])
      refine hK _ _ ?_; clear hK K
      refine qthen_normal ?_
      refine AWP.cond (acond_split (fun hc => ?_) (fun hc => ?_))
      · replace h := bif_t h hc
        refine AWP.seq ?_
        refine AWP.region rfl ?_; intro K hK
        (try simp +decide -implicitDefEqProofs only [go_sem])
        refine hK _ _ ?_; clear hK K
        refine qthen_normal ?_
        refine AWP.ret ?_
        refine qthen_ret ?_
        refine qblock_ret ?_
        refine qthen_ret ?_
        obtain rfl := some_eq h
        obtain rfl := cont_ret hJ5
        replace h := on_ret hO5
        refine qblock_ret ?_
        refine qthen_ret ?_
        obtain rfl := some_eq h
        simp +decide -implicitDefEqProofs only [go_sem, mpE_nil, Int.natCast_zero, List.replicate_zero, List.length_take, List.length_drop, AVal.own.injEq, reduceCtorEq, Int.reduceAdd, nle2, nle1, nle0, nleA, nleL, Try.results20]
      replace h := bif_f h hc
      refine AWP.skip ?_
      refine qthen_normal ?_
      refine AWP.seq ?_
      refine AWP.region rfl ?_; intro K hK
      (try simp +decide -implicitDefEqProofs only [go_sem])
      refine hK _ _ ?_; clear hK K
      refine qthen_normal ?_
      refine AWP.seq ?_
      refine AWP.region rfl ?_; intro K hK
      (try simp +decide -implicitDefEqProofs only [go_sem])
      obtain ⟨hk, h⟩ := chk_in h
      (repeat (refine ⟨by first | omega | (simp only [List.length_take, List.length_drop, List.length_append]; omega), ?_⟩)); try simp +decide -implicitDefEqProofs only [go_sem]
      refine hK _ _ ?_; clear hK K
      refine qthen_normal ?_
      refine AWP.seq ?_
      refine AWP.region rfl ?_; intro K hK
      (try simp +decide -implicitDefEqProofs only [go_sem])
      intro hm
      refine hK _ _ ?_; clear hK K
      refine qthen_normal ?_
      refine AWP.block ?_
      obtain ⟨o8, hJ8, hO8⟩ := bindE h
      clear h
      refine AWP.loopW (ι := Nat × ((List (Int × Int))) × (Unit)) (fun zz => [(0, .sl 4 (l.map encApiEdge)), (4, .map 0), (7, .own 1 (ver5 + 1) 0 (out4.length + 1)), (8, .int .i64 y7.1), (46, .sl 4 (l.map encApiEdge)), (47, .int .i64 ((l.length : Nat) : Int)), (48, .int .i64 ((zz.1 : Nat) : Int))]) (fun zz => [.mp (mpE intV zz.2.1), .row (ver5 + 1) 1 ((out4 ++ [y7.1]).map intC)]) (fun zz => zz.1 ≤ l.length ∧ forIx (graph_Order_b3 y7) zz.1 ((l).drop zz.1) zz.2.1 = some o8) (fun zz => l.length - zz.1) (0, (mdel waiting3 y7.1), ()) ⟨Nat.zero_le _, hJ8⟩ (by (simp +decide -implicitDefEqProofs only [go_sem, mpE_nil, Int.natCast_zero, List.replicate_zero, List.length_take, List.length_drop, AVal.own.injEq, reduceCtorEq, Int.reduceAdd] <;> omega)) (by (simp +decide -implicitDefEqProofs only [go_sem, mpE_nil, Int.natCast_zero, List.replicate_zero, List.length_take, List.length_drop, AVal.own.injEq, reduceCtorEq, Int.reduceAdd] <;> omega)) (fun x => ⟨rfl, rfl, rfl⟩) ?_
      clear hJ8
      rintro ⟨k8, waiting8, ⟨⟩⟩ ⟨hk8, hJ8⟩
      dsimp only at hk8 hJ8 ⊢
      refine AWP.seq ?_
      refine AWP.region rfl ?_; intro K hK
      (try simp +decide -implicitDefEqProofs only [go_sem])
      refine hK _ _ ?_; clear hK K
      refine qthen_normal ?_
      refine AWP.seq ?_
      refine AWP.cond (acond_split (fun hc => ?_) (fun hc => ?_))
      · have hlt8 : k8 < l.length := by have := of_decide_eq_true hc; omega
        obtain ⟨x_10, b8, hx8_, h, hJ8⟩ := for_cons hJ8 hlt8
        have hx8 := idxL_nat hx8_
        have hw8 : IntKind.i64.wrap (((k8 : Nat) : Int) + 1) = (((k8 : Nat) : Int) + (1 : Int)) := by rw [wrap_i64] <;> omega
        unfold graph_Order_b3 at h; try dsimp only at h
        refine AWP.skip ?_
        refine qthen_normal ?_
        refine AWP.seq ?_
        refine AWP.block ?_
        refine AWP.seq ?_
        refine AWP.region rfl ?_; intro K hK
        (try simp +decide -implicitDefEqProofs only [go_sem])
        refine AIdx.of (f := encApiEdge) (l := l) hx8 ?_
        (try simp +decide -implicitDefEqProofs only [go_sem])
        refine hK _ _ ?_; clear hK K
        refine qthen_normal ?_
        refine AWP.seq ?_
        refine AWP.region rfl ?_; intro K hK
        (try simp +decide -implicitDefEqProofs only [go_sem])
        refine hK _ _ ?_; clear hK K
        refine qthen_normal ?_
        refine AWP.cond (acond_split (fun hc => ?_) (fun hc => ?_))
        · replace h := bif_t h hc
          refine AWP.region rfl ?_; intro K hK
          (try simp +decide -implicitDefEqProofs only [go_sem])
          refine ALook.of (f := intV) (m := waiting8) (d := (0 : Int)) rfl ?_
          (try simp +decide -implicitDefEqProofs only [go_sem])
          refine hK _ _ ?_; clear hK K
          refine qblock_normal ?_
          refine qthen_normal ?_
          refine AWP.region rfl ?_; intro K hK
          (try simp +decide -implicitDefEqProofs only [go_sem])
          refine hK _ _ ?_; clear hK K
          refine qthen_normal ?_
          obtain rfl := some_eq h
          refine ⟨(k8 + 1, (mset waiting8 x_10.To (IntKind.i64.wrap ((mget (0 : Int) waiting8 x_10.To) - (1 : Int)))), ()), ⟨by dsimp only; omega, cont_next hJ8⟩, by dsimp only; omega, ?_, ?_⟩
          · (simp +decide -implicitDefEqProofs only [go_sem, mpE_nil, Int.natCast_zero, List.replicate_zero, List.length_take, List.length_drop, AVal.own.injEq, reduceCtorEq, Int.reduceAdd, hw8] <;> omega)
          · (simp +decide -implicitDefEqProofs only [go_sem, mpE_nil, Int.natCast_zero, List.replicate_zero, List.length_take, List.length_drop, AVal.own.injEq, reduceCtorEq, Int.reduceAdd, hw8] <;> omega)
        replace h := bif_f h hc
        refine AWP.skip ?_
        refine qblock_normal ?_
        refine qthen_normal ?_
        refine AWP.region rfl ?_; intro K hK
        (try simp +decide -implicitDefEqProofs only [go_sem])
        refine hK _ _ ?_; clear hK K
        refine qthen_normal ?_
        obtain rfl := some_eq h
        refine ⟨(k8 + 1, waiting8, ()), ⟨by dsimp only; omega, cont_next hJ8⟩, by dsimp only; omega, ?_, ?_⟩
        · (simp +decide -implicitDefEqProofs only [go_sem, mpE_nil, Int.natCast_zero, List.replicate_zero, List.length_take, List.length_drop, AVal.own.injEq, reduceCtorEq, Int.reduceAdd, hw8] <;> omega)
        · (simp +decide -implicitDefEqProofs only [go_sem, mpE_nil, Int.natCast_zero, List.replicate_zero, List.length_take, List.length_drop, AVal.own.injEq, reduceCtorEq, Int.reduceAdd, hw8] <;> omega)
      · obtain rfl := for_nil hJ8 (fun hl => by have := of_decide_eq_false hc; omega)
        have h := on_next hO8; try dsimp only at h
        have hkl : l.length = k8 := by have := of_decide_eq_false hc; omega
        subst hkl
        refine AWP.exit ?_
        refine qthen_exit ?_
        refine qthen_exit ?_
        refine qblock_same ?_
        refine qblock_normal ?_
        refine qthen_normal ?_
        obtain rfl := some_eq h
        refine ⟨(m5, (waiting8, (out4 ++ [y7.1])), (ver5 + 1)), cont_next hJ5, by dsimp only; omega, ?_, ?_⟩
        · (simp +decide -implicitDefEqProofs only [go_sem, mpE_nil, Int.natCast_zero, List.replicate_zero, List.length_take, List.length_drop, AVal.own.injEq, reduceCtorEq, Int.reduceAdd] <;> omega)
        · (simp +decide -implicitDefEqProofs only [go_sem, mpE_nil, Int.natCast_zero, List.replicate_zero, List.length_take, List.length_drop, AVal.own.injEq, reduceCtorEq, Int.reduceAdd] <;> omega)
    replace h := bif_f h hc
    refine AWP.exit ?_
    refine qthen_exit ?_
    refine qthen_exit ?_
    obtain rfl := some_eq h
    obtain rfl := cont_ret hJ5
    replace h := on_ret hO5
    refine qblock_same ?_
    refine qthen_normal ?_
    refine AWP.seq ?_
    refine AWP.region rfl ?_; intro K hK
    (try simp +decide -implicitDefEqProofs only [go_sem])
    refine hK _ _ ?_; clear hK K
    refine qthen_normal ?_
    refine AWP.ret ?_
    obtain rfl := some_eq h
    simp +decide -implicitDefEqProofs only [go_sem, mpE_nil, Int.natCast_zero, List.replicate_zero, List.length_take, List.length_drop, AVal.own.injEq, reduceCtorEq, Int.reduceAdd, nle2, nle1, nle0, nleA, nleL, Try.results20]
theorem graph_Order_spec (l : List ApiEdge) {r : (List Int) × Int} (h : graph_Order l = some r) : PureFn Try.prog 20 [.sl 4 (l.map encApiEdge)] (· = .tuple [.sl 1 (r.1.map intC), .int .i64 r.2]) := (graph_Order_fresh l h).pure

def graph_less (a : GraphLength) (b : GraphLength) : Option (Bool) :=
  (bif (decide (a.cost < b.cost)) then some true else (bif (decide (a.cost = b.cost)) then some (decide (a.edges < b.edges)) else some false))

theorem graph_less_spec (a : GraphLength) (b : GraphLength) {r : Bool} (h : graph_less a b = some r) : PureFn Try.prog 51 [.agg (encGraphLength a), .agg (encGraphLength b)] (· = .bool r) := by
  refine PureFn.nle (PureFn.intro Try.func51 rfl rfl (by show _ ≤ 24; simp) ?_)
  unfold graph_less at h
  (try simp +decide -implicitDefEqProofs only [go_sem])
  refine AWP.seq ?_
  refine AWP.region rfl ?_; intro K hK
  (try simp +decide -implicitDefEqProofs only [go_sem])
  refine hK _ _ ?_; clear hK K
  refine qthen_normal ?_
  refine AWP.seq ?_
  refine AWP.region rfl ?_; intro K hK
  (try simp +decide -implicitDefEqProofs only [go_sem])
  refine aguardK_split (fun hc => ?_) (fun hc => ?_)
  · replace h := bif_f h hc
    (try simp +decide -implicitDefEqProofs only [go_sem, hc])
    refine aguardK_split (fun hc => ?_) (fun hc => ?_)
    · replace h := bif_t h hc
      (try simp +decide -implicitDefEqProofs only [go_sem, hc])
      refine hK _ _ ?_; clear hK K
      refine qthen_normal ?_
      refine AWP.ret ?_
      obtain rfl := some_eq h
      simp +decide -implicitDefEqProofs only [go_sem, mpE_nil, Int.natCast_zero, List.replicate_zero, List.length_take, List.length_drop, AVal.own.injEq, reduceCtorEq, Int.reduceAdd, nle2, nle1, nle0, nleA, nleL, Try.results51]
    · replace h := bif_f h hc
      (try simp +decide -implicitDefEqProofs only [go_sem, hc, Bool.not_true])
      refine hK _ _ ?_; clear hK K
      refine qthen_normal ?_
      refine AWP.ret ?_
      obtain rfl := some_eq h
      simp +decide -implicitDefEqProofs only [go_sem, mpE_nil, Int.natCast_zero, List.replicate_zero, List.length_take, List.length_drop, AVal.own.injEq, reduceCtorEq, Int.reduceAdd, nle2, nle1, nle0, nleA, nleL, Try.results51]
  · replace h := bif_t h hc
    (try simp +decide -implicitDefEqProofs only [go_sem, hc, Bool.not_false])
    refine hK _ _ ?_; clear hK K
    refine qthen_normal ?_
    refine AWP.ret ?_
    obtain rfl := some_eq h
    simp +decide -implicitDefEqProofs only [go_sem, mpE_nil, Int.natCast_zero, List.replicate_zero, List.length_take, List.length_drop, AVal.own.injEq, reduceCtorEq, Int.reduceAdd, nle2, nle1, nle0, nleA, nleL, Try.results51]

def graph_lengths_b2 (k5 : Nat) (x_7 : ApiEdge) (sv : Bool × (List (Int × GraphLength))) : Option (Out (Bool × (List (Int × GraphLength))) (Out ((List (Int × GraphLength))) ((List (Int × GraphLength))))) :=
  (bif (!(mhas sv.2 x_7.To)) then some (Out.next (sv.1, sv.2)) else (bif (!(mhas sv.2 x_7.From)) then some (Out.next (true, (mset sv.2 x_7.From (GraphLength.mk (IntKind.i64.wrap ((mget (GraphLength.mk (0 : Int) (0 : Int)) sv.2 x_7.To).cost + x_7.Cost)) (IntKind.i64.wrap ((mget (GraphLength.mk (0 : Int) (0 : Int)) sv.2 x_7.To).edges + (1 : Int))))))) else (graph_less (GraphLength.mk (IntKind.i64.wrap ((mget (GraphLength.mk (0 : Int) (0 : Int)) sv.2 x_7.To).cost + x_7.Cost)) (IntKind.i64.wrap ((mget (GraphLength.mk (0 : Int) (0 : Int)) sv.2 x_7.To).edges + (1 : Int)))) (mget (GraphLength.mk (0 : Int) (0 : Int)) sv.2 x_7.From)).bind fun y8 => (bif y8 then some (Out.next (true, (mset sv.2 x_7.From (GraphLength.mk (IntKind.i64.wrap ((mget (GraphLength.mk (0 : Int) (0 : Int)) sv.2 x_7.To).cost + x_7.Cost)) (IntKind.i64.wrap ((mget (GraphLength.mk (0 : Int) (0 : Int)) sv.2 x_7.To).edges + (1 : Int))))))) else some (Out.next (sv.1, sv.2)))))

def graph_lengths_b1 (l : List ApiEdge) (k1 : Nat) (x_3 : ApiEdge) (sv : (List (Int × GraphLength))) : Option (Out ((List (Int × GraphLength))) ((List (Int × GraphLength)))) :=
  (forIx graph_lengths_b2 0 l (false, sv)).bind fun o5 => o5.on fun s5 => (bif (!s5.1) then some (Out.ret s5.2) else some (Out.next s5.2))

def graph_lengths (l : List ApiEdge) (to_ : Int) : Option ((List (Int × GraphLength))) :=
  (forIx (graph_lengths_b1 l) 0 l (mset [] to_ (GraphLength.mk (0 : Int) (0 : Int)))).bind fun o1 => o1.on fun s1 => some s1

theorem graph_lengths_spec (l : List ApiEdge) (to_ : Int) {r : (List (Int × GraphLength))} (h : graph_lengths l to_ = some r) : PureFn Try.prog 41 [.sl 4 (l.map encApiEdge), .int .i64 to_] (· = .vmap (mpE encGraphLengthV r)) := by
  refine PureFn.nle (PureFn.intro Try.func41 rfl rfl (by show _ ≤ 68; simp) ?_)
  unfold graph_lengths at h
  (try simp +decide -implicitDefEqProofs only [go_sem, encGraphLengthV_set0])
  refine AWP.seq ?_
  refine AWP.region rfl ?_; intro K hK
  (try simp +decide -implicitDefEqProofs only [go_sem, encGraphLengthV_set0])
  refine hK _ _ ?_; clear hK K
  refine qthen_normal ?_
  refine AWP.seq ?_
  refine AWP.region rfl ?_; intro K hK
  (try simp +decide -implicitDefEqProofs only [go_sem, encGraphLengthV_set0])
  refine hK _ _ ?_; clear hK K
  refine qthen_normal ?_
  refine AWP.seq ?_
  refine AWP.seq ?_
  refine AWP.region rfl ?_; intro K hK
  (try simp +decide -implicitDefEqProofs only [go_sem, encGraphLengthV_set0])
  intro hm
  refine hK _ _ ?_; clear hK K
  refine qthen_normal ?_
  refine AWP.block ?_
  obtain ⟨o1, hJ1, hO1⟩ := bindE h
  clear h
  refine AWP.loopW (ι := Nat × ((List (Int × GraphLength))) × (Unit)) (fun zz => [(0, .sl 4 (l.map encApiEdge)), (5, .map 0), (18, .int .i64 ((l.length : Nat) : Int)), (19, .int .i64 ((zz.1 : Nat) : Int))]) (fun zz => [.mp (mpE encGraphLengthV zz.2.1)]) (fun zz => zz.1 ≤ l.length ∧ forIx (graph_lengths_b1 l) zz.1 ((l).drop zz.1) zz.2.1 = some o1) (fun zz => l.length - zz.1) (0, (mset [] to_ (GraphLength.mk (0 : Int) (0 : Int))), ()) ⟨Nat.zero_le _, hJ1⟩ (by (simp +decide -implicitDefEqProofs only [go_sem, mpE_nil, Int.natCast_zero, List.replicate_zero, List.length_take, List.length_drop, AVal.own.injEq, reduceCtorEq, Int.reduceAdd, encGraphLengthV_set0] <;> omega)) (by (simp +decide -implicitDefEqProofs only [go_sem, mpE_nil, Int.natCast_zero, List.replicate_zero, List.length_take, List.length_drop, AVal.own.injEq, reduceCtorEq, Int.reduceAdd, encGraphLengthV_set0] <;> omega)) (fun x => ⟨rfl, rfl, rfl⟩) ?_
  clear hJ1
  rintro ⟨k1, out1, ⟨⟩⟩ ⟨hk1, hJ1⟩
  dsimp only at hk1 hJ1 ⊢
  refine AWP.seq ?_
  refine AWP.region rfl ?_; intro K hK
  (try simp +decide -implicitDefEqProofs only [go_sem, encGraphLengthV_set0])
  refine hK _ _ ?_; clear hK K
  refine qthen_normal ?_
  refine AWP.seq ?_
  refine AWP.cond (acond_split (fun hc => ?_) (fun hc => ?_))
  · have hlt1 : k1 < l.length := by have := of_decide_eq_true hc; omega
    obtain ⟨x_3, b1, hx1_, h, hJ1⟩ := for_cons hJ1 hlt1
    have hx1 := idxL_nat hx1_
    have hw1 : IntKind.i64.wrap (((k1 : Nat) : Int) + 1) = (((k1 : Nat) : Int) + (1 : Int)) := by rw [wrap_i64] <;> omega
    unfold graph_lengths_b1 at h; try dsimp only at h
    refine AWP.skip ?_
    refine qthen_normal ?_
    refine AWP.seq ?_
    refine AWP.block ?_
    refine AWP.seq ?_
    refine AWP.region rfl ?_; intro K hK
    (try simp +decide -implicitDefEqProofs only [go_sem, encGraphLengthV_set0])
    refine hK _ _ ?_; clear hK K
    refine qthen_normal ?_
    refine AWP.seq ?_
    refine AWP.seq ?_
    refine AWP.region rfl ?_; intro K hK
    (try simp +decide -implicitDefEqProofs only [go_sem, encGraphLengthV_set0])
    intro hm
    refine hK _ _ ?_; clear hK K
    refine qthen_normal ?_
    refine AWP.block ?_
    obtain ⟨o5, hJ5, hO5⟩ := bindE h
    clear h
    refine AWP.loopW (ι := Nat × (Bool × (List (Int × GraphLength))) × (Unit)) (fun zz => [(0, .sl 4 (l.map encApiEdge)), (5, .map 0), (6, .bool zz.2.1.1), (18, .int .i64 ((l.length : Nat) : Int)), (19, .int .i64 ((k1 : Nat) : Int)), (21, .sl 4 (l.map encApiEdge)), (22, .int .i64 ((l.length : Nat) : Int)), (23, .int .i64 ((zz.1 : Nat) : Int))]) (fun zz => [.mp (mpE encGraphLengthV zz.2.1.2)]) (fun zz => zz.1 ≤ l.length ∧ forIx graph_lengths_b2 zz.1 ((l).drop zz.1) zz.2.1 = some o5) (fun zz => l.length - zz.1) (0, (false, out1), ()) ⟨Nat.zero_le _, hJ5⟩ (by (simp +decide -implicitDefEqProofs only [go_sem, mpE_nil, Int.natCast_zero, List.replicate_zero, List.length_take, List.length_drop, AVal.own.injEq, reduceCtorEq, Int.reduceAdd, encGraphLengthV_set0] <;> omega)) (by (simp +decide -implicitDefEqProofs only [go_sem, mpE_nil, Int.natCast_zero, List.replicate_zero, List.length_take, List.length_drop, AVal.own.injEq, reduceCtorEq, Int.reduceAdd, encGraphLengthV_set0] <;> omega)) (fun x => ⟨rfl, rfl, rfl⟩) ?_
    clear hJ5
    rintro ⟨k5, ⟨changed4, out5⟩, ⟨⟩⟩ ⟨hk5, hJ5⟩
    dsimp only at hk5 hJ5 ⊢
    refine AWP.seq ?_
    refine AWP.region rfl ?_; intro K hK
    (try simp +decide -implicitDefEqProofs only [go_sem, encGraphLengthV_set0])
    refine hK _ _ ?_; clear hK K
    refine qthen_normal ?_
    refine AWP.seq ?_
    refine AWP.cond (acond_split (fun hc => ?_) (fun hc => ?_))
    · have hlt5 : k5 < l.length := by have := of_decide_eq_true hc; omega
      obtain ⟨x_7, b5, hx5_, h, hJ5⟩ := for_cons hJ5 hlt5
      have hx5 := idxL_nat hx5_
      have hw5 : IntKind.i64.wrap (((k5 : Nat) : Int) + 1) = (((k5 : Nat) : Int) + (1 : Int)) := by rw [wrap_i64] <;> omega
      unfold graph_lengths_b2 at h; try dsimp only at h
      refine AWP.skip ?_
      refine qthen_normal ?_
      refine AWP.seq ?_
      refine AWP.block ?_
      refine AWP.seq ?_
      refine AWP.region rfl ?_; intro K hK
      (try simp +decide -implicitDefEqProofs only [go_sem, encGraphLengthV_set0])
      refine AIdx.of (f := encApiEdge) (l := l) hx5 ?_
      (try simp +decide -implicitDefEqProofs only [go_sem, encGraphLengthV_set0])
      refine hK _ _ ?_; clear hK K
      refine qthen_normal ?_
      refine AWP.seq ?_
      refine AWP.region rfl ?_; intro K hK
      (try simp +decide -implicitDefEqProofs only [go_sem, encGraphLengthV_set0])
      refine ALook.of (f := encGraphLengthV) (m := out5) (d := (GraphLength.mk (0 : Int) (0 : Int))) rfl ?_
      (try simp +decide -implicitDefEqProofs only [go_sem, encGraphLengthV_set0])
      refine hK _ _ ?_; clear hK K
      refine qthen_normal ?_
      refine AWP.seq ?_
      refine AWP.seq ?_
      refine AWP.region rfl ?_; intro K hK
      (try simp +decide -implicitDefEqProofs only [go_sem, encGraphLengthV_set0])
      refine hK _ _ ?_; clear hK K
      refine qthen_normal ?_
      refine AWP.cond (acond_split (fun hc => ?_) (fun hc => ?_))
      · replace h := bif_t h hc
        refine AWP.exit ?_
        refine qthen_exit ?_
        refine qblock_same ?_
        refine qthen_normal ?_
        refine AWP.region rfl ?_; intro K hK
        (try simp +decide -implicitDefEqProofs only [go_sem, encGraphLengthV_set0])
        refine hK _ _ ?_; clear hK K
        refine qthen_normal ?_
        obtain rfl := some_eq h
        refine ⟨(k5 + 1, (changed4, out5), ()), ⟨by dsimp only; omega, cont_next hJ5⟩, by dsimp only; omega, ?_, ?_⟩
        · (simp +decide -implicitDefEqProofs only [go_sem, mpE_nil, Int.natCast_zero, List.replicate_zero, List.length_take, List.length_drop, AVal.own.injEq, reduceCtorEq, Int.reduceAdd, hw5, encGraphLengthV_set0] <;> omega)
        · (simp +decide -implicitDefEqProofs only [go_sem, mpE_nil, Int.natCast_zero, List.replicate_zero, List.length_take, List.length_drop, AVal.own.injEq, reduceCtorEq, Int.reduceAdd, hw5, encGraphLengthV_set0] <;> omega)
      replace h := bif_f h hc
      refine AWP.skip ?_
      refine qthen_normal ?_
      refine AWP.seq ?_
      refine AWP.region rfl ?_; intro K hK
      (try simp +decide -implicitDefEqProofs only [go_sem, encGraphLengthV_set0])
      refine hK _ _ ?_; clear hK K
      refine qthen_normal ?_
      refine AWP.seq ?_
      refine AWP.region rfl ?_; intro K hK
      (try simp +decide -implicitDefEqProofs only [go_sem, encGraphLengthV_set0])
      refine ALook.of (f := encGraphLengthV) (m := out5) (d := (GraphLength.mk (0 : Int) (0 : Int))) rfl ?_
      (try simp +decide -implicitDefEqProofs only [go_sem, encGraphLengthV_set0])
      refine hK _ _ ?_; clear hK K
      refine qthen_normal ?_
      refine AWP.seq ?_
      refine AWP.region rfl ?_; intro K hK
      (try simp +decide -implicitDefEqProofs only [go_sem, encGraphLengthV_set0])
      refine aguardK_split (fun hc => ?_) (fun hc => ?_)
      · replace h := bif_f h hc
        (try simp +decide -implicitDefEqProofs only [go_sem, hc, encGraphLengthV_set0])
        obtain ⟨y8, hy8, h⟩ := bindE h
        refine ACall.pure Try.call51 (graph_less_spec (GraphLength.mk (IntKind.i64.wrap ((mget (GraphLength.mk (0 : Int) (0 : Int)) out5 x_7.To).cost + x_7.Cost)) (IntKind.i64.wrap ((mget (GraphLength.mk (0 : Int) (0 : Int)) out5 x_7.To).edges + (1 : Int)))) (mget (GraphLength.mk (0 : Int) (0 : Int)) out5 x_7.From) hy8) rfl fun _ hr => ?_
        subst hr
        (try simp +decide -implicitDefEqProofs only [go_sem, encGraphLengthV_set0])
        refine hK _ _ ?_; clear hK K
        refine qthen_normal ?_
        refine AWP.cond (acond_split (fun hc => ?_) (fun hc => ?_))
        · replace h := bif_t h hc
          refine AWP.seq ?_
          refine AWP.region rfl ?_; intro K hK
          (try simp +decide -implicitDefEqProofs only [go_sem, encGraphLengthV_set0])
          refine hK _ _ ?_; clear hK K
          refine qthen_normal ?_
          refine AWP.region rfl ?_; intro K hK
          (try simp +decide -implicitDefEqProofs only [go_sem, encGraphLengthV_set0])
          refine hK _ _ ?_; clear hK K
          refine qblock_normal ?_
          refine qthen_normal ?_
          refine AWP.region rfl ?_; intro K hK
          (try simp +decide -implicitDefEqProofs only [go_sem, encGraphLengthV_set0])
          refine hK _ _ ?_; clear hK K
          refine qthen_normal ?_
          obtain rfl := some_eq h
          refine ⟨(k5 + 1, (true, (mset out5 x_7.From (GraphLength.mk (IntKind.i64.wrap ((mget (GraphLength.mk (0 : Int) (0 : Int)) out5 x_7.To).cost + x_7.Cost)) (IntKind.i64.wrap ((mget (GraphLength.mk (0 : Int) (0 : Int)) out5 x_7.To).edges + (1 : Int)))))), ()), ⟨by dsimp only; omega, cont_next hJ5⟩, by dsimp only; omega, ?_, ?_⟩
          · (simp +decide -implicitDefEqProofs only [go_sem, mpE_nil, Int.natCast_zero, List.replicate_zero, List.length_take, List.length_drop, AVal.own.injEq, reduceCtorEq, Int.reduceAdd, hw5, encGraphLengthV_set0] <;> omega)
          · (simp +decide -implicitDefEqProofs only [go_sem, mpE_nil, Int.natCast_zero, List.replicate_zero, List.length_take, List.length_drop, AVal.own.injEq, reduceCtorEq, Int.reduceAdd, hw5, encGraphLengthV_set0] <;> omega)
        replace h := bif_f h hc
        refine AWP.skip ?_
        refine qblock_normal ?_
        refine qthen_normal ?_
        refine AWP.region rfl ?_; intro K hK
        (try simp +decide -implicitDefEqProofs only [go_sem, encGraphLengthV_set0])
        refine hK _ _ ?_; clear hK K
        refine qthen_normal ?_
        obtain rfl := some_eq h
        refine ⟨(k5 + 1, (changed4, out5), ()), ⟨by dsimp only; omega, cont_next hJ5⟩, by dsimp only; omega, ?_, ?_⟩
        · (simp +decide -implicitDefEqProofs only [go_sem, mpE_nil, Int.natCast_zero, List.replicate_zero, List.length_take, List.length_drop, AVal.own.injEq, reduceCtorEq, Int.reduceAdd, hw5, encGraphLengthV_set0] <;> omega)
        · (simp +decide -implicitDefEqProofs only [go_sem, mpE_nil, Int.natCast_zero, List.replicate_zero, List.length_take, List.length_drop, AVal.own.injEq, reduceCtorEq, Int.reduceAdd, hw5, encGraphLengthV_set0] <;> omega)
      · replace h := bif_t h hc
        (try simp +decide -implicitDefEqProofs only [go_sem, hc, Bool.not_false, encGraphLengthV_set0])
        refine hK _ _ ?_; clear hK K
        refine qthen_normal ?_
        refine AWP.cond (acond_true ?_)
        refine AWP.seq ?_
        refine AWP.region rfl ?_; intro K hK
        (try simp +decide -implicitDefEqProofs only [go_sem, encGraphLengthV_set0])
        refine hK _ _ ?_; clear hK K
        refine qthen_normal ?_
        refine AWP.region rfl ?_; intro K hK
        (try simp +decide -implicitDefEqProofs only [go_sem, encGraphLengthV_set0])
        refine hK _ _ ?_; clear hK K
        refine qblock_normal ?_
        refine qthen_normal ?_
        refine AWP.region rfl ?_; intro K hK
        (try simp +decide -implicitDefEqProofs only [go_sem, encGraphLengthV_set0])
        refine hK _ _ ?_; clear hK K
        refine qthen_normal ?_
        obtain rfl := some_eq h
        refine ⟨(k5 + 1, (true, (mset out5 x_7.From (GraphLength.mk (IntKind.i64.wrap ((mget (GraphLength.mk (0 : Int) (0 : Int)) out5 x_7.To).cost + x_7.Cost)) (IntKind.i64.wrap ((mget (GraphLength.mk (0 : Int) (0 : Int)) out5 x_7.To).edges + (1 : Int)))))), ()), ⟨by dsimp only; omega, cont_next hJ5⟩, by dsimp only; omega, ?_, ?_⟩
        · (simp +decide -implicitDefEqProofs only [go_sem, mpE_nil, Int.natCast_zero, List.replicate_zero, List.length_take, List.length_drop, AVal.own.injEq, reduceCtorEq, Int.reduceAdd, hw5, encGraphLengthV_set0] <;> omega)
        · (simp +decide -implicitDefEqProofs only [go_sem, mpE_nil, Int.natCast_zero, List.replicate_zero, List.length_take, List.length_drop, AVal.own.injEq, reduceCtorEq, Int.reduceAdd, hw5, encGraphLengthV_set0] <;> omega)
    · obtain rfl := for_nil hJ5 (fun hl => by have := of_decide_eq_false hc; omega)
      have h := on_next hO5; try dsimp only at h
      have hkl : l.length = k5 := by have := of_decide_eq_false hc; omega
      subst hkl
      refine AWP.exit ?_
      refine qthen_exit ?_
      refine qthen_exit ?_
      refine qblock_same ?_
      refine qthen_normal ?_
      refine AWP.seq ?_
      refine AWP.region rfl ?_; intro K hK
      (try simp +decide -implicitDefEqProofs only [go_sem, encGraphLengthV_set0])
      refine hK _ _ ?_; clear hK K
      refine qthen_normal ?_
      refine AWP.cond (acond_split (fun hc => ?_) (fun hc => ?_))
      · replace h := bif_t h hc
        refine AWP.exit ?_
        refine qblock_other (by decide) ?_
        refine qthen_exit ?_
        refine qthen_exit ?_
        obtain rfl := some_eq h
        obtain rfl := cont_ret hJ1
        replace h := on_ret hO1
        refine qblock_same ?_
        refine qthen_normal ?_
        refine AWP.seq ?_
        refine AWP.region rfl ?_; intro K hK
        (try simp +decide -implicitDefEqProofs only [go_sem, encGraphLengthV_set0])
        refine hK _ _ ?_; clear hK K
        refine qthen_normal ?_
        refine AWP.ret ?_
        obtain rfl := some_eq h
        simp +decide -implicitDefEqProofs only [go_sem, mpE_nil, Int.natCast_zero, List.replicate_zero, List.length_take, List.length_drop, AVal.own.injEq, reduceCtorEq, Int.reduceAdd, nle2, nle1, nle0, nleA, nleL, Try.results41, encGraphLengthV_set0]
      replace h := bif_f h hc
      refine AWP.skip ?_
      refine qblock_normal ?_
      refine qthen_normal ?_
      refine AWP.region rfl ?_; intro K hK
      (try simp +decide -implicitDefEqProofs only [go_sem, encGraphLengthV_set0])
      refine hK _ _ ?_; clear hK K
      refine qthen_normal ?_
      obtain rfl := some_eq h
      refine ⟨(k1 + 1, out5, ()), ⟨by dsimp only; omega, cont_next hJ1⟩, by dsimp only; omega, ?_, ?_⟩
      · (simp +decide -implicitDefEqProofs only [go_sem, mpE_nil, Int.natCast_zero, List.replicate_zero, List.length_take, List.length_drop, AVal.own.injEq, reduceCtorEq, Int.reduceAdd, hw1, encGraphLengthV_set0] <;> omega)
      · (simp +decide -implicitDefEqProofs only [go_sem, mpE_nil, Int.natCast_zero, List.replicate_zero, List.length_take, List.length_drop, AVal.own.injEq, reduceCtorEq, Int.reduceAdd, hw1, encGraphLengthV_set0] <;> omega)
  · obtain rfl := for_nil hJ1 (fun hl => by have := of_decide_eq_false hc; omega)
    have h := on_next hO1; try dsimp only at h
    have hkl : l.length = k1 := by have := of_decide_eq_false hc; omega
    subst hkl
    refine AWP.exit ?_
    refine qthen_exit ?_
    refine qthen_exit ?_
    refine qblock_same ?_
    refine qthen_normal ?_
    refine AWP.seq ?_
    refine AWP.region rfl ?_; intro K hK
    (try simp +decide -implicitDefEqProofs only [go_sem, encGraphLengthV_set0])
    refine hK _ _ ?_; clear hK K
    refine qthen_normal ?_
    refine AWP.ret ?_
    obtain rfl := some_eq h
    simp +decide -implicitDefEqProofs only [go_sem, mpE_nil, Int.natCast_zero, List.replicate_zero, List.length_take, List.length_drop, AVal.own.injEq, reduceCtorEq, Int.reduceAdd, nle2, nle1, nle0, nleA, nleL, Try.results41, encGraphLengthV_set0]

def graph_Shortest_b2 (y1 : (List (Int × GraphLength))) (n_2 : Int) (ids3 : List Int) (k5 : Nat) (x_7 : ApiEdge) (sv : Unit) : Option (Out (Unit) (Out (Int × (List Int)) ((List Int) × Int × Bool))) :=
  (bif (mhas y1 x_7.To) then (bif (decide (x_7.From = n_2)) then (bif ((decide ((mget (GraphLength.mk (0 : Int) (0 : Int)) y1 n_2).cost = (IntKind.i64.wrap ((mget (GraphLength.mk (0 : Int) (0 : Int)) y1 x_7.To).cost + x_7.Cost)))) && (decide ((mget (GraphLength.mk (0 : Int) (0 : Int)) y1 n_2).edges = (IntKind.i64.wrap ((mget (GraphLength.mk (0 : Int) (0 : Int)) y1 x_7.To).edges + (1 : Int)))))) then ((bif (decide (((k5 : Nat) : Int) < (0 : Int))) then some (Out.ret ([], ((0 : Int), false))) else chk (ids3.length + 1) (some (Out.next (x_7.To, (ids3 ++ [x_7.ID])))))).bind fun q7 => some (Out.ret q7) else some (Out.next ())) else some (Out.next ())) else some (Out.next ()))

def graph_Shortest_b1 (l : List ApiEdge) (from_ : Int) (to_ : Int) (y1 : (List (Int × GraphLength))) (sv : Int × (List Int)) : Option (Out (Int × (List Int)) ((List Int) × Int × Bool)) :=
  (bif (decide (sv.1 ≠ to_)) then (forIx (graph_Shortest_b2 y1 sv.1 sv.2) 0 l ()).bind fun o5 => o5.on fun s5 => some (Out.ret ([], ((0 : Int), false))) else some (Out.ret (sv.2, ((mget (GraphLength.mk (0 : Int) (0 : Int)) y1 from_).cost, true))))

def graph_Shortest (l : List ApiEdge) (from_ : Int) (to_ : Int) : Option ((List Int) × Int × Bool) :=
  (graph_lengths l to_).bind fun y1 => (bif (!(mhas y1 from_)) then some ([], ((0 : Int), false)) else (whileN (graph_Shortest_b1 l from_ to_ y1) fuel (from_, [])).bind fun o4 => o4.on fun _ => none)

theorem graph_Shortest_fresh (l : List ApiEdge) (from_ : Int) (to_ : Int) {r : (List Int) × Int × Bool} (h : graph_Shortest l from_ to_ = some r) : FreshFn Try.prog 22 [.sl 4 (l.map encApiEdge), .int .i64 from_, .int .i64 to_] (· = .tuple [.sl 1 (r.1.map intC), .int .i64 r.2.1, .bool r.2.2]) := by
  refine FreshFn.nle (FreshFn.intro Try.func22 rfl rfl (by show _ ≤ 52; simp) ?_)
  unfold graph_Shortest at h
  (try simp +decide -implicitDefEqProofs only [go_sem])
  refine AWP.seq ?_
  refine AWP.region rfl ?_; intro K hK
  (try simp +decide -implicitDefEqProofs only [go_sem])
  refine hK _ _ ?_; clear hK K
  refine qthen_normal ?_
  refine AWP.seq ?_
  refine AWP.region rfl ?_; intro K hK
  (try simp +decide -implicitDefEqProofs only [go_sem])
  obtain ⟨y1, hy1, h⟩ := bindE h
  refine ACall.pure Try.call41 (graph_lengths_spec l to_ hy1) rfl fun _ hr => ?_
  subst hr
  (try simp +decide -implicitDefEqProofs only [go_sem])
  refine hK _ _ ?_; clear hK K
  refine qthen_normal ?_
  refine AWP.seq ?_
  refine AWP.region rfl ?_; intro K hK
  (try simp +decide -implicitDefEqProofs only [go_sem])
  refine ALook.of (f := encGraphLengthV) (m := y1) (d := (GraphLength.mk (0 : Int) (0 : Int))) rfl ?_
  (try simp +decide -implicitDefEqProofs only [go_sem])
  refine hK _ _ ?_; clear hK K
  refine qthen_normal ?_
  refine AWP.seq ?_
  refine AWP.seq ?_
  refine AWP.region rfl ?_; intro K hK
  (try simp +decide -implicitDefEqProofs only [go_sem])
  refine hK _ _ ?_; clear hK K
  refine qthen_normal ?_
  refine AWP.cond (acond_split (fun hc => ?_) (fun hc => ?_))
  · replace h := bif_t h hc
    refine AWP.seq ?_
    refine AWP.region rfl ?_; intro K hK
    (try simp +decide -implicitDefEqProofs only [go_sem])
    refine hK _ _ ?_; clear hK K
    refine qthen_normal ?_
    refine AWP.ret ?_
    refine qthen_ret ?_
    obtain rfl := some_eq h
    simp +decide -implicitDefEqProofs only [go_sem, mpE_nil, Int.natCast_zero, List.replicate_zero, List.length_take, List.length_drop, AVal.own.injEq, reduceCtorEq, Int.reduceAdd, nle2, nle1, nle0, nleA, nleL, Try.results22]
  replace h := bif_f h hc
  refine AWP.skip ?_
  refine qthen_normal ?_
  refine AWP.seq ?_
  refine AWP.region rfl ?_; intro K hK
  (try simp +decide -implicitDefEqProofs only [go_sem])
  refine hK _ _ ?_; clear hK K
  refine qthen_normal ?_
  refine AWP.seq ?_
  refine AWP.seq ?_
  refine AWP.region rfl ?_; intro K hK
  (try simp +decide -implicitDefEqProofs only [go_sem])
  refine hK _ _ ?_; clear hK K
  refine qthen_normal ?_
  refine AWP.block ?_
  refine AWP.ghost 12 1 rfl (by decide) ?_
  obtain ⟨o4, hJ4, hO4⟩ := bindE h
  clear h
  refine AWP.loopS (ι := Nat × (Int × (List Int)) × (Nat)) (fun zz => [(0, .sl 4 (l.map encApiEdge)), (2, .int .i64 to_), (9, .ptr 0 0), (10, .ptr 1 0), (12, .own 3 zz.2.2 0 zz.2.1.2.length), (13, .ptr 2 0)]) (fun zz => [.box [.vmap (mpE encGraphLengthV y1)], .box [.int .i64 (mget (GraphLength.mk (0 : Int) (0 : Int)) y1 from_).cost, .int .i64 (mget (GraphLength.mk (0 : Int) (0 : Int)) y1 from_).edges], .box [.int .i64 zz.2.1.1], .row zz.2.2 1 (zz.2.1.2.map intC)]) (fun zz => whileN (graph_Shortest_b1 l from_ to_ y1) zz.1 zz.2.1 = some o4) (fun zz => zz.1) (fuel, (from_, []), 0) hJ4 (by (simp +decide -implicitDefEqProofs only [go_sem, mpE_nil, Int.natCast_zero, List.replicate_zero, List.length_take, List.length_drop, AVal.own.injEq, reduceCtorEq, Int.reduceAdd] <;> omega)) (by (simp +decide -implicitDefEqProofs only [go_sem, mpE_nil, Int.natCast_zero, List.replicate_zero, List.length_take, List.length_drop, AVal.own.injEq, reduceCtorEq, Int.reduceAdd] <;> omega)) (fun x => ⟨rfl, rfl, rfl⟩) ?_
  clear hJ4
  rintro ⟨n4, ⟨n_2, ids3⟩, ver4⟩ hJ4
  dsimp only at hJ4 ⊢
  obtain ⟨m4, b4, rfl, h, hJ4⟩ := while_step hJ4
  unfold graph_Shortest_b1 at h; try dsimp only at h
  refine AWP.seq ?_
  refine AWP.seq ?_
  refine AWP.region rfl ?_; intro K hK
  (try simp +decide -implicitDefEqProofs only [go_sem])
  refine hK _ _ ?_; clear hK K
  refine qthen_normal ?_
  refine AWP.cond (acond_split (fun hc => ?_) (fun hc => ?_))
  · replace h := bif_t h hc
    refine AWP.skip ?_
    refine qthen_normal ?_
    refine AWP.seq ?_
    refine AWP.block ?_
    refine AWP.seq ?_
    refine AWP.region rfl ?_; intro K hK
    (try simp +decide -implicitDefEqProofs only [go_sem])
    refine ACall.inline Try.call42 Try.func42 rfl rfl (by show _ ≤ 19; simp) ?_
    (try simp +decide -implicitDefEqProofs only [go_sem])
    refine AWP.seq ?_
    refine AWP.region rfl ?_; intro K hK
    (try simp +decide -implicitDefEqProofs only [go_sem])
    refine hK _ _ ?_; clear hK K
    refine qthen_normal ?_
    refine AWP.seq ?_
    refine AWP.seq ?_
    refine AWP.region rfl ?_; intro K hK
    (try simp +decide -implicitDefEqProofs only [go_sem])
    intro hm
    refine hK _ _ ?_; clear hK K
    refine qthen_normal ?_
    refine AWP.block ?_
    obtain ⟨o5, hJ5, hO5⟩ := bindE h
    clear h
    refine AWP.loopW (ι := Nat × (Unit) × (Unit)) (fun zz => [(0, .sl 4 (l.map encApiEdge)), (1, .func 43 [.ptr 0 0, .ptr 2 0]), (7, .int .i64 ((l.length : Nat) : Int)), (8, .int .i64 ((zz.1 : Nat) : Int))]) (fun zz => [.box [.vmap (mpE encGraphLengthV y1)], .box [.int .i64 (mget (GraphLength.mk (0 : Int) (0 : Int)) y1 from_).cost, .int .i64 (mget (GraphLength.mk (0 : Int) (0 : Int)) y1 from_).edges], .box [.int .i64 n_2], .row ver4 1 (ids3.map intC)]) (fun zz => zz.1 ≤ l.length ∧ forIx (graph_Shortest_b2 y1 n_2 ids3) zz.1 ((l).drop zz.1) zz.2.1 = some o5) (fun zz => l.length - zz.1) (0, (), ()) ⟨Nat.zero_le _, hJ5⟩ (by (simp +decide -implicitDefEqProofs only [go_sem, mpE_nil, Int.natCast_zero, List.replicate_zero, List.length_take, List.length_drop, AVal.own.injEq, reduceCtorEq, Int.reduceAdd] <;> omega)) (by (simp +decide -implicitDefEqProofs only [go_sem, mpE_nil, Int.natCast_zero, List.replicate_zero, List.length_take, List.length_drop, AVal.own.injEq, reduceCtorEq, Int.reduceAdd] <;> omega)) (fun x => ⟨rfl, rfl, rfl⟩) ?_
    clear hJ5
    rintro ⟨k5, ⟨⟩, ⟨⟩⟩ ⟨hk5, hJ5⟩
    dsimp only at hk5 hJ5 ⊢
    refine AWP.seq ?_
    refine AWP.region rfl ?_; intro K hK
    (try simp +decide -implicitDefEqProofs only [go_sem])
    refine hK _ _ ?_; clear hK K
    refine qthen_normal ?_
    refine AWP.seq ?_
    refine AWP.cond (acond_split (fun hc => ?_) (fun hc => ?_))
    · have hlt5 : k5 < l.length := by have := of_decide_eq_true hc; omega
      obtain ⟨x_7, b5, hx5_, h, hJ5⟩ := for_cons hJ5 hlt5
      have hx5 := idxL_nat hx5_
      have hw5 : IntKind.i64.wrap (((k5 : Nat) : Int) + 1) = (((k5 : Nat) : Int) + (1 : Int)) := by rw [wrap_i64] <;> omega
      unfold graph_Shortest_b2 at h; try dsimp only at h
      refine AWP.skip ?_
      refine qthen_normal ?_
      refine AWP.seq ?_
      refine AWP.block ?_
      refine AWP.seq ?_
      refine AWP.region rfl ?_; intro K hK
      (try simp +decide -implicitDefEqProofs only [go_sem])
      refine hK _ _ ?_; clear hK K
      refine qthen_normal ?_
      refine AWP.seq ?_
      refine AWP.region rfl ?_; intro K hK
      (try simp +decide -implicitDefEqProofs only [go_sem])
      refine AIdx.of (f := encApiEdge) (l := l) hx5 ?_
      (try simp +decide -implicitDefEqProofs only [go_sem])
      refine ACall.inline Try.call43 Try.func43 rfl rfl (by show _ ≤ 36; simp) ?_
      (try simp +decide -implicitDefEqProofs only [go_sem])
      refine AWP.seq ?_
      refine AWP.region rfl ?_; intro K hK
      (try simp +decide -implicitDefEqProofs only [go_sem])
      refine hK _ _ ?_; clear hK K
      refine qthen_normal ?_
      refine AWP.seq ?_
      refine AWP.region rfl ?_; intro K hK
      (try simp +decide -implicitDefEqProofs only [go_sem])
      refine ALook.of (f := encGraphLengthV) (m := y1) (d := (GraphLength.mk (0 : Int) (0 : Int))) rfl ?_
      (try simp +decide -implicitDefEqProofs only [go_sem])
      refine hK _ _ ?_; clear hK K
      refine qthen_normal ?_
      refine AWP.seq ?_
      refine AWP.region rfl ?_; intro K hK
      (try simp +decide -implicitDefEqProofs only [go_sem])
      refine aguardK_split (fun hc => ?_) (fun hc => ?_)
      · replace h := bif_t h hc
        (try simp +decide -implicitDefEqProofs only [go_sem, hc])
        refine aguardK_split (fun hc => ?_) (fun hc => ?_)
        · replace h := bif_t h hc
          (try simp +decide -implicitDefEqProofs only [go_sem, hc])
          refine ALook.of (f := encGraphLengthV) (m := y1) (d := (GraphLength.mk (0 : Int) (0 : Int))) rfl ?_
          (try simp +decide -implicitDefEqProofs only [go_sem])
          refine hK _ _ ?_; clear hK K
          refine qthen_normal ?_
          refine AWP.ret ?_
          (try simp +decide -implicitDefEqProofs only [go_sem, Try.results43])
          refine hK _ _ ?_; clear hK K
          refine qthen_normal ?_
          refine AWP.cond (acond_split (fun hc => ?_) (fun hc => ?_))
          · replace h := bif_t h hc
            refine AWP.seq ?_
            refine AWP.region rfl ?_; intro K hK
            (try simp +decide -implicitDefEqProofs only [go_sem])
            refine hK _ _ ?_; clear hK K
            refine qthen_normal ?_
            refine AWP.ret ?_
            refine qblock_ret ?_
            refine qthen_ret ?_
            refine qthen_ret ?_
            obtain ⟨q7, hq, h⟩ := bindE h
            obtain rfl := some_eq h
            obtain rfl := cont_ret hJ5
            replace h := hq.trans (on_ret hO5)
            refine qblock_ret ?_
            refine qthen_ret ?_
            (try simp +decide -implicitDefEqProofs only [go_sem, Try.results42])
            refine hK _ _ ?_; clear hK K
            refine qthen_normal ?_
            refine AWP.seq ?_
            refine AWP.seq ?_
            refine AWP.region rfl ?_; intro K hK
            (try simp +decide -implicitDefEqProofs only [go_sem])
            refine hK _ _ ?_; clear hK K
            refine qthen_normal ?_
            refine AWP.cond (acond_split (fun hc => ?_) (fun hc => ?_))
            · replace h := bif_t h hc
              refine AWP.seq ?_
              refine AWP.region rfl ?_; intro K hK
              (try simp +decide -implicitDefEqProofs only [go_sem])
              refine hK _ _ ?_; clear hK K
              refine qthen_normal ?_
              refine AWP.ret ?_
              refine qthen_ret ?_
              refine qblock_ret ?_
              refine qthen_ret ?_
              refine qthen_ret ?_
              obtain rfl := some_eq h
              obtain rfl := cont_ret hJ4
              replace h := on_ret hO4
              refine qblock_ret ?_
              refine qthen_ret ?_
              obtain rfl := some_eq h
              simp +decide -implicitDefEqProofs only [go_sem, mpE_nil, Int.natCast_zero, List.replicate_zero, List.length_take, List.length_drop, AVal.own.injEq, reduceCtorEq, Int.reduceAdd, nle2, nle1, nle0, nleA, nleL, Try.results22]
            replace h := bif_f h hc
            refine AWP.skip ?_
            refine qthen_normal ?_
            refine AWP.seq ?_
            refine AWP.region rfl ?_; intro K hK
            (try simp +decide -implicitDefEqProofs only [go_sem])
            refine AIdx.of (f := encApiEdge) (l := l) hx5 ?_
            (try simp +decide -implicitDefEqProofs only [go_sem])
            obtain ⟨hk, h⟩ := chk_in h
            (repeat (refine ⟨by first | omega | (simp only [List.length_take, List.length_drop, List.length_append]; omega), ?_⟩)); try simp +decide -implicitDefEqProofs only [go_sem]
            refine hK _ _ ?_; clear hK K
            refine qthen_normal ?_
            refine AWP.region rfl ?_; intro K hK
            (try simp +decide -implicitDefEqProofs only [go_sem])
            refine AIdx.of (f := encApiEdge) (l := l) hx5 ?_
            (try simp +decide -implicitDefEqProofs only [go_sem])
            refine hK _ _ ?_; clear hK K
            refine qblock_normal ?_
            refine qthen_normal ?_
            refine AWP.seq ?_
            refine AWP.region rfl ?_; intro K hK
            (try simp +decide -implicitDefEqProofs only [go_sem])
            refine hK _ _ ?_; clear hK K
            refine qthen_normal ?_
            refine AWP.region rfl ?_; intro K hK
            (try simp +decide -implicitDefEqProofs only [go_sem])
            refine hK _ _ ?_; clear hK K
            refine qthen_normal ?_
            obtain rfl := some_eq h
            refine ⟨(m4, (x_7.To, (ids3 ++ [x_7.ID])), (ver4 + 1)), cont_next hJ4, by dsimp only; omega, _, _, Sub.swap 7 2 rfl rfl rfl, ?_, ?_⟩
            · (simp +decide -implicitDefEqProofs only [go_sem, mpE_nil, Int.natCast_zero, List.replicate_zero, List.length_take, List.length_drop, AVal.own.injEq, reduceCtorEq, Int.reduceAdd] <;> omega)
            · (simp +decide -implicitDefEqProofs only [go_sem, mpE_nil, Int.natCast_zero, List.replicate_zero, List.length_take, List.length_drop, AVal.own.injEq, reduceCtorEq, Int.reduceAdd] <;> omega)
          replace h := bif_f h hc
          refine AWP.skip ?_
          refine qblock_normal ?_
          refine qthen_normal ?_
          refine AWP.region rfl ?_; intro K hK
          (try simp +decide -implicitDefEqProofs only [go_sem])
          refine hK _ _ ?_; clear hK K
          refine qthen_normal ?_
          obtain rfl := some_eq h
          refine ⟨(k5 + 1, (), ()), ⟨by dsimp only; omega, cont_next hJ5⟩, by dsimp only; omega, ?_, ?_⟩
          · (simp +decide -implicitDefEqProofs only [go_sem, mpE_nil, Int.natCast_zero, List.replicate_zero, List.length_take, List.length_drop, AVal.own.injEq, reduceCtorEq, Int.reduceAdd, hw5] <;> omega)
          · (simp +decide -implicitDefEqProofs only [go_sem, mpE_nil, Int.natCast_zero, List.replicate_zero, List.length_take, List.length_drop, AVal.own.injEq, reduceCtorEq, Int.reduceAdd, hw5] <;> omega)
        · replace h := bif_f h hc
          (try simp +decide -implicitDefEqProofs only [go_sem, hc, Bool.not_true])
          refine hK _ _ ?_; clear hK K
          refine qthen_normal ?_
          refine AWP.ret ?_
          (try simp +decide -implicitDefEqProofs only [go_sem, Try.results43])
          refine hK _ _ ?_; clear hK K
          refine qthen_normal ?_
          refine AWP.cond (acond_false ?_)
          refine AWP.skip ?_
          refine qblock_normal ?_
          refine qthen_normal ?_
          refine AWP.region rfl ?_; intro K hK
          (try simp +decide -implicitDefEqProofs only [go_sem])
          refine hK _ _ ?_; clear hK K
          refine qthen_normal ?_
          obtain rfl := some_eq h
          refine ⟨(k5 + 1, (), ()), ⟨by dsimp only; omega, cont_next hJ5⟩, by dsimp only; omega, ?_, ?_⟩
          · (simp +decide -implicitDefEqProofs only [go_sem, mpE_nil, Int.natCast_zero, List.replicate_zero, List.length_take, List.length_drop, AVal.own.injEq, reduceCtorEq, Int.reduceAdd, hw5] <;> omega)
          · (simp +decide -implicitDefEqProofs only [go_sem, mpE_nil, Int.natCast_zero, List.replicate_zero, List.length_take, List.length_drop, AVal.own.injEq, reduceCtorEq, Int.reduceAdd, hw5] <;> omega)
      · replace h := bif_f h hc
        (try simp +decide -implicitDefEqProofs only [go_sem, hc, Bool.not_true])
        refine hK _ _ ?_; clear hK K
        refine qthen_normal ?_
        refine AWP.ret ?_
        (try simp +decide -implicitDefEqProofs only [go_sem, Try.results43])
        refine hK _ _ ?_; clear hK K
        refine qthen_normal ?_
        refine AWP.cond (acond_false ?_)
        refine AWP.skip ?_
        refine qblock_normal ?_
        refine qthen_normal ?_
        refine AWP.region rfl ?_; intro K hK
        (try simp +decide -implicitDefEqProofs only [go_sem])
        refine hK _ _ ?_; clear hK K
        refine qthen_normal ?_
        obtain rfl := some_eq h
        refine ⟨(k5 + 1, (), ()), ⟨by dsimp only; omega, cont_next hJ5⟩, by dsimp only; omega, ?_, ?_⟩
        · (simp +decide -implicitDefEqProofs only [go_sem, mpE_nil, Int.natCast_zero, List.replicate_zero, List.length_take, List.length_drop, AVal.own.injEq, reduceCtorEq, Int.reduceAdd, hw5] <;> omega)
        · (simp +decide -implicitDefEqProofs only [go_sem, mpE_nil, Int.natCast_zero, List.replicate_zero, List.length_take, List.length_drop, AVal.own.injEq, reduceCtorEq, Int.reduceAdd, hw5] <;> omega)
    · obtain rfl := for_nil hJ5 (fun hl => by have := of_decide_eq_false hc; omega)
      have h := on_next hO5; try dsimp only at h
      have hkl : l.length = k5 := by have := of_decide_eq_false hc; omega
      subst hkl
      refine AWP.exit ?_
      refine qthen_exit ?_
      refine qthen_exit ?_
      refine qblock_same ?_
      refine qthen_normal ?_
      refine AWP.seq ?_
      refine AWP.region rfl ?_; intro K hK
      (try simp +decide -implicitDefEqProofs only [go_sem])
      refine hK _ _ ?_; clear hK K
      refine qthen_normal ?_
      refine AWP.ret ?_
      (try simp +decide -implicitDefEqProofs only [go_sem, Try.results42])
      refine hK _ _ ?_; clear hK K
      refine qthen_normal ?_
      refine AWP.seq ?_
      refine AWP.seq ?_
      refine AWP.region rfl ?_; intro K hK
      (try simp +decide -implicitDefEqProofs only [go_sem])
      refine hK _ _ ?_; clear hK K
      refine qthen_normal ?_
      refine AWP.cond (acond_true ?_)
      refine AWP.seq ?_
      refine AWP.region rfl ?_; intro K hK
      (try simp +decide -implicitDefEqProofs only [go_sem])
      refine hK _ _ ?_; clear hK K
      refine qthen_normal ?_
      refine AWP.ret ?_
      refine qthen_ret ?_
      refine qblock_ret ?_
      refine qthen_ret ?_
      refine qthen_ret ?_
      obtain rfl := some_eq h
      obtain rfl := cont_ret hJ4
      replace h := on_ret hO4
      refine qblock_ret ?_
      refine qthen_ret ?_
      obtain rfl := some_eq h
      simp +decide -implicitDefEqProofs only [go_sem, mpE_nil, Int.natCast_zero, List.replicate_zero, List.length_take, List.length_drop, AVal.own.injEq, reduceCtorEq, Int.reduceAdd, nle2, nle1, nle0, nleA, nleL, Try.results22]
  replace h := bif_f h hc
  refine AWP.exit ?_
  refine qthen_exit ?_
  refine qthen_exit ?_
  obtain rfl := some_eq h
  obtain rfl := cont_ret hJ4
  replace h := on_ret hO4
  refine qblock_same ?_
  refine qthen_normal ?_
  refine AWP.seq ?_
  refine AWP.draw Try.mixed (by kernel_rfl) ?_; intro K hK
  (try simp +decide -implicitDefEqProofs only [go_sem])
  refine hK _ _ _ (by kernel_rfl) ?_; clear hK K
  refine qthen_normal ?_
  refine AWP.ret ?_
  obtain rfl := some_eq h
  simp +decide -implicitDefEqProofs only [go_sem, mpE_nil, Int.natCast_zero, List.replicate_zero, List.length_take, List.length_drop, AVal.own.injEq, reduceCtorEq, Int.reduceAdd, nle2, nle1, nle0, nleA, nleL, Try.results22]
theorem graph_Shortest_spec (l : List ApiEdge) (from_ : Int) (to_ : Int) {r : (List Int) × Int × Bool} (h : graph_Shortest l from_ to_ = some r) : PureFn Try.prog 22 [.sl 4 (l.map encApiEdge), .int .i64 from_, .int .i64 to_] (· = .tuple [.sl 1 (r.1.map intC), .int .i64 r.2.1, .bool r.2.2]) := (graph_Shortest_fresh l from_ to_ h).pure

def graph_Without_b2 (drop1 : List (Int × Bool)) (k4 : Nat) (x_6 : ApiEdge) (sv : (List ApiEdge)) : Option (Out ((List ApiEdge)) ((List ApiEdge))) :=
  (bif (!(mget false drop1 x_6.ID)) then chk (sv.length + 1) (some (Out.next (sv ++ [x_6]))) else some (Out.next sv))

def graph_Without_j1 (l : List ApiEdge) (drop1 : List (Int × Bool)) : Option ((List ApiEdge)) :=
  (forIx (graph_Without_b2 drop1) 0 l []).bind fun o4 => o4.on fun s4 => some s4

def graph_Without_b3 (k7 : Nat) (x_9 : Int) (sv : (List (Int × Bool))) : Option (Out ((List (Int × Bool))) ((List ApiEdge))) :=
  some (Out.next (mset sv x_9 true))

def graph_Without (l : List ApiEdge) (ids : List Int) : Option ((List ApiEdge)) :=
  (forIx graph_Without_b3 0 ids []).bind fun o7 => o7.on fun s7 => graph_Without_j1 l s7

theorem graph_Without_fresh (l : List ApiEdge) (ids : List Int) {r : (List ApiEdge)} (h : graph_Without l ids = some r) : FreshFn Try.prog 27 [.sl 4 (l.map encApiEdge), .sl 1 (ids.map intC)] (· = .sl 4 (r.map encApiEdge)) := by
  refine FreshFn.nle (FreshFn.intro Try.func27 rfl rfl (by show _ ≤ 38; simp) ?_)
  unfold graph_Without at h
  (try simp +decide -implicitDefEqProofs only [go_sem])
  refine AWP.seq ?_
  refine AWP.region rfl ?_; intro K hK
  (try simp +decide -implicitDefEqProofs only [go_sem])
  refine hK _ _ ?_; clear hK K
  refine qthen_normal ?_
  refine AWP.seq ?_
  refine AWP.region rfl ?_; intro K hK
  (try simp +decide -implicitDefEqProofs only [go_sem])
  refine hK _ _ ?_; clear hK K
  refine qthen_normal ?_
  refine AWP.seqJoin (ι := ((List (Int × Bool))) × (Unit)) (fun zz => [(0, .sl 4 (l.map encApiEdge)), (5, .map 0)]) (fun zz => [.mp (mpE boolV zz.1)]) (fun zz => graph_Without_j1 l zz.1 = some r) (fun zz => ⟨rfl, rfl, rfl⟩) ?_ ?_
  · refine AWP.seq ?_
    refine AWP.region rfl ?_; intro K hK
    (try simp +decide -implicitDefEqProofs only [go_sem])
    intro hm
    refine hK _ _ ?_; clear hK K
    refine qthen_normal ?_
    refine AWP.block ?_
    obtain ⟨o7, hJ7, hO7⟩ := bindE h
    clear h
    refine AWP.loopW (ι := Nat × ((List (Int × Bool))) × (Unit)) (fun zz => [(0, .sl 4 (l.map encApiEdge)), (5, .map 0), (12, .sl 1 (ids.map intC)), (13, .int .i64 ((ids.length : Nat) : Int)), (14, .int .i64 ((zz.1 : Nat) : Int))]) (fun zz => [.mp (mpE boolV zz.2.1)]) (fun zz => zz.1 ≤ ids.length ∧ forIx graph_Without_b3 zz.1 ((ids).drop zz.1) zz.2.1 = some o7) (fun zz => ids.length - zz.1) (0, [], ()) ⟨Nat.zero_le _, hJ7⟩ (by (simp +decide -implicitDefEqProofs only [go_sem, mpE_nil, Int.natCast_zero, List.replicate_zero, List.length_take, List.length_drop, AVal.own.injEq, reduceCtorEq, Int.reduceAdd] <;> omega)) (by (simp +decide -implicitDefEqProofs only [go_sem, mpE_nil, Int.natCast_zero, List.replicate_zero, List.length_take, List.length_drop, AVal.own.injEq, reduceCtorEq, Int.reduceAdd] <;> omega)) (fun x => ⟨rfl, rfl, rfl⟩) ?_
    clear hJ7
    rintro ⟨k7, drop7, ⟨⟩⟩ ⟨hk7, hJ7⟩
    dsimp only at hk7 hJ7 ⊢
    refine AWP.seq ?_
    refine AWP.region rfl ?_; intro K hK
    (try simp +decide -implicitDefEqProofs only [go_sem])
    refine hK _ _ ?_; clear hK K
    refine qthen_normal ?_
    refine AWP.seq ?_
    refine AWP.cond (acond_split (fun hc => ?_) (fun hc => ?_))
    · have hlt7 : k7 < ids.length := by have := of_decide_eq_true hc; omega
      obtain ⟨x_9, b7, hx7_, h, hJ7⟩ := for_cons hJ7 hlt7
      have hx7 := idxL_nat hx7_
      have hw7 : IntKind.i64.wrap (((k7 : Nat) : Int) + 1) = (((k7 : Nat) : Int) + (1 : Int)) := by rw [wrap_i64] <;> omega
      unfold graph_Without_b3 at h; try dsimp only at h
      refine AWP.skip ?_
      refine qthen_normal ?_
      refine AWP.seq ?_
      refine AWP.block ?_
      refine AWP.seq ?_
      refine AWP.region rfl ?_; intro K hK
      (try simp +decide -implicitDefEqProofs only [go_sem])
      refine AIdx.of (f := intC) (l := ids) hx7 ?_
      (try simp +decide -implicitDefEqProofs only [go_sem])
      refine hK _ _ ?_; clear hK K
      refine qthen_normal ?_
      refine AWP.region rfl ?_; intro K hK
      (try simp +decide -implicitDefEqProofs only [go_sem])
      refine hK _ _ ?_; clear hK K
      refine qblock_normal ?_
      refine qthen_normal ?_
      refine AWP.region rfl ?_; intro K hK
      (try simp +decide -implicitDefEqProofs only [go_sem])
      refine hK _ _ ?_; clear hK K
      refine qthen_normal ?_
      obtain rfl := some_eq h
      refine ⟨(k7 + 1, (mset drop7 x_9 true), ()), ⟨by dsimp only; omega, cont_next hJ7⟩, by dsimp only; omega, ?_, ?_⟩
      · (simp +decide -implicitDefEqProofs only [go_sem, mpE_nil, Int.natCast_zero, List.replicate_zero, List.length_take, List.length_drop, AVal.own.injEq, reduceCtorEq, Int.reduceAdd, hw7] <;> omega)
      · (simp +decide -implicitDefEqProofs only [go_sem, mpE_nil, Int.natCast_zero, List.replicate_zero, List.length_take, List.length_drop, AVal.own.injEq, reduceCtorEq, Int.reduceAdd, hw7] <;> omega)
    · obtain rfl := for_nil hJ7 (fun hl => by have := of_decide_eq_false hc; omega)
      have h := on_next hO7; try dsimp only at h
      have hkl : ids.length = k7 := by have := of_decide_eq_false hc; omega
      subst hkl
      refine AWP.exit ?_
      refine qthen_exit ?_
      refine qthen_exit ?_
      refine qblock_same ?_
      refine qthen_normal ?_
      exact ⟨(drop7, ()), h, by (simp +decide -implicitDefEqProofs only [go_sem, mpE_nil, Int.natCast_zero, List.replicate_zero, List.length_take, List.length_drop, AVal.own.injEq, reduceCtorEq, Int.reduceAdd] <;> omega), by (simp +decide -implicitDefEqProofs only [go_sem, mpE_nil, Int.natCast_zero, List.replicate_zero, List.length_take, List.length_drop, AVal.own.injEq, reduceCtorEq, Int.reduceAdd] <;> omega)⟩
  · rintro ⟨drop1, ⟨⟩⟩ h
    try dsimp only at h ⊢
    unfold graph_Without_j1 at h; try dsimp only at h
    refine AWP.seq ?_
    refine AWP.region rfl ?_; intro K hK
    (try simp +decide -implicitDefEqProofs only [go_sem])
    refine hK _ _ ?_; clear hK K
    refine qthen_normal ?_
    refine AWP.seq ?_
    refine AWP.seq ?_
    refine AWP.region rfl ?_; intro K hK
    (try simp +decide -implicitDefEqProofs only [go_sem])
    intro hm
    refine hK _ _ ?_; clear hK K
    refine qthen_normal ?_
    refine AWP.block ?_
    refine AWP.ghost 8 4 rfl (by decide) ?_
    obtain ⟨o4, hJ4, hO4⟩ := bindE h
    clear h
    refine AWP.loopW (ι := Nat × ((List ApiEdge)) × (Nat)) (fun zz => [(5, .map 0), (8, .own 1 zz.2.2 0 zz.2.1.length), (21, .sl 4 (l.map encApiEdge)), (22, .int .i64 ((l.length : Nat) : Int)), (23, .int .i64 ((zz.1 : Nat) : Int))]) (fun zz => [.mp (mpE boolV drop1), .row zz.2.2 4 (zz.2.1.map encApiEdge)]) (fun zz => zz.1 ≤ l.length ∧ forIx (graph_Without_b2 drop1) zz.1 ((l).drop zz.1) zz.2.1 = some o4) (fun zz => l.length - zz.1) (0, [], 0) ⟨Nat.zero_le _, hJ4⟩ (by (simp +decide -implicitDefEqProofs only [go_sem, mpE_nil, Int.natCast_zero, List.replicate_zero, List.length_take, List.length_drop, AVal.own.injEq, reduceCtorEq, Int.reduceAdd] <;> omega)) (by (simp +decide -implicitDefEqProofs only [go_sem, mpE_nil, Int.natCast_zero, List.replicate_zero, List.length_take, List.length_drop, AVal.own.injEq, reduceCtorEq, Int.reduceAdd] <;> omega)) (fun x => ⟨rfl, rfl, rfl⟩) ?_
    clear hJ4
    rintro ⟨k4, out3, ver4⟩ ⟨hk4, hJ4⟩
    dsimp only at hk4 hJ4 ⊢
    refine AWP.seq ?_
    refine AWP.region rfl ?_; intro K hK
    (try simp +decide -implicitDefEqProofs only [go_sem])
    refine hK _ _ ?_; clear hK K
    refine qthen_normal ?_
    refine AWP.seq ?_
    refine AWP.cond (acond_split (fun hc => ?_) (fun hc => ?_))
    · have hlt4 : k4 < l.length := by have := of_decide_eq_true hc; omega
      obtain ⟨x_6, b4, hx4_, h, hJ4⟩ := for_cons hJ4 hlt4
      have hx4 := idxL_nat hx4_
      have hw4 : IntKind.i64.wrap (((k4 : Nat) : Int) + 1) = (((k4 : Nat) : Int) + (1 : Int)) := by rw [wrap_i64] <;> omega
      unfold graph_Without_b2 at h; try dsimp only at h
      refine AWP.skip ?_
      refine qthen_normal ?_
      refine AWP.seq ?_
      refine AWP.block ?_
      refine AWP.seq ?_
      refine AWP.region rfl ?_; intro K hK
      (try simp +decide -implicitDefEqProofs only [go_sem])
      refine AIdx.of (f := encApiEdge) (l := l) hx4 ?_
      (try simp +decide -implicitDefEqProofs only [go_sem])
      refine hK _ _ ?_; clear hK K
      refine qthen_normal ?_
      refine AWP.seq ?_
      refine AWP.region rfl ?_; intro K hK
      (try simp +decide -implicitDefEqProofs only [go_sem])
      refine ALook.of (f := boolV) (m := drop1) (d := false) rfl ?_
      (try simp +decide -implicitDefEqProofs only [go_sem])
      refine hK _ _ ?_; clear hK K
      refine qthen_normal ?_
      refine AWP.cond (acond_split (fun hc => ?_) (fun hc => ?_))
      · replace h := bif_t h hc
        refine AWP.region rfl ?_; intro K hK
        (try simp +decide -implicitDefEqProofs only [go_sem])
        obtain ⟨hk, h⟩ := chk_in h
        (repeat (refine ⟨by first | omega | (simp only [List.length_take, List.length_drop, List.length_append]; omega), ?_⟩)); try simp +decide -implicitDefEqProofs only [go_sem]
        refine hK _ _ ?_; clear hK K
        refine qblock_normal ?_
        refine qthen_normal ?_
        refine AWP.region rfl ?_; intro K hK
        (try simp +decide -implicitDefEqProofs only [go_sem])
        refine hK _ _ ?_; clear hK K
        refine qthen_normal ?_
        obtain rfl := some_eq h
        refine ⟨(k4 + 1, (out3 ++ [x_6]), (ver4 + 1)), ⟨by dsimp only; omega, cont_next hJ4⟩, by dsimp only; omega, ?_, ?_⟩
        · (simp +decide -implicitDefEqProofs only [go_sem, mpE_nil, Int.natCast_zero, List.replicate_zero, List.length_take, List.length_drop, AVal.own.injEq, reduceCtorEq, Int.reduceAdd, hw4] <;> omega)
        · (simp +decide -implicitDefEqProofs only [go_sem, mpE_nil, Int.natCast_zero, List.replicate_zero, List.length_take, List.length_drop, AVal.own.injEq, reduceCtorEq, Int.reduceAdd, hw4] <;> omega)
      replace h := bif_f h hc
      refine AWP.skip ?_
      refine qblock_normal ?_
      refine qthen_normal ?_
      refine AWP.region rfl ?_; intro K hK
      (try simp +decide -implicitDefEqProofs only [go_sem])
      refine hK _ _ ?_; clear hK K
      refine qthen_normal ?_
      obtain rfl := some_eq h
      refine ⟨(k4 + 1, out3, ver4), ⟨by dsimp only; omega, cont_next hJ4⟩, by dsimp only; omega, ?_, ?_⟩
      · (simp +decide -implicitDefEqProofs only [go_sem, mpE_nil, Int.natCast_zero, List.replicate_zero, List.length_take, List.length_drop, AVal.own.injEq, reduceCtorEq, Int.reduceAdd, hw4] <;> omega)
      · (simp +decide -implicitDefEqProofs only [go_sem, mpE_nil, Int.natCast_zero, List.replicate_zero, List.length_take, List.length_drop, AVal.own.injEq, reduceCtorEq, Int.reduceAdd, hw4] <;> omega)
    · obtain rfl := for_nil hJ4 (fun hl => by have := of_decide_eq_false hc; omega)
      have h := on_next hO4; try dsimp only at h
      have hkl : l.length = k4 := by have := of_decide_eq_false hc; omega
      subst hkl
      refine AWP.exit ?_
      refine qthen_exit ?_
      refine qthen_exit ?_
      refine qblock_same ?_
      refine qthen_normal ?_
      refine AWP.seq ?_
      refine AWP.region rfl ?_; intro K hK
      (try simp +decide -implicitDefEqProofs only [go_sem])
      refine hK _ _ ?_; clear hK K
      refine qthen_normal ?_
      refine AWP.ret ?_
      obtain rfl := some_eq h
      simp +decide -implicitDefEqProofs only [go_sem, mpE_nil, Int.natCast_zero, List.replicate_zero, List.length_take, List.length_drop, AVal.own.injEq, reduceCtorEq, Int.reduceAdd, nle2, nle1, nle0, nleA, nleL, Try.results27]
theorem graph_Without_spec (l : List ApiEdge) (ids : List Int) {r : (List ApiEdge)} (h : graph_Without l ids = some r) : PureFn Try.prog 27 [.sl 4 (l.map encApiEdge), .sl 1 (ids.map intC)] (· = .sl 4 (r.map encApiEdge)) := (graph_Without_fresh l ids h).pure

def graph_isNode (n_ : Int) : Option (Bool) :=
  (bif (decide ((0 : Int) ≤ n_)) then some (decide (n_ ≤ (9999 : Int))) else some false)

theorem graph_isNode_spec (n_ : Int) {r : Bool} (h : graph_isNode n_ = some r) : PureFn Try.prog 31 [.int .i64 n_] (· = .bool r) := by
  refine PureFn.nle (PureFn.intro Try.func31 rfl rfl (by show _ ≤ 9; simp) ?_)
  unfold graph_isNode at h
  (try simp +decide -implicitDefEqProofs only [go_sem])
  refine AWP.seq ?_
  refine AWP.region rfl ?_; intro K hK
  (try simp +decide -implicitDefEqProofs only [go_sem])
  refine hK _ _ ?_; clear hK K
  refine qthen_normal ?_
  refine AWP.seq ?_
  refine AWP.region rfl ?_; intro K hK
  (try simp +decide -implicitDefEqProofs only [go_sem])
  refine aguardK_split (fun hc => ?_) (fun hc => ?_)
  · replace h := bif_t h hc
    (try simp +decide -implicitDefEqProofs only [go_sem, hc])
    refine hK _ _ ?_; clear hK K
    refine qthen_normal ?_
    refine AWP.ret ?_
    obtain rfl := some_eq h
    simp +decide -implicitDefEqProofs only [go_sem, mpE_nil, Int.natCast_zero, List.replicate_zero, List.length_take, List.length_drop, AVal.own.injEq, reduceCtorEq, Int.reduceAdd, nle2, nle1, nle0, nleA, nleL, Try.results31]
  · replace h := bif_f h hc
    (try simp +decide -implicitDefEqProofs only [go_sem, hc, Bool.not_true])
    refine hK _ _ ?_; clear hK K
    refine qthen_normal ?_
    refine AWP.ret ?_
    obtain rfl := some_eq h
    simp +decide -implicitDefEqProofs only [go_sem, mpE_nil, Int.natCast_zero, List.replicate_zero, List.length_take, List.length_drop, AVal.own.injEq, reduceCtorEq, Int.reduceAdd, nle2, nle1, nle0, nleA, nleL, Try.results31]

end
end Go.Proofs.Ytabfjapdbelcoaa
