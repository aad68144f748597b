/-
  What functions of the program compute, as plain Lean functions, and the walks that prove it; printed by a small program of our own (wip/walk.py).
-/
import Derived.Test.YtacfmeobdobhhaaW2
namespace Go.Proofs.Ytacfmeobdobhhaa
open Go Go.Ab
attribute [local irreducible] AWP ACall DCall PureFn Go.Ab.Sub alist dlist AIdx AElem ALook ANext
set_option maxRecDepth 100000
set_option maxHeartbeats 4000000
set_option linter.unusedSimpArgs false
set_option linter.unusedVariables false
noncomputable section
def ref06_way_b1 (l : List ApiEdge) (seen : List Int) (via : List Int) (sv : Int × Int × (List Int)) : Option (Out (Int × Int × (List Int)) ((List Int))) :=
  (bif (decide ((0 : Int) ≤ sv.1)) then (idxL seen sv.1).bind fun x_6 => (bif (decide (x_6 ≠ sv.2.1)) then some (Out.next ((IntKind.i64.wrap (sv.1 - (1 : Int))), sv.2.1, sv.2.2)) else (idxL via sv.1).bind fun x_7 => (bif (decide (x_7 = (0 : Int))) then some (Out.next ((IntKind.i64.wrap (sv.1 - (1 : Int))), sv.2.1, sv.2.2)) else chk (sv.2.2.length + 1) ((bif (decide ((0 : Int) < x_7)) then (idxL l (IntKind.i64.wrap (x_7 - (1 : Int)))).bind fun x_8 => some (Out.next ((IntKind.i64.wrap (sv.1 - (1 : Int))), x_8.From, (sv.2.2 ++ [x_7]))) else (idxL l (IntKind.i64.wrap ((IntKind.i64.wrap (-x_7)) - (1 : Int)))).bind fun x_9 => some (Out.next ((IntKind.i64.wrap (sv.1 - (1 : Int))), x_9.To, (sv.2.2 ++ [x_7]))))))) else some (Out.ret sv.2.2))

def ref06_way (l : List ApiEdge) (seen : List Int) (via : List Int) (t : Int) : Option ((List Int)) :=
  (whileN (ref06_way_b1 l seen via) fuel ((IntKind.i64.wrap (((seen.length : Nat) : Int) - (1 : Int))), t, [])).bind fun o4 => o4.on fun _ => none

theorem ref06_way_fresh (l : List ApiEdge) (seen : List Int) (via : List Int) (t : Int) {r : (List Int)} (h : ref06_way l seen via t = some r) : FreshFn Try.prog 40 [.sl 4 (l.map encApiEdge), .sl 1 (seen.map intC), .sl 1 (via.map intC), .int .i64 t] (· = .sl 1 (r.map intC)) := by
  refine FreshFn.nle (FreshFn.intro Try.func40 rfl rfl (by show _ ≤ 63; simp) ?_)
  unfold ref06_way at h
  (try simp (implicitDefEqProofs := false) (decide := true) only [go_sem, Nat.reduceAdd, Nat.reduceMul, Nat.reduceSub, Int.reduceToNat])
  refine AWP.seq ?_
  refine AWP.region rfl ?_; intro K hK
  (try simp (implicitDefEqProofs := false) (decide := true) only [go_sem, Nat.reduceAdd, Nat.reduceMul, Nat.reduceSub, Int.reduceToNat])
  refine hK _ _ ?_; clear hK K
  refine qthen_normal ?_
  refine AWP.seq ?_
  refine AWP.region rfl ?_; intro K hK
  (try simp (implicitDefEqProofs := false) (decide := true) only [go_sem, Nat.reduceAdd, Nat.reduceMul, Nat.reduceSub, Int.reduceToNat])
  refine hK _ _ ?_; clear hK K
  refine qthen_normal ?_
  refine AWP.seq ?_
  refine AWP.seq ?_
  refine AWP.region rfl ?_; intro K hK
  (try simp (implicitDefEqProofs := false) (decide := true) only [go_sem, Nat.reduceAdd, Nat.reduceMul, Nat.reduceSub, Int.reduceToNat])
  intro hm
  refine hK _ _ ?_; clear hK K
  refine qthen_normal ?_
  refine AWP.block ?_
  refine AWP.ghost 9 1 rfl (by decide) ?_
  obtain ⟨o4, hJ4, hO4⟩ := bindE h
  clear h
  refine AWP.loopW (ι := Nat × (Int × Int × (List Int)) × (Nat)) (fun zz => [(0, .sl 4 (l.map encApiEdge)), (1, .sl 1 (seen.map intC)), (2, .sl 1 (via.map intC)), (3, .int .i64 zz.2.1.2.1), (9, .own 0 zz.2.2 0 zz.2.1.2.2.length), (10, .int .i64 zz.2.1.1)]) (fun zz => [.row zz.2.2 1 (zz.2.1.2.2.map intC)]) (fun zz => whileN (ref06_way_b1 l seen via) zz.1 zz.2.1 = some o4) (fun zz => zz.1) (fuel, ((IntKind.i64.wrap (((seen.length : Nat) : Int) - (1 : Int))), t, []), 0) hJ4 (by (simp (implicitDefEqProofs := false) (decide := true) only [go_sem, Nat.reduceAdd, Nat.reduceMul, Nat.reduceSub, Int.reduceToNat, mpE_nil, Int.natCast_zero, List.replicate_zero, List.length_take, List.length_drop, AVal.own.injEq, reduceCtorEq, Int.reduceAdd] <;> omega)) (by (simp (implicitDefEqProofs := false) (decide := true) only [go_sem, Nat.reduceAdd, Nat.reduceMul, Nat.reduceSub, Int.reduceToNat, mpE_nil, Int.natCast_zero, List.replicate_zero, List.length_take, List.length_drop, AVal.own.injEq, reduceCtorEq, Int.reduceAdd] <;> omega)) (fun x => ⟨rfl, rfl, rfl⟩) ?_
  clear hJ4
  rintro ⟨n4, ⟨i1, t2, out3⟩, ver4⟩ hJ4
  dsimp only at hJ4 ⊢
  obtain ⟨m4, b4, rfl, h, hJ4⟩ := while_step hJ4
  unfold ref06_way_b1 at h; try dsimp only at h
  refine AWP.seq ?_
  refine AWP.seq ?_
  refine AWP.region rfl ?_; intro K hK
  (try simp (implicitDefEqProofs := false) (decide := true) only [go_sem, Nat.reduceAdd, Nat.reduceMul, Nat.reduceSub, Int.reduceToNat])
  refine hK _ _ ?_; clear hK K
  refine qthen_normal ?_
  refine AWP.cond (acond_split (fun hc => ?_) (fun hc => ?_))
  · replace h := bif_t h hc
    refine AWP.skip ?_
    refine qthen_normal ?_
    refine AWP.seq ?_
    refine AWP.block ?_
    refine AWP.seq ?_
    refine AWP.seq ?_
    refine AWP.region rfl ?_; intro K hK
    (try simp (implicitDefEqProofs := false) (decide := true) only [go_sem, Nat.reduceAdd, Nat.reduceMul, Nat.reduceSub, Int.reduceToNat])
    obtain ⟨x_6, hx_6, h⟩ := bindE h
    refine AIdx.of (f := intC) (l := seen) hx_6 ?_
    (try simp (implicitDefEqProofs := false) (decide := true) only [go_sem, Nat.reduceAdd, Nat.reduceMul, Nat.reduceSub, Int.reduceToNat])
    refine aguardK_split (fun hc => ?_) (fun hc => ?_)
    · replace h := bif_f h hc
      (try simp (implicitDefEqProofs := false) (decide := true) only [go_sem, Nat.reduceAdd, Nat.reduceMul, Nat.reduceSub, Int.reduceToNat, hc])
      obtain ⟨x_7, hx_7, h⟩ := bindE h
      refine AIdx.of (f := intC) (l := via) hx_7 ?_
      (try simp (implicitDefEqProofs := false) (decide := true) only [go_sem, Nat.reduceAdd, Nat.reduceMul, Nat.reduceSub, Int.reduceToNat])
      refine hK _ _ ?_; clear hK K
      refine qthen_normal ?_
      refine AWP.cond (acond_split (fun hc => ?_) (fun hc => ?_))
      · replace h := bif_t h hc
        refine AWP.exit ?_
        refine qthen_exit ?_
        refine qblock_same ?_
        refine qthen_normal ?_
        refine AWP.region rfl ?_; intro K hK
        (try simp (implicitDefEqProofs := false) (decide := true) only [go_sem, Nat.reduceAdd, Nat.reduceMul, Nat.reduceSub, Int.reduceToNat])
        refine hK _ _ ?_; clear hK K
        refine qthen_normal ?_
        obtain rfl := some_eq h
        refine ⟨(m4, ((IntKind.i64.wrap (i1 - (1 : Int))), t2, out3), ver4), cont_next hJ4, by dsimp only; omega, ?_, ?_⟩
        · (simp (implicitDefEqProofs := false) (decide := true) only [go_sem, Nat.reduceAdd, Nat.reduceMul, Nat.reduceSub, Int.reduceToNat, mpE_nil, Int.natCast_zero, List.replicate_zero, List.length_take, List.length_drop, AVal.own.injEq, reduceCtorEq, Int.reduceAdd] <;> omega)
        · (simp (implicitDefEqProofs := false) (decide := true) only [go_sem, Nat.reduceAdd, Nat.reduceMul, Nat.reduceSub, Int.reduceToNat, mpE_nil, Int.natCast_zero, List.replicate_zero, List.length_take, List.length_drop, AVal.own.injEq, reduceCtorEq, Int.reduceAdd] <;> omega)
      · replace h := bif_f h hc
        refine AWP.skip ?_
        refine qthen_normal ?_
        refine AWP.seq ?_
        refine AWP.region rfl ?_; intro K hK
        (try simp (implicitDefEqProofs := false) (decide := true) only [go_sem, Nat.reduceAdd, Nat.reduceMul, Nat.reduceSub, Int.reduceToNat])
        refine AIdx.of (f := intC) (l := via) hx_7 ?_
        (try simp (implicitDefEqProofs := false) (decide := true) only [go_sem, Nat.reduceAdd, Nat.reduceMul, Nat.reduceSub, Int.reduceToNat])
        obtain ⟨hk, h⟩ := chk_in h
        (repeat (refine ⟨by first | omega | (simp only [List.length_take, List.length_drop, List.length_append]; omega), ?_⟩)); try simp (implicitDefEqProofs := false) (decide := true) only [go_sem, Nat.reduceAdd, Nat.reduceMul, Nat.reduceSub, Int.reduceToNat]
        refine hK _ _ ?_; clear hK K
        refine qthen_normal ?_
        refine AWP.seq ?_
        refine AWP.region rfl ?_; intro K hK
        (try simp (implicitDefEqProofs := false) (decide := true) only [go_sem, Nat.reduceAdd, Nat.reduceMul, Nat.reduceSub, Int.reduceToNat])
        refine AIdx.of (f := intC) (l := via) hx_7 ?_
        (try simp (implicitDefEqProofs := false) (decide := true) only [go_sem, Nat.reduceAdd, Nat.reduceMul, Nat.reduceSub, Int.reduceToNat])
        refine hK _ _ ?_; clear hK K
        refine qthen_normal ?_
        refine AWP.cond (acond_split (fun hc => ?_) (fun hc => ?_))
        · replace h := bif_t h hc
          refine AWP.region rfl ?_; intro K hK
          (try simp (implicitDefEqProofs := false) (decide := true) only [go_sem, Nat.reduceAdd, Nat.reduceMul, Nat.reduceSub, Int.reduceToNat])
          refine AIdx.of (f := intC) (l := via) hx_7 ?_
          (try simp (implicitDefEqProofs := false) (decide := true) only [go_sem, Nat.reduceAdd, Nat.reduceMul, Nat.reduceSub, Int.reduceToNat])
          obtain ⟨x_8, hx_8, h⟩ := bindE h
          refine AIdx.of (f := encApiEdge) (l := l) hx_8 ?_
          (try simp (implicitDefEqProofs := false) (decide := true) only [go_sem, Nat.reduceAdd, Nat.reduceMul, Nat.reduceSub, Int.reduceToNat])
          refine hK _ _ ?_; clear hK K
          refine qblock_normal ?_
          refine qthen_normal ?_
          refine AWP.region rfl ?_; intro K hK
          (try simp (implicitDefEqProofs := false) (decide := true) only [go_sem, Nat.reduceAdd, Nat.reduceMul, Nat.reduceSub, Int.reduceToNat])
          refine hK _ _ ?_; clear hK K
          refine qthen_normal ?_
          obtain rfl := some_eq h
          refine ⟨(m4, ((IntKind.i64.wrap (i1 - (1 : Int))), x_8.From, (out3 ++ [x_7])), (ver4 + 1)), cont_next hJ4, by dsimp only; omega, ?_, ?_⟩
          · (simp (implicitDefEqProofs := false) (decide := true) only [go_sem, Nat.reduceAdd, Nat.reduceMul, Nat.reduceSub, Int.reduceToNat, mpE_nil, Int.natCast_zero, List.replicate_zero, List.length_take, List.length_drop, AVal.own.injEq, reduceCtorEq, Int.reduceAdd] <;> omega)
          · (simp (implicitDefEqProofs := false) (decide := true) only [go_sem, Nat.reduceAdd, Nat.reduceMul, Nat.reduceSub, Int.reduceToNat, mpE_nil, Int.natCast_zero, List.replicate_zero, List.length_take, List.length_drop, AVal.own.injEq, reduceCtorEq, Int.reduceAdd] <;> omega)
        · replace h := bif_f h hc
          refine AWP.region rfl ?_; intro K hK
          (try simp (implicitDefEqProofs := false) (decide := true) only [go_sem, Nat.reduceAdd, Nat.reduceMul, Nat.reduceSub, Int.reduceToNat])
          refine AIdx.of (f := intC) (l := via) hx_7 ?_
          (try simp (implicitDefEqProofs := false) (decide := true) only [go_sem, Nat.reduceAdd, Nat.reduceMul, Nat.reduceSub, Int.reduceToNat])
          obtain ⟨x_9, hx_9, h⟩ := bindE h
          refine AIdx.of (f := encApiEdge) (l := l) hx_9 ?_
          (try simp (implicitDefEqProofs := false) (decide := true) only [go_sem, Nat.reduceAdd, Nat.reduceMul, Nat.reduceSub, Int.reduceToNat])
          refine hK _ _ ?_; clear hK K
          refine qblock_normal ?_
          refine qthen_normal ?_
          refine AWP.region rfl ?_; intro K hK
          (try simp (implicitDefEqProofs := false) (decide := true) only [go_sem, Nat.reduceAdd, Nat.reduceMul, Nat.reduceSub, Int.reduceToNat])
          refine hK _ _ ?_; clear hK K
          refine qthen_normal ?_
          obtain rfl := some_eq h
          refine ⟨(m4, ((IntKind.i64.wrap (i1 - (1 : Int))), x_9.To, (out3 ++ [x_7])), (ver4 + 1)), cont_next hJ4, by dsimp only; omega, ?_, ?_⟩
          · (simp (implicitDefEqProofs := false) (decide := true) only [go_sem, Nat.reduceAdd, Nat.reduceMul, Nat.reduceSub, Int.reduceToNat, mpE_nil, Int.natCast_zero, List.replicate_zero, List.length_take, List.length_drop, AVal.own.injEq, reduceCtorEq, Int.reduceAdd] <;> omega)
          · (simp (implicitDefEqProofs := false) (decide := true) only [go_sem, Nat.reduceAdd, Nat.reduceMul, Nat.reduceSub, Int.reduceToNat, mpE_nil, Int.natCast_zero, List.replicate_zero, List.length_take, List.length_drop, AVal.own.injEq, reduceCtorEq, Int.reduceAdd] <;> omega)
    · replace h := bif_t h hc
      (try simp (implicitDefEqProofs := false) (decide := true) only [go_sem, Nat.reduceAdd, Nat.reduceMul, Nat.reduceSub, Int.reduceToNat, hc, Bool.not_false])
      refine hK _ _ ?_; clear hK K
      refine qthen_normal ?_
      refine AWP.cond (acond_true ?_)
      refine AWP.exit ?_
      refine qthen_exit ?_
      refine qblock_same ?_
      refine qthen_normal ?_
      refine AWP.region rfl ?_; intro K hK
      (try simp (implicitDefEqProofs := false) (decide := true) only [go_sem, Nat.reduceAdd, Nat.reduceMul, Nat.reduceSub, Int.reduceToNat])
      refine hK _ _ ?_; clear hK K
      refine qthen_normal ?_
      obtain rfl := some_eq h
      refine ⟨(m4, ((IntKind.i64.wrap (i1 - (1 : Int))), t2, out3), ver4), cont_next hJ4, by dsimp only; omega, ?_, ?_⟩
      · (simp (implicitDefEqProofs := false) (decide := true) only [go_sem, Nat.reduceAdd, Nat.reduceMul, Nat.reduceSub, Int.reduceToNat, mpE_nil, Int.natCast_zero, List.replicate_zero, List.length_take, List.length_drop, AVal.own.injEq, reduceCtorEq, Int.reduceAdd] <;> omega)
      · (simp (implicitDefEqProofs := false) (decide := true) only [go_sem, Nat.reduceAdd, Nat.reduceMul, Nat.reduceSub, Int.reduceToNat, mpE_nil, Int.natCast_zero, List.replicate_zero, List.length_take, List.length_drop, AVal.own.injEq, reduceCtorEq, Int.reduceAdd] <;> omega)
  · replace h := bif_f h hc
    refine AWP.exit ?_
    refine qthen_exit ?_
    refine qthen_exit ?_
    obtain rfl := some_eq h
    obtain rfl := cont_ret hJ4
    replace h := on_ret hO4
    refine qblock_same ?_
    refine qthen_normal ?_
    refine AWP.seq ?_
    refine AWP.region rfl ?_; intro K hK
    (try simp (implicitDefEqProofs := false) (decide := true) only [go_sem, Nat.reduceAdd, Nat.reduceMul, Nat.reduceSub, Int.reduceToNat])
    refine hK _ _ ?_; clear hK K
    refine qthen_normal ?_
    refine AWP.ret ?_
    obtain rfl := some_eq h
    simp (implicitDefEqProofs := false) (decide := true) only [go_sem, Nat.reduceAdd, Nat.reduceMul, Nat.reduceSub, Int.reduceToNat, mpE_nil, Int.natCast_zero, List.replicate_zero, List.length_take, List.length_drop, AVal.own.injEq, reduceCtorEq, Int.reduceAdd, nle2, nle1, nle0, nleA, nleL, Try.results40]
theorem ref06_way_spec (l : List ApiEdge) (seen : List Int) (via : List Int) (t : Int) {r : (List Int)} (h : ref06_way l seen via t = some r) : PureFn Try.prog 40 [.sl 4 (l.map encApiEdge), .sl 1 (seen.map intC), .sl 1 (via.map intC), .int .i64 t] (· = .sl 1 (r.map intC)) := (ref06_way_fresh l seen via t h).pure

def ref06_Find_j4 (f_1 : List Int) (i4 : Int) (k13 : Nat) (x_15 : ApiEdge) (seen16 : List Int) (via18 : List Int) : Option (Out ((List Int) × (List Int)) (Out (Int × (List Int) × (List Int)) (Out ((List Int)) ((List Int))))) :=
  (idxL seen16 i4).bind fun x_21 => (bif (decide (x_15.To = x_21)) then (idxL f_1 ((k13 : Nat) : Int)).bind fun x_22 => (bif (decide ((0 : Int) < x_22)) then (ref06_has seen16 x_15.From).bind fun y23 => (bif (!y23) then chk (seen16.length + 1) (chk (via18.length + 1) (some (Out.next ((seen16 ++ [x_15.From]), (via18 ++ [(IntKind.i64.wrap ((IntKind.i64.wrap (-((k13 : Nat) : Int))) - (1 : Int)))]))))) else some (Out.next (seen16, via18))) else some (Out.next (seen16, via18))) else some (Out.next (seen16, via18)))

def ref06_Find_b3 (f_1 : List Int) (i4 : Int) (k13 : Nat) (x_15 : ApiEdge) (sv : (List Int) × (List Int)) : Option (Out ((List Int) × (List Int)) (Out (Int × (List Int) × (List Int)) (Out ((List Int)) ((List Int))))) :=
  (idxL sv.1 i4).bind fun x_24 => (bif (decide (x_15.From = x_24)) then (idxL f_1 ((k13 : Nat) : Int)).bind fun x_25 => (bif (decide (x_25 < x_15.Cost)) then (ref06_has sv.1 x_15.To).bind fun y26 => (bif (!y26) then chk (sv.1.length + 1) (chk (sv.2.length + 1) (ref06_Find_j4 f_1 i4 k13 x_15 (sv.1 ++ [x_15.To]) (sv.2 ++ [(IntKind.i64.wrap (((k13 : Nat) : Int) + (1 : Int)))]))) else ref06_Find_j4 f_1 i4 k13 x_15 sv.1 sv.2) else ref06_Find_j4 f_1 i4 k13 x_15 sv.1 sv.2) else ref06_Find_j4 f_1 i4 k13 x_15 sv.1 sv.2)

def ref06_Find_b6 (more28 : Int) (k31 : Nat) (x_33 : Int) (sv : (List Int)) : Option (Out ((List Int)) (Out ((List Int)) ((List Int)))) :=
  (bif (decide ((0 : Int) < x_33)) then (idxL sv (IntKind.i64.wrap (x_33 - (1 : Int)))).bind fun x_34 => some (Out.next (sv.set (IntKind.i64.wrap (x_33 - (1 : Int))).toNat (IntKind.i64.wrap (x_34 + more28)))) else (idxL sv (IntKind.i64.wrap ((IntKind.i64.wrap (-x_33)) - (1 : Int)))).bind fun x_36 => some (Out.next (sv.set (IntKind.i64.wrap ((IntKind.i64.wrap (-x_33)) - (1 : Int))).toNat (IntKind.i64.wrap (x_36 - more28)))))

def ref06_Find_j5 (f_1 : List Int) (y27 : (List Int)) (more28 : Int) : Option (Out ((List Int)) ((List Int))) :=
  (forIx (ref06_Find_b6 more28) 0 y27 f_1).bind fun o31 => o31.on fun s31 => some (Out.next s31)

def ref06_Find_b7 (l : List ApiEdge) (f_1 : List Int) (k38 : Nat) (x_40 : Int) (sv : Int) : Option (Out (Int) (Out ((List Int)) ((List Int)))) :=
  (bif (decide ((0 : Int) < x_40)) then (idxL l (IntKind.i64.wrap (x_40 - (1 : Int)))).bind fun x_41 => (idxL f_1 (IntKind.i64.wrap (x_40 - (1 : Int)))).bind fun x_42 => some (Out.next (if (IntKind.i64.wrap (x_41.Cost - x_42)) < sv then (IntKind.i64.wrap (x_41.Cost - x_42)) else sv)) else (idxL f_1 (IntKind.i64.wrap ((IntKind.i64.wrap (-x_40)) - (1 : Int)))).bind fun x_43 => some (Out.next (if x_43 < sv then x_43 else sv)))

def ref06_Find_b2 (l : List ApiEdge) (t : Int) (f_1 : List Int) (sv : Int × (List Int) × (List Int)) : Option (Out (Int × (List Int) × (List Int)) (Out ((List Int)) ((List Int)))) :=
  (bif (decide (sv.1 < ((sv.2.1.length : Nat) : Int))) then (forIx (ref06_Find_b3 f_1 sv.1) 0 l (sv.2.1, sv.2.2)).bind fun o13 => o13.on fun s13 => some (Out.next ((IntKind.i64.wrap (sv.1 + (1 : Int))), s13.1, s13.2)) else ((ref06_way l sv.2.1 sv.2.2 t).bind fun y27 => (bif (decide (((y27.length : Nat) : Int) = (0 : Int))) then some (Out.ret f_1) else (forIx (ref06_Find_b7 l f_1) 0 y27 (1000001 : Int)).bind fun o38 => o38.on fun s38 => ref06_Find_j5 f_1 y27 s38)).bind fun q43 => some (Out.ret q43))

def ref06_Find_b1 (l : List ApiEdge) (s_ : Int) (t : Int) (sv : (List Int)) : Option (Out ((List Int)) ((List Int))) :=
  (whileN (ref06_Find_b2 l t sv) fuel ((0 : Int), [s_], [(0 : Int)])).bind fun o8 => o8.on fun _ => none

def ref06_Find (l : List ApiEdge) (s_ : Int) (t : Int) : Option ((List Int)) :=
  chk l.length ((bif (decide (s_ = t)) then some (List.replicate l.length (0 : Int)) else (whileN (ref06_Find_b1 l s_ t) fuel (List.replicate l.length (0 : Int))).bind fun o2 => o2.on fun _ => none))

theorem ref06_Find_fresh (l : List ApiEdge) (s_ : Int) (t : Int) {r : (List Int)} (h : ref06_Find l s_ t = some r) : FreshFn Try.prog 29 [.sl 4 (l.map encApiEdge), .int .i64 s_, .int .i64 t] (· = .sl 1 (r.map intC)) := by
  refine FreshFn.nle (FreshFn.intro Try.func29 rfl rfl (by show _ ≤ 126; simp) ?_)
  unfold ref06_Find at h
  (try simp (implicitDefEqProofs := false) (decide := true) only [go_sem, Nat.reduceAdd, Nat.reduceMul, Nat.reduceSub, Int.reduceToNat])
  refine AWP.seq ?_
  refine AWP.region rfl ?_; intro K hK
  (try simp (implicitDefEqProofs := false) (decide := true) only [go_sem, Nat.reduceAdd, Nat.reduceMul, Nat.reduceSub, Int.reduceToNat])
  refine hK _ _ ?_; clear hK K
  refine qthen_normal ?_
  refine AWP.seq ?_
  refine AWP.region rfl ?_; intro K hK
  (try simp (implicitDefEqProofs := false) (decide := true) only [go_sem, Nat.reduceAdd, Nat.reduceMul, Nat.reduceSub, Int.reduceToNat])
  intro hm
  obtain ⟨hk, h⟩ := chk_in h
  (repeat (refine ⟨by first | omega | (simp only [List.length_take, List.length_drop, List.length_append]; omega), ?_⟩)); try simp (implicitDefEqProofs := false) (decide := true) only [go_sem, Nat.reduceAdd, Nat.reduceMul, Nat.reduceSub, Int.reduceToNat]
  refine hK _ _ ?_; clear hK K
  refine qthen_normal ?_
  refine AWP.seq ?_
  refine AWP.seq ?_
  refine AWP.region rfl ?_; intro K hK
  (try simp (implicitDefEqProofs := false) (decide := true) only [go_sem, Nat.reduceAdd, Nat.reduceMul, Nat.reduceSub, Int.reduceToNat])
  refine hK _ _ ?_; clear hK K
  refine qthen_normal ?_
  refine AWP.cond (acond_split (fun hc => ?_) (fun hc => ?_))
  · replace h := bif_t h hc
    refine AWP.seq ?_
    refine AWP.region rfl ?_; intro K hK
    (try simp (implicitDefEqProofs := false) (decide := true) only [go_sem, Nat.reduceAdd, Nat.reduceMul, Nat.reduceSub, Int.reduceToNat])
    refine hK _ _ ?_; clear hK K
    refine qthen_normal ?_
    refine AWP.ret ?_
    refine qthen_ret ?_
    obtain rfl := some_eq h
    simp (implicitDefEqProofs := false) (decide := true) only [go_sem, Nat.reduceAdd, Nat.reduceMul, Nat.reduceSub, Int.reduceToNat, mpE_nil, Int.natCast_zero, List.replicate_zero, List.length_take, List.length_drop, AVal.own.injEq, reduceCtorEq, Int.reduceAdd, nle2, nle1, nle0, nleA, nleL, Try.results29]
  · replace h := bif_f h hc
    refine AWP.skip ?_
    refine qthen_normal ?_
    refine AWP.block ?_
    obtain ⟨o2, hJ2, hO2⟩ := bindE h
    clear h
    refine AWP.loopW (ι := Nat × ((List Int)) × (Nat)) (fun zz => [(0, .sl 4 (l.map encApiEdge)), (1, .int .i64 s_), (2, .int .i64 t), (7, .own 0 zz.2.2 0 zz.2.1.length)]) (fun zz => [.row zz.2.2 1 (zz.2.1.map intC)]) (fun zz => whileN (ref06_Find_b1 l s_ t) zz.1 zz.2.1 = some o2) (fun zz => zz.1) (fuel, (List.replicate l.length (0 : Int)), 0) hJ2 (by (simp (implicitDefEqProofs := false) (decide := true) only [go_sem, Nat.reduceAdd, Nat.reduceMul, Nat.reduceSub, Int.reduceToNat, mpE_nil, Int.natCast_zero, List.replicate_zero, List.length_take, List.length_drop, AVal.own.injEq, reduceCtorEq, Int.reduceAdd] <;> omega)) (by (simp (implicitDefEqProofs := false) (decide := true) only [go_sem, Nat.reduceAdd, Nat.reduceMul, Nat.reduceSub, Int.reduceToNat, mpE_nil, Int.natCast_zero, List.replicate_zero, List.length_take, List.length_drop, AVal.own.injEq, reduceCtorEq, Int.reduceAdd] <;> omega)) (fun x => ⟨rfl, rfl, rfl⟩) ?_
    clear hJ2
    rintro ⟨n2, f_1, ver2⟩ hJ2
    dsimp only at hJ2 ⊢
    obtain ⟨m2, b2, rfl, h, hJ2⟩ := while_step hJ2
    unfold ref06_Find_b1 at h; try dsimp only at h
    refine AWP.block ?_
    refine AWP.seq ?_
    refine AWP.region rfl ?_; intro K hK
    (try simp (implicitDefEqProofs := false) (decide := true) only [go_sem, Nat.reduceAdd, Nat.reduceMul, Nat.reduceSub, Int.reduceToNat])
    refine ACall.inline Try.call35 Try.func35 rfl rfl (by show _ ≤ 115; simp) ?_
    (try simp (implicitDefEqProofs := false) (decide := true) only [go_sem, Nat.reduceAdd, Nat.reduceMul, Nat.reduceSub, Int.reduceToNat])
    refine AWP.seq ?_
    refine AWP.region rfl ?_; intro K hK
    (try simp (implicitDefEqProofs := false) (decide := true) only [go_sem, Nat.reduceAdd, Nat.reduceMul, Nat.reduceSub, Int.reduceToNat])
    refine hK _ _ ?_; clear hK K
    refine qthen_normal ?_
    refine AWP.seq ?_
    refine AWP.region rfl ?_; intro K hK
    (try simp (implicitDefEqProofs := false) (decide := true) only [go_sem, Nat.reduceAdd, Nat.reduceMul, Nat.reduceSub, Int.reduceToNat])
    refine hK _ _ ?_; clear hK K
    refine qthen_normal ?_
    refine AWP.seq ?_
    refine AWP.region rfl ?_; intro K hK
    (try simp (implicitDefEqProofs := false) (decide := true) only [go_sem, Nat.reduceAdd, Nat.reduceMul, Nat.reduceSub, Int.reduceToNat])
    refine hK _ _ ?_; clear hK K
    refine qthen_normal ?_
    refine AWP.seq ?_
    refine AWP.seq ?_
    refine AWP.region rfl ?_; intro K hK
    (try simp (implicitDefEqProofs := false) (decide := true) only [go_sem, Nat.reduceAdd, Nat.reduceMul, Nat.reduceSub, Int.reduceToNat])
    refine hK _ _ ?_; clear hK K
    refine qthen_normal ?_
    refine AWP.block ?_
    obtain ⟨o8, hJ8, hO8⟩ := bindE h
    clear h
    refine AWP.loopW (ι := Nat × (Int × (List Int) × (List Int)) × (Nat × Nat)) (fun zz => [(0, .sl 4 (l.map encApiEdge)), (1, .own 0 ver2 0 f_1.length), (8, .own 1 zz.2.2.1 0 zz.2.1.2.1.length), (9, .own 2 zz.2.2.2 0 zz.2.1.2.2.length), (10, .int .i64 zz.2.1.1)]) (fun zz => [.row ver2 1 (f_1.map intC), .row zz.2.2.1 1 (zz.2.1.2.1.map intC), .row zz.2.2.2 1 (zz.2.1.2.2.map intC)]) (fun zz => whileN (ref06_Find_b2 l t f_1) zz.1 zz.2.1 = some o8) (fun zz => zz.1) (fuel, ((0 : Int), [s_], [(0 : Int)]), (0, 0)) hJ8 (by (simp (implicitDefEqProofs := false) (decide := true) only [go_sem, Nat.reduceAdd, Nat.reduceMul, Nat.reduceSub, Int.reduceToNat, mpE_nil, Int.natCast_zero, List.replicate_zero, List.length_take, List.length_drop, AVal.own.injEq, reduceCtorEq, Int.reduceAdd] <;> omega)) (by (simp (implicitDefEqProofs := false) (decide := true) only [go_sem, Nat.reduceAdd, Nat.reduceMul, Nat.reduceSub, Int.reduceToNat, mpE_nil, Int.natCast_zero, List.replicate_zero, List.length_take, List.length_drop, AVal.own.injEq, reduceCtorEq, Int.reduceAdd] <;> omega)) (fun x => ⟨rfl, rfl, rfl⟩) ?_
    clear hJ8
    rintro ⟨n8, ⟨i4, seen5, via7⟩, ⟨ver6, ver8⟩⟩ hJ8
    dsimp only at hJ8 ⊢
    obtain ⟨m8, b8, rfl, h, hJ8⟩ := while_step hJ8
    unfold ref06_Find_b2 at h; try dsimp only at h
    refine AWP.seq ?_
    refine AWP.seq ?_
    refine AWP.region rfl ?_; intro K hK
    (try simp (implicitDefEqProofs := false) (decide := true) only [go_sem, Nat.reduceAdd, Nat.reduceMul, Nat.reduceSub, Int.reduceToNat])
    intro hm
    refine hK _ _ ?_; clear hK K
    refine qthen_normal ?_
    refine AWP.cond (acond_split (fun hc => ?_) (fun hc => ?_))
    · replace h := bif_t h hc
      refine AWP.skip ?_
      refine qthen_normal ?_
      refine AWP.seq ?_
      refine AWP.block ?_
      refine AWP.seq ?_
      refine AWP.region rfl ?_; intro K hK
      (try simp (implicitDefEqProofs := false) (decide := true) only [go_sem, Nat.reduceAdd, Nat.reduceMul, Nat.reduceSub, Int.reduceToNat])
      refine hK _ _ ?_; clear hK K
      refine qthen_normal ?_
      refine AWP.block ?_
      obtain ⟨o13, hJ13, hO13⟩ := bindE h
      clear h
      refine AWP.loopW (ι := Nat × ((List Int) × (List Int)) × (Nat × Nat)) (fun zz => [(0, .sl 4 (l.map encApiEdge)), (1, .own 0 ver2 0 f_1.length), (8, .own 1 zz.2.2.1 0 zz.2.1.1.length), (9, .own 2 zz.2.2.2 0 zz.2.1.2.length), (10, .int .i64 i4), (11, .int .i64 ((zz.1 : Nat) : Int))]) (fun zz => [.row ver2 1 (f_1.map intC), .row zz.2.2.1 1 (zz.2.1.1.map intC), .row zz.2.2.2 1 (zz.2.1.2.map intC)]) (fun zz => zz.1 ≤ l.length ∧ forIx (ref06_Find_b3 f_1 i4) zz.1 ((l).drop zz.1) zz.2.1 = some o13) (fun zz => l.length - zz.1) (0, (seen5, via7), (ver6, ver8)) ⟨Nat.zero_le _, hJ13⟩ (by (simp (implicitDefEqProofs := false) (decide := true) only [go_sem, Nat.reduceAdd, Nat.reduceMul, Nat.reduceSub, Int.reduceToNat, mpE_nil, Int.natCast_zero, List.replicate_zero, List.length_take, List.length_drop, AVal.own.injEq, reduceCtorEq, Int.reduceAdd] <;> omega)) (by (simp (implicitDefEqProofs := false) (decide := true) only [go_sem, Nat.reduceAdd, Nat.reduceMul, Nat.reduceSub, Int.reduceToNat, mpE_nil, Int.natCast_zero, List.replicate_zero, List.length_take, List.length_drop, AVal.own.injEq, reduceCtorEq, Int.reduceAdd] <;> omega)) (fun x => ⟨rfl, rfl, rfl⟩) ?_
      clear hJ13
      rintro ⟨k13, ⟨seen10, via12⟩, ⟨ver11, ver13⟩⟩ ⟨hk13, hJ13⟩
      dsimp only at hk13 hJ13 ⊢
      refine AWP.seq ?_
      refine AWP.seq ?_
      refine AWP.region rfl ?_; intro K hK
      (try simp (implicitDefEqProofs := false) (decide := true) only [go_sem, Nat.reduceAdd, Nat.reduceMul, Nat.reduceSub, Int.reduceToNat])
      intro hm
      refine hK _ _ ?_; clear hK K
      refine qthen_normal ?_
      refine AWP.cond (acond_split (fun hc => ?_) (fun hc => ?_))
      · have hlt13 : k13 < l.length := by have := of_decide_eq_true hc; omega
        obtain ⟨x_15, b13, hx13_, h, hJ13⟩ := for_cons hJ13 hlt13
        have hx13 := idxL_nat hx13_
        have hw13 : IntKind.i64.wrap (((k13 : Nat) : Int) + 1) = (((k13 : Nat) : Int) + (1 : Int)) := by rw [wrap_i64] <;> omega
        unfold ref06_Find_b3 at h; try dsimp only at h
        refine AWP.skip ?_
        refine qthen_normal ?_
        refine AWP.seq ?_
        refine AWP.block ?_
        refine AWP.seqJoin (ι := ((List Int) × (List Int)) × (Nat × Nat)) (fun zz => [(0, .sl 4 (l.map encApiEdge)), (1, .own 0 ver2 0 f_1.length), (8, .own 1 zz.2.1 0 zz.1.1.length), (9, .own 2 zz.2.2 0 zz.1.2.length), (10, .int .i64 i4), (11, .int .i64 ((k13 : Nat) : Int))]) (fun zz => [.row ver2 1 (f_1.map intC), .row zz.2.1 1 (zz.1.1.map intC), .row zz.2.2 1 (zz.1.2.map intC)]) (fun zz => ref06_Find_j4 f_1 i4 k13 x_15 zz.1.1 zz.1.2 = some b13) (fun zz => ⟨rfl, rfl, rfl⟩) ?_ ?_
        · refine AWP.seq ?_
          refine AWP.draw Try.mixed (by kernel_rfl) ?_; intro K hK
          (try simp (implicitDefEqProofs := false) (decide := true) only [go_sem, Nat.reduceAdd, Nat.reduceMul, Nat.reduceSub, Int.reduceToNat])
          refine AIdx.of (f := encApiEdge) (l := l) hx13 ?_
          (try simp (implicitDefEqProofs := false) (decide := true) only [go_sem, Nat.reduceAdd, Nat.reduceMul, Nat.reduceSub, Int.reduceToNat])
          obtain ⟨x_24, hx_24, h⟩ := bindE h
          refine own_in hx_24 (by first | rfl | exact (sortI_len _).symm | (simp only [List.length_append, List.length_cons, List.length_nil, List.length_set, List.length_replicate] <;> omega)) ?_
          (try simp (implicitDefEqProofs := false) (decide := true) only [go_sem, Nat.reduceAdd, Nat.reduceMul, Nat.reduceSub, Int.reduceToNat])
          refine AElem.of (f := intC) (l := seen10) (n := i4) hx_24 ?_
          (try simp (implicitDefEqProofs := false) (decide := true) only [go_sem, Nat.reduceAdd, Nat.reduceMul, Nat.reduceSub, Int.reduceToNat])
          refine aguardK_split (fun hc => ?_) (fun hc => ?_)
          · replace h := bif_t h hc
            (try simp (implicitDefEqProofs := false) (decide := true) only [go_sem, Nat.reduceAdd, Nat.reduceMul, Nat.reduceSub, Int.reduceToNat, hc])
            obtain ⟨x_25, hx_25, h⟩ := bindE h
            refine own_in hx_25 (by first | rfl | exact (sortI_len _).symm | (simp only [List.length_append, List.length_cons, List.length_nil, List.length_set, List.length_replicate] <;> omega)) ?_
            (try simp (implicitDefEqProofs := false) (decide := true) only [go_sem, Nat.reduceAdd, Nat.reduceMul, Nat.reduceSub, Int.reduceToNat])
            refine AElem.ofNat (f := intC) (l := f_1) (n := k13) hx_25 ?_
            (try simp (implicitDefEqProofs := false) (decide := true) only [go_sem, Nat.reduceAdd, Nat.reduceMul, Nat.reduceSub, Int.reduceToNat])
            refine AIdx.of (f := encApiEdge) (l := l) hx13 ?_
            (try simp (implicitDefEqProofs := false) (decide := true) only [go_sem, Nat.reduceAdd, Nat.reduceMul, Nat.reduceSub, Int.reduceToNat])
            refine aguardK_split (fun hc => ?_) (fun hc => ?_)
            · replace h := bif_t h hc
              (try simp (implicitDefEqProofs := false) (decide := true) only [go_sem, Nat.reduceAdd, Nat.reduceMul, Nat.reduceSub, Int.reduceToNat, hc])
              refine AIdx.of (f := encApiEdge) (l := l) hx13 ?_
              (try simp (implicitDefEqProofs := false) (decide := true) only [go_sem, Nat.reduceAdd, Nat.reduceMul, Nat.reduceSub, Int.reduceToNat])
              obtain ⟨y26, hy26, h⟩ := bindE h
              refine DCall.snap Try.call36 (ref06_has_spec seen10 x_15.To hy26) (by simp (implicitDefEqProofs := false) (decide := true) only [go_sem, Nat.reduceAdd, Nat.reduceMul, Nat.reduceSub, Int.reduceToNat]) rfl ?_
              (try simp (implicitDefEqProofs := false) (decide := true) only [go_sem, Nat.reduceAdd, Nat.reduceMul, Nat.reduceSub, Int.reduceToNat])
              refine hK _ _ _ (by kernel_rfl) ?_; clear hK K
              refine qthen_normal ?_
              refine AWP.cond (acond_split (fun hc => ?_) (fun hc => ?_))
              · replace h := bif_t h hc
                refine AWP.seq ?_
                refine AWP.region rfl ?_; intro K hK
                (try simp (implicitDefEqProofs := false) (decide := true) only [go_sem, Nat.reduceAdd, Nat.reduceMul, Nat.reduceSub, Int.reduceToNat])
                refine AIdx.of (f := encApiEdge) (l := l) hx13 ?_
                (try simp (implicitDefEqProofs := false) (decide := true) only [go_sem, Nat.reduceAdd, Nat.reduceMul, Nat.reduceSub, Int.reduceToNat])
                obtain ⟨hk, h⟩ := chk_in h
                (repeat (refine ⟨by first | omega | (simp only [List.length_take, List.length_drop, List.length_append]; omega), ?_⟩)); try simp (implicitDefEqProofs := false) (decide := true) only [go_sem, Nat.reduceAdd, Nat.reduceMul, Nat.reduceSub, Int.reduceToNat]
                refine hK _ _ ?_; clear hK K
                refine qthen_normal ?_
                refine AWP.region rfl ?_; intro K hK
                (try simp (implicitDefEqProofs := false) (decide := true) only [go_sem, Nat.reduceAdd, Nat.reduceMul, Nat.reduceSub, Int.reduceToNat])
                obtain ⟨hk, h⟩ := chk_in h
                (repeat (refine ⟨by first | omega | (simp only [List.length_take, List.length_drop, List.length_append]; omega), ?_⟩)); try simp (implicitDefEqProofs := false) (decide := true) only [go_sem, Nat.reduceAdd, Nat.reduceMul, Nat.reduceSub, Int.reduceToNat]
                refine hK _ _ ?_; clear hK K
                refine qthen_normal ?_
                exact ⟨(((seen10 ++ [x_15.To]), (via12 ++ [(IntKind.i64.wrap (((k13 : Nat) : Int) + (1 : Int)))])), ((ver11 + 1), (ver13 + 1))), h, by (simp (implicitDefEqProofs := false) (decide := true) only [go_sem, Nat.reduceAdd, Nat.reduceMul, Nat.reduceSub, Int.reduceToNat, mpE_nil, Int.natCast_zero, List.replicate_zero, List.length_take, List.length_drop, AVal.own.injEq, reduceCtorEq, Int.reduceAdd] <;> omega), by (simp (implicitDefEqProofs := false) (decide := true) only [go_sem, Nat.reduceAdd, Nat.reduceMul, Nat.reduceSub, Int.reduceToNat, mpE_nil, Int.natCast_zero, List.replicate_zero, List.length_take, List.length_drop, AVal.own.injEq, reduceCtorEq, Int.reduceAdd] <;> omega)⟩
              · replace h := bif_f h hc
                refine AWP.skip ?_
                refine qthen_normal ?_
                exact ⟨((seen10, via12), (ver11, ver13)), h, by (simp (implicitDefEqProofs := false) (decide := true) only [go_sem, Nat.reduceAdd, Nat.reduceMul, Nat.reduceSub, Int.reduceToNat, mpE_nil, Int.natCast_zero, List.replicate_zero, List.length_take, List.length_drop, AVal.own.injEq, reduceCtorEq, Int.reduceAdd] <;> omega), by (simp (implicitDefEqProofs := false) (decide := true) only [go_sem, Nat.reduceAdd, Nat.reduceMul, Nat.reduceSub, Int.reduceToNat, mpE_nil, Int.natCast_zero, List.replicate_zero, List.length_take, List.length_drop, AVal.own.injEq, reduceCtorEq, Int.reduceAdd] <;> omega)⟩
            · replace h := bif_f h hc
              (try simp (implicitDefEqProofs := false) (decide := true) only [go_sem, Nat.reduceAdd, Nat.reduceMul, Nat.reduceSub, Int.reduceToNat, hc, Bool.not_true])
              refine hK _ _ _ (by kernel_rfl) ?_; clear hK K
              refine qthen_normal ?_
              refine AWP.cond (acond_false ?_)
              refine AWP.skip ?_
              refine qthen_normal ?_
              exact ⟨((seen10, via12), (ver11, ver13)), h, by (simp (implicitDefEqProofs := false) (decide := true) only [go_sem, Nat.reduceAdd, Nat.reduceMul, Nat.reduceSub, Int.reduceToNat, mpE_nil, Int.natCast_zero, List.replicate_zero, List.length_take, List.length_drop, AVal.own.injEq, reduceCtorEq, Int.reduceAdd] <;> omega), by (simp (implicitDefEqProofs := false) (decide := true) only [go_sem, Nat.reduceAdd, Nat.reduceMul, Nat.reduceSub, Int.reduceToNat, mpE_nil, Int.natCast_zero, List.replicate_zero, List.length_take, List.length_drop, AVal.own.injEq, reduceCtorEq, Int.reduceAdd] <;> omega)⟩
          · replace h := bif_f h hc
            (try simp (implicitDefEqProofs := false) (decide := true) only [go_sem, Nat.reduceAdd, Nat.reduceMul, Nat.reduceSub, Int.reduceToNat, hc, Bool.not_true])
            refine hK _ _ _ (by kernel_rfl) ?_; clear hK K
            refine qthen_normal ?_
            refine AWP.cond (acond_false ?_)
            refine AWP.skip ?_
            refine qthen_normal ?_
            exact ⟨((seen10, via12), (ver11, ver13)), h, by (simp (implicitDefEqProofs := false) (decide := true) only [go_sem, Nat.reduceAdd, Nat.reduceMul, Nat.reduceSub, Int.reduceToNat, mpE_nil, Int.natCast_zero, List.replicate_zero, List.length_take, List.length_drop, AVal.own.injEq, reduceCtorEq, Int.reduceAdd] <;> omega), by (simp (implicitDefEqProofs := false) (decide := true) only [go_sem, Nat.reduceAdd, Nat.reduceMul, Nat.reduceSub, Int.reduceToNat, mpE_nil, Int.natCast_zero, List.replicate_zero, List.length_take, List.length_drop, AVal.own.injEq, reduceCtorEq, Int.reduceAdd] <;> omega)⟩
        · rintro ⟨⟨seen16, via18⟩, ⟨ver17, ver19⟩⟩ h
          try dsimp only at h ⊢
          unfold ref06_Find_j4 at h; try dsimp only at h
          refine AWP.seq ?_
          refine AWP.draw Try.mixed (by kernel_rfl) ?_; intro K hK
          (try simp (implicitDefEqProofs := false) (decide := true) only [go_sem, Nat.reduceAdd, Nat.reduceMul, Nat.reduceSub, Int.reduceToNat])
          refine AIdx.of (f := encApiEdge) (l := l) hx13 ?_
          (try simp (implicitDefEqProofs := false) (decide := true) only [go_sem, Nat.reduceAdd, Nat.reduceMul, Nat.reduceSub, Int.reduceToNat])
          obtain ⟨x_21, hx_21, h⟩ := bindE h
          refine own_in hx_21 (by first | rfl | exact (sortI_len _).symm | (simp only [List.length_append, List.length_cons, List.length_nil, List.length_set, List.length_replicate] <;> omega)) ?_
          (try simp (implicitDefEqProofs := false) (decide := true) only [go_sem, Nat.reduceAdd, Nat.reduceMul, Nat.reduceSub, Int.reduceToNat])
          refine AElem.of (f := intC) (l := seen16) (n := i4) hx_21 ?_
          (try simp (implicitDefEqProofs := false) (decide := true) only [go_sem, Nat.reduceAdd, Nat.reduceMul, Nat.reduceSub, Int.reduceToNat])
          refine aguardK_split (fun hc => ?_) (fun hc => ?_)
          · replace h := bif_t h hc
            (try simp (implicitDefEqProofs := false) (decide := true) only [go_sem, Nat.reduceAdd, Nat.reduceMul, Nat.reduceSub, Int.reduceToNat, hc])
            obtain ⟨x_22, hx_22, h⟩ := bindE h
            refine own_in hx_22 (by first | rfl | exact (sortI_len _).symm | (simp only [List.length_append, List.length_cons, List.length_nil, List.length_set, List.length_replicate] <;> omega)) ?_
            (try simp (implicitDefEqProofs := false) (decide := true) only [go_sem, Nat.reduceAdd, Nat.reduceMul, Nat.reduceSub, Int.reduceToNat])
            refine AElem.ofNat (f := intC) (l := f_1) (n := k13) hx_22 ?_
            (try simp (implicitDefEqProofs := false) (decide := true) only [go_sem, Nat.reduceAdd, Nat.reduceMul, Nat.reduceSub, Int.reduceToNat])
            refine aguardK_split (fun hc => ?_) (fun hc => ?_)
            · replace h := bif_t h hc
              (try simp (implicitDefEqProofs := false) (decide := true) only [go_sem, Nat.reduceAdd, Nat.reduceMul, Nat.reduceSub, Int.reduceToNat, hc])
              refine AIdx.of (f := encApiEdge) (l := l) hx13 ?_
              (try simp (implicitDefEqProofs := false) (decide := true) only [go_sem, Nat.reduceAdd, Nat.reduceMul, Nat.reduceSub, Int.reduceToNat])
              obtain ⟨y23, hy23, h⟩ := bindE h
              refine DCall.snap Try.call36 (ref06_has_spec seen16 x_15.From hy23) (by simp (implicitDefEqProofs := false) (decide := true) only [go_sem, Nat.reduceAdd, Nat.reduceMul, Nat.reduceSub, Int.reduceToNat]) rfl ?_
              (try simp (implicitDefEqProofs := false) (decide := true) only [go_sem, Nat.reduceAdd, Nat.reduceMul, Nat.reduceSub, Int.reduceToNat])
              refine hK _ _ _ (by kernel_rfl) ?_; clear hK K
              refine qthen_normal ?_
              refine AWP.cond (acond_split (fun hc => ?_) (fun hc => ?_))
              · replace h := bif_t h hc
                refine AWP.seq ?_
                refine AWP.region rfl ?_; intro K hK
                (try simp (implicitDefEqProofs := false) (decide := true) only [go_sem, Nat.reduceAdd, Nat.reduceMul, Nat.reduceSub, Int.reduceToNat])
                refine AIdx.of (f := encApiEdge) (l := l) hx13 ?_
                (try simp (implicitDefEqProofs := false) (decide := true) only [go_sem, Nat.reduceAdd, Nat.reduceMul, Nat.reduceSub, Int.reduceToNat])
                obtain ⟨hk, h⟩ := chk_in h
                (repeat (refine ⟨by first | omega | (simp only [List.length_take, List.length_drop, List.length_append]; omega), ?_⟩)); try simp (implicitDefEqProofs := false) (decide := true) only [go_sem, Nat.reduceAdd, Nat.reduceMul, Nat.reduceSub, Int.reduceToNat]
                refine hK _ _ ?_; clear hK K
                refine qthen_normal ?_
                refine AWP.region rfl ?_; intro K hK
                (try simp (implicitDefEqProofs := false) (decide := true) only [go_sem, Nat.reduceAdd, Nat.reduceMul, Nat.reduceSub, Int.reduceToNat])
                obtain ⟨hk, h⟩ := chk_in h
                (repeat (refine ⟨by first | omega | (simp only [List.length_take, List.length_drop, List.length_append]; omega), ?_⟩)); try simp (implicitDefEqProofs := false) (decide := true) only [go_sem, Nat.reduceAdd, Nat.reduceMul, Nat.reduceSub, Int.reduceToNat]
                refine hK _ _ ?_; clear hK K
                refine qblock_normal ?_
                refine qthen_normal ?_
                refine AWP.region rfl ?_; intro K hK
                (try simp (implicitDefEqProofs := false) (decide := true) only [go_sem, Nat.reduceAdd, Nat.reduceMul, Nat.reduceSub, Int.reduceToNat])
                refine hK _ _ ?_; clear hK K
                refine qthen_normal ?_
                obtain rfl := some_eq h
                refine ⟨(k13 + 1, ((seen16 ++ [x_15.From]), (via18 ++ [(IntKind.i64.wrap ((IntKind.i64.wrap (-((k13 : Nat) : Int))) - (1 : Int)))])), ((ver17 + 1), (ver19 + 1))), ⟨by dsimp only; omega, cont_next hJ13⟩, by dsimp only; omega, ?_, ?_⟩
                · (simp (implicitDefEqProofs := false) (decide := true) only [go_sem, Nat.reduceAdd, Nat.reduceMul, Nat.reduceSub, Int.reduceToNat, mpE_nil, Int.natCast_zero, List.replicate_zero, List.length_take, List.length_drop, AVal.own.injEq, reduceCtorEq, Int.reduceAdd, hw13] <;> omega)
                · (simp (implicitDefEqProofs := false) (decide := true) only [go_sem, Nat.reduceAdd, Nat.reduceMul, Nat.reduceSub, Int.reduceToNat, mpE_nil, Int.natCast_zero, List.replicate_zero, List.length_take, List.length_drop, AVal.own.injEq, reduceCtorEq, Int.reduceAdd, hw13] <;> omega)
              · replace h := bif_f h hc
                refine AWP.skip ?_
                refine qblock_normal ?_
                refine qthen_normal ?_
                refine AWP.region rfl ?_; intro K hK
                (try simp (implicitDefEqProofs := false) (decide := true) only [go_sem, Nat.reduceAdd, Nat.reduceMul, Nat.reduceSub, Int.reduceToNat])
                refine hK _ _ ?_; clear hK K
                refine qthen_normal ?_
                obtain rfl := some_eq h
                refine ⟨(k13 + 1, (seen16, via18), (ver17, ver19)), ⟨by dsimp only; omega, cont_next hJ13⟩, by dsimp only; omega, ?_, ?_⟩
                · (simp (implicitDefEqProofs := false) (decide := true) only [go_sem, Nat.reduceAdd, Nat.reduceMul, Nat.reduceSub, Int.reduceToNat, mpE_nil, Int.natCast_zero, List.replicate_zero, List.length_take, List.length_drop, AVal.own.injEq, reduceCtorEq, Int.reduceAdd, hw13] <;> omega)
                · (simp (implicitDefEqProofs := false) (decide := true) only [go_sem, Nat.reduceAdd, Nat.reduceMul, Nat.reduceSub, Int.reduceToNat, mpE_nil, Int.natCast_zero, List.replicate_zero, List.length_take, List.length_drop, AVal.own.injEq, reduceCtorEq, Int.reduceAdd, hw13] <;> omega)
            · replace h := bif_f h hc
              (try simp (implicitDefEqProofs := false) (decide := true) only [go_sem, Nat.reduceAdd, Nat.reduceMul, Nat.reduceSub, Int.reduceToNat, hc, Bool.not_true])
              refine hK _ _ _ (by kernel_rfl) ?_; clear hK K
              refine qthen_normal ?_
              refine AWP.cond (acond_false ?_)
              refine AWP.skip ?_
              refine qblock_normal ?_
              refine qthen_normal ?_
              refine AWP.region rfl ?_; intro K hK
              (try simp (implicitDefEqProofs := false) (decide := true) only [go_sem, Nat.reduceAdd, Nat.reduceMul, Nat.reduceSub, Int.reduceToNat])
              refine hK _ _ ?_; clear hK K
              refine qthen_normal ?_
              obtain rfl := some_eq h
              refine ⟨(k13 + 1, (seen16, via18), (ver17, ver19)), ⟨by dsimp only; omega, cont_next hJ13⟩, by dsimp only; omega, ?_, ?_⟩
              · (simp (implicitDefEqProofs := false) (decide := true) only [go_sem, Nat.reduceAdd, Nat.reduceMul, Nat.reduceSub, Int.reduceToNat, mpE_nil, Int.natCast_zero, List.replicate_zero, List.length_take, List.length_drop, AVal.own.injEq, reduceCtorEq, Int.reduceAdd, hw13] <;> omega)
              · (simp (implicitDefEqProofs := false) (decide := true) only [go_sem, Nat.reduceAdd, Nat.reduceMul, Nat.reduceSub, Int.reduceToNat, mpE_nil, Int.natCast_zero, List.replicate_zero, List.length_take, List.length_drop, AVal.own.injEq, reduceCtorEq, Int.reduceAdd, hw13] <;> omega)
          · replace h := bif_f h hc
            (try simp (implicitDefEqProofs := false) (decide := true) only [go_sem, Nat.reduceAdd, Nat.reduceMul, Nat.reduceSub, Int.reduceToNat, hc, Bool.not_true])
            refine hK _ _ _ (by kernel_rfl) ?_; clear hK K
            refine qthen_normal ?_
            refine AWP.cond (acond_false ?_)
            refine AWP.skip ?_
            refine qblock_normal ?_
            refine qthen_normal ?_
            refine AWP.region rfl ?_; intro K hK
            (try simp (implicitDefEqProofs := false) (decide := true) only [go_sem, Nat.reduceAdd, Nat.reduceMul, Nat.reduceSub, Int.reduceToNat])
            refine hK _ _ ?_; clear hK K
            refine qthen_normal ?_
            obtain rfl := some_eq h
            refine ⟨(k13 + 1, (seen16, via18), (ver17, ver19)), ⟨by dsimp only; omega, cont_next hJ13⟩, by dsimp only; omega, ?_, ?_⟩
            · (simp (implicitDefEqProofs := false) (decide := true) only [go_sem, Nat.reduceAdd, Nat.reduceMul, Nat.reduceSub, Int.reduceToNat, mpE_nil, Int.natCast_zero, List.replicate_zero, List.length_take, List.length_drop, AVal.own.injEq, reduceCtorEq, Int.reduceAdd, hw13] <;> omega)
            · (simp (implicitDefEqProofs := false) (decide := true) only [go_sem, Nat.reduceAdd, Nat.reduceMul, Nat.reduceSub, Int.reduceToNat, mpE_nil, Int.natCast_zero, List.replicate_zero, List.length_take, List.length_drop, AVal.own.injEq, reduceCtorEq, Int.reduceAdd, hw13] <;> omega)
      · obtain rfl := for_nil hJ13 (fun hl => by have := of_decide_eq_false hc; omega)
        have h := on_next hO13; try dsimp only at h
        have hkl : l.length = k13 := by have := of_decide_eq_false hc; omega
        subst hkl
        refine AWP.exit ?_
        refine qthen_exit ?_
        refine qthen_exit ?_
        refine qblock_same ?_
        refine qblock_normal ?_
        refine qthen_normal ?_
        refine AWP.region rfl ?_; intro K hK
        (try simp (implicitDefEqProofs := false) (decide := true) only [go_sem, Nat.reduceAdd, Nat.reduceMul, Nat.reduceSub, Int.reduceToNat])
        refine hK _ _ ?_; clear hK K
        refine qthen_normal ?_
        obtain rfl := some_eq h
        refine ⟨(m8, ((IntKind.i64.wrap (i4 + (1 : Int))), seen10, via12), (ver11, ver13)), cont_next hJ8, by dsimp only; omega, ?_, ?_⟩
        · (simp (implicitDefEqProofs := false) (decide := true) only [go_sem, Nat.reduceAdd, Nat.reduceMul, Nat.reduceSub, Int.reduceToNat, mpE_nil, Int.natCast_zero, List.replicate_zero, List.length_take, List.length_drop, AVal.own.injEq, reduceCtorEq, Int.reduceAdd] <;> omega)
        · (simp (implicitDefEqProofs := false) (decide := true) only [go_sem, Nat.reduceAdd, Nat.reduceMul, Nat.reduceSub, Int.reduceToNat, mpE_nil, Int.natCast_zero, List.replicate_zero, List.length_take, List.length_drop, AVal.own.injEq, reduceCtorEq, Int.reduceAdd] <;> omega)
    · replace h := bif_f h hc
      refine AWP.exit ?_
      refine qthen_exit ?_
      refine qthen_exit ?_
      obtain ⟨q43, hq, h⟩ := bindE h
      obtain rfl := some_eq h
      obtain rfl := cont_ret hJ8
      replace h := hq.trans (on_ret hO8)
      refine qblock_same ?_
      refine qthen_normal ?_
      refine AWP.seq ?_
      refine AWP.region rfl ?_; intro K hK
      (try simp (implicitDefEqProofs := false) (decide := true) only [go_sem, Nat.reduceAdd, Nat.reduceMul, Nat.reduceSub, Int.reduceToNat])
      refine hK _ _ ?_; clear hK K
      refine qthen_normal ?_
      refine AWP.ret ?_
      (try simp (implicitDefEqProofs := false) (decide := true) only [go_sem, Nat.reduceAdd, Nat.reduceMul, Nat.reduceSub, Int.reduceToNat, Try.results35])
      refine hK _ _ ?_; clear hK K
      refine qthen_normal ?_
      refine AWP.seq ?_
      refine AWP.region rfl ?_; intro K hK
      (try simp (implicitDefEqProofs := false) (decide := true) only [go_sem, Nat.reduceAdd, Nat.reduceMul, Nat.reduceSub, Int.reduceToNat])
      obtain ⟨y27, hy27, h⟩ := bindE h
      refine ACall.snapF Try.call40 (ref06_way_fresh l seen5 via7 t hy27) (by simp (implicitDefEqProofs := false) (decide := true) only [go_sem, Nat.reduceAdd, Nat.reduceMul, Nat.reduceSub, Int.reduceToNat]) fun _ hr => ?_
      subst hr
      (try simp (implicitDefEqProofs := false) (decide := true) only [go_sem, Nat.reduceAdd, Nat.reduceMul, Nat.reduceSub, Int.reduceToNat])
      refine hK _ _ ?_; clear hK K
      refine qthen_normal ?_
      refine AWP.seq ?_
      refine AWP.seq ?_
      refine AWP.region rfl ?_; intro K hK
      (try simp (implicitDefEqProofs := false) (decide := true) only [go_sem, Nat.reduceAdd, Nat.reduceMul, Nat.reduceSub, Int.reduceToNat])
      intro hm
      refine hK _ _ ?_; clear hK K
      refine qthen_normal ?_
      refine AWP.cond (acond_split (fun hc => ?_) (fun hc => ?_))
      · replace h := bif_t h hc
        refine AWP.seq ?_
        refine AWP.region rfl ?_; intro K hK
        (try simp (implicitDefEqProofs := false) (decide := true) only [go_sem, Nat.reduceAdd, Nat.reduceMul, Nat.reduceSub, Int.reduceToNat])
        refine hK _ _ ?_; clear hK K
        refine qthen_normal ?_
        refine AWP.ret ?_
        refine qthen_ret ?_
        refine qblock_ret ?_
        refine qthen_ret ?_
        obtain rfl := some_eq h
        obtain rfl := cont_ret hJ2
        replace h := on_ret hO2
        refine qblock_ret ?_
        obtain rfl := some_eq h
        simp (implicitDefEqProofs := false) (decide := true) only [go_sem, Nat.reduceAdd, Nat.reduceMul, Nat.reduceSub, Int.reduceToNat, mpE_nil, Int.natCast_zero, List.replicate_zero, List.length_take, List.length_drop, AVal.own.injEq, reduceCtorEq, Int.reduceAdd, nle2, nle1, nle0, nleA, nleL, Try.results29]
      · replace h := bif_f h hc
        refine AWP.skip ?_
        refine qthen_normal ?_
        refine AWP.seq ?_
        refine AWP.region rfl ?_; intro K hK
        (try simp (implicitDefEqProofs := false) (decide := true) only [go_sem, Nat.reduceAdd, Nat.reduceMul, Nat.reduceSub, Int.reduceToNat])
        refine hK _ _ ?_; clear hK K
        refine qthen_normal ?_
        refine AWP.seqJoin (ι := (Int) × (Unit)) (fun zz => [(0, .sl 4 (l.map encApiEdge)), (1, .int .i64 s_), (2, .int .i64 t), (7, .own 0 ver2 0 f_1.length), (10, .sl 1 (y27.map intC)), (11, .int .i64 zz.1)]) (fun zz => [.row ver2 1 (f_1.map intC)]) (fun zz => ref06_Find_j5 f_1 y27 zz.1 = some b2) (fun zz => ⟨rfl, rfl, rfl⟩) ?_ ?_
        · refine AWP.seq ?_
          refine AWP.region rfl ?_; intro K hK
          (try simp (implicitDefEqProofs := false) (decide := true) only [go_sem, Nat.reduceAdd, Nat.reduceMul, Nat.reduceSub, Int.reduceToNat])
          refine hK _ _ ?_; clear hK K
          refine qthen_normal ?_
          refine AWP.block ?_
          obtain ⟨o38, hJ38, hO38⟩ := bindE h
          clear h
          refine AWP.loopW (ι := Nat × (Int) × (Unit)) (fun zz => [(0, .sl 4 (l.map encApiEdge)), (1, .int .i64 s_), (2, .int .i64 t), (7, .own 0 ver2 0 f_1.length), (10, .sl 1 (y27.map intC)), (11, .int .i64 zz.2.1), (12, .int .i64 ((zz.1 : Nat) : Int))]) (fun zz => [.row ver2 1 (f_1.map intC)]) (fun zz => zz.1 ≤ y27.length ∧ forIx (ref06_Find_b7 l f_1) zz.1 ((y27).drop zz.1) zz.2.1 = some o38) (fun zz => y27.length - zz.1) (0, (1000001 : Int), ()) ⟨Nat.zero_le _, hJ38⟩ (by (simp (implicitDefEqProofs := false) (decide := true) only [go_sem, Nat.reduceAdd, Nat.reduceMul, Nat.reduceSub, Int.reduceToNat, mpE_nil, Int.natCast_zero, List.replicate_zero, List.length_take, List.length_drop, AVal.own.injEq, reduceCtorEq, Int.reduceAdd] <;> omega)) (by (simp (implicitDefEqProofs := false) (decide := true) only [go_sem, Nat.reduceAdd, Nat.reduceMul, Nat.reduceSub, Int.reduceToNat, mpE_nil, Int.natCast_zero, List.replicate_zero, List.length_take, List.length_drop, AVal.own.injEq, reduceCtorEq, Int.reduceAdd] <;> omega)) (fun x => ⟨rfl, rfl, rfl⟩) ?_
          clear hJ38
          rintro ⟨k38, more38, ⟨⟩⟩ ⟨hk38, hJ38⟩
          dsimp only at hk38 hJ38 ⊢
          refine AWP.seq ?_
          refine AWP.seq ?_
          refine AWP.region rfl ?_; intro K hK
          (try simp (implicitDefEqProofs := false) (decide := true) only [go_sem, Nat.reduceAdd, Nat.reduceMul, Nat.reduceSub, Int.reduceToNat])
          intro hm
          refine hK _ _ ?_; clear hK K
          refine qthen_normal ?_
          refine AWP.cond (acond_split (fun hc => ?_) (fun hc => ?_))
          · have hlt38 : k38 < y27.length := by have := of_decide_eq_true hc; omega
            obtain ⟨x_40, b38, hx38_, h, hJ38⟩ := for_cons hJ38 hlt38
            have hx38 := idxL_nat hx38_
            have hw38 : IntKind.i64.wrap (((k38 : Nat) : Int) + 1) = (((k38 : Nat) : Int) + (1 : Int)) := by rw [wrap_i64] <;> omega
            unfold ref06_Find_b7 at h; try dsimp only at h
            refine AWP.skip ?_
            refine qthen_normal ?_
            refine AWP.seq ?_
            refine AWP.block ?_
            refine AWP.seq ?_
            refine AWP.region rfl ?_; intro K hK
            (try simp (implicitDefEqProofs := false) (decide := true) only [go_sem, Nat.reduceAdd, Nat.reduceMul, Nat.reduceSub, Int.reduceToNat])
            refine AIdx.of (f := intC) (l := y27) hx38 ?_
            (try simp (implicitDefEqProofs := false) (decide := true) only [go_sem, Nat.reduceAdd, Nat.reduceMul, Nat.reduceSub, Int.reduceToNat])
            refine hK _ _ ?_; clear hK K
            refine qthen_normal ?_
            refine AWP.cond (acond_split (fun hc => ?_) (fun hc => ?_))
            · replace h := bif_t h hc
              refine AWP.draw Try.mixed (by kernel_rfl) ?_; intro K hK
              (try simp (implicitDefEqProofs := false) (decide := true) only [go_sem, Nat.reduceAdd, Nat.reduceMul, Nat.reduceSub, Int.reduceToNat])
              refine AIdx.of (f := intC) (l := y27) hx38 ?_
              (try simp (implicitDefEqProofs := false) (decide := true) only [go_sem, Nat.reduceAdd, Nat.reduceMul, Nat.reduceSub, Int.reduceToNat])
              obtain ⟨x_41, hx_41, h⟩ := bindE h
              refine AIdx.of (f := encApiEdge) (l := l) hx_41 ?_
              (try simp (implicitDefEqProofs := false) (decide := true) only [go_sem, Nat.reduceAdd, Nat.reduceMul, Nat.reduceSub, Int.reduceToNat])
              refine AIdx.of (f := intC) (l := y27) hx38 ?_
              (try simp (implicitDefEqProofs := false) (decide := true) only [go_sem, Nat.reduceAdd, Nat.reduceMul, Nat.reduceSub, Int.reduceToNat])
              obtain ⟨x_42, hx_42, h⟩ := bindE h
              refine own_in hx_42 (by first | rfl | exact (sortI_len _).symm | (simp only [List.length_append, List.length_cons, List.length_nil, List.length_set, List.length_replicate] <;> omega)) ?_
              (try simp (implicitDefEqProofs := false) (decide := true) only [go_sem, Nat.reduceAdd, Nat.reduceMul, Nat.reduceSub, Int.reduceToNat])
              refine AElem.of (f := intC) (l := f_1) (n := (IntKind.i64.wrap (x_40 - (1 : Int)))) hx_42 ?_
              (try simp (implicitDefEqProofs := false) (decide := true) only [go_sem, Nat.reduceAdd, Nat.reduceMul, Nat.reduceSub, Int.reduceToNat])
              refine hK _ _ _ (by kernel_rfl) ?_; clear hK K
              refine qblock_normal ?_
              refine qthen_normal ?_
              refine AWP.region rfl ?_; intro K hK
              (try simp (implicitDefEqProofs := false) (decide := true) only [go_sem, Nat.reduceAdd, Nat.reduceMul, Nat.reduceSub, Int.reduceToNat])
              refine hK _ _ ?_; clear hK K
              refine qthen_normal ?_
              obtain rfl := some_eq h
              refine ⟨(k38 + 1, (if (IntKind.i64.wrap (x_41.Cost - x_42)) < more38 then (IntKind.i64.wrap (x_41.Cost - x_42)) else more38), ()), ⟨by dsimp only; omega, cont_next hJ38⟩, by dsimp only; omega, ?_, ?_⟩
              · (simp (implicitDefEqProofs := false) (decide := true) only [go_sem, Nat.reduceAdd, Nat.reduceMul, Nat.reduceSub, Int.reduceToNat, mpE_nil, Int.natCast_zero, List.replicate_zero, List.length_take, List.length_drop, AVal.own.injEq, reduceCtorEq, Int.reduceAdd, hw38] <;> omega)
              · (simp (implicitDefEqProofs := false) (decide := true) only [go_sem, Nat.reduceAdd, Nat.reduceMul, Nat.reduceSub, Int.reduceToNat, mpE_nil, Int.natCast_zero, List.replicate_zero, List.length_take, List.length_drop, AVal.own.injEq, reduceCtorEq, Int.reduceAdd, hw38] <;> omega)
            · replace h := bif_f h hc
              refine AWP.region rfl ?_; intro K hK
              (try simp (implicitDefEqProofs := false) (decide := true) only [go_sem, Nat.reduceAdd, Nat.reduceMul, Nat.reduceSub, Int.reduceToNat])
              refine AIdx.of (f := intC) (l := y27) hx38 ?_
              (try simp (implicitDefEqProofs := false) (decide := true) only [go_sem, Nat.reduceAdd, Nat.reduceMul, Nat.reduceSub, Int.reduceToNat])
              obtain ⟨x_43, hx_43, h⟩ := bindE h
              refine own_in hx_43 (by first | rfl | exact (sortI_len _).symm | (simp only [List.length_append, List.length_cons, List.length_nil, List.length_set, List.length_replicate] <;> omega)) ?_
              (try simp (implicitDefEqProofs := false) (decide := true) only [go_sem, Nat.reduceAdd, Nat.reduceMul, Nat.reduceSub, Int.reduceToNat])
              refine AElem.of (f := intC) (l := f_1) (n := (IntKind.i64.wrap ((IntKind.i64.wrap (-x_40)) - (1 : Int)))) hx_43 ?_
              (try simp (implicitDefEqProofs := false) (decide := true) only [go_sem, Nat.reduceAdd, Nat.reduceMul, Nat.reduceSub, Int.reduceToNat])
              refine hK _ _ ?_; clear hK K
              refine qblock_normal ?_
              refine qthen_normal ?_
              refine AWP.region rfl ?_; intro K hK
              (try simp (implicitDefEqProofs := false) (decide := true) only [go_sem, Nat.reduceAdd, Nat.reduceMul, Nat.reduceSub, Int.reduceToNat])
              refine hK _ _ ?_; clear hK K
              refine qthen_normal ?_
              obtain rfl := some_eq h
              refine ⟨(k38 + 1, (if x_43 < more38 then x_43 else more38), ()), ⟨by dsimp only; omega, cont_next hJ38⟩, by dsimp only; omega, ?_, ?_⟩
              · (simp (implicitDefEqProofs := false) (decide := true) only [go_sem, Nat.reduceAdd, Nat.reduceMul, Nat.reduceSub, Int.reduceToNat, mpE_nil, Int.natCast_zero, List.replicate_zero, List.length_take, List.length_drop, AVal.own.injEq, reduceCtorEq, Int.reduceAdd, hw38] <;> omega)
              · (simp (implicitDefEqProofs := false) (decide := true) only [go_sem, Nat.reduceAdd, Nat.reduceMul, Nat.reduceSub, Int.reduceToNat, mpE_nil, Int.natCast_zero, List.replicate_zero, List.length_take, List.length_drop, AVal.own.injEq, reduceCtorEq, Int.reduceAdd, hw38] <;> omega)
          · obtain rfl := for_nil hJ38 (fun hl => by have := of_decide_eq_false hc; omega)
            have h := on_next hO38; try dsimp only at h
            have hkl : y27.length = k38 := by have := of_decide_eq_false hc; omega
            subst hkl
            refine AWP.exit ?_
            refine qthen_exit ?_
            refine qthen_exit ?_
            refine qblock_same ?_
            refine qthen_normal ?_
            exact ⟨(more38, ()), h, by (simp (implicitDefEqProofs := false) (decide := true) only [go_sem, Nat.reduceAdd, Nat.reduceMul, Nat.reduceSub, Int.reduceToNat, mpE_nil, Int.natCast_zero, List.replicate_zero, List.length_take, List.length_drop, AVal.own.injEq, reduceCtorEq, Int.reduceAdd] <;> omega), by (simp (implicitDefEqProofs := false) (decide := true) only [go_sem, Nat.reduceAdd, Nat.reduceMul, Nat.reduceSub, Int.reduceToNat, mpE_nil, Int.natCast_zero, List.replicate_zero, List.length_take, List.length_drop, AVal.own.injEq, reduceCtorEq, Int.reduceAdd] <;> omega)⟩
        · rintro ⟨more28, ⟨⟩⟩ h
          try dsimp only at h ⊢
          unfold ref06_Find_j5 at h; try dsimp only at h
          refine AWP.seq ?_
          refine AWP.region rfl ?_; intro K hK
          (try simp (implicitDefEqProofs := false) (decide := true) only [go_sem, Nat.reduceAdd, Nat.reduceMul, Nat.reduceSub, Int.reduceToNat])
          refine hK _ _ ?_; clear hK K
          refine qthen_normal ?_
          refine AWP.block ?_
          obtain ⟨o31, hJ31, hO31⟩ := bindE h
          clear h
          refine AWP.loopW (ι := Nat × ((List Int)) × (Nat)) (fun zz => [(0, .sl 4 (l.map encApiEdge)), (1, .int .i64 s_), (2, .int .i64 t), (7, .own 0 zz.2.2 0 zz.2.1.length), (10, .sl 1 (y27.map intC)), (11, .int .i64 more28), (13, .int .i64 ((zz.1 : Nat) : Int))]) (fun zz => [.row zz.2.2 1 (zz.2.1.map intC)]) (fun zz => zz.1 ≤ y27.length ∧ forIx (ref06_Find_b6 more28) zz.1 ((y27).drop zz.1) zz.2.1 = some o31) (fun zz => y27.length - zz.1) (0, f_1, ver2) ⟨Nat.zero_le _, hJ31⟩ (by (simp (implicitDefEqProofs := false) (decide := true) only [go_sem, Nat.reduceAdd, Nat.reduceMul, Nat.reduceSub, Int.reduceToNat, mpE_nil, Int.natCast_zero, List.replicate_zero, List.length_take, List.length_drop, AVal.own.injEq, reduceCtorEq, Int.reduceAdd] <;> omega)) (by (simp (implicitDefEqProofs := false) (decide := true) only [go_sem, Nat.reduceAdd, Nat.reduceMul, Nat.reduceSub, Int.reduceToNat, mpE_nil, Int.natCast_zero, List.replicate_zero, List.length_take, List.length_drop, AVal.own.injEq, reduceCtorEq, Int.reduceAdd] <;> omega)) (fun x => ⟨rfl, rfl, rfl⟩) ?_
          clear hJ31
          rintro ⟨k31, f_30, ver31⟩ ⟨hk31, hJ31⟩
          dsimp only at hk31 hJ31 ⊢
          refine AWP.seq ?_
          refine AWP.seq ?_
          refine AWP.region rfl ?_; intro K hK
          (try simp (implicitDefEqProofs := false) (decide := true) only [go_sem, Nat.reduceAdd, Nat.reduceMul, Nat.reduceSub, Int.reduceToNat])
          intro hm
          refine hK _ _ ?_; clear hK K
          refine qthen_normal ?_
          refine AWP.cond (acond_split (fun hc => ?_) (fun hc => ?_))
          · have hlt31 : k31 < y27.length := by have := of_decide_eq_true hc; omega
            obtain ⟨x_33, b31, hx31_, h, hJ31⟩ := for_cons hJ31 hlt31
            have hx31 := idxL_nat hx31_
            have hw31 : IntKind.i64.wrap (((k31 : Nat) : Int) + 1) = (((k31 : Nat) : Int) + (1 : Int)) := by rw [wrap_i64] <;> omega
            unfold ref06_Find_b6 at h; try dsimp only at h
            refine AWP.skip ?_
            refine qthen_normal ?_
            refine AWP.seq ?_
            refine AWP.block ?_
            refine AWP.seq ?_
            refine AWP.region rfl ?_; intro K hK
            (try simp (implicitDefEqProofs := false) (decide := true) only [go_sem, Nat.reduceAdd, Nat.reduceMul, Nat.reduceSub, Int.reduceToNat])
            refine AIdx.of (f := intC) (l := y27) hx31 ?_
            (try simp (implicitDefEqProofs := false) (decide := true) only [go_sem, Nat.reduceAdd, Nat.reduceMul, Nat.reduceSub, Int.reduceToNat])
            refine hK _ _ ?_; clear hK K
            refine qthen_normal ?_
            refine AWP.cond (acond_split (fun hc => ?_) (fun hc => ?_))
            · replace h := bif_t h hc
              refine AWP.draw Try.mixed (by kernel_rfl) ?_; intro K hK
              (try simp (implicitDefEqProofs := false) (decide := true) only [go_sem, Nat.reduceAdd, Nat.reduceMul, Nat.reduceSub, Int.reduceToNat])
              refine AIdx.of (f := intC) (l := y27) hx31 ?_
              (try simp (implicitDefEqProofs := false) (decide := true) only [go_sem, Nat.reduceAdd, Nat.reduceMul, Nat.reduceSub, Int.reduceToNat])
              refine AIdx.of (f := intC) (l := y27) hx31 ?_
              (try simp (implicitDefEqProofs := false) (decide := true) only [go_sem, Nat.reduceAdd, Nat.reduceMul, Nat.reduceSub, Int.reduceToNat])
              obtain ⟨x_34, hx_34, h⟩ := bindE h
              refine own_in hx_34 (by first | rfl | exact (sortI_len _).symm | (simp only [List.length_append, List.length_cons, List.length_nil, List.length_set, List.length_replicate] <;> omega)) ?_
              (try simp (implicitDefEqProofs := false) (decide := true) only [go_sem, Nat.reduceAdd, Nat.reduceMul, Nat.reduceSub, Int.reduceToNat])
              refine AElem.of (f := intC) (l := f_30) (n := (IntKind.i64.wrap (x_33 - (1 : Int)))) hx_34 ?_
              (try simp (implicitDefEqProofs := false) (decide := true) only [go_sem, Nat.reduceAdd, Nat.reduceMul, Nat.reduceSub, Int.reduceToNat])
              refine own_in hx_34 (by first | rfl | exact (sortI_len _).symm | (simp only [List.length_append, List.length_cons, List.length_nil, List.length_set, List.length_replicate] <;> omega)) ?_
              (try simp (implicitDefEqProofs := false) (decide := true) only [go_sem, Nat.reduceAdd, Nat.reduceMul, Nat.reduceSub, Int.reduceToNat])
              refine AElem.of (f := intC) (l := f_30) (n := (IntKind.i64.wrap (x_33 - (1 : Int)))) hx_34 ?_
              have hs35 := idxL_set (y := (IntKind.i64.wrap (x_34 + more28))) hx_34
              (try simp (implicitDefEqProofs := false) (decide := true) only [go_sem, Nat.reduceAdd, Nat.reduceMul, Nat.reduceSub, Int.reduceToNat])
              refine hK _ _ _ (by kernel_rfl) ?_; clear hK K
              refine qblock_normal ?_
              refine qthen_normal ?_
              refine AWP.region rfl ?_; intro K hK
              (try simp (implicitDefEqProofs := false) (decide := true) only [go_sem, Nat.reduceAdd, Nat.reduceMul, Nat.reduceSub, Int.reduceToNat])
              refine hK _ _ ?_; clear hK K
              refine qthen_normal ?_
              obtain rfl := some_eq h
              refine ⟨(k31 + 1, (f_30.set (IntKind.i64.wrap (x_33 - (1 : Int))).toNat (IntKind.i64.wrap (x_34 + more28))), ver31), ⟨by dsimp only; omega, cont_next hJ31⟩, by dsimp only; omega, ?_, ?_⟩
              · (simp (implicitDefEqProofs := false) (decide := true) only [go_sem, Nat.reduceAdd, Nat.reduceMul, Nat.reduceSub, Int.reduceToNat, mpE_nil, Int.natCast_zero, List.replicate_zero, List.length_take, List.length_drop, AVal.own.injEq, reduceCtorEq, Int.reduceAdd, hw31] <;> omega)
              · (simp (implicitDefEqProofs := false) (decide := true) only [go_sem, Nat.reduceAdd, Nat.reduceMul, Nat.reduceSub, Int.reduceToNat, mpE_nil, Int.natCast_zero, List.replicate_zero, List.length_take, List.length_drop, AVal.own.injEq, reduceCtorEq, Int.reduceAdd, hw31] <;> omega)
            · replace h := bif_f h hc
              refine AWP.draw Try.mixed (by kernel_rfl) ?_; intro K hK
              (try simp (implicitDefEqProofs := false) (decide := true) only [go_sem, Nat.reduceAdd, Nat.reduceMul, Nat.reduceSub, Int.reduceToNat])
              refine AIdx.of (f := intC) (l := y27) hx31 ?_
              (try simp (implicitDefEqProofs := false) (decide := true) only [go_sem, Nat.reduceAdd, Nat.reduceMul, Nat.reduceSub, Int.reduceToNat])
              refine AIdx.of (f := intC) (l := y27) hx31 ?_
              (try simp (implicitDefEqProofs := false) (decide := true) only [go_sem, Nat.reduceAdd, Nat.reduceMul, Nat.reduceSub, Int.reduceToNat])
              obtain ⟨x_36, hx_36, h⟩ := bindE h
              refine own_in hx_36 (by first | rfl | exact (sortI_len _).symm | (simp only [List.length_append, List.length_cons, List.length_nil, List.length_set, List.length_replicate] <;> omega)) ?_
              (try simp (implicitDefEqProofs := false) (decide := true) only [go_sem, Nat.reduceAdd, Nat.reduceMul, Nat.reduceSub, Int.reduceToNat])
              refine AElem.of (f := intC) (l := f_30) (n := (IntKind.i64.wrap ((IntKind.i64.wrap (-x_33)) - (1 : Int)))) hx_36 ?_
              (try simp (implicitDefEqProofs := false) (decide := true) only [go_sem, Nat.reduceAdd, Nat.reduceMul, Nat.reduceSub, Int.reduceToNat])
              refine own_in hx_36 (by first | rfl | exact (sortI_len _).symm | (simp only [List.length_append, List.length_cons, List.length_nil, List.length_set, List.length_replicate] <;> omega)) ?_
              (try simp (implicitDefEqProofs := false) (decide := true) only [go_sem, Nat.reduceAdd, Nat.reduceMul, Nat.reduceSub, Int.reduceToNat])
              refine AElem.of (f := intC) (l := f_30) (n := (IntKind.i64.wrap ((IntKind.i64.wrap (-x_33)) - (1 : Int)))) hx_36 ?_
              have hs37 := idxL_set (y := (IntKind.i64.wrap (x_36 - more28))) hx_36
              (try simp (implicitDefEqProofs := false) (decide := true) only [go_sem, Nat.reduceAdd, Nat.reduceMul, Nat.reduceSub, Int.reduceToNat])
              refine hK _ _ _ (by kernel_rfl) ?_; clear hK K
              refine qblock_normal ?_
              refine qthen_normal ?_
              refine AWP.region rfl ?_; intro K hK
              (try simp (implicitDefEqProofs := false) (decide := true) only [go_sem, Nat.reduceAdd, Nat.reduceMul, Nat.reduceSub, Int.reduceToNat])
              refine hK _ _ ?_; clear hK K
              refine qthen_normal ?_
              obtain rfl := some_eq h
              refine ⟨(k31 + 1, (f_30.set (IntKind.i64.wrap ((IntKind.i64.wrap (-x_33)) - (1 : Int))).toNat (IntKind.i64.wrap (x_36 - more28))), ver31), ⟨by dsimp only; omega, cont_next hJ31⟩, by dsimp only; omega, ?_, ?_⟩
              · (simp (implicitDefEqProofs := false) (decide := true) only [go_sem, Nat.reduceAdd, Nat.reduceMul, Nat.reduceSub, Int.reduceToNat, mpE_nil, Int.natCast_zero, List.replicate_zero, List.length_take, List.length_drop, AVal.own.injEq, reduceCtorEq, Int.reduceAdd, hw31] <;> omega)
              · (simp (implicitDefEqProofs := false) (decide := true) only [go_sem, Nat.reduceAdd, Nat.reduceMul, Nat.reduceSub, Int.reduceToNat, mpE_nil, Int.natCast_zero, List.replicate_zero, List.length_take, List.length_drop, AVal.own.injEq, reduceCtorEq, Int.reduceAdd, hw31] <;> omega)
          · obtain rfl := for_nil hJ31 (fun hl => by have := of_decide_eq_false hc; omega)
            have h := on_next hO31; try dsimp only at h
            have hkl : y27.length = k31 := by have := of_decide_eq_false hc; omega
            subst hkl
            refine AWP.exit ?_
            refine qthen_exit ?_
            refine qthen_exit ?_
            refine qblock_same ?_
            refine qblock_normal ?_
            refine qthen_normal ?_
            obtain rfl := some_eq h
            refine ⟨(m2, f_30, ver31), cont_next hJ2, by dsimp only; omega, ?_, ?_⟩
            · (simp (implicitDefEqProofs := false) (decide := true) only [go_sem, Nat.reduceAdd, Nat.reduceMul, Nat.reduceSub, Int.reduceToNat, mpE_nil, Int.natCast_zero, List.replicate_zero, List.length_take, List.length_drop, AVal.own.injEq, reduceCtorEq, Int.reduceAdd] <;> omega)
            · (simp (implicitDefEqProofs := false) (decide := true) only [go_sem, Nat.reduceAdd, Nat.reduceMul, Nat.reduceSub, Int.reduceToNat, mpE_nil, Int.natCast_zero, List.replicate_zero, List.length_take, List.length_drop, AVal.own.injEq, reduceCtorEq, Int.reduceAdd] <;> omega)
theorem ref06_Find_spec (l : List ApiEdge) (s_ : Int) (t : Int) {r : (List Int)} (h : ref06_Find l s_ t = some r) : PureFn Try.prog 29 [.sl 4 (l.map encApiEdge), .int .i64 s_, .int .i64 t] (· = .sl 1 (r.map intC)) := (ref06_Find_fresh l s_ t h).pure

def ref06_Max (l : List ApiEdge) (s_ : Int) (t : Int) : Option (Int) :=
  (bif (decide (s_ = t)) then some (0 : Int) else (ref06_Find l s_ t).bind fun y1 => (ref06_Value l y1 s_).bind fun y2 => some y2)

theorem ref06_Max_spec (l : List ApiEdge) (s_ : Int) (t : Int) {r : Int} (h : ref06_Max l s_ t = some r) : PureFn Try.prog 18 [.sl 4 (l.map encApiEdge), .int .i64 s_, .int .i64 t] (· = .int .i64 r) := by
  refine PureFn.nle (PureFn.intro Try.func18 rfl rfl (by show _ ≤ 17; simp) ?_)
  unfold ref06_Max at h
  (try simp (implicitDefEqProofs := false) (decide := true) only [go_sem, Nat.reduceAdd, Nat.reduceMul, Nat.reduceSub, Int.reduceToNat])
  refine AWP.seq ?_
  refine AWP.region rfl ?_; intro K hK
  (try simp (implicitDefEqProofs := false) (decide := true) only [go_sem, Nat.reduceAdd, Nat.reduceMul, Nat.reduceSub, Int.reduceToNat])
  refine hK _ _ ?_; clear hK K
  refine qthen_normal ?_
  refine AWP.seq ?_
  refine AWP.seq ?_
  refine AWP.region rfl ?_; intro K hK
  (try simp (implicitDefEqProofs := false) (decide := true) only [go_sem, Nat.reduceAdd, Nat.reduceMul, Nat.reduceSub, Int.reduceToNat])
  refine hK _ _ ?_; clear hK K
  refine qthen_normal ?_
  refine AWP.cond (acond_split (fun hc => ?_) (fun hc => ?_))
  · replace h := bif_t h hc
    refine AWP.seq ?_
    refine AWP.region rfl ?_; intro K hK
    (try simp (implicitDefEqProofs := false) (decide := true) only [go_sem, Nat.reduceAdd, Nat.reduceMul, Nat.reduceSub, Int.reduceToNat])
    refine hK _ _ ?_; clear hK K
    refine qthen_normal ?_
    refine AWP.ret ?_
    refine qthen_ret ?_
    obtain rfl := some_eq h
    simp (implicitDefEqProofs := false) (decide := true) only [go_sem, Nat.reduceAdd, Nat.reduceMul, Nat.reduceSub, Int.reduceToNat, mpE_nil, Int.natCast_zero, List.replicate_zero, List.length_take, List.length_drop, AVal.own.injEq, reduceCtorEq, Int.reduceAdd, nle2, nle1, nle0, nleA, nleL, Try.results18]
  · replace h := bif_f h hc
    refine AWP.skip ?_
    refine qthen_normal ?_
    refine AWP.seq ?_
    refine AWP.region rfl ?_; intro K hK
    (try simp (implicitDefEqProofs := false) (decide := true) only [go_sem, Nat.reduceAdd, Nat.reduceMul, Nat.reduceSub, Int.reduceToNat])
    obtain ⟨y1, hy1, h⟩ := bindE h
    refine ACall.pure Try.call29 (ref06_Find_spec l s_ t hy1) rfl fun _ hr => ?_
    subst hr
    (try simp (implicitDefEqProofs := false) (decide := true) only [go_sem, Nat.reduceAdd, Nat.reduceMul, Nat.reduceSub, Int.reduceToNat])
    obtain ⟨y2, hy2, h⟩ := bindE h
    refine ACall.pure Try.call16 (ref06_Value_spec l y1 s_ hy2) rfl fun _ hr => ?_
    subst hr
    (try simp (implicitDefEqProofs := false) (decide := true) only [go_sem, Nat.reduceAdd, Nat.reduceMul, Nat.reduceSub, Int.reduceToNat])
    refine hK _ _ ?_; clear hK K
    refine qthen_normal ?_
    refine AWP.ret ?_
    obtain rfl := some_eq h
    simp (implicitDefEqProofs := false) (decide := true) only [go_sem, Nat.reduceAdd, Nat.reduceMul, Nat.reduceSub, Int.reduceToNat, mpE_nil, Int.natCast_zero, List.replicate_zero, List.length_take, List.length_drop, AVal.own.injEq, reduceCtorEq, Int.reduceAdd, nle2, nle1, nle0, nleA, nleL, Try.results18]

def law06_FlowMax (l : List ApiEdge) (s_ : Int) (t : Int) : Option (Bool) :=
  (law06_alive).bind fun y1 => (bif (!y1) then some false else (law06_few l).bind fun y2 => (bif (!y2) then some true else (flow_Max l s_ t).bind fun y3 => (ref06_Max l s_ t).bind fun y4 => some (decide (y3 = y4))))

theorem law06_FlowMax_spec (l : List ApiEdge) (s_ : Int) (t : Int) {r : Bool} (h : law06_FlowMax l s_ t = some r) : PureFn Try.prog 4 [.sl 4 (l.map encApiEdge), .int .i64 s_, .int .i64 t] (· = .bool r) := by
  refine PureFn.nle (PureFn.intro Try.func4 rfl rfl (by show _ ≤ 23; simp) ?_)
  unfold law06_FlowMax at h
  (try simp (implicitDefEqProofs := false) (decide := true) only [go_sem, Nat.reduceAdd, Nat.reduceMul, Nat.reduceSub, Int.reduceToNat])
  refine AWP.seq ?_
  refine AWP.region rfl ?_; intro K hK
  (try simp (implicitDefEqProofs := false) (decide := true) only [go_sem, Nat.reduceAdd, Nat.reduceMul, Nat.reduceSub, Int.reduceToNat])
  refine hK _ _ ?_; clear hK K
  refine qthen_normal ?_
  refine AWP.seq ?_
  refine AWP.seq ?_
  refine AWP.region rfl ?_; intro K hK
  (try simp (implicitDefEqProofs := false) (decide := true) only [go_sem, Nat.reduceAdd, Nat.reduceMul, Nat.reduceSub, Int.reduceToNat])
  obtain ⟨y1, hy1, h⟩ := bindE h
  refine ACall.pure Try.call11 (law06_alive_spec hy1) rfl fun _ hr => ?_
  subst hr
  (try simp (implicitDefEqProofs := false) (decide := true) only [go_sem, Nat.reduceAdd, Nat.reduceMul, Nat.reduceSub, Int.reduceToNat])
  refine hK _ _ ?_; clear hK K
  refine qthen_normal ?_
  refine AWP.cond (acond_split (fun hc => ?_) (fun hc => ?_))
  · replace h := bif_t h hc
    refine AWP.seq ?_
    refine AWP.region rfl ?_; intro K hK
    (try simp (implicitDefEqProofs := false) (decide := true) only [go_sem, Nat.reduceAdd, Nat.reduceMul, Nat.reduceSub, Int.reduceToNat])
    refine hK _ _ ?_; clear hK K
    refine qthen_normal ?_
    refine AWP.ret ?_
    refine qthen_ret ?_
    obtain rfl := some_eq h
    simp (implicitDefEqProofs := false) (decide := true) only [go_sem, Nat.reduceAdd, Nat.reduceMul, Nat.reduceSub, Int.reduceToNat, mpE_nil, Int.natCast_zero, List.replicate_zero, List.length_take, List.length_drop, AVal.own.injEq, reduceCtorEq, Int.reduceAdd, nle2, nle1, nle0, nleA, nleL, Try.results4]
  · replace h := bif_f h hc
    refine AWP.skip ?_
    refine qthen_normal ?_
    refine AWP.seq ?_
    refine AWP.region rfl ?_; intro K hK
    (try simp (implicitDefEqProofs := false) (decide := true) only [go_sem, Nat.reduceAdd, Nat.reduceMul, Nat.reduceSub, Int.reduceToNat])
    obtain ⟨y2, hy2, h⟩ := bindE h
    refine ACall.pure Try.call12 (law06_few_spec l hy2) rfl fun _ hr => ?_
    subst hr
    (try simp (implicitDefEqProofs := false) (decide := true) only [go_sem, Nat.reduceAdd, Nat.reduceMul, Nat.reduceSub, Int.reduceToNat])
    refine aguardK_split (fun hc => ?_) (fun hc => ?_)
    · replace h := bif_f h hc
      (try simp (implicitDefEqProofs := false) (decide := true) only [go_sem, Nat.reduceAdd, Nat.reduceMul, Nat.reduceSub, Int.reduceToNat, hc])
      obtain ⟨y3, hy3, h⟩ := bindE h
      refine ACall.pure Try.call17 (flow_Max_spec l s_ t hy3) rfl fun _ hr => ?_
      subst hr
      (try simp (implicitDefEqProofs := false) (decide := true) only [go_sem, Nat.reduceAdd, Nat.reduceMul, Nat.reduceSub, Int.reduceToNat])
      obtain ⟨y4, hy4, h⟩ := bindE h
      refine ACall.pure Try.call18 (ref06_Max_spec l s_ t hy4) rfl fun _ hr => ?_
      subst hr
      (try simp (implicitDefEqProofs := false) (decide := true) only [go_sem, Nat.reduceAdd, Nat.reduceMul, Nat.reduceSub, Int.reduceToNat])
      refine hK _ _ ?_; clear hK K
      refine qthen_normal ?_
      refine AWP.ret ?_
      obtain rfl := some_eq h
      simp (implicitDefEqProofs := false) (decide := true) only [go_sem, Nat.reduceAdd, Nat.reduceMul, Nat.reduceSub, Int.reduceToNat, mpE_nil, Int.natCast_zero, List.replicate_zero, List.length_take, List.length_drop, AVal.own.injEq, reduceCtorEq, Int.reduceAdd, nle2, nle1, nle0, nleA, nleL, Try.results4]
    · replace h := bif_t h hc
      (try simp (implicitDefEqProofs := false) (decide := true) only [go_sem, Nat.reduceAdd, Nat.reduceMul, Nat.reduceSub, Int.reduceToNat, hc, Bool.not_false])
      refine hK _ _ ?_; clear hK K
      refine qthen_normal ?_
      refine AWP.ret ?_
      obtain rfl := some_eq h
      simp (implicitDefEqProofs := false) (decide := true) only [go_sem, Nat.reduceAdd, Nat.reduceMul, Nat.reduceSub, Int.reduceToNat, mpE_nil, Int.natCast_zero, List.replicate_zero, List.length_take, List.length_drop, AVal.own.injEq, reduceCtorEq, Int.reduceAdd, nle2, nle1, nle0, nleA, nleL, Try.results4]

def law06_FlowFinds (l : List ApiEdge) (s_ : Int) (t : Int) : Option (Bool) :=
  (law06_alive).bind fun y1 => (bif (!y1) then some false else (law06_few l).bind fun y2 => (bif (!y2) then some true else (flow_Find l s_ t).bind fun y3 => (bif (decide (s_ = t)) then chk l.length ((ref06_Same y3 (List.replicate l.length (0 : Int))).bind fun y4 => some y4) else (ref06_Valid l y3 s_ t).bind fun y5 => (bif y5 then (ref06_Value l y3 s_).bind fun y6 => (ref06_Max l s_ t).bind fun y7 => some (decide (y6 = y7)) else some false))))

theorem law06_FlowFinds_spec (l : List ApiEdge) (s_ : Int) (t : Int) {r : Bool} (h : law06_FlowFinds l s_ t = some r) : PureFn Try.prog 5 [.sl 4 (l.map encApiEdge), .int .i64 s_, .int .i64 t] (· = .bool r) := by
  refine PureFn.nle (PureFn.intro Try.func5 rfl rfl (by show _ ≤ 41; simp) ?_)
  unfold law06_FlowFinds at h
  (try simp (implicitDefEqProofs := false) (decide := true) only [go_sem, Nat.reduceAdd, Nat.reduceMul, Nat.reduceSub, Int.reduceToNat])
  refine AWP.seq ?_
  refine AWP.region rfl ?_; intro K hK
  (try simp (implicitDefEqProofs := false) (decide := true) only [go_sem, Nat.reduceAdd, Nat.reduceMul, Nat.reduceSub, Int.reduceToNat])
  refine hK _ _ ?_; clear hK K
  refine qthen_normal ?_
  refine AWP.seq ?_
  refine AWP.seq ?_
  refine AWP.region rfl ?_; intro K hK
  (try simp (implicitDefEqProofs := false) (decide := true) only [go_sem, Nat.reduceAdd, Nat.reduceMul, Nat.reduceSub, Int.reduceToNat])
  obtain ⟨y1, hy1, h⟩ := bindE h
  refine ACall.pure Try.call11 (law06_alive_spec hy1) rfl fun _ hr => ?_
  subst hr
  (try simp (implicitDefEqProofs := false) (decide := true) only [go_sem, Nat.reduceAdd, Nat.reduceMul, Nat.reduceSub, Int.reduceToNat])
  refine hK _ _ ?_; clear hK K
  refine qthen_normal ?_
  refine AWP.cond (acond_split (fun hc => ?_) (fun hc => ?_))
  · replace h := bif_t h hc
    refine AWP.seq ?_
    refine AWP.region rfl ?_; intro K hK
    (try simp (implicitDefEqProofs := false) (decide := true) only [go_sem, Nat.reduceAdd, Nat.reduceMul, Nat.reduceSub, Int.reduceToNat])
    refine hK _ _ ?_; clear hK K
    refine qthen_normal ?_
    refine AWP.ret ?_
    refine qthen_ret ?_
    obtain rfl := some_eq h
    simp (implicitDefEqProofs := false) (decide := true) only [go_sem, Nat.reduceAdd, Nat.reduceMul, Nat.reduceSub, Int.reduceToNat, mpE_nil, Int.natCast_zero, List.replicate_zero, List.length_take, List.length_drop, AVal.own.injEq, reduceCtorEq, Int.reduceAdd, nle2, nle1, nle0, nleA, nleL, Try.results5]
  · replace h := bif_f h hc
    refine AWP.skip ?_
    refine qthen_normal ?_
    refine AWP.seq ?_
    refine AWP.seq ?_
    refine AWP.region rfl ?_; intro K hK
    (try simp (implicitDefEqProofs := false) (decide := true) only [go_sem, Nat.reduceAdd, Nat.reduceMul, Nat.reduceSub, Int.reduceToNat])
    obtain ⟨y2, hy2, h⟩ := bindE h
    refine ACall.pure Try.call12 (law06_few_spec l hy2) rfl fun _ hr => ?_
    subst hr
    (try simp (implicitDefEqProofs := false) (decide := true) only [go_sem, Nat.reduceAdd, Nat.reduceMul, Nat.reduceSub, Int.reduceToNat])
    refine hK _ _ ?_; clear hK K
    refine qthen_normal ?_
    refine AWP.cond (acond_split (fun hc => ?_) (fun hc => ?_))
    · replace h := bif_t h hc
      refine AWP.seq ?_
      refine AWP.region rfl ?_; intro K hK
      (try simp (implicitDefEqProofs := false) (decide := true) only [go_sem, Nat.reduceAdd, Nat.reduceMul, Nat.reduceSub, Int.reduceToNat])
      refine hK _ _ ?_; clear hK K
      refine qthen_normal ?_
      refine AWP.ret ?_
      refine qthen_ret ?_
      obtain rfl := some_eq h
      simp (implicitDefEqProofs := false) (decide := true) only [go_sem, Nat.reduceAdd, Nat.reduceMul, Nat.reduceSub, Int.reduceToNat, mpE_nil, Int.natCast_zero, List.replicate_zero, List.length_take, List.length_drop, AVal.own.injEq, reduceCtorEq, Int.reduceAdd, nle2, nle1, nle0, nleA, nleL, Try.results5]
    · replace h := bif_f h hc
      refine AWP.skip ?_
      refine qthen_normal ?_
      refine AWP.seq ?_
      refine AWP.region rfl ?_; intro K hK
      (try simp (implicitDefEqProofs := false) (decide := true) only [go_sem, Nat.reduceAdd, Nat.reduceMul, Nat.reduceSub, Int.reduceToNat])
      obtain ⟨y3, hy3, h⟩ := bindE h
      refine ACall.pure Try.call19 (flow_Find_spec l s_ t hy3) rfl fun _ hr => ?_
      subst hr
      (try simp (implicitDefEqProofs := false) (decide := true) only [go_sem, Nat.reduceAdd, Nat.reduceMul, Nat.reduceSub, Int.reduceToNat])
      refine hK _ _ ?_; clear hK K
      refine qthen_normal ?_
      refine AWP.seq ?_
      refine AWP.seq ?_
      refine AWP.region rfl ?_; intro K hK
      (try simp (implicitDefEqProofs := false) (decide := true) only [go_sem, Nat.reduceAdd, Nat.reduceMul, Nat.reduceSub, Int.reduceToNat])
      refine hK _ _ ?_; clear hK K
      refine qthen_normal ?_
      refine AWP.cond (acond_split (fun hc => ?_) (fun hc => ?_))
      · replace h := bif_t h hc
        refine AWP.seq ?_
        refine AWP.region rfl ?_; intro K hK
        (try simp (implicitDefEqProofs := false) (decide := true) only [go_sem, Nat.reduceAdd, Nat.reduceMul, Nat.reduceSub, Int.reduceToNat])
        intro hm
        obtain ⟨hk, h⟩ := chk_in h
        (repeat (refine ⟨by first | omega | (simp only [List.length_take, List.length_drop, List.length_append]; omega), ?_⟩)); try simp (implicitDefEqProofs := false) (decide := true) only [go_sem, Nat.reduceAdd, Nat.reduceMul, Nat.reduceSub, Int.reduceToNat]
        obtain ⟨y4, hy4, h⟩ := bindE h
        refine ACall.snap Try.call20 (ref06_Same_spec y3 (List.replicate l.length (0 : Int)) hy4) (by simp (implicitDefEqProofs := false) (decide := true) only [go_sem, Nat.reduceAdd, Nat.reduceMul, Nat.reduceSub, Int.reduceToNat]) (by rintro _ rfl; rfl) fun _ hr => ?_
        subst hr
        (try simp (implicitDefEqProofs := false) (decide := true) only [go_sem, Nat.reduceAdd, Nat.reduceMul, Nat.reduceSub, Int.reduceToNat])
        refine hK _ _ ?_; clear hK K
        refine qthen_normal ?_
        refine AWP.ret ?_
        refine qthen_ret ?_
        obtain rfl := some_eq h
        simp (implicitDefEqProofs := false) (decide := true) only [go_sem, Nat.reduceAdd, Nat.reduceMul, Nat.reduceSub, Int.reduceToNat, mpE_nil, Int.natCast_zero, List.replicate_zero, List.length_take, List.length_drop, AVal.own.injEq, reduceCtorEq, Int.reduceAdd, nle2, nle1, nle0, nleA, nleL, Try.results5]
      · replace h := bif_f h hc
        refine AWP.skip ?_
        refine qthen_normal ?_
        refine AWP.seq ?_
        refine AWP.region rfl ?_; intro K hK
        (try simp (implicitDefEqProofs := false) (decide := true) only [go_sem, Nat.reduceAdd, Nat.reduceMul, Nat.reduceSub, Int.reduceToNat])
        obtain ⟨y5, hy5, h⟩ := bindE h
        refine ACall.pure Try.call13 (ref06_Valid_spec l y3 s_ t hy5) rfl fun _ hr => ?_
        subst hr
        (try simp (implicitDefEqProofs := false) (decide := true) only [go_sem, Nat.reduceAdd, Nat.reduceMul, Nat.reduceSub, Int.reduceToNat])
        refine aguardK_split (fun hc => ?_) (fun hc => ?_)
        · replace h := bif_t h hc
          (try simp (implicitDefEqProofs := false) (decide := true) only [go_sem, Nat.reduceAdd, Nat.reduceMul, Nat.reduceSub, Int.reduceToNat, hc])
          obtain ⟨y6, hy6, h⟩ := bindE h
          refine ACall.pure Try.call16 (ref06_Value_spec l y3 s_ hy6) rfl fun _ hr => ?_
          subst hr
          (try simp (implicitDefEqProofs := false) (decide := true) only [go_sem, Nat.reduceAdd, Nat.reduceMul, Nat.reduceSub, Int.reduceToNat])
          obtain ⟨y7, hy7, h⟩ := bindE h
          refine ACall.pure Try.call18 (ref06_Max_spec l s_ t hy7) rfl fun _ hr => ?_
          subst hr
          (try simp (implicitDefEqProofs := false) (decide := true) only [go_sem, Nat.reduceAdd, Nat.reduceMul, Nat.reduceSub, Int.reduceToNat])
          refine hK _ _ ?_; clear hK K
          refine qthen_normal ?_
          refine AWP.ret ?_
          obtain rfl := some_eq h
          simp (implicitDefEqProofs := false) (decide := true) only [go_sem, Nat.reduceAdd, Nat.reduceMul, Nat.reduceSub, Int.reduceToNat, mpE_nil, Int.natCast_zero, List.replicate_zero, List.length_take, List.length_drop, AVal.own.injEq, reduceCtorEq, Int.reduceAdd, nle2, nle1, nle0, nleA, nleL, Try.results5]
        · replace h := bif_f h hc
          (try simp (implicitDefEqProofs := false) (decide := true) only [go_sem, Nat.reduceAdd, Nat.reduceMul, Nat.reduceSub, Int.reduceToNat, hc, Bool.not_true])
          refine hK _ _ ?_; clear hK K
          refine qthen_normal ?_
          refine AWP.ret ?_
          obtain rfl := some_eq h
          simp (implicitDefEqProofs := false) (decide := true) only [go_sem, Nat.reduceAdd, Nat.reduceMul, Nat.reduceSub, Int.reduceToNat, mpE_nil, Int.natCast_zero, List.replicate_zero, List.length_take, List.length_drop, AVal.own.injEq, reduceCtorEq, Int.reduceAdd, nle2, nle1, nle0, nleA, nleL, Try.results5]

def ref06_Cut_j3 (y1 : (List Int)) (i2 : Int) (k11 : Nat) (x_13 : ApiEdge) (seen14 : List Int) (via16 : List Int) : Option (Out ((List Int) × (List Int)) (Out (Int × (List Int) × (List Int)) ((List Int)))) :=
  (idxL seen14 i2).bind fun x_19 => (bif (decide (x_13.To = x_19)) then (idxL y1 ((k11 : Nat) : Int)).bind fun x_20 => (bif (decide ((0 : Int) < x_20)) then (ref06_has seen14 x_13.From).bind fun y21 => (bif (!y21) then chk (seen14.length + 1) (chk (via16.length + 1) (some (Out.next ((seen14 ++ [x_13.From]), (via16 ++ [(IntKind.i64.wrap ((IntKind.i64.wrap (-((k11 : Nat) : Int))) - (1 : Int)))]))))) else some (Out.next (seen14, via16))) else some (Out.next (seen14, via16))) else some (Out.next (seen14, via16)))

def ref06_Cut_b2 (y1 : (List Int)) (i2 : Int) (k11 : Nat) (x_13 : ApiEdge) (sv : (List Int) × (List Int)) : Option (Out ((List Int) × (List Int)) (Out (Int × (List Int) × (List Int)) ((List Int)))) :=
  (idxL sv.1 i2).bind fun x_22 => (bif (decide (x_13.From = x_22)) then (idxL y1 ((k11 : Nat) : Int)).bind fun x_23 => (bif (decide (x_23 < x_13.Cost)) then (ref06_has sv.1 x_13.To).bind fun y24 => (bif (!y24) then chk (sv.1.length + 1) (chk (sv.2.length + 1) (ref06_Cut_j3 y1 i2 k11 x_13 (sv.1 ++ [x_13.To]) (sv.2 ++ [(IntKind.i64.wrap (((k11 : Nat) : Int) + (1 : Int)))]))) else ref06_Cut_j3 y1 i2 k11 x_13 sv.1 sv.2) else ref06_Cut_j3 y1 i2 k11 x_13 sv.1 sv.2) else ref06_Cut_j3 y1 i2 k11 x_13 sv.1 sv.2)

def ref06_Cut_b4 (seen3 : List Int) (k26 : Nat) (x_28 : ApiEdge) (sv : (List Int)) : Option (Out ((List Int)) ((List Int))) :=
  (ref06_has seen3 x_28.From).bind fun y29 => (bif y29 then (ref06_has seen3 x_28.To).bind fun y30 => (bif (!y30) then chk (sv.length + 1) (some (Out.next (sv ++ [((k26 : Nat) : Int)]))) else some (Out.next sv)) else some (Out.next sv))

def ref06_Cut_b1 (l : List ApiEdge) (y1 : (List Int)) (sv : Int × (List Int) × (List Int)) : Option (Out (Int × (List Int) × (List Int)) ((List Int))) :=
  (bif (decide (sv.1 < ((sv.2.1.length : Nat) : Int))) then (forIx (ref06_Cut_b2 y1 sv.1) 0 l (sv.2.1, sv.2.2)).bind fun o11 => o11.on fun s11 => some (Out.next ((IntKind.i64.wrap (sv.1 + (1 : Int))), s11.1, s11.2)) else ((forIx (ref06_Cut_b4 sv.2.1) 0 l []).bind fun o26 => o26.on fun s26 => some s26).bind fun q30 => some (Out.ret q30))

def ref06_Cut (l : List ApiEdge) (s_ : Int) (t : Int) : Option ((List Int)) :=
  (bif (decide (s_ = t)) then some [] else (ref06_Find l s_ t).bind fun y1 => (whileN (ref06_Cut_b1 l y1) fuel ((0 : Int), [s_], [(0 : Int)])).bind fun o6 => o6.on fun _ => none)

theorem ref06_Cut_fresh (l : List ApiEdge) (s_ : Int) (t : Int) {r : (List Int)} (h : ref06_Cut l s_ t = some r) : FreshFn Try.prog 22 [.sl 4 (l.map encApiEdge), .int .i64 s_, .int .i64 t] (· = .sl 1 (r.map intC)) := by
  refine FreshFn.nle (FreshFn.intro Try.func22 rfl rfl (by show _ ≤ 53; simp) ?_)
  unfold ref06_Cut at h
  (try simp (implicitDefEqProofs := false) (decide := true) only [go_sem, Nat.reduceAdd, Nat.reduceMul, Nat.reduceSub, Int.reduceToNat])
  refine AWP.seq ?_
  refine AWP.region rfl ?_; intro K hK
  (try simp (implicitDefEqProofs := false) (decide := true) only [go_sem, Nat.reduceAdd, Nat.reduceMul, Nat.reduceSub, Int.reduceToNat])
  refine hK _ _ ?_; clear hK K
  refine qthen_normal ?_
  refine AWP.seq ?_
  refine AWP.region rfl ?_; intro K hK
  (try simp (implicitDefEqProofs := false) (decide := true) only [go_sem, Nat.reduceAdd, Nat.reduceMul, Nat.reduceSub, Int.reduceToNat])
  refine hK _ _ ?_; clear hK K
  refine qthen_normal ?_
  refine AWP.seq ?_
  refine AWP.seq ?_
  refine AWP.region rfl ?_; intro K hK
  (try simp (implicitDefEqProofs := false) (decide := true) only [go_sem, Nat.reduceAdd, Nat.reduceMul, Nat.reduceSub, Int.reduceToNat])
  refine hK _ _ ?_; clear hK K
  refine qthen_normal ?_
  refine AWP.cond (acond_split (fun hc => ?_) (fun hc => ?_))
  · replace h := bif_t h hc
    refine AWP.seq ?_
    refine AWP.region rfl ?_; intro K hK
    (try simp (implicitDefEqProofs := false) (decide := true) only [go_sem, Nat.reduceAdd, Nat.reduceMul, Nat.reduceSub, Int.reduceToNat])
    refine hK _ _ ?_; clear hK K
    refine qthen_normal ?_
    refine AWP.ret ?_
    refine qthen_ret ?_
    obtain rfl := some_eq h
    simp (implicitDefEqProofs := false) (decide := true) only [go_sem, Nat.reduceAdd, Nat.reduceMul, Nat.reduceSub, Int.reduceToNat, mpE_nil, Int.natCast_zero, List.replicate_zero, List.length_take, List.length_drop, AVal.own.injEq, reduceCtorEq, Int.reduceAdd, nle2, nle1, nle0, nleA, nleL, Try.results22]
  · replace h := bif_f h hc
    refine AWP.skip ?_
    refine qthen_normal ?_
    refine AWP.seq ?_
    refine AWP.region rfl ?_; intro K hK
    (try simp (implicitDefEqProofs := false) (decide := true) only [go_sem, Nat.reduceAdd, Nat.reduceMul, Nat.reduceSub, Int.reduceToNat])
    obtain ⟨y1, hy1, h⟩ := bindE h
    refine ACall.pure Try.call29 (ref06_Find_spec l s_ t hy1) rfl fun _ hr => ?_
    subst hr
    (try simp (implicitDefEqProofs := false) (decide := true) only [go_sem, Nat.reduceAdd, Nat.reduceMul, Nat.reduceSub, Int.reduceToNat])
    refine ACall.inline Try.call35 Try.func35 rfl rfl (by show _ ≤ 115; simp) ?_
    (try simp (implicitDefEqProofs := false) (decide := true) only [go_sem, Nat.reduceAdd, Nat.reduceMul, Nat.reduceSub, Int.reduceToNat])
    refine AWP.seq ?_
    refine AWP.region rfl ?_; intro K hK
    (try simp (implicitDefEqProofs := false) (decide := true) only [go_sem, Nat.reduceAdd, Nat.reduceMul, Nat.reduceSub, Int.reduceToNat])
    refine hK _ _ ?_; clear hK K
    refine qthen_normal ?_
    refine AWP.seq ?_
    refine AWP.region rfl ?_; intro K hK
    (try simp (implicitDefEqProofs := false) (decide := true) only [go_sem, Nat.reduceAdd, Nat.reduceMul, Nat.reduceSub, Int.reduceToNat])
    refine hK _ _ ?_; clear hK K
    refine qthen_normal ?_
    refine AWP.seq ?_
    refine AWP.region rfl ?_; intro K hK
    (try simp (implicitDefEqProofs := false) (decide := true) only [go_sem, Nat.reduceAdd, Nat.reduceMul, Nat.reduceSub, Int.reduceToNat])
    refine hK _ _ ?_; clear hK K
    refine qthen_normal ?_
    refine AWP.seq ?_
    refine AWP.seq ?_
    refine AWP.region rfl ?_; intro K hK
    (try simp (implicitDefEqProofs := false) (decide := true) only [go_sem, Nat.reduceAdd, Nat.reduceMul, Nat.reduceSub, Int.reduceToNat])
    refine hK _ _ ?_; clear hK K
    refine qthen_normal ?_
    refine AWP.block ?_
    obtain ⟨o6, hJ6, hO6⟩ := bindE h
    clear h
    refine AWP.loopW (ι := Nat × (Int × (List Int) × (List Int)) × (Nat × Nat)) (fun zz => [(0, .sl 4 (l.map encApiEdge)), (1, .sl 1 (y1.map intC)), (8, .own 0 zz.2.2.1 0 zz.2.1.2.1.length), (9, .own 1 zz.2.2.2 0 zz.2.1.2.2.length), (10, .int .i64 zz.2.1.1)]) (fun zz => [.row zz.2.2.1 1 (zz.2.1.2.1.map intC), .row zz.2.2.2 1 (zz.2.1.2.2.map intC)]) (fun zz => whileN (ref06_Cut_b1 l y1) zz.1 zz.2.1 = some o6) (fun zz => zz.1) (fuel, ((0 : Int), [s_], [(0 : Int)]), (0, 0)) hJ6 (by (simp (implicitDefEqProofs := false) (decide := true) only [go_sem, Nat.reduceAdd, Nat.reduceMul, Nat.reduceSub, Int.reduceToNat, mpE_nil, Int.natCast_zero, List.replicate_zero, List.length_take, List.length_drop, AVal.own.injEq, reduceCtorEq, Int.reduceAdd] <;> omega)) (by (simp (implicitDefEqProofs := false) (decide := true) only [go_sem, Nat.reduceAdd, Nat.reduceMul, Nat.reduceSub, Int.reduceToNat, mpE_nil, Int.natCast_zero, List.replicate_zero, List.length_take, List.length_drop, AVal.own.injEq, reduceCtorEq, Int.reduceAdd] <;> omega)) (fun x => ⟨rfl, rfl, rfl⟩) ?_
    clear hJ6
    rintro ⟨n6, ⟨i2, seen3, via5⟩, ⟨ver4, ver6⟩⟩ hJ6
    dsimp only at hJ6 ⊢
    obtain ⟨m6, b6, rfl, h, hJ6⟩ := while_step hJ6
    unfold ref06_Cut_b1 at h; try dsimp only at h
    refine AWP.seq ?_
    refine AWP.seq ?_
    refine AWP.region rfl ?_; intro K hK
    (try simp (implicitDefEqProofs := false) (decide := true) only [go_sem, Nat.reduceAdd, Nat.reduceMul, Nat.reduceSub, Int.reduceToNat])
    intro hm
    refine hK _ _ ?_; clear hK K
    refine qthen_normal ?_
    refine AWP.cond (acond_split (fun hc => ?_) (fun hc => ?_))
    · replace h := bif_t h hc
      refine AWP.skip ?_
      refine qthen_normal ?_
      refine AWP.seq ?_
      refine AWP.block ?_
      refine AWP.seq ?_
      refine AWP.region rfl ?_; intro K hK
      (try simp (implicitDefEqProofs := false) (decide := true) only [go_sem, Nat.reduceAdd, Nat.reduceMul, Nat.reduceSub, Int.reduceToNat])
      refine hK _ _ ?_; clear hK K
      refine qthen_normal ?_
      refine AWP.block ?_
      obtain ⟨o11, hJ11, hO11⟩ := bindE h
      clear h
      refine AWP.loopW (ι := Nat × ((List Int) × (List Int)) × (Nat × Nat)) (fun zz => [(0, .sl 4 (l.map encApiEdge)), (1, .sl 1 (y1.map intC)), (8, .own 0 zz.2.2.1 0 zz.2.1.1.length), (9, .own 1 zz.2.2.2 0 zz.2.1.2.length), (10, .int .i64 i2), (11, .int .i64 ((zz.1 : Nat) : Int))]) (fun zz => [.row zz.2.2.1 1 (zz.2.1.1.map intC), .row zz.2.2.2 1 (zz.2.1.2.map intC)]) (fun zz => zz.1 ≤ l.length ∧ forIx (ref06_Cut_b2 y1 i2) zz.1 ((l).drop zz.1) zz.2.1 = some o11) (fun zz => l.length - zz.1) (0, (seen3, via5), (ver4, ver6)) ⟨Nat.zero_le _, hJ11⟩ (by (simp (implicitDefEqProofs := false) (decide := true) only [go_sem, Nat.reduceAdd, Nat.reduceMul, Nat.reduceSub, Int.reduceToNat, mpE_nil, Int.natCast_zero, List.replicate_zero, List.length_take, List.length_drop, AVal.own.injEq, reduceCtorEq, Int.reduceAdd] <;> omega)) (by (simp (implicitDefEqProofs := false) (decide := true) only [go_sem, Nat.reduceAdd, Nat.reduceMul, Nat.reduceSub, Int.reduceToNat, mpE_nil, Int.natCast_zero, List.replicate_zero, List.length_take, List.length_drop, AVal.own.injEq, reduceCtorEq, Int.reduceAdd] <;> omega)) (fun x => ⟨rfl, rfl, rfl⟩) ?_
      clear hJ11
      rintro ⟨k11, ⟨seen8, via10⟩, ⟨ver9, ver11⟩⟩ ⟨hk11, hJ11⟩
      dsimp only at hk11 hJ11 ⊢
      refine AWP.seq ?_
      refine AWP.seq ?_
      refine AWP.region rfl ?_; intro K hK
      (try simp (implicitDefEqProofs := false) (decide := true) only [go_sem, Nat.reduceAdd, Nat.reduceMul, Nat.reduceSub, Int.reduceToNat])
      intro hm
      refine hK _ _ ?_; clear hK K
      refine qthen_normal ?_
      refine AWP.cond (acond_split (fun hc => ?_) (fun hc => ?_))
      · have hlt11 : k11 < l.length := by have := of_decide_eq_true hc; omega
        obtain ⟨x_13, b11, hx11_, h, hJ11⟩ := for_cons hJ11 hlt11
        have hx11 := idxL_nat hx11_
        have hw11 : IntKind.i64.wrap (((k11 : Nat) : Int) + 1) = (((k11 : Nat) : Int) + (1 : Int)) := by rw [wrap_i64] <;> omega
        unfold ref06_Cut_b2 at h; try dsimp only at h
        refine AWP.skip ?_
        refine qthen_normal ?_
        refine AWP.seq ?_
        refine AWP.block ?_
        refine AWP.seqJoin (ι := ((List Int) × (List Int)) × (Nat × Nat)) (fun zz => [(0, .sl 4 (l.map encApiEdge)), (1, .sl 1 (y1.map intC)), (8, .own 0 zz.2.1 0 zz.1.1.length), (9, .own 1 zz.2.2 0 zz.1.2.length), (10, .int .i64 i2), (11, .int .i64 ((k11 : Nat) : Int))]) (fun zz => [.row zz.2.1 1 (zz.1.1.map intC), .row zz.2.2 1 (zz.1.2.map intC)]) (fun zz => ref06_Cut_j3 y1 i2 k11 x_13 zz.1.1 zz.1.2 = some b11) (fun zz => ⟨rfl, rfl, rfl⟩) ?_ ?_
        · refine AWP.seq ?_
          refine AWP.draw Try.mixed (by kernel_rfl) ?_; intro K hK
          (try simp (implicitDefEqProofs := false) (decide := true) only [go_sem, Nat.reduceAdd, Nat.reduceMul, Nat.reduceSub, Int.reduceToNat])
          refine AIdx.of (f := encApiEdge) (l := l) hx11 ?_
          (try simp (implicitDefEqProofs := false) (decide := true) only [go_sem, Nat.reduceAdd, Nat.reduceMul, Nat.reduceSub, Int.reduceToNat])
          obtain ⟨x_22, hx_22, h⟩ := bindE h
          refine own_in hx_22 (by first | rfl | exact (sortI_len _).symm | (simp only [List.length_append, List.length_cons, List.length_nil, List.length_set, List.length_replicate] <;> omega)) ?_
          (try simp (implicitDefEqProofs := false) (decide := true) only [go_sem, Nat.reduceAdd, Nat.reduceMul, Nat.reduceSub, Int.reduceToNat])
          refine AElem.of (f := intC) (l := seen8) (n := i2) hx_22 ?_
          (try simp (implicitDefEqProofs := false) (decide := true) only [go_sem, Nat.reduceAdd, Nat.reduceMul, Nat.reduceSub, Int.reduceToNat])
          refine aguardK_split (fun hc => ?_) (fun hc => ?_)
          · replace h := bif_t h hc
            (try simp (implicitDefEqProofs := false) (decide := true) only [go_sem, Nat.reduceAdd, Nat.reduceMul, Nat.reduceSub, Int.reduceToNat, hc])
            obtain ⟨x_23, hx_23, h⟩ := bindE h
            refine AIdx.of (f := intC) (l := y1) hx_23 ?_
            (try simp (implicitDefEqProofs := false) (decide := true) only [go_sem, Nat.reduceAdd, Nat.reduceMul, Nat.reduceSub, Int.reduceToNat])
            refine AIdx.of (f := encApiEdge) (l := l) hx11 ?_
            (try simp (implicitDefEqProofs := false) (decide := true) only [go_sem, Nat.reduceAdd, Nat.reduceMul, Nat.reduceSub, Int.reduceToNat])
            refine aguardK_split (fun hc => ?_) (fun hc => ?_)
            · replace h := bif_t h hc
              (try simp (implicitDefEqProofs := false) (decide := true) only [go_sem, Nat.reduceAdd, Nat.reduceMul, Nat.reduceSub, Int.reduceToNat, hc])
              refine AIdx.of (f := encApiEdge) (l := l) hx11 ?_
              (try simp (implicitDefEqProofs := false) (decide := true) only [go_sem, Nat.reduceAdd, Nat.reduceMul, Nat.reduceSub, Int.reduceToNat])
              obtain ⟨y24, hy24, h⟩ := bindE h
              refine DCall.snap Try.call36 (ref06_has_spec seen8 x_13.To hy24) (by simp (implicitDefEqProofs := false) (decide := true) only [go_sem, Nat.reduceAdd, Nat.reduceMul, Nat.reduceSub, Int.reduceToNat]) rfl ?_
              (try simp (implicitDefEqProofs := false) (decide := true) only [go_sem, Nat.reduceAdd, Nat.reduceMul, Nat.reduceSub, Int.reduceToNat])
              refine hK _ _ _ (by kernel_rfl) ?_; clear hK K
              refine qthen_normal ?_
              refine AWP.cond (acond_split (fun hc => ?_) (fun hc => ?_))
              · replace h := bif_t h hc
                refine AWP.seq ?_
                refine AWP.region rfl ?_; intro K hK
                (try simp (implicitDefEqProofs := false) (decide := true) only [go_sem, Nat.reduceAdd, Nat.reduceMul, Nat.reduceSub, Int.reduceToNat])
                refine AIdx.of (f := encApiEdge) (l := l) hx11 ?_
                (try simp (implicitDefEqProofs := false) (decide := true) only [go_sem, Nat.reduceAdd, Nat.reduceMul, Nat.reduceSub, Int.reduceToNat])
                obtain ⟨hk, h⟩ := chk_in h
                (repeat (refine ⟨by first | omega | (simp only [List.length_take, List.length_drop, List.length_append]; omega), ?_⟩)); try simp (implicitDefEqProofs := false) (decide := true) only [go_sem, Nat.reduceAdd, Nat.reduceMul, Nat.reduceSub, Int.reduceToNat]
                refine hK _ _ ?_; clear hK K
                refine qthen_normal ?_
                refine AWP.region rfl ?_; intro K hK
                (try simp (implicitDefEqProofs := false) (decide := true) only [go_sem, Nat.reduceAdd, Nat.reduceMul, Nat.reduceSub, Int.reduceToNat])
                obtain ⟨hk, h⟩ := chk_in h
                (repeat (refine ⟨by first | omega | (simp only [List.length_take, List.length_drop, List.length_append]; omega), ?_⟩)); try simp (implicitDefEqProofs := false) (decide := true) only [go_sem, Nat.reduceAdd, Nat.reduceMul, Nat.reduceSub, Int.reduceToNat]
                refine hK _ _ ?_; clear hK K
                refine qthen_normal ?_
                exact ⟨(((seen8 ++ [x_13.To]), (via10 ++ [(IntKind.i64.wrap (((k11 : Nat) : Int) + (1 : Int)))])), ((ver9 + 1), (ver11 + 1))), h, by (simp (implicitDefEqProofs := false) (decide := true) only [go_sem, Nat.reduceAdd, Nat.reduceMul, Nat.reduceSub, Int.reduceToNat, mpE_nil, Int.natCast_zero, List.replicate_zero, List.length_take, List.length_drop, AVal.own.injEq, reduceCtorEq, Int.reduceAdd] <;> omega), by (simp (implicitDefEqProofs := false) (decide := true) only [go_sem, Nat.reduceAdd, Nat.reduceMul, Nat.reduceSub, Int.reduceToNat, mpE_nil, Int.natCast_zero, List.replicate_zero, List.length_take, List.length_drop, AVal.own.injEq, reduceCtorEq, Int.reduceAdd] <;> omega)⟩
              · replace h := bif_f h hc
                refine AWP.skip ?_
                refine qthen_normal ?_
                exact ⟨((seen8, via10), (ver9, ver11)), h, by (simp (implicitDefEqProofs := false) (decide := true) only [go_sem, Nat.reduceAdd, Nat.reduceMul, Nat.reduceSub, Int.reduceToNat, mpE_nil, Int.natCast_zero, List.replicate_zero, List.length_take, List.length_drop, AVal.own.injEq, reduceCtorEq, Int.reduceAdd] <;> omega), by (simp (implicitDefEqProofs := false) (decide := true) only [go_sem, Nat.reduceAdd, Nat.reduceMul, Nat.reduceSub, Int.reduceToNat, mpE_nil, Int.natCast_zero, List.replicate_zero, List.length_take, List.length_drop, AVal.own.injEq, reduceCtorEq, Int.reduceAdd] <;> omega)⟩
            · replace h := bif_f h hc
              (try simp (implicitDefEqProofs := false) (decide := true) only [go_sem, Nat.reduceAdd, Nat.reduceMul, Nat.reduceSub, Int.reduceToNat, hc, Bool.not_true])
              refine hK _ _ _ (by kernel_rfl) ?_; clear hK K
              refine qthen_normal ?_
              refine AWP.cond (acond_false ?_)
              refine AWP.skip ?_
              refine qthen_normal ?_
              exact ⟨((seen8, via10), (ver9, ver11)), h, by (simp (implicitDefEqProofs := false) (decide := true) only [go_sem, Nat.reduceAdd, Nat.reduceMul, Nat.reduceSub, Int.reduceToNat, mpE_nil, Int.natCast_zero, List.replicate_zero, List.length_take, List.length_drop, AVal.own.injEq, reduceCtorEq, Int.reduceAdd] <;> omega), by (simp (implicitDefEqProofs := false) (decide := true) only [go_sem, Nat.reduceAdd, Nat.reduceMul, Nat.reduceSub, Int.reduceToNat, mpE_nil, Int.natCast_zero, List.replicate_zero, List.length_take, List.length_drop, AVal.own.injEq, reduceCtorEq, Int.reduceAdd] <;> omega)⟩
          · replace h := bif_f h hc
            (try simp (implicitDefEqProofs := false) (decide := true) only [go_sem, Nat.reduceAdd, Nat.reduceMul, Nat.reduceSub, Int.reduceToNat, hc, Bool.not_true])
            refine hK _ _ _ (by kernel_rfl) ?_; clear hK K
            refine qthen_normal ?_
            refine AWP.cond (acond_false ?_)
            refine AWP.skip ?_
            refine qthen_normal ?_
            exact ⟨((seen8, via10), (ver9, ver11)), h, by (simp (implicitDefEqProofs := false) (decide := true) only [go_sem, Nat.reduceAdd, Nat.reduceMul, Nat.reduceSub, Int.reduceToNat, mpE_nil, Int.natCast_zero, List.replicate_zero, List.length_take, List.length_drop, AVal.own.injEq, reduceCtorEq, Int.reduceAdd] <;> omega), by (simp (implicitDefEqProofs := false) (decide := true) only [go_sem, Nat.reduceAdd, Nat.reduceMul, Nat.reduceSub, Int.reduceToNat, mpE_nil, Int.natCast_zero, List.replicate_zero, List.length_take, List.length_drop, AVal.own.injEq, reduceCtorEq, Int.reduceAdd] <;> omega)⟩
        · rintro ⟨⟨seen14, via16⟩, ⟨ver15, ver17⟩⟩ h
          try dsimp only at h ⊢
          unfold ref06_Cut_j3 at h; try dsimp only at h
          refine AWP.seq ?_
          refine AWP.draw Try.mixed (by kernel_rfl) ?_; intro K hK
          (try simp (implicitDefEqProofs := false) (decide := true) only [go_sem, Nat.reduceAdd, Nat.reduceMul, Nat.reduceSub, Int.reduceToNat])
          refine AIdx.of (f := encApiEdge) (l := l) hx11 ?_
          (try simp (implicitDefEqProofs := false) (decide := true) only [go_sem, Nat.reduceAdd, Nat.reduceMul, Nat.reduceSub, Int.reduceToNat])
          obtain ⟨x_19, hx_19, h⟩ := bindE h
          refine own_in hx_19 (by first | rfl | exact (sortI_len _).symm | (simp only [List.length_append, List.length_cons, List.length_nil, List.length_set, List.length_replicate] <;> omega)) ?_
          (try simp (implicitDefEqProofs := false) (decide := true) only [go_sem, Nat.reduceAdd, Nat.reduceMul, Nat.reduceSub, Int.reduceToNat])
          refine AElem.of (f := intC) (l := seen14) (n := i2) hx_19 ?_
          (try simp (implicitDefEqProofs := false) (decide := true) only [go_sem, Nat.reduceAdd, Nat.reduceMul, Nat.reduceSub, Int.reduceToNat])
          refine aguardK_split (fun hc => ?_) (fun hc => ?_)
          · replace h := bif_t h hc
            (try simp (implicitDefEqProofs := false) (decide := true) only [go_sem, Nat.reduceAdd, Nat.reduceMul, Nat.reduceSub, Int.reduceToNat, hc])
            obtain ⟨x_20, hx_20, h⟩ := bindE h
            refine AIdx.of (f := intC) (l := y1) hx_20 ?_
            (try simp (implicitDefEqProofs := false) (decide := true) only [go_sem, Nat.reduceAdd, Nat.reduceMul, Nat.reduceSub, Int.reduceToNat])
            refine aguardK_split (fun hc => ?_) (fun hc => ?_)
            · replace h := bif_t h hc
              (try simp (implicitDefEqProofs := false) (decide := true) only [go_sem, Nat.reduceAdd, Nat.reduceMul, Nat.reduceSub, Int.reduceToNat, hc])
              refine AIdx.of (f := encApiEdge) (l := l) hx11 ?_
              (try simp (implicitDefEqProofs := false) (decide := true) only [go_sem, Nat.reduceAdd, Nat.reduceMul, Nat.reduceSub, Int.reduceToNat])
              obtain ⟨y21, hy21, h⟩ := bindE h
              refine DCall.snap Try.call36 (ref06_has_spec seen14 x_13.From hy21) (by simp (implicitDefEqProofs := false) (decide := true) only [go_sem, Nat.reduceAdd, Nat.reduceMul, Nat.reduceSub, Int.reduceToNat]) rfl ?_
              (try simp (implicitDefEqProofs := false) (decide := true) only [go_sem, Nat.reduceAdd, Nat.reduceMul, Nat.reduceSub, Int.reduceToNat])
              refine hK _ _ _ (by kernel_rfl) ?_; clear hK K
              refine qthen_normal ?_
              refine AWP.cond (acond_split (fun hc => ?_) (fun hc => ?_))
              · replace h := bif_t h hc
                refine AWP.seq ?_
                refine AWP.region rfl ?_; intro K hK
                (try simp (implicitDefEqProofs := false) (decide := true) only [go_sem, Nat.reduceAdd, Nat.reduceMul, Nat.reduceSub, Int.reduceToNat])
                refine AIdx.of (f := encApiEdge) (l := l) hx11 ?_
                (try simp (implicitDefEqProofs := false) (decide := true) only [go_sem, Nat.reduceAdd, Nat.reduceMul, Nat.reduceSub, Int.reduceToNat])
                obtain ⟨hk, h⟩ := chk_in h
                (repeat (refine ⟨by first | omega | (simp only [List.length_take, List.length_drop, List.length_append]; omega), ?_⟩)); try simp (implicitDefEqProofs := false) (decide := true) only [go_sem, Nat.reduceAdd, Nat.reduceMul, Nat.reduceSub, Int.reduceToNat]
                refine hK _ _ ?_; clear hK K
                refine qthen_normal ?_
                refine AWP.region rfl ?_; intro K hK
                (try simp (implicitDefEqProofs := false) (decide := true) only [go_sem, Nat.reduceAdd, Nat.reduceMul, Nat.reduceSub, Int.reduceToNat])
                obtain ⟨hk, h⟩ := chk_in h
                (repeat (refine ⟨by first | omega | (simp only [List.length_take, List.length_drop, List.length_append]; omega), ?_⟩)); try simp (implicitDefEqProofs := false) (decide := true) only [go_sem, Nat.reduceAdd, Nat.reduceMul, Nat.reduceSub, Int.reduceToNat]
                refine hK _ _ ?_; clear hK K
                refine qblock_normal ?_
                refine qthen_normal ?_
                refine AWP.region rfl ?_; intro K hK
                (try simp (implicitDefEqProofs := false) (decide := true) only [go_sem, Nat.reduceAdd, Nat.reduceMul, Nat.reduceSub, Int.reduceToNat])
                refine hK _ _ ?_; clear hK K
                refine qthen_normal ?_
                obtain rfl := some_eq h
                refine ⟨(k11 + 1, ((seen14 ++ [x_13.From]), (via16 ++ [(IntKind.i64.wrap ((IntKind.i64.wrap (-((k11 : Nat) : Int))) - (1 : Int)))])), ((ver15 + 1), (ver17 + 1))), ⟨by dsimp only; omega, cont_next hJ11⟩, by dsimp only; omega, ?_, ?_⟩
                · (simp (implicitDefEqProofs := false) (decide := true) only [go_sem, Nat.reduceAdd, Nat.reduceMul, Nat.reduceSub, Int.reduceToNat, mpE_nil, Int.natCast_zero, List.replicate_zero, List.length_take, List.length_drop, AVal.own.injEq, reduceCtorEq, Int.reduceAdd, hw11] <;> omega)
                · (simp (implicitDefEqProofs := false) (decide := true) only [go_sem, Nat.reduceAdd, Nat.reduceMul, Nat.reduceSub, Int.reduceToNat, mpE_nil, Int.natCast_zero, List.replicate_zero, List.length_take, List.length_drop, AVal.own.injEq, reduceCtorEq, Int.reduceAdd, hw11] <;> omega)
              · replace h := bif_f h hc
                refine AWP.skip ?_
                refine qblock_normal ?_
                refine qthen_normal ?_
                refine AWP.region rfl ?_; intro K hK
                (try simp (implicitDefEqProofs := false) (decide := true) only [go_sem, Nat.reduceAdd, Nat.reduceMul, Nat.reduceSub, Int.reduceToNat])
                refine hK _ _ ?_; clear hK K
                refine qthen_normal ?_
                obtain rfl := some_eq h
                refine ⟨(k11 + 1, (seen14, via16), (ver15, ver17)), ⟨by dsimp only; omega, cont_next hJ11⟩, by dsimp only; omega, ?_, ?_⟩
                · (simp (implicitDefEqProofs := false) (decide := true) only [go_sem, Nat.reduceAdd, Nat.reduceMul, Nat.reduceSub, Int.reduceToNat, mpE_nil, Int.natCast_zero, List.replicate_zero, List.length_take, List.length_drop, AVal.own.injEq, reduceCtorEq, Int.reduceAdd, hw11] <;> omega)
                · (simp (implicitDefEqProofs := false) (decide := true) only [go_sem, Nat.reduceAdd, Nat.reduceMul, Nat.reduceSub, Int.reduceToNat, mpE_nil, Int.natCast_zero, List.replicate_zero, List.length_take, List.length_drop, AVal.own.injEq, reduceCtorEq, Int.reduceAdd, hw11] <;> omega)
            · replace h := bif_f h hc
              (try simp (implicitDefEqProofs := false) (decide := true) only [go_sem, Nat.reduceAdd, Nat.reduceMul, Nat.reduceSub, Int.reduceToNat, hc, Bool.not_true])
              refine hK _ _ _ (by kernel_rfl) ?_; clear hK K
              refine qthen_normal ?_
              refine AWP.cond (acond_false ?_)
              refine AWP.skip ?_
              refine qblock_normal ?_
              refine qthen_normal ?_
              refine AWP.region rfl ?_; intro K hK
              (try simp (implicitDefEqProofs := false) (decide := true) only [go_sem, Nat.reduceAdd, Nat.reduceMul, Nat.reduceSub, Int.reduceToNat])
              refine hK _ _ ?_; clear hK K
              refine qthen_normal ?_
              obtain rfl := some_eq h
              refine ⟨(k11 + 1, (seen14, via16), (ver15, ver17)), ⟨by dsimp only; omega, cont_next hJ11⟩, by dsimp only; omega, ?_, ?_⟩
              · (simp (implicitDefEqProofs := false) (decide := true) only [go_sem, Nat.reduceAdd, Nat.reduceMul, Nat.reduceSub, Int.reduceToNat, mpE_nil, Int.natCast_zero, List.replicate_zero, List.length_take, List.length_drop, AVal.own.injEq, reduceCtorEq, Int.reduceAdd, hw11] <;> omega)
              · (simp (implicitDefEqProofs := false) (decide := true) only [go_sem, Nat.reduceAdd, Nat.reduceMul, Nat.reduceSub, Int.reduceToNat, mpE_nil, Int.natCast_zero, List.replicate_zero, List.length_take, List.length_drop, AVal.own.injEq, reduceCtorEq, Int.reduceAdd, hw11] <;> omega)
          · replace h := bif_f h hc
            (try simp (implicitDefEqProofs := false) (decide := true) only [go_sem, Nat.reduceAdd, Nat.reduceMul, Nat.reduceSub, Int.reduceToNat, hc, Bool.not_true])
            refine hK _ _ _ (by kernel_rfl) ?_; clear hK K
            refine qthen_normal ?_
            refine AWP.cond (acond_false ?_)
            refine AWP.skip ?_
            refine qblock_normal ?_
            refine qthen_normal ?_
            refine AWP.region rfl ?_; intro K hK
            (try simp (implicitDefEqProofs := false) (decide := true) only [go_sem, Nat.reduceAdd, Nat.reduceMul, Nat.reduceSub, Int.reduceToNat])
            refine hK _ _ ?_; clear hK K
            refine qthen_normal ?_
            obtain rfl := some_eq h
            refine ⟨(k11 + 1, (seen14, via16), (ver15, ver17)), ⟨by dsimp only; omega, cont_next hJ11⟩, by dsimp only; omega, ?_, ?_⟩
            · (simp (implicitDefEqProofs := false) (decide := true) only [go_sem, Nat.reduceAdd, Nat.reduceMul, Nat.reduceSub, Int.reduceToNat, mpE_nil, Int.natCast_zero, List.replicate_zero, List.length_take, List.length_drop, AVal.own.injEq, reduceCtorEq, Int.reduceAdd, hw11] <;> omega)
            · (simp (implicitDefEqProofs := false) (decide := true) only [go_sem, Nat.reduceAdd, Nat.reduceMul, Nat.reduceSub, Int.reduceToNat, mpE_nil, Int.natCast_zero, List.replicate_zero, List.length_take, List.length_drop, AVal.own.injEq, reduceCtorEq, Int.reduceAdd, hw11] <;> omega)
      · obtain rfl := for_nil hJ11 (fun hl => by have := of_decide_eq_false hc; omega)
        have h := on_next hO11; try dsimp only at h
        have hkl : l.length = k11 := by have := of_decide_eq_false hc; omega
        subst hkl
        refine AWP.exit ?_
        refine qthen_exit ?_
        refine qthen_exit ?_
        refine qblock_same ?_
        refine qblock_normal ?_
        refine qthen_normal ?_
        refine AWP.region rfl ?_; intro K hK
        (try simp (implicitDefEqProofs := false) (decide := true) only [go_sem, Nat.reduceAdd, Nat.reduceMul, Nat.reduceSub, Int.reduceToNat])
        refine hK _ _ ?_; clear hK K
        refine qthen_normal ?_
        obtain rfl := some_eq h
        refine ⟨(m6, ((IntKind.i64.wrap (i2 + (1 : Int))), seen8, via10), (ver9, ver11)), cont_next hJ6, by dsimp only; omega, ?_, ?_⟩
        · (simp (implicitDefEqProofs := false) (decide := true) only [go_sem, Nat.reduceAdd, Nat.reduceMul, Nat.reduceSub, Int.reduceToNat, mpE_nil, Int.natCast_zero, List.replicate_zero, List.length_take, List.length_drop, AVal.own.injEq, reduceCtorEq, Int.reduceAdd] <;> omega)
        · (simp (implicitDefEqProofs := false) (decide := true) only [go_sem, Nat.reduceAdd, Nat.reduceMul, Nat.reduceSub, Int.reduceToNat, mpE_nil, Int.natCast_zero, List.replicate_zero, List.length_take, List.length_drop, AVal.own.injEq, reduceCtorEq, Int.reduceAdd] <;> omega)
    · replace h := bif_f h hc
      refine AWP.exit ?_
      refine qthen_exit ?_
      refine qthen_exit ?_
      obtain ⟨q30, hq, h⟩ := bindE h
      obtain rfl := some_eq h
      obtain rfl := cont_ret hJ6
      replace h := hq.trans (on_ret hO6)
      refine qblock_same ?_
      refine qthen_normal ?_
      refine AWP.seq ?_
      refine AWP.region rfl ?_; intro K hK
      (try simp (implicitDefEqProofs := false) (decide := true) only [go_sem, Nat.reduceAdd, Nat.reduceMul, Nat.reduceSub, Int.reduceToNat])
      refine hK _ _ ?_; clear hK K
      refine qthen_normal ?_
      refine AWP.ret ?_
      (try simp (implicitDefEqProofs := false) (decide := true) only [go_sem, Nat.reduceAdd, Nat.reduceMul, Nat.reduceSub, Int.reduceToNat, Try.results35])
      refine hK _ _ ?_; clear hK K
      refine qthen_normal ?_
      refine AWP.seq ?_
      refine AWP.seq ?_
      refine AWP.region rfl ?_; intro K hK
      (try simp (implicitDefEqProofs := false) (decide := true) only [go_sem, Nat.reduceAdd, Nat.reduceMul, Nat.reduceSub, Int.reduceToNat])
      refine hK _ _ ?_; clear hK K
      refine qthen_normal ?_
      refine AWP.block ?_
      refine AWP.ghost 7 1 rfl (by decide) ?_
      obtain ⟨o26, hJ26, hO26⟩ := bindE h
      clear h
      refine AWP.loopW (ι := Nat × ((List Int)) × (Nat)) (fun zz => [(0, .sl 4 (l.map encApiEdge)), (7, .own 2 zz.2.2 0 zz.2.1.length), (8, .own 0 ver4 0 seen3.length), (10, .int .i64 ((zz.1 : Nat) : Int))]) (fun zz => [.row ver4 1 (seen3.map intC), .gone, .row zz.2.2 1 (zz.2.1.map intC)]) (fun zz => zz.1 ≤ l.length ∧ forIx (ref06_Cut_b4 seen3) zz.1 ((l).drop zz.1) zz.2.1 = some o26) (fun zz => l.length - zz.1) (0, [], 0) ⟨Nat.zero_le _, hJ26⟩ (by (simp (implicitDefEqProofs := false) (decide := true) only [go_sem, Nat.reduceAdd, Nat.reduceMul, Nat.reduceSub, Int.reduceToNat, mpE_nil, Int.natCast_zero, List.replicate_zero, List.length_take, List.length_drop, AVal.own.injEq, reduceCtorEq, Int.reduceAdd] <;> omega)) (by (simp (implicitDefEqProofs := false) (decide := true) only [go_sem, Nat.reduceAdd, Nat.reduceMul, Nat.reduceSub, Int.reduceToNat, mpE_nil, Int.natCast_zero, List.replicate_zero, List.length_take, List.length_drop, AVal.own.injEq, reduceCtorEq, Int.reduceAdd] <;> omega)) (fun x => ⟨rfl, rfl, rfl⟩) ?_
      clear hJ26
      rintro ⟨k26, out25, ver26⟩ ⟨hk26, hJ26⟩
      dsimp only at hk26 hJ26 ⊢
      refine AWP.seq ?_
      refine AWP.seq ?_
      refine AWP.region rfl ?_; intro K hK
      (try simp (implicitDefEqProofs := false) (decide := true) only [go_sem, Nat.reduceAdd, Nat.reduceMul, Nat.reduceSub, Int.reduceToNat])
      intro hm
      refine hK _ _ ?_; clear hK K
      refine qthen_normal ?_
      refine AWP.cond (acond_split (fun hc => ?_) (fun hc => ?_))
      · have hlt26 : k26 < l.length := by have := of_decide_eq_true hc; omega
        obtain ⟨x_28, b26, hx26_, h, hJ26⟩ := for_cons hJ26 hlt26
        have hx26 := idxL_nat hx26_
        have hw26 : IntKind.i64.wrap (((k26 : Nat) : Int) + 1) = (((k26 : Nat) : Int) + (1 : Int)) := by rw [wrap_i64] <;> omega
        unfold ref06_Cut_b4 at h; try dsimp only at h
        refine AWP.skip ?_
        refine qthen_normal ?_
        refine AWP.seq ?_
        refine AWP.block ?_
        refine AWP.seq ?_
        refine AWP.region rfl ?_; intro K hK
        (try simp (implicitDefEqProofs := false) (decide := true) only [go_sem, Nat.reduceAdd, Nat.reduceMul, Nat.reduceSub, Int.reduceToNat])
        refine AIdx.of (f := encApiEdge) (l := l) hx26 ?_
        (try simp (implicitDefEqProofs := false) (decide := true) only [go_sem, Nat.reduceAdd, Nat.reduceMul, Nat.reduceSub, Int.reduceToNat])
        obtain ⟨y29, hy29, h⟩ := bindE h
        refine ACall.snap Try.call36 (ref06_has_spec seen3 x_28.From hy29) (by simp (implicitDefEqProofs := false) (decide := true) only [go_sem, Nat.reduceAdd, Nat.reduceMul, Nat.reduceSub, Int.reduceToNat]) (by rintro _ rfl; rfl) fun _ hr => ?_
        subst hr
        (try simp (implicitDefEqProofs := false) (decide := true) only [go_sem, Nat.reduceAdd, Nat.reduceMul, Nat.reduceSub, Int.reduceToNat])
        refine aguardK_split (fun hc => ?_) (fun hc => ?_)
        · replace h := bif_t h hc
          (try simp (implicitDefEqProofs := false) (decide := true) only [go_sem, Nat.reduceAdd, Nat.reduceMul, Nat.reduceSub, Int.reduceToNat, hc])
          refine AIdx.of (f := encApiEdge) (l := l) hx26 ?_
          (try simp (implicitDefEqProofs := false) (decide := true) only [go_sem, Nat.reduceAdd, Nat.reduceMul, Nat.reduceSub, Int.reduceToNat])
          obtain ⟨y30, hy30, h⟩ := bindE h
          refine ACall.snap Try.call36 (ref06_has_spec seen3 x_28.To hy30) (by simp (implicitDefEqProofs := false) (decide := true) only [go_sem, Nat.reduceAdd, Nat.reduceMul, Nat.reduceSub, Int.reduceToNat]) (by rintro _ rfl; rfl) fun _ hr => ?_
          subst hr
          (try simp (implicitDefEqProofs := false) (decide := true) only [go_sem, Nat.reduceAdd, Nat.reduceMul, Nat.reduceSub, Int.reduceToNat])
          refine hK _ _ ?_; clear hK K
          refine qthen_normal ?_
          refine AWP.cond (acond_split (fun hc => ?_) (fun hc => ?_))
          · replace h := bif_t h hc
            refine AWP.region rfl ?_; intro K hK
            (try simp (implicitDefEqProofs := false) (decide := true) only [go_sem, Nat.reduceAdd, Nat.reduceMul, Nat.reduceSub, Int.reduceToNat])
            obtain ⟨hk, h⟩ := chk_in h
            (repeat (refine ⟨by first | omega | (simp only [List.length_take, List.length_drop, List.length_append]; omega), ?_⟩)); try simp (implicitDefEqProofs := false) (decide := true) only [go_sem, Nat.reduceAdd, Nat.reduceMul, Nat.reduceSub, Int.reduceToNat]
            refine hK _ _ ?_; clear hK K
            refine qblock_normal ?_
            refine qthen_normal ?_
            refine AWP.region rfl ?_; intro K hK
            (try simp (implicitDefEqProofs := false) (decide := true) only [go_sem, Nat.reduceAdd, Nat.reduceMul, Nat.reduceSub, Int.reduceToNat])
            refine hK _ _ ?_; clear hK K
            refine qthen_normal ?_
            obtain rfl := some_eq h
            refine ⟨(k26 + 1, (out25 ++ [((k26 : Nat) : Int)]), (ver26 + 1)), ⟨by dsimp only; omega, cont_next hJ26⟩, by dsimp only; omega, ?_, ?_⟩
            · (simp (implicitDefEqProofs := false) (decide := true) only [go_sem, Nat.reduceAdd, Nat.reduceMul, Nat.reduceSub, Int.reduceToNat, mpE_nil, Int.natCast_zero, List.replicate_zero, List.length_take, List.length_drop, AVal.own.injEq, reduceCtorEq, Int.reduceAdd, hw26] <;> omega)
            · (simp (implicitDefEqProofs := false) (decide := true) only [go_sem, Nat.reduceAdd, Nat.reduceMul, Nat.reduceSub, Int.reduceToNat, mpE_nil, Int.natCast_zero, List.replicate_zero, List.length_take, List.length_drop, AVal.own.injEq, reduceCtorEq, Int.reduceAdd, hw26] <;> omega)
          · replace h := bif_f h hc
            refine AWP.skip ?_
            refine qblock_normal ?_
            refine qthen_normal ?_
            refine AWP.region rfl ?_; intro K hK
            (try simp (implicitDefEqProofs := false) (decide := true) only [go_sem, Nat.reduceAdd, Nat.reduceMul, Nat.reduceSub, Int.reduceToNat])
            refine hK _ _ ?_; clear hK K
            refine qthen_normal ?_
            obtain rfl := some_eq h
            refine ⟨(k26 + 1, out25, ver26), ⟨by dsimp only; omega, cont_next hJ26⟩, by dsimp only; omega, ?_, ?_⟩
            · (simp (implicitDefEqProofs := false) (decide := true) only [go_sem, Nat.reduceAdd, Nat.reduceMul, Nat.reduceSub, Int.reduceToNat, mpE_nil, Int.natCast_zero, List.replicate_zero, List.length_take, List.length_drop, AVal.own.injEq, reduceCtorEq, Int.reduceAdd, hw26] <;> omega)
            · (simp (implicitDefEqProofs := false) (decide := true) only [go_sem, Nat.reduceAdd, Nat.reduceMul, Nat.reduceSub, Int.reduceToNat, mpE_nil, Int.natCast_zero, List.replicate_zero, List.length_take, List.length_drop, AVal.own.injEq, reduceCtorEq, Int.reduceAdd, hw26] <;> omega)
        · replace h := bif_f h hc
          (try simp (implicitDefEqProofs := false) (decide := true) only [go_sem, Nat.reduceAdd, Nat.reduceMul, Nat.reduceSub, Int.reduceToNat, hc, Bool.not_true])
          refine hK _ _ ?_; clear hK K
          refine qthen_normal ?_
          refine AWP.cond (acond_false ?_)
          refine AWP.skip ?_
          refine qblock_normal ?_
          refine qthen_normal ?_
          refine AWP.region rfl ?_; intro K hK
          (try simp (implicitDefEqProofs := false) (decide := true) only [go_sem, Nat.reduceAdd, Nat.reduceMul, Nat.reduceSub, Int.reduceToNat])
          refine hK _ _ ?_; clear hK K
          refine qthen_normal ?_
          obtain rfl := some_eq h
          refine ⟨(k26 + 1, out25, ver26), ⟨by dsimp only; omega, cont_next hJ26⟩, by dsimp only; omega, ?_, ?_⟩
          · (simp (implicitDefEqProofs := false) (decide := true) only [go_sem, Nat.reduceAdd, Nat.reduceMul, Nat.reduceSub, Int.reduceToNat, mpE_nil, Int.natCast_zero, List.replicate_zero, List.length_take, List.length_drop, AVal.own.injEq, reduceCtorEq, Int.reduceAdd, hw26] <;> omega)
          · (simp (implicitDefEqProofs := false) (decide := true) only [go_sem, Nat.reduceAdd, Nat.reduceMul, Nat.reduceSub, Int.reduceToNat, mpE_nil, Int.natCast_zero, List.replicate_zero, List.length_take, List.length_drop, AVal.own.injEq, reduceCtorEq, Int.reduceAdd, hw26] <;> omega)
      · obtain rfl := for_nil hJ26 (fun hl => by have := of_decide_eq_false hc; omega)
        have h := on_next hO26; try dsimp only at h
        have hkl : l.length = k26 := by have := of_decide_eq_false hc; omega
        subst hkl
        refine AWP.exit ?_
        refine qthen_exit ?_
        refine qthen_exit ?_
        refine qblock_same ?_
        refine qthen_normal ?_
        refine AWP.seq ?_
        refine AWP.region rfl ?_; intro K hK
        (try simp (implicitDefEqProofs := false) (decide := true) only [go_sem, Nat.reduceAdd, Nat.reduceMul, Nat.reduceSub, Int.reduceToNat])
        refine hK _ _ ?_; clear hK K
        refine qthen_normal ?_
        refine AWP.ret ?_
        obtain rfl := some_eq h
        simp (implicitDefEqProofs := false) (decide := true) only [go_sem, Nat.reduceAdd, Nat.reduceMul, Nat.reduceSub, Int.reduceToNat, mpE_nil, Int.natCast_zero, List.replicate_zero, List.length_take, List.length_drop, AVal.own.injEq, reduceCtorEq, Int.reduceAdd, nle2, nle1, nle0, nleA, nleL, Try.results22]
theorem ref06_Cut_spec (l : List ApiEdge) (s_ : Int) (t : Int) {r : (List Int)} (h : ref06_Cut l s_ t = some r) : PureFn Try.prog 22 [.sl 4 (l.map encApiEdge), .int .i64 s_, .int .i64 t] (· = .sl 1 (r.map intC)) := (ref06_Cut_fresh l s_ t h).pure

def law06_FlowCuts (l : List ApiEdge) (s_ : Int) (t : Int) : Option (Bool) :=
  (law06_alive).bind fun y1 => (bif (!y1) then some false else (law06_few l).bind fun y2 => (bif (!y2) then some true else (flow_Cut l s_ t).bind fun y3 => (ref06_Cut l s_ t).bind fun y4 => (ref06_Same y3 y4).bind fun y5 => some y5))

theorem law06_FlowCuts_spec (l : List ApiEdge) (s_ : Int) (t : Int) {r : Bool} (h : law06_FlowCuts l s_ t = some r) : PureFn Try.prog 6 [.sl 4 (l.map encApiEdge), .int .i64 s_, .int .i64 t] (· = .bool r) := by
  refine PureFn.nle (PureFn.intro Try.func6 rfl rfl (by show _ ≤ 23; simp) ?_)
  unfold law06_FlowCuts at h
  (try simp (implicitDefEqProofs := false) (decide := true) only [go_sem, Nat.reduceAdd, Nat.reduceMul, Nat.reduceSub, Int.reduceToNat])
  refine AWP.seq ?_
  refine AWP.region rfl ?_; intro K hK
  (try simp (implicitDefEqProofs := false) (decide := true) only [go_sem, Nat.reduceAdd, Nat.reduceMul, Nat.reduceSub, Int.reduceToNat])
  refine hK _ _ ?_; clear hK K
  refine qthen_normal ?_
  refine AWP.seq ?_
  refine AWP.seq ?_
  refine AWP.region rfl ?_; intro K hK
  (try simp (implicitDefEqProofs := false) (decide := true) only [go_sem, Nat.reduceAdd, Nat.reduceMul, Nat.reduceSub, Int.reduceToNat])
  obtain ⟨y1, hy1, h⟩ := bindE h
  refine ACall.pure Try.call11 (law06_alive_spec hy1) rfl fun _ hr => ?_
  subst hr
  (try simp (implicitDefEqProofs := false) (decide := true) only [go_sem, Nat.reduceAdd, Nat.reduceMul, Nat.reduceSub, Int.reduceToNat])
  refine hK _ _ ?_; clear hK K
  refine qthen_normal ?_
  refine AWP.cond (acond_split (fun hc => ?_) (fun hc => ?_))
  · replace h := bif_t h hc
    refine AWP.seq ?_
    refine AWP.region rfl ?_; intro K hK
    (try simp (implicitDefEqProofs := false) (decide := true) only [go_sem, Nat.reduceAdd, Nat.reduceMul, Nat.reduceSub, Int.reduceToNat])
    refine hK _ _ ?_; clear hK K
    refine qthen_normal ?_
    refine AWP.ret ?_
    refine qthen_ret ?_
    obtain rfl := some_eq h
    simp (implicitDefEqProofs := false) (decide := true) only [go_sem, Nat.reduceAdd, Nat.reduceMul, Nat.reduceSub, Int.reduceToNat, mpE_nil, Int.natCast_zero, List.replicate_zero, List.length_take, List.length_drop, AVal.own.injEq, reduceCtorEq, Int.reduceAdd, nle2, nle1, nle0, nleA, nleL, Try.results6]
  · replace h := bif_f h hc
    refine AWP.skip ?_
    refine qthen_normal ?_
    refine AWP.seq ?_
    refine AWP.region rfl ?_; intro K hK
    (try simp (implicitDefEqProofs := false) (decide := true) only [go_sem, Nat.reduceAdd, Nat.reduceMul, Nat.reduceSub, Int.reduceToNat])
    obtain ⟨y2, hy2, h⟩ := bindE h
    refine ACall.pure Try.call12 (law06_few_spec l hy2) rfl fun _ hr => ?_
    subst hr
    (try simp (implicitDefEqProofs := false) (decide := true) only [go_sem, Nat.reduceAdd, Nat.reduceMul, Nat.reduceSub, Int.reduceToNat])
    refine aguardK_split (fun hc => ?_) (fun hc => ?_)
    · replace h := bif_f h hc
      (try simp (implicitDefEqProofs := false) (decide := true) only [go_sem, Nat.reduceAdd, Nat.reduceMul, Nat.reduceSub, Int.reduceToNat, hc])
      obtain ⟨y3, hy3, h⟩ := bindE h
      refine ACall.pure Try.call21 (flow_Cut_spec l s_ t hy3) rfl fun _ hr => ?_
      subst hr
      (try simp (implicitDefEqProofs := false) (decide := true) only [go_sem, Nat.reduceAdd, Nat.reduceMul, Nat.reduceSub, Int.reduceToNat])
      obtain ⟨y4, hy4, h⟩ := bindE h
      refine ACall.pure Try.call22 (ref06_Cut_spec l s_ t hy4) rfl fun _ hr => ?_
      subst hr
      (try simp (implicitDefEqProofs := false) (decide := true) only [go_sem, Nat.reduceAdd, Nat.reduceMul, Nat.reduceSub, Int.reduceToNat])
      obtain ⟨y5, hy5, h⟩ := bindE h
      refine ACall.pure Try.call20 (ref06_Same_spec y3 y4 hy5) rfl fun _ hr => ?_
      subst hr
      (try simp (implicitDefEqProofs := false) (decide := true) only [go_sem, Nat.reduceAdd, Nat.reduceMul, Nat.reduceSub, Int.reduceToNat])
      refine hK _ _ ?_; clear hK K
      refine qthen_normal ?_
      refine AWP.ret ?_
      obtain rfl := some_eq h
      simp (implicitDefEqProofs := false) (decide := true) only [go_sem, Nat.reduceAdd, Nat.reduceMul, Nat.reduceSub, Int.reduceToNat, mpE_nil, Int.natCast_zero, List.replicate_zero, List.length_take, List.length_drop, AVal.own.injEq, reduceCtorEq, Int.reduceAdd, nle2, nle1, nle0, nleA, nleL, Try.results6]
    · replace h := bif_t h hc
      (try simp (implicitDefEqProofs := false) (decide := true) only [go_sem, Nat.reduceAdd, Nat.reduceMul, Nat.reduceSub, Int.reduceToNat, hc, Bool.not_false])
      refine hK _ _ ?_; clear hK K
      refine qthen_normal ?_
      refine AWP.ret ?_
      obtain rfl := some_eq h
      simp (implicitDefEqProofs := false) (decide := true) only [go_sem, Nat.reduceAdd, Nat.reduceMul, Nat.reduceSub, Int.reduceToNat, mpE_nil, Int.natCast_zero, List.replicate_zero, List.length_take, List.length_drop, AVal.own.injEq, reduceCtorEq, Int.reduceAdd, nle2, nle1, nle0, nleA, nleL, Try.results6]

def law06_FlowBounds_b4 (t : Int) (sum5 : Int) (x_7 : ApiEdge) (k9 : Nat) (x_11 : Int) (sv : Unit) : Option (Out (Unit) (Out (Int) (Bool))) :=
  (bif (decide (x_11 = x_7.To)) then (bif (decide (x_7.To ≠ t)) then some (Out.ret (Out.next sum5)) else some (Out.next ())) else some (Out.next ()))

def law06_FlowBounds_b5 (t : Int) (sum5 : Int) (x_7 : ApiEdge) (k12 : Nat) (x_14 : Int) (sv : Unit) : Option (Out (Unit) (Out (Int) (Bool))) :=
  (bif (decide (x_14 = x_7.To)) then (bif (decide (x_7.To ≠ t)) then some (Out.ret (Out.next sum5)) else some (Out.next ())) else some (Out.next ()))

def law06_FlowBounds_b3 (set_ : List Int) (s_ : Int) (t : Int) (sum5 : Int) (x_7 : ApiEdge) (k7 : Nat) (x_9 : Int) (sv : Unit) : Option (Out (Unit) (Out (Int) (Bool))) :=
  (bif (decide (x_9 = x_7.From)) then (bif (decide (x_7.From ≠ t)) then ((forIx (law06_FlowBounds_b4 t sum5 x_7) 0 set_ ()).bind fun o9 => o9.on fun s9 => (bif (!(decide (x_7.To = s_))) then some (Out.next (IntKind.i64.wrap (sum5 + x_7.Cost))) else some (Out.next sum5))).bind fun q11 => some (Out.ret q11) else some (Out.next ())) else some (Out.next ()))

def law06_FlowBounds_b2 (set_ : List Int) (s_ : Int) (t : Int) (k5 : Nat) (x_7 : ApiEdge) (sv : Int) : Option (Out (Int) (Bool)) :=
  (forIx (law06_FlowBounds_b3 set_ s_ t sv x_7) 0 set_ ()).bind fun o7 => o7.on fun s7 => (bif (decide (x_7.From = s_)) then (forIx (law06_FlowBounds_b5 t sv x_7) 0 set_ ()).bind fun o12 => o12.on fun s12 => (bif (!(decide (x_7.To = s_))) then some (Out.next (IntKind.i64.wrap (sv + x_7.Cost))) else some (Out.next sv)) else some (Out.next sv))

def law06_FlowBounds_j1 (l : List ApiEdge) (set_ : List Int) (s_ : Int) (t : Int) (y3 : Int) : Option (Bool) :=
  (forIx (law06_FlowBounds_b2 set_ s_ t) 0 l (0 : Int)).bind fun o5 => o5.on fun s5 => some (decide (y3 ≤ s5))

def law06_FlowBounds (l : List ApiEdge) (f_ : List Int) (set_ : List Int) (s_ : Int) (t : Int) : Option (Bool) :=
  (law06_alive).bind fun y1 => (bif (!y1) then some false else (law06_few l).bind fun y2 => (bif (!y2) then some true else (bif (decide ((100 : Int) < ((f_.length : Nat) : Int))) then some true else (bif (decide ((100 : Int) < ((set_.length : Nat) : Int))) then some true else (bif (decide (s_ = t)) then some true else (flow_Max l s_ t).bind fun y3 => (flow_Valid l f_ s_ t).bind fun y15 => (bif y15 then (flow_Value l f_ s_).bind fun y16 => (bif (decide (y3 < y16)) then some false else law06_FlowBounds_j1 l set_ s_ t y3) else law06_FlowBounds_j1 l set_ s_ t y3))))))

theorem law06_FlowBounds_spec (l : List ApiEdge) (f_ : List Int) (set_ : List Int) (s_ : Int) (t : Int) {r : Bool} (h : law06_FlowBounds l f_ set_ s_ t = some r) : PureFn Try.prog 7 [.sl 4 (l.map encApiEdge), .sl 1 (f_.map intC), .sl 1 (set_.map intC), .int .i64 s_, .int .i64 t] (· = .bool r) := by
  refine PureFn.nle (PureFn.intro Try.func7 rfl rfl (by show _ ≤ 86; simp) ?_)
  unfold law06_FlowBounds at h
  (try simp (implicitDefEqProofs := false) (decide := true) only [go_sem, Nat.reduceAdd, Nat.reduceMul, Nat.reduceSub, Int.reduceToNat])
  refine AWP.seq ?_
  refine AWP.region rfl ?_; intro K hK
  (try simp (implicitDefEqProofs := false) (decide := true) only [go_sem, Nat.reduceAdd, Nat.reduceMul, Nat.reduceSub, Int.reduceToNat])
  refine hK _ _ ?_; clear hK K
  refine qthen_normal ?_
  refine AWP.seq ?_
  refine AWP.seq ?_
  refine AWP.region rfl ?_; intro K hK
  (try simp (implicitDefEqProofs := false) (decide := true) only [go_sem, Nat.reduceAdd, Nat.reduceMul, Nat.reduceSub, Int.reduceToNat])
  obtain ⟨y1, hy1, h⟩ := bindE h
  refine ACall.pure Try.call11 (law06_alive_spec hy1) rfl fun _ hr => ?_
  subst hr
  (try simp (implicitDefEqProofs := false) (decide := true) only [go_sem, Nat.reduceAdd, Nat.reduceMul, Nat.reduceSub, Int.reduceToNat])
  refine hK _ _ ?_; clear hK K
  refine qthen_normal ?_
  refine AWP.cond (acond_split (fun hc => ?_) (fun hc => ?_))
  · replace h := bif_t h hc
    refine AWP.seq ?_
    refine AWP.region rfl ?_; intro K hK
    (try simp (implicitDefEqProofs := false) (decide := true) only [go_sem, Nat.reduceAdd, Nat.reduceMul, Nat.reduceSub, Int.reduceToNat])
    refine hK _ _ ?_; clear hK K
    refine qthen_normal ?_
    refine AWP.ret ?_
    refine qthen_ret ?_
    obtain rfl := some_eq h
    simp (implicitDefEqProofs := false) (decide := true) only [go_sem, Nat.reduceAdd, Nat.reduceMul, Nat.reduceSub, Int.reduceToNat, mpE_nil, Int.natCast_zero, List.replicate_zero, List.length_take, List.length_drop, AVal.own.injEq, reduceCtorEq, Int.reduceAdd, nle2, nle1, nle0, nleA, nleL, Try.results7]
  · replace h := bif_f h hc
    refine AWP.skip ?_
    refine qthen_normal ?_
    refine AWP.seq ?_
    refine AWP.seq ?_
    refine AWP.region rfl ?_; intro K hK
    (try simp (implicitDefEqProofs := false) (decide := true) only [go_sem, Nat.reduceAdd, Nat.reduceMul, Nat.reduceSub, Int.reduceToNat])
    obtain ⟨y2, hy2, h⟩ := bindE h
    refine ACall.pure Try.call12 (law06_few_spec l hy2) rfl fun _ hr => ?_
    subst hr
    (try simp (implicitDefEqProofs := false) (decide := true) only [go_sem, Nat.reduceAdd, Nat.reduceMul, Nat.reduceSub, Int.reduceToNat])
    refine aguardK_split (fun hc => ?_) (fun hc => ?_)
    · replace h := bif_f h hc
      (try simp (implicitDefEqProofs := false) (decide := true) only [go_sem, Nat.reduceAdd, Nat.reduceMul, Nat.reduceSub, Int.reduceToNat, hc])
      intro hm
      refine aguardK_split (fun hc => ?_) (fun hc => ?_)
      · replace h := bif_f h hc
        (try simp (implicitDefEqProofs := false) (decide := true) only [go_sem, Nat.reduceAdd, Nat.reduceMul, Nat.reduceSub, Int.reduceToNat, hc])
        intro hm
        refine aguardK_split (fun hc => ?_) (fun hc => ?_)
        · replace h := bif_f h hc
          (try simp (implicitDefEqProofs := false) (decide := true) only [go_sem, Nat.reduceAdd, Nat.reduceMul, Nat.reduceSub, Int.reduceToNat, hc])
          refine hK _ _ ?_; clear hK K
          refine qthen_normal ?_
          refine AWP.cond (acond_split (fun hc => ?_) (fun hc => ?_))
          · replace h := bif_t h hc
            refine AWP.seq ?_
            refine AWP.region rfl ?_; intro K hK
            (try simp (implicitDefEqProofs := false) (decide := true) only [go_sem, Nat.reduceAdd, Nat.reduceMul, Nat.reduceSub, Int.reduceToNat])
            refine hK _ _ ?_; clear hK K
            refine qthen_normal ?_
            refine AWP.ret ?_
            refine qthen_ret ?_
            obtain rfl := some_eq h
            simp (implicitDefEqProofs := false) (decide := true) only [go_sem, Nat.reduceAdd, Nat.reduceMul, Nat.reduceSub, Int.reduceToNat, mpE_nil, Int.natCast_zero, List.replicate_zero, List.length_take, List.length_drop, AVal.own.injEq, reduceCtorEq, Int.reduceAdd, nle2, nle1, nle0, nleA, nleL, Try.results7]
          · replace h := bif_f h hc
            refine AWP.skip ?_
            refine qthen_normal ?_
            refine AWP.seq ?_
            refine AWP.region rfl ?_; intro K hK
            (try simp (implicitDefEqProofs := false) (decide := true) only [go_sem, Nat.reduceAdd, Nat.reduceMul, Nat.reduceSub, Int.reduceToNat])
            obtain ⟨y3, hy3, h⟩ := bindE h
            refine ACall.pure Try.call17 (flow_Max_spec l s_ t hy3) rfl fun _ hr => ?_
            subst hr
            (try simp (implicitDefEqProofs := false) (decide := true) only [go_sem, Nat.reduceAdd, Nat.reduceMul, Nat.reduceSub, Int.reduceToNat])
            refine hK _ _ ?_; clear hK K
            refine qthen_normal ?_
            refine AWP.seqJoin (ι := (Unit) × (Unit)) (fun zz => [(0, .sl 4 (l.map encApiEdge)), (7, .ptr 0 0), (8, .ptr 1 0), (9, .ptr 2 0), (11, .int .i64 y3)]) (fun zz => [.box [.sl 1 (set_.map intC)], .box [.int .i64 s_], .box [.int .i64 t]]) (fun zz => law06_FlowBounds_j1 l set_ s_ t y3 = some r) (fun zz => ⟨rfl, rfl, rfl⟩) ?_ ?_
            · refine AWP.seq ?_
              refine AWP.region rfl ?_; intro K hK
              (try simp (implicitDefEqProofs := false) (decide := true) only [go_sem, Nat.reduceAdd, Nat.reduceMul, Nat.reduceSub, Int.reduceToNat])
              obtain ⟨y15, hy15, h⟩ := bindE h
              refine ACall.pure Try.call14 (flow_Valid_spec l f_ s_ t hy15) rfl fun _ hr => ?_
              subst hr
              (try simp (implicitDefEqProofs := false) (decide := true) only [go_sem, Nat.reduceAdd, Nat.reduceMul, Nat.reduceSub, Int.reduceToNat])
              refine aguardK_split (fun hc => ?_) (fun hc => ?_)
              · replace h := bif_t h hc
                (try simp (implicitDefEqProofs := false) (decide := true) only [go_sem, Nat.reduceAdd, Nat.reduceMul, Nat.reduceSub, Int.reduceToNat, hc])
                obtain ⟨y16, hy16, h⟩ := bindE h
                refine ACall.pure Try.call15 (flow_Value_spec l f_ s_ hy16) rfl fun _ hr => ?_
                subst hr
                (try simp (implicitDefEqProofs := false) (decide := true) only [go_sem, Nat.reduceAdd, Nat.reduceMul, Nat.reduceSub, Int.reduceToNat])
                refine hK _ _ ?_; clear hK K
                refine qthen_normal ?_
                refine AWP.cond (acond_split (fun hc => ?_) (fun hc => ?_))
                · replace h := bif_t h hc
                  refine AWP.seq ?_
                  refine AWP.region rfl ?_; intro K hK
                  (try simp (implicitDefEqProofs := false) (decide := true) only [go_sem, Nat.reduceAdd, Nat.reduceMul, Nat.reduceSub, Int.reduceToNat])
                  refine hK _ _ ?_; clear hK K
                  refine qthen_normal ?_
                  refine AWP.ret ?_
                  refine qthen_ret ?_
                  obtain rfl := some_eq h
                  simp (implicitDefEqProofs := false) (decide := true) only [go_sem, Nat.reduceAdd, Nat.reduceMul, Nat.reduceSub, Int.reduceToNat, mpE_nil, Int.natCast_zero, List.replicate_zero, List.length_take, List.length_drop, AVal.own.injEq, reduceCtorEq, Int.reduceAdd, nle2, nle1, nle0, nleA, nleL, Try.results7]
                · replace h := bif_f h hc
                  refine AWP.skip ?_
                  refine qthen_normal ?_
                  exact ⟨((), ()), h, by (simp (implicitDefEqProofs := false) (decide := true) only [go_sem, Nat.reduceAdd, Nat.reduceMul, Nat.reduceSub, Int.reduceToNat, mpE_nil, Int.natCast_zero, List.replicate_zero, List.length_take, List.length_drop, AVal.own.injEq, reduceCtorEq, Int.reduceAdd] <;> omega), by (simp (implicitDefEqProofs := false) (decide := true) only [go_sem, Nat.reduceAdd, Nat.reduceMul, Nat.reduceSub, Int.reduceToNat, mpE_nil, Int.natCast_zero, List.replicate_zero, List.length_take, List.length_drop, AVal.own.injEq, reduceCtorEq, Int.reduceAdd] <;> omega)⟩
              · replace h := bif_f h hc
                (try simp (implicitDefEqProofs := false) (decide := true) only [go_sem, Nat.reduceAdd, Nat.reduceMul, Nat.reduceSub, Int.reduceToNat, hc, Bool.not_true])
                refine hK _ _ ?_; clear hK K
                refine qthen_normal ?_
                refine AWP.cond (acond_false ?_)
                refine AWP.skip ?_
                refine qthen_normal ?_
                exact ⟨((), ()), h, by (simp (implicitDefEqProofs := false) (decide := true) only [go_sem, Nat.reduceAdd, Nat.reduceMul, Nat.reduceSub, Int.reduceToNat, mpE_nil, Int.natCast_zero, List.replicate_zero, List.length_take, List.length_drop, AVal.own.injEq, reduceCtorEq, Int.reduceAdd] <;> omega), by (simp (implicitDefEqProofs := false) (decide := true) only [go_sem, Nat.reduceAdd, Nat.reduceMul, Nat.reduceSub, Int.reduceToNat, mpE_nil, Int.natCast_zero, List.replicate_zero, List.length_take, List.length_drop, AVal.own.injEq, reduceCtorEq, Int.reduceAdd] <;> omega)⟩
            · rintro ⟨⟨⟩, ⟨⟩⟩ h
              try dsimp only at h ⊢
              unfold law06_FlowBounds_j1 at h; try dsimp only at h
              refine AWP.seq ?_
              refine AWP.region rfl ?_; intro K hK
              (try simp (implicitDefEqProofs := false) (decide := true) only [go_sem, Nat.reduceAdd, Nat.reduceMul, Nat.reduceSub, Int.reduceToNat])
              refine hK _ _ ?_; clear hK K
              refine qthen_normal ?_
              refine AWP.seq ?_
              refine AWP.region rfl ?_; intro K hK
              (try simp (implicitDefEqProofs := false) (decide := true) only [go_sem, Nat.reduceAdd, Nat.reduceMul, Nat.reduceSub, Int.reduceToNat])
              refine hK _ _ ?_; clear hK K
              refine qthen_normal ?_
              refine AWP.seq ?_
              refine AWP.seq ?_
              refine AWP.region rfl ?_; intro K hK
              (try simp (implicitDefEqProofs := false) (decide := true) only [go_sem, Nat.reduceAdd, Nat.reduceMul, Nat.reduceSub, Int.reduceToNat])
              refine hK _ _ ?_; clear hK K
              refine qthen_normal ?_
              refine AWP.block ?_
              obtain ⟨o5, hJ5, hO5⟩ := bindE h
              clear h
              refine AWP.loopW (ι := Nat × (Int) × (Unit)) (fun zz => [(0, .sl 4 (l.map encApiEdge)), (11, .int .i64 y3), (12, .func 23 [.ptr 0 0, .ptr 2 0, .ptr 1 0]), (13, .int .i64 zz.2.1), (14, .int .i64 ((zz.1 : Nat) : Int))]) (fun zz => [.box [.sl 1 (set_.map intC)], .box [.int .i64 s_], .box [.int .i64 t]]) (fun zz => zz.1 ≤ l.length ∧ forIx (law06_FlowBounds_b2 set_ s_ t) zz.1 ((l).drop zz.1) zz.2.1 = some o5) (fun zz => l.length - zz.1) (0, (0 : Int), ()) ⟨Nat.zero_le _, hJ5⟩ (by (simp (implicitDefEqProofs := false) (decide := true) only [go_sem, Nat.reduceAdd, Nat.reduceMul, Nat.reduceSub, Int.reduceToNat, mpE_nil, Int.natCast_zero, List.replicate_zero, List.length_take, List.length_drop, AVal.own.injEq, reduceCtorEq, Int.reduceAdd] <;> omega)) (by (simp (implicitDefEqProofs := false) (decide := true) only [go_sem, Nat.reduceAdd, Nat.reduceMul, Nat.reduceSub, Int.reduceToNat, mpE_nil, Int.natCast_zero, List.replicate_zero, List.length_take, List.length_drop, AVal.own.injEq, reduceCtorEq, Int.reduceAdd] <;> omega)) (fun x => ⟨rfl, rfl, rfl⟩) ?_
              clear hJ5
              rintro ⟨k5, sum5, ⟨⟩⟩ ⟨hk5, hJ5⟩
              dsimp only at hk5 hJ5 ⊢
              refine AWP.seq ?_
              refine AWP.seq ?_
              refine AWP.region rfl ?_; intro K hK
              (try simp (implicitDefEqProofs := false) (decide := true) only [go_sem, Nat.reduceAdd, Nat.reduceMul, Nat.reduceSub, Int.reduceToNat])
              intro hm
              refine hK _ _ ?_; clear hK K
              refine qthen_normal ?_
              refine AWP.cond (acond_split (fun hc => ?_) (fun hc => ?_))
              · have hlt5 : k5 < l.length := by have := of_decide_eq_true hc; omega
                obtain ⟨x_7, b5, hx5_, h, hJ5⟩ := for_cons hJ5 hlt5
                have hx5 := idxL_nat hx5_
                have hw5 : IntKind.i64.wrap (((k5 : Nat) : Int) + 1) = (((k5 : Nat) : Int) + (1 : Int)) := by rw [wrap_i64] <;> omega
                unfold law06_FlowBounds_b2 at h; try dsimp only at h
                refine AWP.skip ?_
                refine qthen_normal ?_
                refine AWP.seq ?_
                refine AWP.block ?_
                refine AWP.seq ?_
                refine AWP.region rfl ?_; intro K hK
                (try simp (implicitDefEqProofs := false) (decide := true) only [go_sem, Nat.reduceAdd, Nat.reduceMul, Nat.reduceSub, Int.reduceToNat])
                refine AIdx.of (f := encApiEdge) (l := l) hx5 ?_
                (try simp (implicitDefEqProofs := false) (decide := true) only [go_sem, Nat.reduceAdd, Nat.reduceMul, Nat.reduceSub, Int.reduceToNat])
                refine ACall.inline Try.call23 Try.func23 rfl rfl (by show _ ≤ 27; simp) ?_
                (try simp (implicitDefEqProofs := false) (decide := true) only [go_sem, Nat.reduceAdd, Nat.reduceMul, Nat.reduceSub, Int.reduceToNat])
                refine AWP.seq ?_
                refine AWP.region rfl ?_; intro K hK
                (try simp (implicitDefEqProofs := false) (decide := true) only [go_sem, Nat.reduceAdd, Nat.reduceMul, Nat.reduceSub, Int.reduceToNat])
                refine hK _ _ ?_; clear hK K
                refine qthen_normal ?_
                refine AWP.seq ?_
                refine AWP.seq ?_
                refine AWP.region rfl ?_; intro K hK
                (try simp (implicitDefEqProofs := false) (decide := true) only [go_sem, Nat.reduceAdd, Nat.reduceMul, Nat.reduceSub, Int.reduceToNat])
                refine hK _ _ ?_; clear hK K
                refine qthen_normal ?_
                refine AWP.block ?_
                obtain ⟨o7, hJ7, hO7⟩ := bindE h
                clear h
                refine AWP.loopW (ι := Nat × (Unit) × (Unit)) (fun zz => [(0, .int .i64 x_7.From), (1, .ptr 0 0), (2, .ptr 2 0), (3, .ptr 1 0), (6, .int .i64 ((zz.1 : Nat) : Int))]) (fun zz => [.box [.sl 1 (set_.map intC)], .box [.int .i64 s_], .box [.int .i64 t]]) (fun zz => zz.1 ≤ set_.length ∧ forIx (law06_FlowBounds_b3 set_ s_ t sum5 x_7) zz.1 ((set_).drop zz.1) zz.2.1 = some o7) (fun zz => set_.length - zz.1) (0, (), ()) ⟨Nat.zero_le _, hJ7⟩ (by (simp (implicitDefEqProofs := false) (decide := true) only [go_sem, Nat.reduceAdd, Nat.reduceMul, Nat.reduceSub, Int.reduceToNat, mpE_nil, Int.natCast_zero, List.replicate_zero, List.length_take, List.length_drop, AVal.own.injEq, reduceCtorEq, Int.reduceAdd] <;> omega)) (by (simp (implicitDefEqProofs := false) (decide := true) only [go_sem, Nat.reduceAdd, Nat.reduceMul, Nat.reduceSub, Int.reduceToNat, mpE_nil, Int.natCast_zero, List.replicate_zero, List.length_take, List.length_drop, AVal.own.injEq, reduceCtorEq, Int.reduceAdd] <;> omega)) (fun x => ⟨rfl, rfl, rfl⟩) ?_
                clear hJ7
                rintro ⟨k7, ⟨⟩, ⟨⟩⟩ ⟨hk7, hJ7⟩
                dsimp only at hk7 hJ7 ⊢
                refine AWP.seq ?_
                refine AWP.seq ?_
                refine AWP.region rfl ?_; intro K hK
                (try simp (implicitDefEqProofs := false) (decide := true) only [go_sem, Nat.reduceAdd, Nat.reduceMul, Nat.reduceSub, Int.reduceToNat])
                intro hm
                refine hK _ _ ?_; clear hK K
                refine qthen_normal ?_
                refine AWP.cond (acond_split (fun hc => ?_) (fun hc => ?_))
                · have hlt7 : k7 < set_.length := by have := of_decide_eq_true hc; omega
                  obtain ⟨x_9, b7, hx7_, h, hJ7⟩ := for_cons hJ7 hlt7
                  have hx7 := idxL_nat hx7_
                  have hw7 : IntKind.i64.wrap (((k7 : Nat) : Int) + 1) = (((k7 : Nat) : Int) + (1 : Int)) := by rw [wrap_i64] <;> omega
                  unfold law06_FlowBounds_b3 at h; try dsimp only at h
                  refine AWP.skip ?_
                  refine qthen_normal ?_
                  refine AWP.seq ?_
                  refine AWP.block ?_
                  refine AWP.seq ?_
                  refine AWP.region rfl ?_; intro K hK
                  (try simp (implicitDefEqProofs := false) (decide := true) only [go_sem, Nat.reduceAdd, Nat.reduceMul, Nat.reduceSub, Int.reduceToNat])
                  refine AIdx.of (f := intC) (l := set_) hx7 ?_
                  (try simp (implicitDefEqProofs := false) (decide := true) only [go_sem, Nat.reduceAdd, Nat.reduceMul, Nat.reduceSub, Int.reduceToNat])
                  refine aguardK_split (fun hc => ?_) (fun hc => ?_)
                  · replace h := bif_t h hc
                    (try simp (implicitDefEqProofs := false) (decide := true) only [go_sem, Nat.reduceAdd, Nat.reduceMul, Nat.reduceSub, Int.reduceToNat, hc])
                    refine hK _ _ ?_; clear hK K
                    refine qthen_normal ?_
                    refine AWP.cond (acond_split (fun hc => ?_) (fun hc => ?_))
                    · replace h := bif_t h hc
                      refine AWP.seq ?_
                      refine AWP.region rfl ?_; intro K hK
                      (try simp (implicitDefEqProofs := false) (decide := true) only [go_sem, Nat.reduceAdd, Nat.reduceMul, Nat.reduceSub, Int.reduceToNat])
                      refine hK _ _ ?_; clear hK K
                      refine qthen_normal ?_
                      refine AWP.ret ?_
                      refine qblock_ret ?_
                      refine qthen_ret ?_
                      refine qthen_ret ?_
                      obtain ⟨q11, hq, h⟩ := bindE h
                      obtain rfl := some_eq h
                      obtain rfl := cont_ret hJ7
                      replace h := hq.trans (on_ret hO7)
                      refine qblock_ret ?_
                      refine qthen_ret ?_
                      (try simp (implicitDefEqProofs := false) (decide := true) only [go_sem, Nat.reduceAdd, Nat.reduceMul, Nat.reduceSub, Int.reduceToNat, Try.results23])
                      refine AIdx.of (f := encApiEdge) (l := l) hx5 ?_
                      (try simp (implicitDefEqProofs := false) (decide := true) only [go_sem, Nat.reduceAdd, Nat.reduceMul, Nat.reduceSub, Int.reduceToNat])
                      refine ACall.inline Try.call23 Try.func23 rfl rfl (by show _ ≤ 27; simp) ?_
                      (try simp (implicitDefEqProofs := false) (decide := true) only [go_sem, Nat.reduceAdd, Nat.reduceMul, Nat.reduceSub, Int.reduceToNat])
                      refine AWP.seq ?_
                      refine AWP.region rfl ?_; intro K hK
                      (try simp (implicitDefEqProofs := false) (decide := true) only [go_sem, Nat.reduceAdd, Nat.reduceMul, Nat.reduceSub, Int.reduceToNat])
                      refine hK _ _ ?_; clear hK K
                      refine qthen_normal ?_
                      refine AWP.seq ?_
                      refine AWP.seq ?_
                      refine AWP.region rfl ?_; intro K hK
                      (try simp (implicitDefEqProofs := false) (decide := true) only [go_sem, Nat.reduceAdd, Nat.reduceMul, Nat.reduceSub, Int.reduceToNat])
                      refine hK _ _ ?_; clear hK K
                      refine qthen_normal ?_
                      refine AWP.block ?_
                      obtain ⟨o9, hJ9, hO9⟩ := bindE h
                      clear h
                      refine AWP.loopW (ι := Nat × (Unit) × (Unit)) (fun zz => [(0, .int .i64 x_7.To), (1, .ptr 0 0), (2, .ptr 2 0), (3, .ptr 1 0), (6, .int .i64 ((zz.1 : Nat) : Int))]) (fun zz => [.box [.sl 1 (set_.map intC)], .box [.int .i64 s_], .box [.int .i64 t]]) (fun zz => zz.1 ≤ set_.length ∧ forIx (law06_FlowBounds_b4 t sum5 x_7) zz.1 ((set_).drop zz.1) zz.2.1 = some o9) (fun zz => set_.length - zz.1) (0, (), ()) ⟨Nat.zero_le _, hJ9⟩ (by (simp (implicitDefEqProofs := false) (decide := true) only [go_sem, Nat.reduceAdd, Nat.reduceMul, Nat.reduceSub, Int.reduceToNat, mpE_nil, Int.natCast_zero, List.replicate_zero, List.length_take, List.length_drop, AVal.own.injEq, reduceCtorEq, Int.reduceAdd] <;> omega)) (by (simp (implicitDefEqProofs := false) (decide := true) only [go_sem, Nat.reduceAdd, Nat.reduceMul, Nat.reduceSub, Int.reduceToNat, mpE_nil, Int.natCast_zero, List.replicate_zero, List.length_take, List.length_drop, AVal.own.injEq, reduceCtorEq, Int.reduceAdd] <;> omega)) (fun x => ⟨rfl, rfl, rfl⟩) ?_
                      clear hJ9
                      rintro ⟨k9, ⟨⟩, ⟨⟩⟩ ⟨hk9, hJ9⟩
                      dsimp only at hk9 hJ9 ⊢
                      refine AWP.seq ?_
                      refine AWP.seq ?_
                      refine AWP.region rfl ?_; intro K hK
                      (try simp (implicitDefEqProofs := false) (decide := true) only [go_sem, Nat.reduceAdd, Nat.reduceMul, Nat.reduceSub, Int.reduceToNat])
                      intro hm
                      refine hK _ _ ?_; clear hK K
                      refine qthen_normal ?_
                      refine AWP.cond (acond_split (fun hc => ?_) (fun hc => ?_))
                      · have hlt9 : k9 < set_.length := by have := of_decide_eq_true hc; omega
                        obtain ⟨x_11, b9, hx9_, h, hJ9⟩ := for_cons hJ9 hlt9
                        have hx9 := idxL_nat hx9_
                        have hw9 : IntKind.i64.wrap (((k9 : Nat) : Int) + 1) = (((k9 : Nat) : Int) + (1 : Int)) := by rw [wrap_i64] <;> omega
                        unfold law06_FlowBounds_b4 at h; try dsimp only at h
                        refine AWP.skip ?_
                        refine qthen_normal ?_
                        refine AWP.seq ?_
                        refine AWP.block ?_
                        refine AWP.seq ?_
                        refine AWP.region rfl ?_; intro K hK
                        (try simp (implicitDefEqProofs := false) (decide := true) only [go_sem, Nat.reduceAdd, Nat.reduceMul, Nat.reduceSub, Int.reduceToNat])
                        refine AIdx.of (f := intC) (l := set_) hx9 ?_
                        (try simp (implicitDefEqProofs := false) (decide := true) only [go_sem, Nat.reduceAdd, Nat.reduceMul, Nat.reduceSub, Int.reduceToNat])
                        refine aguardK_split (fun hc => ?_) (fun hc => ?_)
                        · replace h := bif_t h hc
                          (try simp (implicitDefEqProofs := false) (decide := true) only [go_sem, Nat.reduceAdd, Nat.reduceMul, Nat.reduceSub, Int.reduceToNat, hc])
                          refine hK _ _ ?_; clear hK K
                          refine qthen_normal ?_
                          refine AWP.cond (acond_split (fun hc => ?_) (fun hc => ?_))
                          · replace h := bif_t h hc
                            refine AWP.seq ?_
                            refine AWP.region rfl ?_; intro K hK
                            (try simp (implicitDefEqProofs := false) (decide := true) only [go_sem, Nat.reduceAdd, Nat.reduceMul, Nat.reduceSub, Int.reduceToNat])
                            refine hK _ _ ?_; clear hK K
                            refine qthen_normal ?_
                            refine AWP.ret ?_
                            refine qblock_ret ?_
                            refine qthen_ret ?_
                            refine qthen_ret ?_
                            obtain rfl := some_eq h
                            obtain rfl := cont_ret hJ9
                            replace h := on_ret hO9
                            refine qblock_ret ?_
                            refine qthen_ret ?_
                            (try simp (implicitDefEqProofs := false) (decide := true) only [go_sem, Nat.reduceAdd, Nat.reduceMul, Nat.reduceSub, Int.reduceToNat, Try.results23])
                            refine hK _ _ ?_; clear hK K
                            refine qthen_normal ?_
                            refine AWP.cond (acond_false ?_)
                            refine AWP.skip ?_
                            refine qblock_normal ?_
                            refine qthen_normal ?_
                            refine AWP.region rfl ?_; intro K hK
                            (try simp (implicitDefEqProofs := false) (decide := true) only [go_sem, Nat.reduceAdd, Nat.reduceMul, Nat.reduceSub, Int.reduceToNat])
                            refine hK _ _ ?_; clear hK K
                            refine qthen_normal ?_
                            obtain rfl := some_eq h
                            refine ⟨(k5 + 1, sum5, ()), ⟨by dsimp only; omega, cont_next hJ5⟩, by dsimp only; omega, ?_, ?_⟩
                            · (simp (implicitDefEqProofs := false) (decide := true) only [go_sem, Nat.reduceAdd, Nat.reduceMul, Nat.reduceSub, Int.reduceToNat, mpE_nil, Int.natCast_zero, List.replicate_zero, List.length_take, List.length_drop, AVal.own.injEq, reduceCtorEq, Int.reduceAdd, hw5] <;> omega)
                            · (simp (implicitDefEqProofs := false) (decide := true) only [go_sem, Nat.reduceAdd, Nat.reduceMul, Nat.reduceSub, Int.reduceToNat, mpE_nil, Int.natCast_zero, List.replicate_zero, List.length_take, List.length_drop, AVal.own.injEq, reduceCtorEq, Int.reduceAdd, hw5] <;> omega)
                          · replace h := bif_f h hc
                            refine AWP.skip ?_
                            refine qblock_normal ?_
                            refine qthen_normal ?_
                            refine AWP.region rfl ?_; intro K hK
                            (try simp (implicitDefEqProofs := false) (decide := true) only [go_sem, Nat.reduceAdd, Nat.reduceMul, Nat.reduceSub, Int.reduceToNat])
                            refine hK _ _ ?_; clear hK K
                            refine qthen_normal ?_
                            obtain rfl := some_eq h
                            refine ⟨(k9 + 1, (), ()), ⟨by dsimp only; omega, cont_next hJ9⟩, by dsimp only; omega, ?_, ?_⟩
                            · (simp (implicitDefEqProofs := false) (decide := true) only [go_sem, Nat.reduceAdd, Nat.reduceMul, Nat.reduceSub, Int.reduceToNat, mpE_nil, Int.natCast_zero, List.replicate_zero, List.length_take, List.length_drop, AVal.own.injEq, reduceCtorEq, Int.reduceAdd, hw9] <;> omega)
                            · (simp (implicitDefEqProofs := false) (decide := true) only [go_sem, Nat.reduceAdd, Nat.reduceMul, Nat.reduceSub, Int.reduceToNat, mpE_nil, Int.natCast_zero, List.replicate_zero, List.length_take, List.length_drop, AVal.own.injEq, reduceCtorEq, Int.reduceAdd, hw9] <;> omega)
                        · replace h := bif_f h hc
                          (try simp (implicitDefEqProofs := false) (decide := true) only [go_sem, Nat.reduceAdd, Nat.reduceMul, Nat.reduceSub, Int.reduceToNat, hc, Bool.not_true])
                          refine hK _ _ ?_; clear hK K
                          refine qthen_normal ?_
                          refine AWP.cond (acond_false ?_)
                          refine AWP.skip ?_
                          refine qblock_normal ?_
                          refine qthen_normal ?_
                          refine AWP.region rfl ?_; intro K hK
                          (try simp (implicitDefEqProofs := false) (decide := true) only [go_sem, Nat.reduceAdd, Nat.reduceMul, Nat.reduceSub, Int.reduceToNat])
                          refine hK _ _ ?_; clear hK K
                          refine qthen_normal ?_
                          obtain rfl := some_eq h
                          refine ⟨(k9 + 1, (), ()), ⟨by dsimp only; omega, cont_next hJ9⟩, by dsimp only; omega, ?_, ?_⟩
                          · (simp (implicitDefEqProofs := false) (decide := true) only [go_sem, Nat.reduceAdd, Nat.reduceMul, Nat.reduceSub, Int.reduceToNat, mpE_nil, Int.natCast_zero, List.replicate_zero, List.length_take, List.length_drop, AVal.own.injEq, reduceCtorEq, Int.reduceAdd, hw9] <;> omega)
                          · (simp (implicitDefEqProofs := false) (decide := true) only [go_sem, Nat.reduceAdd, Nat.reduceMul, Nat.reduceSub, Int.reduceToNat, mpE_nil, Int.natCast_zero, List.replicate_zero, List.length_take, List.length_drop, AVal.own.injEq, reduceCtorEq, Int.reduceAdd, hw9] <;> omega)
                      · obtain rfl := for_nil hJ9 (fun hl => by have := of_decide_eq_false hc; omega)
                        have h := on_next hO9; try dsimp only at h
                        have hkl : set_.length = k9 := by have := of_decide_eq_false hc; omega
                        subst hkl
                        refine AWP.exit ?_
                        refine qthen_exit ?_
                        refine qthen_exit ?_
                        refine qblock_same ?_
                        refine qthen_normal ?_
                        refine AWP.seq ?_
                        refine AWP.region rfl ?_; intro K hK
                        (try simp (implicitDefEqProofs := false) (decide := true) only [go_sem, Nat.reduceAdd, Nat.reduceMul, Nat.reduceSub, Int.reduceToNat])
                        refine hK _ _ ?_; clear hK K
                        refine qthen_normal ?_
                        refine AWP.ret ?_
                        (try simp (implicitDefEqProofs := false) (decide := true) only [go_sem, Nat.reduceAdd, Nat.reduceMul, Nat.reduceSub, Int.reduceToNat, Try.results23])
                        refine hK _ _ ?_; clear hK K
                        refine qthen_normal ?_
                        refine AWP.cond (acond_split (fun hc => ?_) (fun hc => ?_))
                        · replace h := bif_t h hc
                          refine AWP.region rfl ?_; intro K hK
                          (try simp (implicitDefEqProofs := false) (decide := true) only [go_sem, Nat.reduceAdd, Nat.reduceMul, Nat.reduceSub, Int.reduceToNat])
                          refine AIdx.of (f := encApiEdge) (l := l) hx5 ?_
                          (try simp (implicitDefEqProofs := false) (decide := true) only [go_sem, Nat.reduceAdd, Nat.reduceMul, Nat.reduceSub, Int.reduceToNat])
                          refine hK _ _ ?_; clear hK K
                          refine qblock_normal ?_
                          refine qthen_normal ?_
                          refine AWP.region rfl ?_; intro K hK
                          (try simp (implicitDefEqProofs := false) (decide := true) only [go_sem, Nat.reduceAdd, Nat.reduceMul, Nat.reduceSub, Int.reduceToNat])
                          refine hK _ _ ?_; clear hK K
                          refine qthen_normal ?_
                          obtain rfl := some_eq h
                          refine ⟨(k5 + 1, (IntKind.i64.wrap (sum5 + x_7.Cost)), ()), ⟨by dsimp only; omega, cont_next hJ5⟩, by dsimp only; omega, ?_, ?_⟩
                          · (simp (implicitDefEqProofs := false) (decide := true) only [go_sem, Nat.reduceAdd, Nat.reduceMul, Nat.reduceSub, Int.reduceToNat, mpE_nil, Int.natCast_zero, List.replicate_zero, List.length_take, List.length_drop, AVal.own.injEq, reduceCtorEq, Int.reduceAdd, hw5] <;> omega)
                          · (simp (implicitDefEqProofs := false) (decide := true) only [go_sem, Nat.reduceAdd, Nat.reduceMul, Nat.reduceSub, Int.reduceToNat, mpE_nil, Int.natCast_zero, List.replicate_zero, List.length_take, List.length_drop, AVal.own.injEq, reduceCtorEq, Int.reduceAdd, hw5] <;> omega)
                        · replace h := bif_f h hc
                          refine AWP.skip ?_
                          refine qblock_normal ?_
                          refine qthen_normal ?_
                          refine AWP.region rfl ?_; intro K hK
                          (try simp (implicitDefEqProofs := false) (decide := true) only [go_sem, Nat.reduceAdd, Nat.reduceMul, Nat.reduceSub, Int.reduceToNat])
                          refine hK _ _ ?_; clear hK K
                          refine qthen_normal ?_
                          obtain rfl := some_eq h
                          refine ⟨(k5 + 1, sum5, ()), ⟨by dsimp only; omega, cont_next hJ5⟩, by dsimp only; omega, ?_, ?_⟩
                          · (simp (implicitDefEqProofs := false) (decide := true) only [go_sem, Nat.reduceAdd, Nat.reduceMul, Nat.reduceSub, Int.reduceToNat, mpE_nil, Int.natCast_zero, List.replicate_zero, List.length_take, List.length_drop, AVal.own.injEq, reduceCtorEq, Int.reduceAdd, hw5] <;> omega)
                          · (simp (implicitDefEqProofs := false) (decide := true) only [go_sem, Nat.reduceAdd, Nat.reduceMul, Nat.reduceSub, Int.reduceToNat, mpE_nil, Int.natCast_zero, List.replicate_zero, List.length_take, List.length_drop, AVal.own.injEq, reduceCtorEq, Int.reduceAdd, hw5] <;> omega)
                    · replace h := bif_f h hc
                      refine AWP.skip ?_
                      refine qblock_normal ?_
                      refine qthen_normal ?_
                      refine AWP.region rfl ?_; intro K hK
                      (try simp (implicitDefEqProofs := false) (decide := true) only [go_sem, Nat.reduceAdd, Nat.reduceMul, Nat.reduceSub, Int.reduceToNat])
                      refine hK _ _ ?_; clear hK K
                      refine qthen_normal ?_
                      obtain rfl := some_eq h
                      refine ⟨(k7 + 1, (), ()), ⟨by dsimp only; omega, cont_next hJ7⟩, by dsimp only; omega, ?_, ?_⟩
                      · (simp (implicitDefEqProofs := false) (decide := true) only [go_sem, Nat.reduceAdd, Nat.reduceMul, Nat.reduceSub, Int.reduceToNat, mpE_nil, Int.natCast_zero, List.replicate_zero, List.length_take, List.length_drop, AVal.own.injEq, reduceCtorEq, Int.reduceAdd, hw7] <;> omega)
                      · (simp (implicitDefEqProofs := false) (decide := true) only [go_sem, Nat.reduceAdd, Nat.reduceMul, Nat.reduceSub, Int.reduceToNat, mpE_nil, Int.natCast_zero, List.replicate_zero, List.length_take, List.length_drop, AVal.own.injEq, reduceCtorEq, Int.reduceAdd, hw7] <;> omega)
                  · replace h := bif_f h hc
                    (try simp (implicitDefEqProofs := false) (decide := true) only [go_sem, Nat.reduceAdd, Nat.reduceMul, Nat.reduceSub, Int.reduceToNat, hc, Bool.not_true])
                    refine hK _ _ ?_; clear hK K
                    refine qthen_normal ?_
                    refine AWP.cond (acond_false ?_)
                    refine AWP.skip ?_
                    refine qblock_normal ?_
                    refine qthen_normal ?_
                    refine AWP.region rfl ?_; intro K hK
                    (try simp (implicitDefEqProofs := false) (decide := true) only [go_sem, Nat.reduceAdd, Nat.reduceMul, Nat.reduceSub, Int.reduceToNat])
                    refine hK _ _ ?_; clear hK K
                    refine qthen_normal ?_
                    obtain rfl := some_eq h
                    refine ⟨(k7 + 1, (), ()), ⟨by dsimp only; omega, cont_next hJ7⟩, by dsimp only; omega, ?_, ?_⟩
                    · (simp (implicitDefEqProofs := false) (decide := true) only [go_sem, Nat.reduceAdd, Nat.reduceMul, Nat.reduceSub, Int.reduceToNat, mpE_nil, Int.natCast_zero, List.replicate_zero, List.length_take, List.length_drop, AVal.own.injEq, reduceCtorEq, Int.reduceAdd, hw7] <;> omega)
                    · (simp (implicitDefEqProofs := false) (decide := true) only [go_sem, Nat.reduceAdd, Nat.reduceMul, Nat.reduceSub, Int.reduceToNat, mpE_nil, Int.natCast_zero, List.replicate_zero, List.length_take, List.length_drop, AVal.own.injEq, reduceCtorEq, Int.reduceAdd, hw7] <;> omega)
                · obtain rfl := for_nil hJ7 (fun hl => by have := of_decide_eq_false hc; omega)
                  have h := on_next hO7; try dsimp only at h
                  have hkl : set_.length = k7 := by have := of_decide_eq_false hc; omega
                  subst hkl
                  refine AWP.exit ?_
                  refine qthen_exit ?_
                  refine qthen_exit ?_
                  refine qblock_same ?_
                  refine qthen_normal ?_
                  refine AWP.seq ?_
                  refine AWP.region rfl ?_; intro K hK
                  (try simp (implicitDefEqProofs := false) (decide := true) only [go_sem, Nat.reduceAdd, Nat.reduceMul, Nat.reduceSub, Int.reduceToNat])
                  refine hK _ _ ?_; clear hK K
                  refine qthen_normal ?_
                  refine AWP.ret ?_
                  (try simp (implicitDefEqProofs := false) (decide := true) only [go_sem, Nat.reduceAdd, Nat.reduceMul, Nat.reduceSub, Int.reduceToNat, Try.results23])
                  refine aguardK_split (fun hc => ?_) (fun hc => ?_)
                  · replace h := bif_t h hc
                    (try simp (implicitDefEqProofs := false) (decide := true) only [go_sem, Nat.reduceAdd, Nat.reduceMul, Nat.reduceSub, Int.reduceToNat, hc])
                    refine AIdx.of (f := encApiEdge) (l := l) hx5 ?_
                    (try simp (implicitDefEqProofs := false) (decide := true) only [go_sem, Nat.reduceAdd, Nat.reduceMul, Nat.reduceSub, Int.reduceToNat])
                    refine ACall.inline Try.call23 Try.func23 rfl rfl (by show _ ≤ 27; simp) ?_
                    (try simp (implicitDefEqProofs := false) (decide := true) only [go_sem, Nat.reduceAdd, Nat.reduceMul, Nat.reduceSub, Int.reduceToNat])
                    refine AWP.seq ?_
                    refine AWP.region rfl ?_; intro K hK
                    (try simp (implicitDefEqProofs := false) (decide := true) only [go_sem, Nat.reduceAdd, Nat.reduceMul, Nat.reduceSub, Int.reduceToNat])
                    refine hK _ _ ?_; clear hK K
                    refine qthen_normal ?_
                    refine AWP.seq ?_
                    refine AWP.seq ?_
                    refine AWP.region rfl ?_; intro K hK
                    (try simp (implicitDefEqProofs := false) (decide := true) only [go_sem, Nat.reduceAdd, Nat.reduceMul, Nat.reduceSub, Int.reduceToNat])
                    refine hK _ _ ?_; clear hK K
                    refine qthen_normal ?_
                    refine AWP.block ?_
                    obtain ⟨o12, hJ12, hO12⟩ := bindE h
                    clear h
                    refine AWP.loopW (ι := Nat × (Unit) × (Unit)) (fun zz => [(0, .int .i64 x_7.To), (1, .ptr 0 0), (2, .ptr 2 0), (3, .ptr 1 0), (6, .int .i64 ((zz.1 : Nat) : Int))]) (fun zz => [.box [.sl 1 (set_.map intC)], .box [.int .i64 s_], .box [.int .i64 t]]) (fun zz => zz.1 ≤ set_.length ∧ forIx (law06_FlowBounds_b5 t sum5 x_7) zz.1 ((set_).drop zz.1) zz.2.1 = some o12) (fun zz => set_.length - zz.1) (0, (), ()) ⟨Nat.zero_le _, hJ12⟩ (by (simp (implicitDefEqProofs := false) (decide := true) only [go_sem, Nat.reduceAdd, Nat.reduceMul, Nat.reduceSub, Int.reduceToNat, mpE_nil, Int.natCast_zero, List.replicate_zero, List.length_take, List.length_drop, AVal.own.injEq, reduceCtorEq, Int.reduceAdd] <;> omega)) (by (simp (implicitDefEqProofs := false) (decide := true) only [go_sem, Nat.reduceAdd, Nat.reduceMul, Nat.reduceSub, Int.reduceToNat, mpE_nil, Int.natCast_zero, List.replicate_zero, List.length_take, List.length_drop, AVal.own.injEq, reduceCtorEq, Int.reduceAdd] <;> omega)) (fun x => ⟨rfl, rfl, rfl⟩) ?_
                    clear hJ12
                    rintro ⟨k12, ⟨⟩, ⟨⟩⟩ ⟨hk12, hJ12⟩
                    dsimp only at hk12 hJ12 ⊢
                    refine AWP.seq ?_
                    refine AWP.seq ?_
                    refine AWP.region rfl ?_; intro K hK
                    (try simp (implicitDefEqProofs := false) (decide := true) only [go_sem, Nat.reduceAdd, Nat.reduceMul, Nat.reduceSub, Int.reduceToNat])
                    intro hm
                    refine hK _ _ ?_; clear hK K
                    refine qthen_normal ?_
                    refine AWP.cond (acond_split (fun hc => ?_) (fun hc => ?_))
                    · have hlt12 : k12 < set_.length := by have := of_decide_eq_true hc; omega
                      obtain ⟨x_14, b12, hx12_, h, hJ12⟩ := for_cons hJ12 hlt12
                      have hx12 := idxL_nat hx12_
                      have hw12 : IntKind.i64.wrap (((k12 : Nat) : Int) + 1) = (((k12 : Nat) : Int) + (1 : Int)) := by rw [wrap_i64] <;> omega
                      unfold law06_FlowBounds_b5 at h; try dsimp only at h
                      refine AWP.skip ?_
                      refine qthen_normal ?_
                      refine AWP.seq ?_
                      refine AWP.block ?_
                      refine AWP.seq ?_
                      refine AWP.region rfl ?_; intro K hK
                      (try simp (implicitDefEqProofs := false) (decide := true) only [go_sem, Nat.reduceAdd, Nat.reduceMul, Nat.reduceSub, Int.reduceToNat])
                      refine AIdx.of (f := intC) (l := set_) hx12 ?_
                      (try simp (implicitDefEqProofs := false) (decide := true) only [go_sem, Nat.reduceAdd, Nat.reduceMul, Nat.reduceSub, Int.reduceToNat])
                      refine aguardK_split (fun hc => ?_) (fun hc => ?_)
                      · replace h := bif_t h hc
                        (try simp (implicitDefEqProofs := false) (decide := true) only [go_sem, Nat.reduceAdd, Nat.reduceMul, Nat.reduceSub, Int.reduceToNat, hc])
                        refine hK _ _ ?_; clear hK K
                        refine qthen_normal ?_
                        refine AWP.cond (acond_split (fun hc => ?_) (fun hc => ?_))
                        · replace h := bif_t h hc
                          refine AWP.seq ?_
                          refine AWP.region rfl ?_; intro K hK
                          (try simp (implicitDefEqProofs := false) (decide := true) only [go_sem, Nat.reduceAdd, Nat.reduceMul, Nat.reduceSub, Int.reduceToNat])
                          refine hK _ _ ?_; clear hK K
                          refine qthen_normal ?_
                          refine AWP.ret ?_
                          refine qblock_ret ?_
                          refine qthen_ret ?_
                          refine qthen_ret ?_
                          obtain rfl := some_eq h
                          obtain rfl := cont_ret hJ12
                          replace h := on_ret hO12
                          refine qblock_ret ?_
                          refine qthen_ret ?_
                          (try simp (implicitDefEqProofs := false) (decide := true) only [go_sem, Nat.reduceAdd, Nat.reduceMul, Nat.reduceSub, Int.reduceToNat, Try.results23])
                          refine hK _ _ ?_; clear hK K
                          refine qthen_normal ?_
                          refine AWP.cond (acond_false ?_)
                          refine AWP.skip ?_
                          refine qblock_normal ?_
                          refine qthen_normal ?_
                          refine AWP.region rfl ?_; intro K hK
                          (try simp (implicitDefEqProofs := false) (decide := true) only [go_sem, Nat.reduceAdd, Nat.reduceMul, Nat.reduceSub, Int.reduceToNat])
                          refine hK _ _ ?_; clear hK K
                          refine qthen_normal ?_
                          obtain rfl := some_eq h
                          refine ⟨(k5 + 1, sum5, ()), ⟨by dsimp only; omega, cont_next hJ5⟩, by dsimp only; omega, ?_, ?_⟩
                          · (simp (implicitDefEqProofs := false) (decide := true) only [go_sem, Nat.reduceAdd, Nat.reduceMul, Nat.reduceSub, Int.reduceToNat, mpE_nil, Int.natCast_zero, List.replicate_zero, List.length_take, List.length_drop, AVal.own.injEq, reduceCtorEq, Int.reduceAdd, hw5] <;> omega)
                          · (simp (implicitDefEqProofs := false) (decide := true) only [go_sem, Nat.reduceAdd, Nat.reduceMul, Nat.reduceSub, Int.reduceToNat, mpE_nil, Int.natCast_zero, List.replicate_zero, List.length_take, List.length_drop, AVal.own.injEq, reduceCtorEq, Int.reduceAdd, hw5] <;> omega)
                        · replace h := bif_f h hc
                          refine AWP.skip ?_
                          refine qblock_normal ?_
                          refine qthen_normal ?_
                          refine AWP.region rfl ?_; intro K hK
                          (try simp (implicitDefEqProofs := false) (decide := true) only [go_sem, Nat.reduceAdd, Nat.reduceMul, Nat.reduceSub, Int.reduceToNat])
                          refine hK _ _ ?_; clear hK K
                          refine qthen_normal ?_
                          obtain rfl := some_eq h
                          refine ⟨(k12 + 1, (), ()), ⟨by dsimp only; omega, cont_next hJ12⟩, by dsimp only; omega, ?_, ?_⟩
                          · (simp (implicitDefEqProofs := false) (decide := true) only [go_sem, Nat.reduceAdd, Nat.reduceMul, Nat.reduceSub, Int.reduceToNat, mpE_nil, Int.natCast_zero, List.replicate_zero, List.length_take, List.length_drop, AVal.own.injEq, reduceCtorEq, Int.reduceAdd, hw12] <;> omega)
                          · (simp (implicitDefEqProofs := false) (decide := true) only [go_sem, Nat.reduceAdd, Nat.reduceMul, Nat.reduceSub, Int.reduceToNat, mpE_nil, Int.natCast_zero, List.replicate_zero, List.length_take, List.length_drop, AVal.own.injEq, reduceCtorEq, Int.reduceAdd, hw12] <;> omega)
                      · replace h := bif_f h hc
                        (try simp (implicitDefEqProofs := false) (decide := true) only [go_sem, Nat.reduceAdd, Nat.reduceMul, Nat.reduceSub, Int.reduceToNat, hc, Bool.not_true])
                        refine hK _ _ ?_; clear hK K
                        refine qthen_normal ?_
                        refine AWP.cond (acond_false ?_)
                        refine AWP.skip ?_
                        refine qblock_normal ?_
                        refine qthen_normal ?_
                        refine AWP.region rfl ?_; intro K hK
                        (try simp (implicitDefEqProofs := false) (decide := true) only [go_sem, Nat.reduceAdd, Nat.reduceMul, Nat.reduceSub, Int.reduceToNat])
                        refine hK _ _ ?_; clear hK K
                        refine qthen_normal ?_
                        obtain rfl := some_eq h
                        refine ⟨(k12 + 1, (), ()), ⟨by dsimp only; omega, cont_next hJ12⟩, by dsimp only; omega, ?_, ?_⟩
                        · (simp (implicitDefEqProofs := false) (decide := true) only [go_sem, Nat.reduceAdd, Nat.reduceMul, Nat.reduceSub, Int.reduceToNat, mpE_nil, Int.natCast_zero, List.replicate_zero, List.length_take, List.length_drop, AVal.own.injEq, reduceCtorEq, Int.reduceAdd, hw12] <;> omega)
                        · (simp (implicitDefEqProofs := false) (decide := true) only [go_sem, Nat.reduceAdd, Nat.reduceMul, Nat.reduceSub, Int.reduceToNat, mpE_nil, Int.natCast_zero, List.replicate_zero, List.length_take, List.length_drop, AVal.own.injEq, reduceCtorEq, Int.reduceAdd, hw12] <;> omega)
                    · obtain rfl := for_nil hJ12 (fun hl => by have := of_decide_eq_false hc; omega)
                      have h := on_next hO12; try dsimp only at h
                      have hkl : set_.length = k12 := by have := of_decide_eq_false hc; omega
                      subst hkl
                      refine AWP.exit ?_
                      refine qthen_exit ?_
                      refine qthen_exit ?_
                      refine qblock_same ?_
                      refine qthen_normal ?_
                      refine AWP.seq ?_
                      refine AWP.region rfl ?_; intro K hK
                      (try simp (implicitDefEqProofs := false) (decide := true) only [go_sem, Nat.reduceAdd, Nat.reduceMul, Nat.reduceSub, Int.reduceToNat])
                      refine hK _ _ ?_; clear hK K
                      refine qthen_normal ?_
                      refine AWP.ret ?_
                      (try simp (implicitDefEqProofs := false) (decide := true) only [go_sem, Nat.reduceAdd, Nat.reduceMul, Nat.reduceSub, Int.reduceToNat, Try.results23])
                      refine hK _ _ ?_; clear hK K
                      refine qthen_normal ?_
                      refine AWP.cond (acond_split (fun hc => ?_) (fun hc => ?_))
                      · replace h := bif_t h hc
                        refine AWP.region rfl ?_; intro K hK
                        (try simp (implicitDefEqProofs := false) (decide := true) only [go_sem, Nat.reduceAdd, Nat.reduceMul, Nat.reduceSub, Int.reduceToNat])
                        refine AIdx.of (f := encApiEdge) (l := l) hx5 ?_
                        (try simp (implicitDefEqProofs := false) (decide := true) only [go_sem, Nat.reduceAdd, Nat.reduceMul, Nat.reduceSub, Int.reduceToNat])
                        refine hK _ _ ?_; clear hK K
                        refine qblock_normal ?_
                        refine qthen_normal ?_
                        refine AWP.region rfl ?_; intro K hK
                        (try simp (implicitDefEqProofs := false) (decide := true) only [go_sem, Nat.reduceAdd, Nat.reduceMul, Nat.reduceSub, Int.reduceToNat])
                        refine hK _ _ ?_; clear hK K
                        refine qthen_normal ?_
                        obtain rfl := some_eq h
                        refine ⟨(k5 + 1, (IntKind.i64.wrap (sum5 + x_7.Cost)), ()), ⟨by dsimp only; omega, cont_next hJ5⟩, by dsimp only; omega, ?_, ?_⟩
                        · (simp (implicitDefEqProofs := false) (decide := true) only [go_sem, Nat.reduceAdd, Nat.reduceMul, Nat.reduceSub, Int.reduceToNat, mpE_nil, Int.natCast_zero, List.replicate_zero, List.length_take, List.length_drop, AVal.own.injEq, reduceCtorEq, Int.reduceAdd, hw5] <;> omega)
                        · (simp (implicitDefEqProofs := false) (decide := true) only [go_sem, Nat.reduceAdd, Nat.reduceMul, Nat.reduceSub, Int.reduceToNat, mpE_nil, Int.natCast_zero, List.replicate_zero, List.length_take, List.length_drop, AVal.own.injEq, reduceCtorEq, Int.reduceAdd, hw5] <;> omega)
                      · replace h := bif_f h hc
                        refine AWP.skip ?_
                        refine qblock_normal ?_
                        refine qthen_normal ?_
                        refine AWP.region rfl ?_; intro K hK
                        (try simp (implicitDefEqProofs := false) (decide := true) only [go_sem, Nat.reduceAdd, Nat.reduceMul, Nat.reduceSub, Int.reduceToNat])
                        refine hK _ _ ?_; clear hK K
                        refine qthen_normal ?_
                        obtain rfl := some_eq h
                        refine ⟨(k5 + 1, sum5, ()), ⟨by dsimp only; omega, cont_next hJ5⟩, by dsimp only; omega, ?_, ?_⟩
                        · (simp (implicitDefEqProofs := false) (decide := true) only [go_sem, Nat.reduceAdd, Nat.reduceMul, Nat.reduceSub, Int.reduceToNat, mpE_nil, Int.natCast_zero, List.replicate_zero, List.length_take, List.length_drop, AVal.own.injEq, reduceCtorEq, Int.reduceAdd, hw5] <;> omega)
                        · (simp (implicitDefEqProofs := false) (decide := true) only [go_sem, Nat.reduceAdd, Nat.reduceMul, Nat.reduceSub, Int.reduceToNat, mpE_nil, Int.natCast_zero, List.replicate_zero, List.length_take, List.length_drop, AVal.own.injEq, reduceCtorEq, Int.reduceAdd, hw5] <;> omega)
                  · replace h := bif_f h hc
                    (try simp (implicitDefEqProofs := false) (decide := true) only [go_sem, Nat.reduceAdd, Nat.reduceMul, Nat.reduceSub, Int.reduceToNat, hc, Bool.not_true])
                    refine hK _ _ ?_; clear hK K
                    refine qthen_normal ?_
                    refine AWP.cond (acond_false ?_)
                    refine AWP.skip ?_
                    refine qblock_normal ?_
                    refine qthen_normal ?_
                    refine AWP.region rfl ?_; intro K hK
                    (try simp (implicitDefEqProofs := false) (decide := true) only [go_sem, Nat.reduceAdd, Nat.reduceMul, Nat.reduceSub, Int.reduceToNat])
                    refine hK _ _ ?_; clear hK K
                    refine qthen_normal ?_
                    obtain rfl := some_eq h
                    refine ⟨(k5 + 1, sum5, ()), ⟨by dsimp only; omega, cont_next hJ5⟩, by dsimp only; omega, ?_, ?_⟩
                    · (simp (implicitDefEqProofs := false) (decide := true) only [go_sem, Nat.reduceAdd, Nat.reduceMul, Nat.reduceSub, Int.reduceToNat, mpE_nil, Int.natCast_zero, List.replicate_zero, List.length_take, List.length_drop, AVal.own.injEq, reduceCtorEq, Int.reduceAdd, hw5] <;> omega)
                    · (simp (implicitDefEqProofs := false) (decide := true) only [go_sem, Nat.reduceAdd, Nat.reduceMul, Nat.reduceSub, Int.reduceToNat, mpE_nil, Int.natCast_zero, List.replicate_zero, List.length_take, List.length_drop, AVal.own.injEq, reduceCtorEq, Int.reduceAdd, hw5] <;> omega)
              · obtain rfl := for_nil hJ5 (fun hl => by have := of_decide_eq_false hc; omega)
                have h := on_next hO5; try dsimp only at h
                have hkl : l.length = k5 := by have := of_decide_eq_false hc; omega
                subst hkl
                refine AWP.exit ?_
                refine qthen_exit ?_
                refine qthen_exit ?_
                refine qblock_same ?_
                refine qthen_normal ?_
                refine AWP.seq ?_
                refine AWP.region rfl ?_; intro K hK
                (try simp (implicitDefEqProofs := false) (decide := true) only [go_sem, Nat.reduceAdd, Nat.reduceMul, Nat.reduceSub, Int.reduceToNat])
                refine hK _ _ ?_; clear hK K
                refine qthen_normal ?_
                refine AWP.ret ?_
                obtain rfl := some_eq h
                simp (implicitDefEqProofs := false) (decide := true) only [go_sem, Nat.reduceAdd, Nat.reduceMul, Nat.reduceSub, Int.reduceToNat, mpE_nil, Int.natCast_zero, List.replicate_zero, List.length_take, List.length_drop, AVal.own.injEq, reduceCtorEq, Int.reduceAdd, nle2, nle1, nle0, nleA, nleL, Try.results7]
        · replace h := bif_t h hc
          (try simp (implicitDefEqProofs := false) (decide := true) only [go_sem, Nat.reduceAdd, Nat.reduceMul, Nat.reduceSub, Int.reduceToNat, hc, Bool.not_false])
          refine hK _ _ ?_; clear hK K
          refine qthen_normal ?_
          refine AWP.cond (acond_true ?_)
          refine AWP.seq ?_
          refine AWP.region rfl ?_; intro K hK
          (try simp (implicitDefEqProofs := false) (decide := true) only [go_sem, Nat.reduceAdd, Nat.reduceMul, Nat.reduceSub, Int.reduceToNat])
          refine hK _ _ ?_; clear hK K
          refine qthen_normal ?_
          refine AWP.ret ?_
          refine qthen_ret ?_
          obtain rfl := some_eq h
          simp (implicitDefEqProofs := false) (decide := true) only [go_sem, Nat.reduceAdd, Nat.reduceMul, Nat.reduceSub, Int.reduceToNat, mpE_nil, Int.natCast_zero, List.replicate_zero, List.length_take, List.length_drop, AVal.own.injEq, reduceCtorEq, Int.reduceAdd, nle2, nle1, nle0, nleA, nleL, Try.results7]
      · replace h := bif_t h hc
        (try simp (implicitDefEqProofs := false) (decide := true) only [go_sem, Nat.reduceAdd, Nat.reduceMul, Nat.reduceSub, Int.reduceToNat, hc, Bool.not_false])
        refine hK _ _ ?_; clear hK K
        refine qthen_normal ?_
        refine AWP.cond (acond_true ?_)
        refine AWP.seq ?_
        refine AWP.region rfl ?_; intro K hK
        (try simp (implicitDefEqProofs := false) (decide := true) only [go_sem, Nat.reduceAdd, Nat.reduceMul, Nat.reduceSub, Int.reduceToNat])
        refine hK _ _ ?_; clear hK K
        refine qthen_normal ?_
        refine AWP.ret ?_
        refine qthen_ret ?_
        obtain rfl := some_eq h
        simp (implicitDefEqProofs := false) (decide := true) only [go_sem, Nat.reduceAdd, Nat.reduceMul, Nat.reduceSub, Int.reduceToNat, mpE_nil, Int.natCast_zero, List.replicate_zero, List.length_take, List.length_drop, AVal.own.injEq, reduceCtorEq, Int.reduceAdd, nle2, nle1, nle0, nleA, nleL, Try.results7]
    · replace h := bif_t h hc
      (try simp (implicitDefEqProofs := false) (decide := true) only [go_sem, Nat.reduceAdd, Nat.reduceMul, Nat.reduceSub, Int.reduceToNat, hc, Bool.not_false])
      refine hK _ _ ?_; clear hK K
      refine qthen_normal ?_
      refine AWP.cond (acond_true ?_)
      refine AWP.seq ?_
      refine AWP.region rfl ?_; intro K hK
      (try simp (implicitDefEqProofs := false) (decide := true) only [go_sem, Nat.reduceAdd, Nat.reduceMul, Nat.reduceSub, Int.reduceToNat])
      refine hK _ _ ?_; clear hK K
      refine qthen_normal ?_
      refine AWP.ret ?_
      refine qthen_ret ?_
      obtain rfl := some_eq h
      simp (implicitDefEqProofs := false) (decide := true) only [go_sem, Nat.reduceAdd, Nat.reduceMul, Nat.reduceSub, Int.reduceToNat, mpE_nil, Int.natCast_zero, List.replicate_zero, List.length_take, List.length_drop, AVal.own.injEq, reduceCtorEq, Int.reduceAdd, nle2, nle1, nle0, nleA, nleL, Try.results7]

end
end Go.Proofs.Ytacfmeobdobhhaa
